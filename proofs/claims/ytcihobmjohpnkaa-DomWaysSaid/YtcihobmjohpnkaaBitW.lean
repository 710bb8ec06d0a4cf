/- Words of bits in memory; 'trimmed', 'zip' and what it is called with. -/
import Derived.Test.YtcihobmjohpnkaaOwn
import Derived.Test.YtcihobmjohpnkaaMore
import Derived.Test.YtcihobmjohpnkaaBitP
import Derived.Laws.BitsAllLaws
import Derived.Deep.LoopGhost
namespace Go.Proofs.Ytcihobmjohpnkaa
open Go.RowKit

def CWord (w : World) (b o : Nat) (x : Nat) : Prop := w.cell? ⟨b, o, none⟩ = some (.int .u64 (x : Int))
def IsWords (p : Nat → Prop) (w : World) (v : Value) (ws : List Nat) : Prop := IsSl 1 CWord p w v ws
abbrev words (ws : List Nat) : List Value := ws.map fun (x : Nat) => Value.int .u64 (x : Int)
theorem IsWords.keep {p p' : Nat → Prop} {w w' : World} {v : Value} {ws : List Nat} (h : IsWords p w v ws) (hk : Keep p p' w w') : IsWords p' w' v ws :=
  IsSl.keep h (fun _ _ _ h => lt_of_cell h) hk fun _ _ _ hp _ hc => hk.cell hp hc
theorem words_of_owns {w : World} {v : Value} {p : Nat → Prop} {base : Nat} {e : TypeId} {ws : List Nat} (h : w.ownsRow base e 1 v ws.length (words ws)) (hs : ws.length ≤ 140737488351232)
    (hp : ∀ b, v.ownBlock = some b → base ≤ b → b < w.heap.size → p b) : IsWords p w v ws := by
  have hlt := h.lt
  obtain ⟨h1, h2⟩ := h
  rcases h2 with ⟨rfl, h0⟩ | ⟨g, cap, cur, rfl, hg, hh, hn, hm, hc, ht⟩
  · exact ⟨none, 0, by rw [h0], ⟨by omega, hs⟩, .inl (List.length_eq_zero_iff.1 h0)⟩
  · refine ⟨_, cap, rfl, ⟨hn, hs⟩, .inr ⟨g, 0, rfl, hp g rfl hg (hlt g rfl).2, fun j hj => ?_⟩⟩
    have := World.ownsRow.cellAt (w := w) (base := base) (e := e) (size := 1) (g := g) (n := ws.length) (cap := cap) (xs := words ws) ⟨h1, .inr ⟨g, cap, cur, rfl, hg, hh, hn, hm, hc, ht⟩⟩ j (by omega)
    unfold CWord
    rw [Nat.zero_add, Nat.mul_one, this]
    simp [hj]

set_option maxRecDepth 100000 in
theorem at_c {p : Nat → Prop} {v : Value} {ws : List Nat} (w : World) (i : Nat) (h : IsWords p w v ws) :
    Calls Try.prog 132 #[v, .int .i64 i] w fun e w' => e = .returned (.int .u64 ((ws.getD i 0 : Nat) : Int)) ∧ w' = w := by
  obtain ⟨a, cap, rfl, hl, hx⟩ := h
  by_cases hlt : i < ws.length
  · rcases hx with rfl | ⟨b, off, rfl, hpb, hx⟩
    · simp at hlt
    · have hc := hx i hlt
      simp only [CWord, Nat.mul_one] at hc
      have hg : ws.getD i 0 = ws[i] := by simp [List.getD, hlt]
      rw [hg]
      generalize ws[i] = x at hc
      clear hx hg
      go_enter Try.func132, Try.ntmps132
      go_wp2_with fail
      go_ret
      exact ⟨rfl, rfl⟩
  · have hg : ws.getD i 0 = 0 := by simp [List.getD, List.getElem?_eq_none (show ws.length ≤ i by omega)]
    rw [hg]
    clear hx hg
    go_enter Try.func132, Try.ntmps132
    go_wp2_with fail
    go_ret
    exact ⟨rfl, rfl⟩

theorem orB_c (w : World) (x y : Nat) (hx : x < 2 ^ 64) (hy : y < 2 ^ 64) :
    Calls Try.prog 122 #[.int .u64 x, .int .u64 y] w fun e w' => e = .returned (.int .u64 ((x ||| y : Nat) : Int)) ∧ w' = w := by
  have hb := u64_or_nat x y hx hy
  go_enter Try.func122, Try.ntmps122
  go_wp2_with fail
  go_ret
  exact ⟨rfl, rfl⟩
theorem andB_c (w : World) (x y : Nat) (hx : x < 2 ^ 64) (hy : y < 2 ^ 64) :
    Calls Try.prog 126 #[.int .u64 x, .int .u64 y] w fun e w' => e = .returned (.int .u64 ((x &&& y : Nat) : Int)) ∧ w' = w := by
  have hb := u64_and_nat x y hx hy
  go_enter Try.func126, Try.ntmps126
  go_wp2_with fail
  go_ret
  exact ⟨rfl, rfl⟩
theorem subB_c (w : World) (x y : Nat) (hx : x < 2 ^ 64) (hy : y < 2 ^ 64) :
    Calls Try.prog 123 #[.int .u64 x, .int .u64 y] w fun e w' => e = .returned (.int .u64 ((x &&& (18446744073709551615 - y) : Nat) : Int)) ∧ w' = w := by
  have hb := u64_andNot_nat x y hx hy
  go_enter Try.func123, Try.ntmps123
  go_wp2_with fail
  go_ret
  exact ⟨rfl, rfl⟩

theorem words_take {p : Nat → Prop} {w : World} {a : Option Addr} {n cap : Nat} {ws : List Nat} (h : IsWords p w (.slice a n cap) ws) {k : Nat} (hk : k ≤ ws.length) : IsWords p w (.slice a k k) (ws.take k) := by
  obtain ⟨a', cap', hv, hl, hx⟩ := h
  simp only [Value.slice.injEq] at hv
  obtain ⟨rfl, rfl, rfl⟩ := hv
  have e : (ws.take k).length = k := by simp; omega
  refine ⟨a, k, by rw [e], ⟨by omega, by omega⟩, ?_⟩
  rcases hx with rfl | ⟨b, off, rfl, hpb, hx⟩
  · exact .inl (by simp)
  · exact .inr ⟨b, off, rfl, hpb, fun j hj => by simpa using hx j (by omega)⟩

set_option maxRecDepth 100000 in
theorem trimmed_c {p : Nat → Prop} {v : Value} {ws : List Nat} (w : World) (h : IsWords p w v ws) :
    Calls Try.prog 120 #[v] w fun e w' => ∃ u, e = .returned (.agg #[u]) ∧ IsWords p w' u (Bit.trim ws) ∧ Below w.heap.size w w' := by
  have h0 := h
  obtain ⟨a, cap, rfl, hl, hx⟩ := h
  go_enter Try.func120, Try.ntmps120
  go_wp2_with fail
  go_loop [3] (fun s3 => ∃ k : Nat, k ≤ ws.length ∧ s3 = .int .i64 k ∧ (∀ j (h : j < ws.length), k ≤ j → ws[j] = 0)) (fun s3 => (intOf s3).toNat)
  case atStart => exact ⟨ws.length, by omega, rfl, fun j h h' => by omega⟩
  case round =>
    obtain ⟨k, hk, rfl, hz⟩ := hrel
    have fin : (∀ _ : 0 < k, ∀ h' : k - 1 < ws.length, ws[k - 1] ≠ 0) → Bit.trim ws = ws.take k := fun h => Bit.trim_take hk hz h
    cases k with
    | zero =>
      have fin0 := fin (fun h => by omega)
      clear fin hz
      go_wp2_with fail
      refine bodyPost_ret (v := .agg #[.slice a (0) (0)]) (by simp [results, Try.results120, go_sem]) rfl ⟨_, rfl, ?_, ?_⟩
      · exact (words_take h0 hk).keep (Keep.below (bel_alloc (bel_refl w) _))
      · exact bel_alloc (bel_refl w) _
    | succ k =>
      rcases hx with rfl | ⟨b, off, rfl, hpb, hx⟩
      · simp at hk
      have hc := hx k hk
      simp only [CWord, Nat.mul_one] at hc
      have hbl : b < w.heap.size := lt_of_cell hc
      by_cases hx0 : ws[k] = 0
      · have hz' : ∀ j (h : j < ws.length), k ≤ j → ws[j] = 0 := fun j h hj => by
          by_cases e : j = k
          · subst e; exact hx0
          · exact hz j h (by omega)
        rw [hx0] at hc
        clear fin hz hx0 hx
        go_wp2_with fail
        go_round
        case rel => exact ⟨k, by omega, by go_num, hz'⟩
        case measure => simp [intOf]
      · have fin0 := fin (fun _ _ => hx0)
        clear fin hz hx
        go_wp2_with fail
        refine bodyPost_ret (v := .agg #[.slice (some ⟨b, off, none⟩) (k + 1) (k + 1)]) (by simp [results, Try.results120, go_sem]) rfl ⟨_, rfl, ?_, ?_⟩
        · exact (words_take h0 hk).keep (Keep.below (bel_alloc (bel_refl w) _))
        · exact bel_alloc (bel_refl w) _
end Go.Proofs.Ytcihobmjohpnkaa
