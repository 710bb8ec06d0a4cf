/- The reference's 'Preds'; which blocks are reached. -/
import Derived.Test.YtcihobmjohpnkaaPreds
import Derived.Test.YtcihobmjohpnkaaRef1
import Derived.Test.YtcihobmjohpnkaaSuccsR
import Derived.Test.YtcihobmjohpnkaaFrom
import Derived.Test.YtcihobmjohpnkaaPost
namespace Go.Proofs.Ytcihobmjohpnkaa
open Go.RowKit Go.Sort

/-- The first k blocks from where a block is come to. -/
def predK (l : List (List InsD)) (b : Int) (k : Nat) : List Int := ((List.range k).filter fun (i : Nat) => inS (succS l (i : Int)) b).map fun (i : Nat) => (i : Int)
theorem predK_length (l : List (List InsD)) (b : Int) (k : Nat) : (predK l b k).length ≤ k := by
  unfold predK
  rw [List.length_map]
  exact Nat.le_trans (List.length_filter_le _ _) (by simp)
theorem predK_succ (l : List (List InsD)) (b : Int) (k : Nat) : predK l b (k + 1) = predK l b k ++ (if inS (succS l (k : Int)) b then [(k : Int)] else []) := by
  unfold predK
  rw [List.range_succ, List.filter_append, List.map_append]
  congr 1
  cases h : inS (succS l (k : Int)) b <;> simp [h]

theorem owns_bel {w w' : World} {B base : Nat} {e : TypeId} {size n : Nat} {u : Value} {xs : List Value} (h : w.ownsRow base e size u n xs) (hb : Below B w w') (hB : ∀ k, u.ownBlock = some k → k < B) : w'.ownsRow base e size u n xs := by
  obtain ⟨h1, h2⟩ := h
  refine ⟨h1, ?_⟩
  rcases h2 with h2 | ⟨g, cap, cur, rfl, hg, hh, r⟩
  · exact .inl h2
  · exact .inr ⟨g, cap, cur, rfl, hg, (hb.block g (hB g rfl)).trans hh, r⟩

set_option maxRecDepth 100000 in
set_option maxHeartbeats 2000000 in
theorem predsR_c {p : Nat → Prop} {v : Value} {l : List (List InsD)} (w : World) (b : Int) (h0 : IsBlocks p w v l) (hl : l.length ≤ 1000) :
    Calls Try.prog 34 #[v, .int .i64 b] w fun e w' => ∃ u, e = .returned u ∧ w'.ownsRow w.heap.size 3 1 u (predS l b).length (ints (predS l b)) ∧ Below w.heap.size w w' := by
  have h : IsBlocks (· < w.heap.size) w v l := h0.keep (Keep.refl w fun _ _ hb => hb)
  clear h0
  obtain ⟨a, cap, hv, _, _⟩ := id h
  subst hv
  go_enter Try.func34, Try.ntmps34
  go_wp2_with fail
  go_loopw [5, 6] (fun so i wr => ∃ k : Nat, k ≤ l.length ∧ i = .int .i64 k ∧ wr.ownsRow w.heap.size 3 1 so (predK l b k).length (ints (predK l b k)) ∧ Below w.heap.size w wr) (fun _ i _ => l.length - (intOf i).toNat)
  case atStart => exact ⟨0, by omega, rfl, World.ownsRow_nil _ _ _ _, bel_refl _⟩
  case round =>
    obtain ⟨k, hk, rfl, ho, hb⟩ := hrel
    have hpl := predK_length l b k
    by_cases hlt : k < l.length
    · have hk1 : IsBlocks (· < w.heap.size) wr (.slice a l.length cap) l := h.keep (Keep.belowB hb)
      have HS : Hid (predK l b (k + 1) = predK l b k ++ (if inS (succS l (k : Int)) b then [(k : Int)] else [])) := predK_succ l b k
      have hsz := hb.size
      go_wp2_with fail
      refine (succsR_c wr k hk1).mono ?_
      rintro e w2 ⟨u, rfl, hs, hb2⟩
      have ho2 := owns_below ho hb2
      have hB2 := bel_call hb hb2
      have hsl := succS_length l (k : Int)
      have his := ints_of_own hs (by omega)
      have hsz2 := hB2.size
      skip
      obtain ⟨so', c, rfl, -⟩ := owns_slice ho2
      obtain ⟨P, HP⟩ : ∃ P, Hid (predK l b k = P) := ⟨_, (rfl : predK l b k = predK l b k)⟩
      rw [HP.out] at ho2 hpl HS ⊢
      clear ho hb hs hb2 hk1 hsz
      cases hin : inS (succS l (k : Int)) b
      · have HS' : Hid (predK l b (k + 1) = P) := by have := HS.out; rw [hin] at this; show _ = _; simpa using this
        go_wp2_with fail
        refine (in_c w2 (n := b) his).mono ?_
        rintro e w3 ⟨rfl, rfl⟩
        rw [hin]
        clear HS
        go_wp2_with fail
        go_roundw
        case rel => exact ⟨k + 1, by omega, by go_num, by rw [HS'.out]; exact ho2, hB2⟩
        case measure => simp [intOf]; omega
      · have HS' : Hid (predK l b (k + 1) = P ++ [(k : Int)]) := by have := HS.out; rw [hin] at this; show _ = _; simpa using this
        go_wp2_with fail
        refine (in_c w2 (n := b) his).mono ?_
        rintro e w3 ⟨rfl, rfl⟩
        rw [hin]
        clear HS
        go_wp2_with (at_builtin; refine stop_here ?_)
        refine stop_go (app_int rfl _ _ rfl w.heap.size _ P rfl (owns_below ho2 (bel_alloc (bel_refl _) _)) _ (k : Int) rfl (heap_alloc_eq _ _ _ rfl) (by omega) (by simp; omega) ?_)
        intro v' w' ho3 hg3 hv3
        have hB3 : Below w.heap.size w w' := bel_grown (bel_alloc hB2 _) hg3 (fun k hk => (ho2.lt k hk).1)
        clear hg3 hv3 ho2 his
        obtain ⟨s3, c3, rfl, -⟩ := owns_slice ho3
        have hlp : (P ++ [(k : Int)]).length = P.length + 1 := by simp
        rw [hlp] at ho3 ⊢
        have HLP : Hid ((P ++ [(k : Int)]).length = P.length + 1) := hlp
        clear hlp
        go_wp2_with fail
        go_roundw
        case rel => exact ⟨k + 1, by omega, by go_num, by rw [HS'.out, HLP.out]; exact ho3, hB3⟩
        case measure => simp [intOf]; omega
    · obtain rfl : k = l.length := by omega
      go_wp2_with fail
      go_ret
      exact ⟨_, rfl, ho, hb⟩

theorem succX_none (l : List (List InsD)) (x : Int) : succX l (-1) x = succS l x := by
  unfold succX
  rw [List.filter_eq_self]
  intro y hy
  have := succS_range l x y hy
  simp; omega

/-- Which blocks are reached, told twice. -/
theorem reach_two {l : List (List InsD)} {k : Nat} (h : k < l.length) : (fromS l 0 (-1))[k]? = some (inS (orderS l) (k : Int)) := by
  have hb : (0 : Int) ≤ 0 ∧ (0 : Int) < l.length ∧ (0 : Int) ≠ -1 := ⟨by omega, by omega, by omega⟩
  have h1 := fromS_way l hb (k : Int) ⟨by omega, by omega⟩
  obtain ⟨new, h2, -, -, h3, -⟩ := orderS_post l (by omega)
  have hX : succX l (-1) = succS l := funext fun x => succX_none l x
  rw [hX] at h1
  have hlen := fromS_length l 0 (-1)
  have h4 : inS (orderS l) (k : Int) = true ↔ Way (succS l) 0 (k : Int) := by
    unfold inS; rw [h2, ← h3]; simp
  rw [List.getElem?_eq_getElem (by omega)]
  congr 1
  rw [Bool.eq_iff_iff, h4, ← h1]
  unfold sn
  simp [List.getD, h, hlen]
end Go.Proofs.Ytcihobmjohpnkaa
