/- 'live.back'. -/
import Derived.Test.YtcihobmjohpnkaaBitX
import Derived.Test.YtcihobmjohpnkaaLvR
import Derived.Deep.RegionHeld3
import Derived.Test.YtcihobmjohpnkaaBitL
import Derived.Test.YtcihobmjohpnkaaFlow
import Derived.Test.YtcihobmjohpnkaaRef1
import Derived.Test.YtcihobmjohpnkaaBitW
namespace Go.Proofs.Ytcihobmjohpnkaa

section
open Go.RowKit Go.Sort

/-- A set stepped back over an instruction. -/
def backW (ws : List Nat) (i : InsD) : List Nat := Bit.orW (Bit.subW ws (Bit.ofW [defS i])) (Bit.ofW (usesS i))
theorem words_lt {p : Nat → Prop} {w : World} {v : Value} {ws : List Nat} (h : IsWords p w v ws) : IsWords (fun b => b < w.heap.size) w v ws := by
  obtain ⟨a, cap, hv, hl, hx⟩ := h
  refine ⟨a, cap, hv, hl, ?_⟩
  rcases hx with hx | ⟨b, off, ha, hb, hc⟩
  · exact .inl hx
  · by_cases h0 : ws = []
    · exact .inl h0
    · exact .inr ⟨b, off, ha, lt_of_cell (hc 0 (List.length_pos_iff.2 h0)), hc⟩
def BkS (W X : World) : Prop := Below W.heap.size W X

set_option maxRecDepth 100000 in
set_option maxHeartbeats 2000000 in
theorem back_c {u : Value} {ws : List Nat} (w : World) (i : InsD) (a : Option Addr) (len cap : Nat) (hu : IsWords (· < w.heap.size) w u ws) (hok : Bit.Ok ws) (hws : ws.length ≤ 2000)
    (h : IsInts (· < w.heap.size) w (.slice a len cap) i.args) (hl : i.args.length ≤ 1000000) :
    Calls Try.prog 105 #[.agg #[u], insV i (.slice a len cap)] w fun e w' => ∃ z, e = .returned (.agg #[z]) ∧ IsWords (w.heap.size ≤ ·) w' z (backW ws i) ∧ Below w.heap.size w w' := by
  obtain ⟨ua, un, uc, rfl⟩ := words_slice hu
  have hD := fun W => def_c W i a len cap
  have hU := fun W (hh : IsInts (· < W.heap.size) W (.slice a len cap) i.args) => uses_c W i a len cap hh hl
  unfold insV at hD hU ⊢
  obtain ⟨k, d, ia, b, nn, name, args, t, f⟩ := i
  dsimp only at hD hU h ⊢
  unfold backW
  generalize defS _ = D at hD ⊢
  have hul := usesS_length ⟨k, d, ia, b, nn, name, args, t, f⟩
  generalize usesS _ = U at hU hul ⊢
  go_enter Try.func105, Try.ntmps105
  go_wp2_with fail
  generalize hW : (((w.alloc _).alloc _).alloc _) = W
  have hB : Below w.heap.size w W := by rw [← hW]; exact bel_alloc (bel_alloc (bel_alloc (bel_refl w) _) _) _
  have hs : W.heap.size = w.heap.size + 3 := by rw [← hW]; simp
  have hk2 : W.heap[w.heap.size + 1 + 1]? = some (.cells #[.slice none 0 0] 96) := by rw [← hW]; exact heap_alloc_eq _ _ _ (by simp)
  have hk1 : Row W (w.heap.size + 1) 36 [.int .i64 k, .int .i64 d, .int .i64 ia, .int .i64 b, .int .i64 nn, .string name, .slice a len cap, .int .i64 t, .int .i64 f] := by rw [← hW]; exact heap_alloc_ne _ _ _ _ (heap_alloc_eq _ _ _ (by simp))
  have hk0 : W.heap[w.heap.size]? = some (.cells #[.slice ua un uc] 96) := by rw [← hW]; exact heap_alloc_ne _ _ _ _ (heap_alloc_ne _ _ _ _ (heap_alloc_eq _ _ _ rfl))
  have hS : ∀ X, BkS W X → (X.cell? ⟨w.heap.size, 0, none⟩ = some (.slice ua un uc) ∧ X.cell? ⟨w.heap.size + 1, 0, none⟩ = some (.int .i64 k) ∧ X.cell? ⟨w.heap.size + 1, 1, none⟩ = some (.int .i64 d) ∧ X.cell? ⟨w.heap.size + 1, 2, none⟩ = some (.int .i64 ia) ∧ X.cell? ⟨w.heap.size + 1, 3, none⟩ = some (.int .i64 b) ∧ X.cell? ⟨w.heap.size + 1, 4, none⟩ = some (.int .i64 nn) ∧ X.cell? ⟨w.heap.size + 1, 5, none⟩ = some (.string name) ∧ X.cell? ⟨w.heap.size + 1, 6, none⟩ = some (.slice a len cap) ∧ X.cell? ⟨w.heap.size + 1, 7, none⟩ = some (.int .i64 t) ∧ X.cell? ⟨w.heap.size + 1, 8, none⟩ = some (.int .i64 f)) := fun X hX => by
    have r1 : Row X (w.heap.size + 1) 36 _ := hk1.keep (hX.block _ (by omega))
    exact ⟨cell_of_one ((hX.block _ (by omega)).trans hk0), r1.cell rfl, r1.cell rfl, r1.cell rfl, r1.cell rfl, r1.cell rfl, r1.cell rfl, r1.cell rfl, r1.cell rfl, r1.cell rfl⟩
  have hSs : ∀ Y, BkS W Y → ∀ v, (fun X : World => X.cell? ⟨w.heap.size, 0, none⟩ = some (.slice ua un uc) ∧ X.cell? ⟨w.heap.size + 1, 0, none⟩ = some (.int .i64 k) ∧ X.cell? ⟨w.heap.size + 1, 1, none⟩ = some (.int .i64 d) ∧ X.cell? ⟨w.heap.size + 1, 2, none⟩ = some (.int .i64 ia) ∧ X.cell? ⟨w.heap.size + 1, 3, none⟩ = some (.int .i64 b) ∧ X.cell? ⟨w.heap.size + 1, 4, none⟩ = some (.int .i64 nn) ∧ X.cell? ⟨w.heap.size + 1, 5, none⟩ = some (.string name) ∧ X.cell? ⟨w.heap.size + 1, 6, none⟩ = some (.slice a len cap) ∧ X.cell? ⟨w.heap.size + 1, 7, none⟩ = some (.int .i64 t) ∧ X.cell? ⟨w.heap.size + 1, 8, none⟩ = some (.int .i64 f)) (Y.setCell ⟨w.heap.size + 1 + 1, 0, none⟩ v) := fun Y hY v => by
    have e0 : (Y.setCell ⟨w.heap.size + 1 + 1, 0, none⟩ v).heap[w.heap.size]? = Y.heap[w.heap.size]? := Below.heap_setCell _ _ _ _ (by show w.heap.size ≠ w.heap.size + 1 + 1; omega)
    have r1 : Row (Y.setCell ⟨w.heap.size + 1 + 1, 0, none⟩ v) (w.heap.size + 1) 36 _ := (hk1.keep (hY.block _ (by omega))).other (by show w.heap.size + 1 ≠ w.heap.size + 1 + 1; omega) v
    exact ⟨cell_of_one (e0.trans ((hY.block _ (by omega)).trans hk0)), r1.cell rfl, r1.cell rfl, r1.cell rfl, r1.cell rfl, r1.cell rfl, r1.cell rfl, r1.cell rfl, r1.cell rfl, r1.cell rfl⟩
  have hE0 : BkS W W := bel_refl W
  have hE1 : BkS W W.drew := (bel_refl W).drew
  have hDf : ∀ X, BkS W X → Calls Try.prog 38 _ X fun e X' => e = .returned (.int .i64 D) ∧ BkS W X' := fun X hX => (hD X).mono (by rintro e X' ⟨rfl, hb⟩; exact ⟨rfl, bel_call hX hb⟩)
  have huW : ∀ X, BkS W X → IsWords (· < W.heap.size) X (.slice ua un uc) ws := fun X hX => hu.keep (fun b hb hlt => ⟨by show b < W.heap.size; omega, (hX.block b (by omega)).trans (hB.block b hlt)⟩)
  have hiW : ∀ X, BkS W X → IsInts (· < X.heap.size) X (.slice a len cap) args := fun X hX => h.keep (fun b hb hlt => ⟨by have := hX.size; show b < X.heap.size; omega, (hX.block b (by omega)).trans (hB.block b hlt)⟩)
  have hA := Bit.sub_can hok (Bit.of_can [D]).1
  have hAl : (Bit.subW ws (Bit.ofW [D])).length ≤ 2000 := Nat.le_trans (Bit.trim_length _) (by rw [Bit.zipS_length]; have := Bit.of_length [D]; omega)
  have hWo : ∀ X, BkS W X → Calls Try.prog 119 #[.agg #[.slice ua un uc], .int .i64 D] X fun e X' => ∃ z, e = .returned (.agg #[z]) ∧ IsWords (fun b => b < X'.heap.size) X' z (Bit.subW ws (Bit.ofW [D])) ∧ BkS W X' := fun X hX =>
    (without_c X D (huW X hX) hok hws).mono (by rintro e X' ⟨z, rfl, hz, hb⟩; exact ⟨z, rfl, words_lt hz, bel_call hX hb⟩)
  have hUs : ∀ X, BkS W X → Calls Try.prog 36 _ X fun e X' => ∃ z, e = .returned z ∧ IsInts (fun b => b < X'.heap.size) X' z U ∧ BkS W X' ∧ Below X.heap.size X X' := fun X hX =>
    (hU X (hiW X hX)).mono (by rintro e X' ⟨z, rfl, hz, hb⟩; exact ⟨z, rfl, ints_of_owns hz (by omega) (fun _ _ _ hh => hh), bel_call hX hb, hb⟩)
  have hOf : ∀ X z, BkS W X → IsInts (fun b => b < X.heap.size) X z U → Calls Try.prog 106 #[z] X fun e X' => ∃ y, e = .returned (.agg #[y]) ∧ IsWords (fun b => b < X'.heap.size) X' y (Bit.ofW U) ∧ BkS W X' ∧ Below X.heap.size X X' := fun X z hX hz =>
    (of_c X hz).mono (by rintro e X' ⟨y, rfl, hy, hb⟩; exact ⟨y, rfl, words_lt hy, bel_call hX hb, hb⟩)
  have hOr : ∀ X z y, BkS W X → IsWords (fun b => b < X.heap.size) X z (Bit.subW ws (Bit.ofW [D])) → IsWords (fun b => b < X.heap.size) X y (Bit.ofW U) → Calls Try.prog 107 #[.agg #[z], .agg #[y]] X fun e X' => ∃ qa qn qc, e = .returned (.agg #[.slice qa qn qc]) ∧ IsWords (W.heap.size ≤ ·) X' (.slice qa qn qc) (Bit.orW (Bit.subW ws (Bit.ofW [D])) (Bit.ofW U)) ∧ BkS W X' := fun X z y hX hz hy =>
    (or_c X hz hy hA.1 (Bit.of_can U).1 hAl (Bit.of_length U)).mono (by
      rintro e X' ⟨q, rfl, hq, hb⟩
      obtain ⟨qa, qn, qc, rfl⟩ := words_slice hq
      exact ⟨qa, qn, qc, rfl, hq.keep (Keep.refl _ fun b hb _ => Nat.le_trans hX.size hb), bel_call hX hb⟩)
  have l2 : w.heap.size + 1 + 1 < W.heap.size := by omega
  have HK2 : Hid (W.heap[w.heap.size + 1 + 1]? = some (.cells #[.slice none 0 0] 96)) := hk2
  clear hk2 hW hD hU hul huW hiW hA hAl hu h hok hws hl
  go_region_held3 (fun X => X.cell? ⟨w.heap.size, 0, none⟩ = some (.slice ua un uc) ∧ X.cell? ⟨w.heap.size + 1, 0, none⟩ = some (.int .i64 k) ∧ X.cell? ⟨w.heap.size + 1, 1, none⟩ = some (.int .i64 d) ∧ X.cell? ⟨w.heap.size + 1, 2, none⟩ = some (.int .i64 ia) ∧ X.cell? ⟨w.heap.size + 1, 3, none⟩ = some (.int .i64 b) ∧ X.cell? ⟨w.heap.size + 1, 4, none⟩ = some (.int .i64 nn) ∧ X.cell? ⟨w.heap.size + 1, 5, none⟩ = some (.string name) ∧ X.cell? ⟨w.heap.size + 1, 6, none⟩ = some (.slice a len cap) ∧ X.cell? ⟨w.heap.size + 1, 7, none⟩ = some (.int .i64 t) ∧ X.cell? ⟨w.heap.size + 1, 8, none⟩ = some (.int .i64 f)) (first | exact hS _ hE1 | exact hS _ hE0 | exact hS _ hEa | exact hS _ hEb | exact hS _ hEc | exact hS _ hEd | exact hS _ hEe | exact hSs _ hEe _)
    (first
      | (go_at_call 38; refine (hDf _ hE1).mono ?_; rintro e Ya ⟨rfl, hEa⟩)
      | (go_at_call 119; refine (hWo _ hEa).mono ?_; rintro e Yb ⟨zb, rfl, hzb, hEb⟩)
      | (go_at_call 36; refine (hUs _ hEb).mono ?_; rintro e Yc ⟨zc, rfl, hzc, hEc, hbc⟩)
      | (go_at_call 106; refine (hOf _ _ hEc hzc).mono ?_; rintro e Yd ⟨zd, rfl, hzd, hEd, hbd⟩)
      | (go_at_call 107; refine (hOr _ _ _ hEd ((hzb.keep (Keep.below hbc)).keep (p' := fun b => b < Yd.heap.size) (fun b hb hlt => ⟨by have h1 := hbc.size; have h2 := hbd.size; show b < Yd.heap.size; omega, hbd.block b hlt⟩)) hzd).mono ?_; rintro e Ye ⟨qa, qn, qc, rfl, hzq, hEe⟩; have hk3 := (Below.block hEe _ l2).trans HK2.out; have c2 := cell_of_one hk3; have f2 := free_of_one hk3; have hs2 := Nat.lt_of_lt_of_le l2 (Below.size hEe)))
  all_goals
    try go_wp2_with fail
    have c3 : (Ye.setCell ⟨w.heap.size + 1 + 1, 0, none⟩ (.slice qa qn qc)).cell? ⟨w.heap.size + 1 + 1, 0, none⟩ = some (.slice qa qn qc) := World.cell?_setCell_same' _ _ _ (by rw [c2]; rfl)
    refine bodyPost_ret (v := .agg #[.slice qa qn qc]) (by simp [results, Try.results105, go_sem, c3]) rfl ⟨_, rfl, ?_, ?_⟩
    · exact hzq.keep (Keep.setCell fun b hb _ => ⟨by have := hs; omega, by have := hs; show b ≠ w.heap.size + 1 + 1; omega⟩)
    · exact bel_setCell (bel_call hB hEe) (by show w.heap.size ≤ w.heap.size + 1 + 1; omega)
end

section
/- Lists of sets in memory. -/
open Go.RowKit

/-- A cell that holds a set. -/
def CSet (p : Nat → Prop) (w : World) (b o : Nat) (ws : List Nat) : Prop := ∃ v, w.cell? ⟨b, o, none⟩ = some v ∧ IsWords p w v ws
def IsSets (p : Nat → Prop) (w : World) (v : Value) (l : List (List Nat)) : Prop := IsSl 1 (CSet p) p w v l
theorem CSet.keep {p p' : Nat → Prop} {w w' : World} {b o : Nat} {ws : List Nat} (hp : p b) (h : CSet p w b o ws) (hk : Keep p p' w w') : CSet p' w' b o ws :=
  let ⟨v, h1, h2⟩ := h; ⟨v, hk.cell hp h1, h2.keep hk⟩
theorem IsSets.keep {p p' : Nat → Prop} {w w' : World} {v : Value} {l : List (List Nat)} (h : IsSets p w v l) (hk : Keep p p' w w') : IsSets p' w' v l :=
  IsSl.keep h (fun _ _ _ ⟨_, h, _⟩ => lt_of_cell h) hk fun _ _ _ hp _ hc => CSet.keep hp hc hk
theorem words_nil (p : Nat → Prop) (W : World) : IsWords p W (.slice none 0 0) [] := ⟨none, 0, rfl, ⟨by simp, by simp⟩, .inl rfl⟩
/-- A row of set values reads as a list of sets. -/
theorem sets_of_row {W : World} {g : Nat} {e : TypeId} {vs : List Value} {l : List (List Nat)} {p : Nat → Prop} (h : Row W g e vs) (hp : p g) (hn : vs.length = l.length) (hl : l.length ≤ 140737488351232)
    (hel : ∀ j (h1 : j < vs.length) (h2 : j < l.length), IsWords p W vs[j] l[j]) : IsSets p W (.slice (some ⟨g, 0, none⟩) l.length l.length) l :=
  ⟨_, _, rfl, ⟨Nat.le_refl _, hl⟩, .inr ⟨g, 0, rfl, hp, fun j hj => ⟨vs[j]'(by omega), by rw [Nat.zero_add, Nat.mul_one]; exact h.cell (by simp [show j < vs.length by omega]), hel j (by omega) hj⟩⟩⟩
end

section
/- What is alive, in plain Lean: blocks' own sets, one sweep. -/
theorem back_can {ws : List Nat} (h : Bit.Ok ws) (i : InsD) : Bit.Can (backW ws i) :=
  Bit.or_can (Bit.sub_can h (Bit.of_can _).1).1 (Bit.of_can _).1
theorem has_back {ws : List Nat} (i : InsD) (m : Nat) : Bit.has (backW ws i) m = true ↔ ((m : Int) ∈ usesS i ∧ m ≤ 65535) ∨ (Bit.has ws m = true ∧ ¬ ((m : Int) = defS i ∧ m ≤ 65535)) := by
  unfold backW
  rw [Bit.has_or, Bit.has_sub (Bit.of_can _).1, Bool.or_eq_true, Bool.and_eq_true, Bit.has_of]
  have e : (!Bit.has (Bit.ofW [defS i]) m) = true ↔ ¬ ((m : Int) = defS i ∧ m ≤ 65535) := by
    rw [Bool.not_eq_true', ← Bool.not_eq_true, Bit.has_of]; simp
  rw [e]
  exact Or.comm
theorem back_length {ws : List Nat} (h : ws.length ≤ 1024) (i : InsD) : (backW ws i).length ≤ 1024 := by
  unfold backW Bit.orW Bit.subW
  refine Nat.le_trans (Bit.trim_length _) ?_
  rw [Bit.zipS_length]
  have h1 : (Bit.ofW (usesS i)).length ≤ 1024 := Nat.le_trans (Bit.trim_length _) (Bit.rawOf_ok _).2
  have h2 : (Bit.ofW [defS i]).length ≤ 1024 := Nat.le_trans (Bit.trim_length _) (Bit.rawOf_ok _).2
  have h3 := Bit.trim_length (Bit.zipS (fun x y => x &&& (18446744073709551615 - y)) ws (Bit.ofW [defS i]))
  rw [Bit.zipS_length] at h3
  omega

/-- What a block reads ahead of writing it. -/
def genW (l : List InsD) : List Nat := l.reverse.foldl backW []
/-- What a block writes. -/
def killW (l : List InsD) : List Nat := Bit.ofW (l.reverse.map defS)
theorem foldl_back (l : List InsD) : ∀ ws, ws.length ≤ 1024 → Bit.Can ws → Bit.Can (l.foldl backW ws) ∧ (l.foldl backW ws).length ≤ 1024 := by
  induction l with
  | nil => exact fun ws h1 h2 => ⟨h2, h1⟩
  | cons i l ih => exact fun ws h1 h2 => ih _ (back_length h1 i) (back_can h2.1 i)
theorem gen_can (l : List InsD) : Bit.Can (genW l) ∧ (genW l).length ≤ 1024 := foldl_back _ [] (by simp) Bit.can_nil
theorem kill_can (l : List InsD) : Bit.Can (killW l) ∧ (killW l).length ≤ 1024 := ⟨Bit.of_can _, Nat.le_trans (Bit.trim_length _) (Bit.rawOf_ok _).2⟩

/-- What is alive behind a block, of what is alive ahead of each. -/
def outW (L : List (List InsD)) (I : List (List Nat)) (b : Nat) : List Nat := (succS L b).foldl (fun o k => Bit.orW o (I.getD k.toNat [])) []
/-- .. and ahead of it. -/
def inW (L : List (List InsD)) (I : List (List Nat)) (b : Nat) : List Nat := Bit.orW (genW (L.getD b [])) (Bit.subW (outW L I b) (killW (L.getD b [])))
/-- One block of a sweep: the sets ahead, those behind, whether something has turned. -/
def stepW (L : List (List InsD)) (s : List (List Nat) × List (List Nat) × Bool) (b : Nat) : List (List Nat) × List (List Nat) × Bool :=
  (s.1.set b (inW L s.1 b), s.2.1.set b (outW L s.1 b), s.2.2 || decide (inW L s.1 b ≠ s.1.getD b []) || decide (outW L s.1 b ≠ s.2.1.getD b []))
/-- The sweep's first k blocks: n - 1, n - 2, ... -/
def sweepW (L : List (List InsD)) (I O : List (List Nat)) (k : Nat) : List (List Nat) × List (List Nat) × Bool :=
  (List.range k).foldl (fun s j => stepW L s (L.length - 1 - j)) (I, O, false)
theorem sweepW_succ (L : List (List InsD)) (I O : List (List Nat)) (k : Nat) : sweepW L I O (k + 1) = stepW L (sweepW L I O k) (L.length - 1 - k) := by
  unfold sweepW; rw [List.range_succ, List.foldl_append]; rfl
/-- Sets in order: no noughts at the end, not too long. -/
def Good1 (ws : List Nat) : Prop := Bit.Can ws ∧ ws.length ≤ 1024
theorem good_nil : Good1 [] := ⟨Bit.can_nil, by simp⟩
theorem zip_trim_length (f : Nat → Nat → Nat) {a b : List Nat} (ha : a.length ≤ 1024) (hb : b.length ≤ 1024) : (Bit.trim (Bit.zipS f a b)).length ≤ 1024 := by
  refine Nat.le_trans (Bit.trim_length _) ?_
  rw [Bit.zipS_length]; omega
theorem good_or {a b : List Nat} (ha : Good1 a) (hb : Good1 b) : Good1 (Bit.orW a b) := ⟨Bit.or_can ha.1.1 hb.1.1, zip_trim_length _ ha.2 hb.2⟩
theorem good_sub {a b : List Nat} (ha : Good1 a) (hb : Good1 b) : Good1 (Bit.subW a b) := ⟨Bit.sub_can ha.1.1 hb.1.1, zip_trim_length _ ha.2 hb.2⟩
theorem good_getD {I : List (List Nat)} (h : ∀ ws ∈ I, Good1 ws) (k : Nat) : Good1 (I.getD k []) := by
  by_cases hk : k < I.length
  · have : I.getD k [] = I[k] := by simp [List.getD, hk]
    rw [this]; exact h _ (List.getElem_mem hk)
  · have : I.getD k [] = [] := by simp [List.getD, List.getElem?_eq_none (show I.length ≤ k by omega)]
    rw [this]; exact good_nil
theorem good_fold {I : List (List Nat)} (h : ∀ ws ∈ I, Good1 ws) (ks : List Int) : ∀ o, Good1 o → Good1 (ks.foldl (fun o k => Bit.orW o (I.getD k.toNat [])) o) := by
  induction ks with
  | nil => exact fun o ho => ho
  | cons k ks ih => exact fun o ho => ih _ (good_or ho (good_getD h _))
theorem good_out (L : List (List InsD)) {I : List (List Nat)} (h : ∀ ws ∈ I, Good1 ws) (b : Nat) : Good1 (outW L I b) := good_fold h _ _ good_nil
theorem good_in (L : List (List InsD)) {I : List (List Nat)} (h : ∀ ws ∈ I, Good1 ws) (b : Nat) : Good1 (inW L I b) :=
  good_or ⟨(gen_can _).1, (gen_can _).2⟩ (good_sub (good_out L h b) ⟨(kill_can _).1, (kill_can _).2⟩)
theorem good_set {I : List (List Nat)} (h : ∀ ws ∈ I, Good1 ws) {x : List Nat} (hx : Good1 x) (b : Nat) : ∀ ws ∈ I.set b x, Good1 ws := fun ws hw => by
  rcases List.mem_or_eq_of_mem_set hw with h1 | h1
  · exact h _ h1
  · rw [h1]; exact hx
theorem good_sweep (L : List (List InsD)) {I O : List (List Nat)} (hI : ∀ ws ∈ I, Good1 ws) (hO : ∀ ws ∈ O, Good1 ws) (k : Nat) :
    (∀ ws ∈ (sweepW L I O k).1, Good1 ws) ∧ (∀ ws ∈ (sweepW L I O k).2.1, Good1 ws) ∧ (sweepW L I O k).1.length = I.length ∧ (sweepW L I O k).2.1.length = O.length := by
  induction k with
  | zero => exact ⟨hI, hO, rfl, rfl⟩
  | succ k ih =>
    rw [sweepW_succ]
    unfold stepW
    exact ⟨good_set ih.1 (good_in L ih.1 _) _, good_set ih.2.1 (good_out L ih.1 _) _, by rw [List.length_set]; exact ih.2.2.1, by rw [List.length_set]; exact ih.2.2.2⟩
theorem has_nil (m : Nat) : Bit.has [] m = false := by simp [Bit.has]
theorem has_fold (I : List (List Nat)) (m : Nat) (ks : List Int) : ∀ o, Bit.has (ks.foldl (fun o k => Bit.orW o (I.getD k.toNat [])) o) m = true ↔ Bit.has o m = true ∨ ∃ k ∈ ks, Bit.has (I.getD k.toNat []) m = true := by
  induction ks with
  | nil => intro o; simp
  | cons k ks ih =>
    intro o
    rw [List.foldl_cons, ih, Bit.has_or, Bool.or_eq_true]
    simp only [List.mem_cons, exists_eq_or_imp]
    exact or_assoc
theorem has_out (L : List (List InsD)) (I : List (List Nat)) (b m : Nat) : Bit.has (outW L I b) m = true ↔ ∃ k ∈ succS L b, Bit.has (I.getD k.toNat []) m = true := by
  unfold outW
  rw [has_fold, has_nil]
  simp
theorem has_in (L : List (List InsD)) (I : List (List Nat)) (b m : Nat) : Bit.has (inW L I b) m = true ↔ Bit.has (genW (L.getD b [])) m = true ∨ (Bit.has (outW L I b) m = true ∧ Bit.has (killW (L.getD b [])) m = false) := by
  unfold inW
  rw [Bit.has_or, Bit.has_sub (kill_can _).1.1, Bool.or_eq_true, Bool.and_eq_true]
  simp
/-- More ahead of blocks. -/
def Sub (I J : List (List Nat)) : Prop := ∀ k m, Bit.has (I.getD k []) m = true → Bit.has (J.getD k []) m = true
theorem out_mono (L : List (List InsD)) {I J : List (List Nat)} (h : Sub I J) (b m : Nat) (hm : Bit.has (outW L I b) m = true) : Bit.has (outW L J b) m = true := by
  rw [has_out] at hm ⊢
  obtain ⟨k, hk, hm⟩ := hm
  exact ⟨k, hk, h _ _ hm⟩
theorem in_mono (L : List (List InsD)) {I J : List (List Nat)} (h : Sub I J) (b m : Nat) (hm : Bit.has (inW L I b) m = true) : Bit.has (inW L J b) m = true := by
  rw [has_in] at hm ⊢
  rcases hm with hm | ⟨hm, hk⟩
  · exact .inl hm
  · exact .inr ⟨out_mono L h b m hm, hk⟩
theorem getD_set {I : List (List Nat)} (b k : Nat) (x : List Nat) : (I.set b x).getD k [] = if b = k ∧ k < I.length then x else I.getD k [] := by
  rw [List.getD_eq_getElem?_getD, List.getElem?_set, List.getD_eq_getElem?_getD]
  by_cases h1 : b = k
  · by_cases h2 : k < I.length
    · subst h1; simp [h2]
    · subst h1; simp [h2]
  · simp [h1]
/-- All that the sets have, the next sweep finds again. -/
def Inv (L : List (List InsD)) (I O : List (List Nat)) : Prop := Sub I ((List.range I.length).map (inW L I)) ∧ Sub O ((List.range O.length).map (outW L I))
theorem range_getD (n : Nat) (f : Nat → List Nat) (k : Nat) : ((List.range n).map f).getD k [] = if k < n then f k else [] := by
  rw [List.getD_eq_getElem?_getD]
  by_cases h : k < n <;> simp [h]
theorem sub_set {I : List (List Nat)} {b : Nat} {x : List Nat} (h : ∀ m, b < I.length → Bit.has (I.getD b []) m = true → Bit.has x m = true) : Sub I (I.set b x) := fun k m hm => by
  rw [getD_set]
  split
  · rename_i hh; obtain ⟨rfl, h2⟩ := hh; exact h m h2 hm
  · exact hm
theorem Inv.step {L : List (List InsD)} {I O : List (List Nat)} (h : Inv L I O) (b : Nat) :
    Inv L (I.set b (inW L I b)) (O.set b (outW L I b)) ∧ Sub I (I.set b (inW L I b)) ∧ Sub O (O.set b (outW L I b)) := by
  have s1 : Sub I (I.set b (inW L I b)) := sub_set fun m hb hm => by
    have := h.1 b m hm
    rwa [range_getD, if_pos hb] at this
  have s2 : Sub O (O.set b (outW L I b)) := sub_set fun m hb hm => by
    have := h.2 b m hm
    rwa [range_getD, if_pos hb] at this
  refine ⟨⟨fun k m hm => ?_, fun k m hm => ?_⟩, s1, s2⟩
  · rw [range_getD, List.length_set]
    rw [getD_set] at hm
    split at hm
    · rename_i hh; obtain ⟨rfl, h2⟩ := hh
      rw [if_pos h2]; exact in_mono L s1 _ _ hm
    · have := h.1 k m hm
      rw [range_getD] at this
      split at this
      · rename_i hk; rw [if_pos hk]; exact in_mono L s1 _ _ this
      · rw [has_nil] at this; exact absurd this (by simp)
  · rw [range_getD, List.length_set]
    rw [getD_set] at hm
    split at hm
    · rename_i hh; obtain ⟨rfl, h2⟩ := hh
      rw [if_pos h2]; exact out_mono L s1 _ _ hm
    · have := h.2 k m hm
      rw [range_getD] at this
      split at this
      · rename_i hk; rw [if_pos hk]; exact out_mono L s1 _ _ this
      · rw [has_nil] at this; exact absurd this (by simp)
theorem Sub.refl (I : List (List Nat)) : Sub I I := fun _ _ h => h
theorem Sub.trans {I J K : List (List Nat)} (h : Sub I J) (k : Sub J K) : Sub I K := fun i m hm => k i m (h i m hm)
theorem Inv.sweep {L : List (List InsD)} {I O : List (List Nat)} (h : Inv L I O) (k : Nat) : Inv L (sweepW L I O k).1 (sweepW L I O k).2.1 ∧ Sub I (sweepW L I O k).1 ∧ Sub O (sweepW L I O k).2.1 := by
  induction k with
  | zero => exact ⟨h, Sub.refl _, Sub.refl _⟩
  | succ k ih =>
    rw [sweepW_succ]
    obtain ⟨h1, h2, h3⟩ := ih.1.step (L.length - 1 - k)
    exact ⟨h1, ih.2.1.trans h2, ih.2.2.trans h3⟩
theorem replicate_getD (n k : Nat) : (List.replicate n ([] : List Nat)).getD k [] = [] := by
  rw [List.getD_eq_getElem?_getD, List.getElem?_replicate]; split <;> rfl
theorem Inv.start (L : List (List InsD)) (n : Nat) : Inv L (List.replicate n []) (List.replicate n []) :=
  ⟨fun k m hm => by rw [replicate_getD, has_nil] at hm; exact absurd hm (by simp), fun k m hm => by rw [replicate_getD, has_nil] at hm; exact absurd hm (by simp)⟩
/-- How many numbers a set has. -/
def cnt (ws : List Nat) : Nat := (List.range 65536).countP (Bit.has ws)
theorem countP_lt {p q : Nat → Bool} : ∀ {l : List Nat} {m : Nat}, (∀ x ∈ l, p x = true → q x = true) → m ∈ l → q m = true → p m = false → l.countP p < l.countP q
  | [], _, _, hm, _, _ => by simp at hm
  | x :: l, m, h, hm, hq, hp => by
    have hle : l.countP p ≤ l.countP q := List.countP_mono_left fun y hy => h y (by simp [hy])
    rw [List.countP_cons, List.countP_cons]
    rcases List.mem_cons.1 hm with rfl | hm
    · rw [hq, hp]; simp; omega
    · have := countP_lt (fun y hy => h y (by simp [hy])) hm hq hp
      have hx := h x (by simp)
      cases hpx : p x with
      | true => rw [hx hpx]; simp; exact this
      | false => cases q x <;> simp <;> omega
theorem cnt_le {a b : List Nat} (h : ∀ m, Bit.has a m = true → Bit.has b m = true) : cnt a ≤ cnt b := List.countP_mono_left fun m _ => h m
theorem cnt_lt {a b : List Nat} (ha : Good1 a) (hb : Good1 b) (h : ∀ m, Bit.has a m = true → Bit.has b m = true) (hne : a ≠ b) : cnt a < cnt b := by
  by_cases hex : ∃ m, Bit.has b m = true ∧ Bit.has a m = false
  · obtain ⟨m, h1, h2⟩ := hex
    have := Bit.has_lt h1
    exact countP_lt (fun x _ => h x) (List.mem_range.2 (by have := hb.2; omega)) h1 h2
  · exfalso
    refine hne (Bit.can_ext ha.1 hb.1 fun m => ?_)
    cases h1 : Bit.has a m with
    | true => rw [h m h1]
    | false =>
      cases h2 : Bit.has b m with
      | false => rfl
      | true => exact absurd ⟨m, h2, h1⟩ hex
theorem cnt_max (a : List Nat) : cnt a ≤ 65536 := Nat.le_trans (List.countP_le_length) (by simp)
/-- How many numbers all sets have. -/
def tot : List (List Nat) → Nat
  | [] => 0
  | ws :: I => cnt ws + tot I
theorem tot_set : ∀ {I : List (List Nat)} {b : Nat} (x : List Nat), b < I.length → tot (I.set b x) + cnt (I.getD b []) = tot I + cnt x
  | [], _, _, h => by simp at h
  | ws :: I, 0, x, _ => by simp [tot]; omega
  | ws :: I, b + 1, x, h => by
    have := tot_set (I := I) (b := b) x (by simpa using h)
    simp [tot] at this ⊢
    omega
theorem tot_grow {I : List (List Nat)} {b : Nat} {x : List Nat} (hI : ∀ ws ∈ I, Good1 ws) (hx : Good1 x) (hb : b < I.length) (h : ∀ m, Bit.has (I.getD b []) m = true → Bit.has x m = true) :
    tot I + (if x ≠ I.getD b [] then 1 else 0) ≤ tot (I.set b x) := by
  have h1 := tot_set x hb
  by_cases hne : x = I.getD b []
  · rw [if_neg (by simpa using hne)]
    rw [← hne] at h1
    omega
  · have := cnt_lt (good_getD hI b) hx h (fun e => hne e.symm)
    rw [if_pos hne]
    omega
theorem tot_max : ∀ (I : List (List Nat)), tot I ≤ 65536 * I.length
  | [] => by simp [tot]
  | ws :: I => by have := tot_max I; have := cnt_max ws; simp [tot]; omega
/-- A sweep that turns something makes the sets more. -/
theorem sweep_tot {L : List (List InsD)} {I O : List (List Nat)} (h : Inv L I O) (gI : ∀ ws ∈ I, Good1 ws) (gO : ∀ ws ∈ O, Good1 ws) (lI : I.length = L.length) (lO : O.length = L.length) (k : Nat) (hk : k ≤ L.length) :
    tot I + tot O + (if (sweepW L I O k).2.2 = true then 1 else 0) ≤ tot (sweepW L I O k).1 + tot (sweepW L I O k).2.1 := by
  induction k with
  | zero => simp [sweepW]
  | succ k ih =>
    have ih := ih (by omega)
    obtain ⟨g1, g2, l1, l2⟩ := good_sweep L gI gO k
    obtain ⟨hv, -, -⟩ := h.sweep k
    rw [sweepW_succ]
    generalize hS : sweepW L I O k = s at ih g1 g2 l1 l2 hv
    obtain ⟨I', O', fl⟩ := s
    dsimp only at ih g1 g2 l1 l2 hv
    have hb : L.length - 1 - k < L.length := by omega
    generalize L.length - 1 - k = b at hb
    have t1 := tot_grow (b := b) g1 (good_in L g1 b) (by omega) (fun m hm => by
      have := hv.1 b m hm
      rwa [range_getD, if_pos (by omega)] at this)
    have t2 := tot_grow (b := b) g2 (good_out L g1 b) (by omega) (fun m hm => by
      have := hv.2 b m hm
      rwa [range_getD, if_pos (by omega)] at this)
    unfold stepW
    dsimp only
    by_cases e1 : inW L I' b = I'.getD b []
    · by_cases e2 : outW L I' b = O'.getD b []
      · cases fl <;> simp [e1, e2] at ih t1 t2 ⊢ <;> omega
      · rw [if_pos e2] at t2
        have : (if (fl || decide (inW L I' b ≠ I'.getD b []) || decide (outW L I' b ≠ O'.getD b [])) = true then 1 else 0) ≤ 1 := by split <;> omega
        split at t1 <;> split at ih <;> omega
    · rw [if_pos e1] at t1
      have : (if (fl || decide (inW L I' b ≠ I'.getD b []) || decide (outW L I' b ≠ O'.getD b [])) = true then 1 else 0) ≤ 1 := by split <;> omega
      split at t2 <;> split at ih <;> omega
theorem set_same (I : List (List Nat)) (b : Nat) : I.set b (I.getD b []) = I := by
  refine List.ext_getElem (by simp) fun k h1 h2 => ?_
  rw [List.getElem_set]
  split
  · rename_i h; subst h; simp [List.getD, h2]
  · rfl
/-- A sweep that turns nothing: each set is what the others tell. -/
theorem sweep_still {L : List (List InsD)} {I O : List (List Nat)} (k : Nat) (h : (sweepW L I O k).2.2 = false) :
    (sweepW L I O k).1 = I ∧ (sweepW L I O k).2.1 = O ∧ ∀ j, j < k → I.getD (L.length - 1 - j) [] = inW L I (L.length - 1 - j) ∧ O.getD (L.length - 1 - j) [] = outW L I (L.length - 1 - j) := by
  induction k with
  | zero => exact ⟨rfl, rfl, fun j hj => by omega⟩
  | succ k ih =>
    rw [sweepW_succ] at h ⊢
    unfold stepW at h ⊢
    dsimp only at h ⊢
    rw [Bool.or_eq_false_iff, Bool.or_eq_false_iff] at h
    obtain ⟨⟨h1, h2⟩, h3⟩ := h
    obtain ⟨i1, i2, i3⟩ := ih h1
    rw [i1] at h2
    rw [i1, i2] at h3
    have e1 : inW L I (L.length - 1 - k) = I.getD (L.length - 1 - k) [] := by simpa using h2
    have e2 : outW L I (L.length - 1 - k) = O.getD (L.length - 1 - k) [] := by simpa using h3
    rw [i1, i2, e1, e2, set_same, set_same]
    refine ⟨rfl, rfl, fun j hj => ?_⟩
    by_cases e : j = k
    · subst e; exact ⟨e1.symm, e2.symm⟩
    · exact i3 j (by omega)
/-- What every answer to the equations has at least. -/
theorem sweep_least {L : List (List InsD)} {I O J : List (List Nat)} (hJ : ∀ b m, b < L.length → Bit.has (inW L J b) m = true → Bit.has (J.getD b []) m = true) (lI : I.length = L.length) (h : Sub I J) (k : Nat) :
    (sweepW L I O k).1.length = L.length ∧ Sub (sweepW L I O k).1 J := by
  induction k with
  | zero => exact ⟨lI, h⟩
  | succ k ih =>
    rw [sweepW_succ]
    unfold stepW
    dsimp only
    refine ⟨by rw [List.length_set]; exact ih.1, fun b m hm => ?_⟩
    rw [getD_set] at hm
    split at hm
    · rename_i hh
      obtain ⟨rfl, h2⟩ := hh
      exact hJ _ m (by omega) (in_mono L ih.2 _ m hm)
    · exact ih.2 b m hm
end

section
/- What 'live.Of' tells, in plain Lean: the least answer to the equations; and what the reference steps through. -/
/-- The least answer: what is alive ahead of each block, and behind it. -/
structure IsLive (L : List (List InsD)) (I O : List (List Nat)) : Prop where
  lI : I.length = L.length
  lO : O.length = L.length
  gI : ∀ ws ∈ I, Good1 ws
  gO : ∀ ws ∈ O, Good1 ws
  eqI : ∀ b, b < L.length → I.getD b [] = inW L I b
  eqO : ∀ b, b < L.length → O.getD b [] = outW L I b
  least : ∀ J, (∀ b m, b < L.length → Bit.has (inW L J b) m = true → Bit.has (J.getD b []) m = true) → Sub I J

theorem IsLive.uniq {L : List (List InsD)} {I O I' O' : List (List Nat)} (h : IsLive L I O) (h' : IsLive L I' O') : I = I' ∧ O = O' := by
  have s1 : Sub I I' := h.least I' fun b m hb hm => by rw [h'.eqI b hb]; exact hm
  have s2 : Sub I' I := h'.least I fun b m hb hm => by rw [h.eqI b hb]; exact hm
  have e : I = I' := List.ext_getElem (by rw [h.lI, h'.lI]) fun k h1 h2 => by
    refine Bit.can_ext (h.gI _ (List.getElem_mem h1)).1 (h'.gI _ (List.getElem_mem h2)).1 fun m => ?_
    have a1 := s1 k m
    have a2 := s2 k m
    have e1 : I.getD k [] = I[k] := by simp [List.getD, h1]
    have e2 : I'.getD k [] = I'[k] := by simp [List.getD, h2]
    rw [e1, e2] at a1 a2
    exact Bool.eq_iff_iff.2 ⟨a1, a2⟩
  subst e
  refine ⟨rfl, List.ext_getElem (by rw [h.lO, h'.lO]) fun k h1 h2 => ?_⟩
  have b1 := h.eqO k (by rw [← h.lO]; exact h1)
  have b2 := h'.eqO k (by rw [← h.lO]; exact h1)
  have e1 : O.getD k [] = O[k] := by simp [List.getD, h1]
  have e2 : O'.getD k [] = O'[k] := by simp [List.getD, h2]
  rw [← e1, ← e2, b1, b2]

/-- What holds of the sets at the head of each sweep. -/
structure LiveAt (L : List (List InsD)) (I O : List (List Nat)) : Prop where
  lI : I.length = L.length
  lO : O.length = L.length
  gI : ∀ ws ∈ I, Good1 ws
  gO : ∀ ws ∈ O, Good1 ws
  inv : Inv L I O
  least : ∀ J, (∀ b m, b < L.length → Bit.has (inW L J b) m = true → Bit.has (J.getD b []) m = true) → Sub I J

theorem LiveAt.start (L : List (List InsD)) : LiveAt L (List.replicate L.length []) (List.replicate L.length []) where
  lI := by simp
  lO := by simp
  gI := fun ws hw => by rw [(List.mem_replicate.1 hw).2]; exact good_nil
  gO := fun ws hw => by rw [(List.mem_replicate.1 hw).2]; exact good_nil
  inv := Inv.start L _
  least := fun J _ k m hm => by rw [replicate_getD, has_nil] at hm; exact absurd hm (by simp)

theorem LiveAt.sweep {L : List (List InsD)} {I O : List (List Nat)} (h : LiveAt L I O) (k : Nat) : LiveAt L (sweepW L I O k).1 (sweepW L I O k).2.1 := by
  obtain ⟨g1, g2, l1, l2⟩ := good_sweep L h.gI h.gO k
  exact ⟨l1.trans h.lI, l2.trans h.lO, g1, g2, (h.inv.sweep k).1, fun J hJ => (sweep_least (O := O) hJ h.lI (h.least J hJ) k).2⟩

/-- Every block is one of a sweep's. -/
theorem back_index {n b : Nat} (h : b < n) : n - 1 - (n - 1 - b) = b := by omega

theorem LiveAt.done {L : List (List InsD)} {I O : List (List Nat)} (h : LiveAt L I O) (hs : (sweepW L I O L.length).2.2 = false) : IsLive L (sweepW L I O L.length).1 (sweepW L I O L.length).2.1 := by
  obtain ⟨e1, e2, e3⟩ := sweep_still L.length hs
  rw [e1, e2]
  refine ⟨h.lI, h.lO, h.gI, h.gO, fun b hb => ?_, fun b hb => ?_, h.least⟩
  · have := (e3 (L.length - 1 - b) (by omega)).1
    rwa [back_index hb] at this
  · have := (e3 (L.length - 1 - b) (by omega)).2
    rwa [back_index hb] at this

/-- A sweep's own count: how much is still to come. -/
def leftW (L : List (List InsD)) (I O : List (List Nat)) : Nat := 131072 * L.length - (tot I + tot O)
theorem LiveAt.left {L : List (List InsD)} {I O : List (List Nat)} (h : LiveAt L I O) (hs : (sweepW L I O L.length).2.2 = true) : leftW L (sweepW L I O L.length).1 (sweepW L I O L.length).2.1 < leftW L I O := by
  have h1 := sweep_tot h.inv h.gI h.gO h.lI h.lO L.length (Nat.le_refl _)
  rw [if_pos hs] at h1
  have h2 := h.sweep L.length
  have m1 := tot_max (sweepW L I O L.length).1
  have m2 := tot_max (sweepW L I O L.length).2.1
  rw [h2.lI] at m1
  rw [h2.lO] at m2
  unfold leftW
  omega

theorem LiveAt.left_le {L : List (List InsD)} {I O : List (List Nat)} (h : LiveAt L I O) : leftW L (sweepW L I O L.length).1 (sweepW L I O L.length).2.1 + (if (sweepW L I O L.length).2.2 = true then 1 else 0) ≤ leftW L I O := by
  have h1 := sweep_tot h.inv h.gI h.gO h.lI h.lO L.length (Nat.le_refl _)
  have h2 := h.sweep L.length
  have m1 := tot_max (sweepW L I O L.length).1
  have m2 := tot_max (sweepW L I O L.length).2.1
  rw [h2.lI] at m1
  rw [h2.lO] at m2
  unfold leftW
  omega

/-- Has a sweep turned one of the sets ahead? -/
def turnW (L : List (List InsD)) (I O : List (List Nat)) (k : Nat) : Bool :=
  (List.range k).any fun j => decide (inW L (sweepW L I O j).1 (L.length - 1 - j) ≠ (sweepW L I O j).1.getD (L.length - 1 - j) [])
theorem turnW_succ (L : List (List InsD)) (I O : List (List Nat)) (k : Nat) : turnW L I O (k + 1) = (turnW L I O k || decide (inW L (sweepW L I O k).1 (L.length - 1 - k) ≠ (sweepW L I O k).1.getD (L.length - 1 - k) [])) := by
  unfold turnW; rw [List.range_succ, List.any_append]; simp
/-- A sweep that turns none of the sets ahead. -/
theorem turn_still {L : List (List InsD)} {I O : List (List Nat)} (k : Nat) (hk : k ≤ L.length) (lO : O.length = L.length) (h : turnW L I O k = false) :
    (sweepW L I O k).1 = I ∧ (∀ j, j < k → I.getD (L.length - 1 - j) [] = inW L I (L.length - 1 - j) ∧ (sweepW L I O k).2.1.getD (L.length - 1 - j) [] = outW L I (L.length - 1 - j)) ∧ (sweepW L I O k).2.1.length = L.length := by
  induction k with
  | zero => exact ⟨rfl, fun j hj => by omega, lO⟩
  | succ k ih =>
    rw [turnW_succ, Bool.or_eq_false_iff] at h
    obtain ⟨h1, h2⟩ := h
    obtain ⟨i1, i2, i3⟩ := ih (by omega) h1
    rw [i1] at h2
    have e1 : inW L I (L.length - 1 - k) = I.getD (L.length - 1 - k) [] := by simpa using h2
    rw [sweepW_succ]
    unfold stepW
    dsimp only
    rw [i1]
    refine ⟨by rw [e1, set_same], fun j hj => ?_, by rw [List.length_set]; exact i3⟩
    rw [getD_set, i3]
    by_cases e : j = k
    · subst e; rw [if_pos ⟨rfl, by omega⟩]; exact ⟨e1.symm, rfl⟩
    · rw [if_neg (by omega)]; exact i2 j (by omega)
theorem LiveAt.doneR {L : List (List InsD)} {I O : List (List Nat)} (h : LiveAt L I O) (hs : turnW L I O L.length = false) : IsLive L (sweepW L I O L.length).1 (sweepW L I O L.length).2.1 := by
  obtain ⟨e1, e2, e3⟩ := turn_still L.length (Nat.le_refl _) h.lO hs
  have h2 := h.sweep L.length
  refine ⟨h2.lI, h2.lO, h2.gI, h2.gO, fun b hb => ?_, fun b hb => ?_, h2.least⟩
  · have := (e2 (L.length - 1 - b) (by omega)).1
    rw [back_index hb] at this
    rw [e1]; exact this
  · have := (e2 (L.length - 1 - b) (by omega)).2
    rw [back_index hb] at this
    rw [e1]; exact this
theorem turn_flag (L : List (List InsD)) (I O : List (List Nat)) (k : Nat) (h : turnW L I O k = true) : (sweepW L I O k).2.2 = true := by
  induction k with
  | zero => simp [turnW] at h
  | succ k ih =>
    rw [turnW_succ, Bool.or_eq_true] at h
    rw [sweepW_succ]
    unfold stepW
    dsimp only
    rcases h with h | h
    · rw [ih h]; simp
    · rw [h]; simp
theorem LiveAt.leftR {L : List (List InsD)} {I O : List (List Nat)} (h : LiveAt L I O) (hs : turnW L I O L.length = true) : leftW L (sweepW L I O L.length).1 (sweepW L I O L.length).2.1 < leftW L I O :=
  h.left (turn_flag L I O _ hs)

/-- Stepping back over instructions, from a set behind them. -/
theorem has_foldback (l : List InsD) : ∀ ws, Bit.Ok ws → ∀ m, (Bit.has (l.foldl backW ws) m = true ↔ Bit.has (l.foldl backW []) m = true ∨ (Bit.has ws m = true ∧ ¬ ((m : Int) ∈ l.map defS ∧ m ≤ 65535))) := by
  induction l with
  | nil => intro ws _ m; simp [has_nil]
  | cons i l ih =>
    intro ws hw m
    rw [List.foldl_cons, List.foldl_cons, ih _ (back_can hw i).1 m, ih _ (back_can Bit.can_nil.1 i).1 m, has_back, has_back, has_nil]
    simp only [List.map_cons, List.mem_cons]
    by_cases h1 : Bit.has (l.foldl backW []) m = true <;> by_cases h2 : (m : Int) ∈ usesS i <;> by_cases h3 : m ≤ 65535 <;> by_cases h4 : Bit.has ws m = true <;> by_cases h5 : (m : Int) = defS i <;> by_cases h6 : (m : Int) ∈ l.map defS <;> simp_all
/-- A block's set ahead is its set behind stepped back over all its instructions. -/
theorem inW_back (L : List (List InsD)) {I : List (List Nat)} (h : ∀ ws ∈ I, Good1 ws) (b : Nat) : inW L I b = (L.getD b []).reverse.foldl backW (outW L I b) := by
  have g1 := good_in L h b
  have g2 := good_out L h b
  refine Bit.can_ext g1.1 (foldl_back _ _ g2.2 g2.1).1 fun m => ?_
  rw [Bool.eq_iff_iff, has_foldback _ _ g2.1.1, has_in]
  have e : Bit.has (killW (L.getD b [])) m = false ↔ ¬ ((m : Int) ∈ (L.getD b []).reverse.map defS ∧ m ≤ 65535) := by
    unfold killW
    rw [← Bool.not_eq_true, Bit.has_of]
  rw [e]
  rfl
end

section
/- The reference's rising lists, in plain Lean: they are the sets' lists. -/
/-- A number into a rising list. -/
def putS (l : List Int) (n : Int) : List Int :=
  if Bit.fits n then (l.takeWhile fun x => decide (x < n)) ++ (match l.dropWhile fun x => decide (x < n) with | [] => [n] | x :: r => if x = n then x :: r else n :: x :: r) else l
def filterS (xs ys : List Int) (has : Bool) : List Int := xs.filter fun x => inS ys x == has

theorem rising_ext : ∀ {a b : List Int}, a.Pairwise (· < ·) → b.Pairwise (· < ·) → (∀ x, x ∈ a ↔ x ∈ b) → a = b
  | [], [], _, _, _ => rfl
  | [], y :: b, _, _, h => by have := (h y).2 (by simp); simp at this
  | x :: a, [], _, _, h => by have := (h x).1 (by simp); simp at this
  | x :: a, y :: b, ha, hb, h => by
    obtain ⟨a1, a2⟩ := List.pairwise_cons.1 ha
    obtain ⟨b1, b2⟩ := List.pairwise_cons.1 hb
    have e : x = y := by
      rcases List.mem_cons.1 ((h x).1 (by simp)) with e | e
      · exact e
      · rcases List.mem_cons.1 ((h y).2 (by simp)) with e' | e'
        · exact e'.symm
        · have := a1 _ e'; have := b1 _ e; omega
    subst e
    refine congrArg _ (rising_ext a2 b2 fun z => ⟨fun hz => ?_, fun hz => ?_⟩)
    · rcases List.mem_cons.1 ((h z).1 (by simp [hz])) with e | e
      · subst e; have := a1 _ hz; omega
      · exact e
    · rcases List.mem_cons.1 ((h z).2 (by simp [hz])) with e | e
      · subst e; have := b1 _ hz; omega
      · exact e

theorem mem_take_drop {l : List Int} {p : Int → Bool} {x : Int} : x ∈ l ↔ x ∈ l.takeWhile p ∨ x ∈ l.dropWhile p := by
  rw [← List.mem_append, List.takeWhile_append_dropWhile]
theorem takeWhile_lt {l : List Int} {n x : Int} (h : x ∈ l.takeWhile fun x => decide (x < n)) : x < n := by
  induction l with
  | nil => simp at h
  | cons y l ih =>
    rw [List.takeWhile_cons] at h
    split at h
    · rename_i hy
      rcases List.mem_cons.1 h with e | e
      · subst e; simpa using hy
      · exact ih e
    · simp at h
theorem dropWhile_ge {l : List Int} (hl : l.Pairwise (· < ·)) {n x : Int} (h : x ∈ l.dropWhile fun x => decide (x < n)) : n ≤ x := by
  induction l with
  | nil => simp at h
  | cons y l ih =>
    obtain ⟨h1, h2⟩ := List.pairwise_cons.1 hl
    rw [List.dropWhile_cons] at h
    split at h
    · exact ih h2 h
    · rename_i hy
      have hy' : n ≤ y := by simpa using hy
      rcases List.mem_cons.1 h with e | e
      · omega
      · have := h1 _ e; omega
theorem mem_put {l : List Int} {n x : Int} : x ∈ putS l n ↔ x ∈ l ∨ (x = n ∧ Bit.fits n = true) := by
  unfold putS
  by_cases hf : Bit.fits n = true
  · rw [if_pos hf, List.mem_append, mem_take_drop (l := l) (p := fun x => decide (x < n))]
    cases hd : l.dropWhile fun x => decide (x < n) with
    | nil => simp [hf]
    | cons y r =>
      dsimp only
      split
      · rename_i e; subst e; simp [hf]; intro h; right; left; exact h
      · simp [hf]
        constructor
        · rintro (h | h | h | h)
          · exact .inl (.inl h)
          · exact .inr h
          · exact .inl (.inr (.inl h))
          · exact .inl (.inr (.inr h))
        · rintro ((h | h | h) | h)
          · exact .inl h
          · exact .inr (.inr (.inl h))
          · exact .inr (.inr (.inr h))
          · exact .inr (.inl h)
  · rw [if_neg hf]; simp [hf]
theorem put_rising {l : List Int} (hl : l.Pairwise (· < ·)) (n : Int) : (putS l n).Pairwise (· < ·) := by
  unfold putS
  split
  · have h1 : (l.takeWhile fun x => decide (x < n)).Pairwise (· < ·) := hl.sublist (List.takeWhile_sublist _)
    have h2 : (l.dropWhile fun x => decide (x < n)).Pairwise (· < ·) := hl.sublist (List.dropWhile_sublist _)
    have hge : ∀ x ∈ l.dropWhile (fun x => decide (x < n)), n ≤ x := fun x hx => dropWhile_ge hl hx
    rw [List.pairwise_append]
    refine ⟨h1, ?_, fun a ha b hb => ?_⟩
    · cases hd : l.dropWhile fun x => decide (x < n) with
      | nil => simp
      | cons y r =>
        rw [hd] at h2 hge
        dsimp only
        split
        · exact h2
        · rename_i hne
          refine List.pairwise_cons.2 ⟨fun z hz => ?_, h2⟩
          have hy := hge y (by simp)
          rcases List.mem_cons.1 hz with e | e
          · omega
          · have := (List.pairwise_cons.1 h2).1 z e; omega
    · have ha' := takeWhile_lt ha
      cases hd : l.dropWhile fun x => decide (x < n) with
      | nil => rw [hd] at hb; simp at hb; omega
      | cons y r =>
        rw [hd] at hb hge
        dsimp only at hb
        split at hb
        · have := hge b hb; omega
        · rcases List.mem_cons.1 hb with e | e
          · omega
          · have := hge b e; omega
  · exact hl

theorem mem_listI {ws : List Nat} {x : Int} : x ∈ listI ws ↔ 0 ≤ x ∧ Bit.has ws x.toNat = true := by
  unfold listI uptoI
  rw [List.mem_map]
  constructor
  · rintro ⟨m, hm, rfl⟩
    have := Bit.mem_list.1 (show m ∈ Bit.listW ws from hm)
    exact ⟨by omega, by simpa using this⟩
  · rintro ⟨h0, h⟩
    exact ⟨x.toNat, (Bit.mem_list.2 h : x.toNat ∈ Bit.listW ws), by omega⟩
theorem listI_rising (ws : List Nat) : (listI ws).Pairwise (· < ·) := by
  unfold listI uptoI
  rw [List.pairwise_map]
  exact (Bit.list_rising ws).imp fun h => by omega
theorem has_le {ws : List Nat} (h : ws.length ≤ 1024) {m : Nat} (hm : Bit.has ws m = true) : m ≤ 65535 := by
  have := Bit.has_lt hm; omega
theorem put_list {ws : List Nat} (n : Int) : putS (listI ws) n = listI (Bit.orW ws (Bit.ofW [n])) := by
  refine rising_ext (put_rising (listI_rising ws) n) (listI_rising _) fun x => ?_
  rw [mem_put, mem_listI, mem_listI, Bit.has_or, Bool.or_eq_true, Bit.has_of]
  simp only [List.mem_singleton]
  unfold Bit.fits
  simp only [Bool.and_eq_true, decide_eq_true_eq]
  constructor
  · rintro (⟨h1, h2⟩ | ⟨rfl, h1, h2⟩)
    · exact ⟨h1, .inl h2⟩
    · exact ⟨h1, .inr ⟨by omega, by omega⟩⟩
  · rintro ⟨h1, h2 | ⟨h2, h3⟩⟩
    · exact .inl ⟨h1, h2⟩
    · exact .inr ⟨by omega, by omega, by omega⟩
theorem fold_put (us : List Int) : ∀ ws, us.foldl putS (listI ws) = listI (us.foldl (fun ws n => Bit.orW ws (Bit.ofW [n])) ws) := by
  induction us with
  | nil => exact fun ws => rfl
  | cons n us ih => intro ws; rw [List.foldl_cons, List.foldl_cons, put_list, ih]
theorem mem_fold_put (us : List Int) : ∀ (l : List Int) (x : Int), x ∈ us.foldl putS l ↔ x ∈ l ∨ (x ∈ us ∧ Bit.fits x = true) := by
  induction us with
  | nil => intro l x; simp
  | cons n us ih =>
    intro l x
    rw [List.foldl_cons, ih, mem_put, List.mem_cons]
    constructor
    · rintro ((h | ⟨rfl, h⟩) | ⟨h, h'⟩)
      · exact .inl h
      · exact .inr ⟨.inl rfl, h⟩
      · exact .inr ⟨.inr h, h'⟩
    · rintro (h | ⟨rfl | h, h'⟩)
      · exact .inl (.inl h)
      · exact .inl (.inr ⟨rfl, h'⟩)
      · exact .inr ⟨h, h'⟩
theorem fold_put_rising (us : List Int) : ∀ (l : List Int), l.Pairwise (· < ·) → (us.foldl putS l).Pairwise (· < ·) := by
  induction us with
  | nil => exact fun l h => h
  | cons n us ih => exact fun l h => ih _ (put_rising h n)
/-- The reference's step back. -/
def backI (l : List Int) (i : InsD) : List Int := (usesS i).foldl putS (filterS l [defS i] false)
theorem backI_list {ws : List Nat} (h : ws.length ≤ 1024) (i : InsD) : backI (listI ws) i = listI (backW ws i) := by
  unfold backI
  refine rising_ext (fold_put_rising _ _ ((listI_rising ws).sublist (List.filter_sublist))) (listI_rising _) fun x => ?_
  rw [mem_fold_put, mem_listI, has_back]
  unfold filterS
  rw [List.mem_filter, mem_listI]
  unfold inS Bit.fits
  simp only [List.mem_singleton, Bool.and_eq_true, decide_eq_true_eq, beq_iff_eq, decide_eq_false_iff_not]
  constructor
  · rintro (⟨⟨h1, h2⟩, h3⟩ | ⟨h1, h2, h3⟩)
    · exact ⟨h1, .inr ⟨h2, fun hh => h3 (by omega)⟩⟩
    · exact ⟨h2, .inl ⟨by rw [Int.toNat_of_nonneg h2]; exact h1, by omega⟩⟩
  · rintro ⟨h1, ⟨h2, h3⟩ | ⟨h2, h3⟩⟩
    · rw [Int.toNat_of_nonneg h1] at h2
      exact .inr ⟨h2, h1, by omega⟩
    · have := has_le h h2
      exact .inl ⟨⟨h1, h2⟩, fun e => h3 ⟨by omega, by omega⟩⟩
theorem fold_backI (l : List InsD) : ∀ ws, ws.length ≤ 1024 → l.foldl backI (listI ws) = listI (l.foldl backW ws) := by
  induction l with
  | nil => exact fun ws _ => rfl
  | cons i l ih => intro ws h; rw [List.foldl_cons, List.foldl_cons, backI_list h, ih _ (back_length h i)]
/-- What is put in of a whole list. -/
theorem put_all (a b : List Nat) (hb : b.length ≤ 1024) : (listI b).foldl putS (listI a) = listI (Bit.orW a b) := by
  refine rising_ext (fold_put_rising _ _ (listI_rising a)) (listI_rising _) fun x => ?_
  rw [mem_fold_put, mem_listI, mem_listI, mem_listI, Bit.has_or, Bool.or_eq_true]
  unfold Bit.fits
  simp only [Bool.and_eq_true, decide_eq_true_eq]
  constructor
  · rintro (⟨h1, h2⟩ | ⟨⟨h1, h2⟩, h3⟩)
    · exact ⟨h1, .inl h2⟩
    · exact ⟨h1, .inr h2⟩
  · rintro ⟨h1, h2 | h2⟩
    · exact .inl ⟨h1, h2⟩
    · have := has_le hb h2
      exact .inr ⟨⟨h1, h2⟩, h1, by omega⟩
end

section
/- 'live.lists'. -/
open Go.RowKit Go.Sort

theorem infoIntsL : (Try.prog.info? 25).map (fun i => (i.zero, i.size, i.bytes)) = some (some (.slice none 0 0), 1, 24) := by kernel_rfl

/-- Rows of ints of a call's own, each in a block of its own. -/
structure RowsOwn (B : Nat) (own : Nat → Nat) (ll : List (List Int)) (v : Value) (vals : List Value) (W : World) : Prop where
  row : W.ownsRow B 25 1 v vals.length vals
  len : vals.length = ll.length
  el : ∀ j (h : j < vals.length), W.ownsRow B 3 1 vals[j] (ll.getD j []).length (ints (ll.getD j []))
  apart : ∀ j (h : j < vals.length) b, vals[j].ownBlock = some b → v.ownBlock ≠ some b ∧ own b = j

theorem RowsOwn.nil (B : Nat) (W : World) : RowsOwn B (fun _ => 0) [] (.slice none 0 0) [] W :=
  ⟨World.ownsRow_nil _ _ _ _, rfl, fun j h => by simp at h, fun j h => by simp at h⟩

theorem RowsOwn.snoc {B : Nat} {own : Nat → Nat} {ll : List (List Int)} {v v' u : Value} {vals : List Value} {W W1 w' : World} {xs : List Int} (h : RowsOwn B own ll v vals W) (hB : B ≤ W.heap.size) (hb : Below W.heap.size W W1)
    (hr : W1.ownsRow W.heap.size 3 1 u xs.length (ints xs)) (ho : w'.ownsRow B 25 1 v' (vals ++ [u]).length (vals ++ [u])) (hgr : W1.grownBy w' v.ownBlock) (hv : v'.ownBlock = v.ownBlock ∨ v'.ownBlock = some W1.heap.size) :
    RowsOwn B (fun b => if b < W.heap.size then own b else ll.length) (ll ++ [xs]) v' (vals ++ [u]) w' := by
  have hlen := h.len
  have hsz := hb.size
  have hv2 : ∀ i, v'.ownBlock = some i → v.ownBlock = some i ∨ i = W1.heap.size := fun i hi => by
    rcases hv with e | e
    · exact .inl (e ▸ hi)
    · rw [e] at hi; simp at hi; right; omega
  refine ⟨ho, by simp [hlen], fun j hj => ?_, fun j hj b hb' => ?_⟩
  · by_cases hjl : j < vals.length
    · have e1 : (vals ++ [u])[j] = vals[j] := List.getElem_append_left hjl
      have e2 : (ll ++ [xs]).getD j [] = ll.getD j [] := by
        rw [List.getD_eq_getElem?_getD, List.getElem?_append_left (by omega), List.getD_eq_getElem?_getD]
      rw [e1, e2]
      refine (owns_below (h.el j hjl) hb).kept hgr ?_
      cases hob : vals[j].ownBlock with
      | none => exact .inl rfl
      | some b => exact .inr fun e => (h.apart j hjl b hob).1 e.symm
    · have hje : j = vals.length := by simp at hj; omega
      subst hje
      have e1 : (vals ++ [u])[vals.length] = u := by simp
      have e2 : (ll ++ [xs]).getD vals.length [] = xs := by rw [hlen]; simp [List.getD]
      rw [e1, e2]
      refine (owns_mono hr hB).kept hgr ?_
      cases hob : u.ownBlock with
      | none => exact .inl rfl
      | some b => exact .inr fun e => by have := (hr.lt b hob).1; have := (h.row.lt b e.symm).2; omega
  · by_cases hjl : j < vals.length
    · have e1 : (vals ++ [u])[j] = vals[j] := List.getElem_append_left hjl
      rw [e1] at hb'
      obtain ⟨a1, a2⟩ := h.apart j hjl b hb'
      have hlt := ((h.el j hjl).lt b hb').2
      refine ⟨fun e => ?_, by rw [if_pos hlt]; exact a2⟩
      rcases hv2 b e with e | e
      · exact a1 e
      · omega
    · have hje : j = vals.length := by simp at hj; omega
      subst hje
      have e1 : (vals ++ [u])[vals.length] = u := by simp
      rw [e1] at hb'
      have hlt := hr.lt b hb'
      refine ⟨fun e => ?_, by rw [if_neg (by omega)]; exact hlen.symm⟩
      rcases hv2 b e with e | e
      · have := (h.row.lt b e).2; omega
      · omega

theorem RowsOwn.rows {B : Nat} {own : Nat → Nat} {ll : List (List Int)} {v : Value} {vals : List Value} {W : World} (h : RowsOwn B own ll v vals W) (hs : ll.length ≤ 1000000) (hx : ∀ xs ∈ ll, xs.length ≤ 140737488351232) : IsRows (B ≤ ·) W v ll := by
  have hlf := h.len
  rcases owns_nilcase h.row with ⟨rfl, h0, _⟩ | ⟨g, cap, rfl⟩
  · refine ⟨none, 0, by rw [← hlf, h0], ⟨by omega, by omega⟩, .inl (List.length_eq_zero_iff.1 (by omega))⟩
  · obtain ⟨_, hg, _, hc, _⟩ := owns_block h.row
    refine ⟨_, cap, by rw [hlf], ⟨by omega, by omega⟩, .inr ⟨g, 0, rfl, hg, fun j hj => ?_⟩⟩
    have hj' : j < vals.length := by omega
    have hc := h.row.cellAt j (by omega)
    refine ⟨vals[j], ?_, ?_⟩
    · rw [Nat.zero_add, Nat.mul_one, hc]; simp [hj']
    · have e : ll.getD j [] = ll[j] := by simp [List.getD, hj]
      have := h.el j hj'
      rw [e] at this
      exact ints_of_owns this (hx _ (List.getElem_mem hj)) fun _ _ hb _ => hb

theorem RowsOwn.below {B : Nat} {own : Nat → Nat} {ll : List (List Int)} {v : Value} {vals : List Value} {W W1 : World} (h : RowsOwn B own ll v vals W) (hb : Below W.heap.size W W1) : RowsOwn B own ll v vals W1 :=
  ⟨owns_below h.row hb, h.len, fun j hj => owns_below (h.el j hj) hb, h.apart⟩

set_option maxRecDepth 100000 in
set_option maxHeartbeats 2000000 in
theorem lists_c {v : Value} {l : List (List Nat)} (w : World) (h : IsSets (· < w.heap.size) w v l) (hl : l.length ≤ 100000) (hok : ∀ ws ∈ l, Bit.Ok ws ∧ ws.length ≤ 2000) :
    Calls Try.prog 80 #[v] w fun e w' => ∃ u own vals, e = .returned u ∧ RowsOwn w.heap.size own (l.map listI) u vals w' ∧ Below w.heap.size w w' := by
  have hk0 := h
  obtain ⟨a, cap, rfl, -, -⟩ := h
  go_enter Try.func80, Try.ntmps80
  go_wp2_with fail
  go_loopw [3, 5, 8] (fun vo s5 i wr => ∃ (vals : List Value) (own : Nat → Nat), vals.length ≤ l.length ∧ i = .int .i64 vals.length ∧ Hid (RowsOwn w.heap.size own ((l.take vals.length).map listI) vo vals wr) ∧ Below w.heap.size w wr) (fun _ _ i _ => l.length - (intOf i).toNat)
  case atStart => exact ⟨[], fun _ => 0, by simp, rfl, RowsOwn.nil _ _, bel_refl _⟩
  case round =>
    obtain ⟨vals, own, hk, rfl, hI, hB⟩ := hrel
    obtain ⟨k, HK⟩ : ∃ k, Hid (vals.length = k) := ⟨vals.length, (rfl : vals.length = vals.length)⟩
    rw [HK.out] at hk ⊢
    by_cases hlt : k < l.length
    · obtain ⟨_, _, hv0, -, hx⟩ := hk0.keep (Keep.belowB hB)
      simp only [Value.slice.injEq, true_and] at hv0
      obtain ⟨rfl, rfl⟩ := hv0
      rcases hx with rfl | ⟨b, off, rfl, hpb, hx⟩
      · simp at hlt
      obtain ⟨vi, c1, hw⟩ := hx k hlt
      rw [Nat.mul_one] at c1
      have hbl := lt_of_cell c1
      clear hx
      have hsz := hB.size
      obtain ⟨ho1, ho2⟩ := hok _ (List.getElem_mem hlt)
      have hgl : l.getD k [] = l[k] := by simp [List.getD, hlt]
      have HG : Hid (l.getD k [] = l[k]) := hgl
      clear hgl
      obtain ⟨ws, HR⟩ : ∃ ws, Hid (l[k] = ws) := ⟨l[k], (rfl : l[k] = l[k])⟩
      rw [HR.out] at hw HG ho1 ho2
      obtain ⟨va, vn, vc, rfl⟩ := words_slice hw
      have hap : (vals.length + 1) * 24 ≤ 140737488355328 := by have := HK.out; omega
      have ham : vals.length + 1 ≤ maxLen := by have := HK.out; unfold maxLen; omega
      have HAP : Hid ((vals.length + 1) * 24 ≤ 140737488355328 ∧ vals.length + 1 ≤ maxLen) := ⟨hap, ham⟩
      clear hap ham
      go_wp2_with fail
      generalize hW1 : wr.alloc _ = W1
      have hb1 : Below wr.heap.size wr W1 := by rw [← hW1]; exact bel_alloc (bel_refl wr) _
      clear hW1
      have hs1 := hb1.size
      refine (list_c W1 (hw.keep (fun b hb hlt => ⟨by show b < W1.heap.size; omega, hb1.block b hlt⟩)) ho2 ho1).mono ?_
      rintro e W2 ⟨z, rfl, hz, hb2⟩
      have hll := listI_length ws
      have hz2 := owns_mono hz hs1
      obtain ⟨za, zc, rfl, -⟩ := owns_slice hz
      have hb12 := bel_call hb1 hb2
      have hs2 := hb12.size
      have hown2 := owns_below hI.out.row hb12
      go_wp2_with (at_builtin; refine stop_here ?_)
      refine stop_go (app_cell 28 25 (.slice none 0 0) 24 Try.underlying28 infoIntsL rfl rfl _ _ rfl w.heap.size _ vals rfl (hown2.alloc _) _ (.slice za (listI ws).length zc) rfl rfl (heap_alloc_eq _ _ _ rfl) HAP.out.1 HAP.out.2 (by simp; omega) ?_)
      intro v' w' ho hg hv
      have hbA := bel_alloc hb12 (.cells #[.slice za (listI ws).length zc] 25)
      have hI1 := hI.out.snoc hsz hbA (hz2.alloc _) ho hg hv
      have HE : (l.take (vals.length + 1)).map listI = (l.take vals.length).map listI ++ [listI ws] := by
        rw [HK.out, List.take_succ_eq_append_getElem hlt, List.map_append, HR.out]; rfl
      rw [← HE] at hI1
      have HI1 : Hid (RowsOwn w.heap.size (fun b => if b < wr.heap.size then own b else ((l.take vals.length).map listI).length) ((l.take (vals ++ [Value.slice za (listI ws).length zc]).length).map listI) v' (vals ++ [Value.slice za (listI ws).length zc]) w') := by
        rw [List.length_append]; exact hI1
      have hB1 := bel_grown (bel_call hB hbA) hg (fun i hi => (hI.out.row.lt i hi).1)
      clear hI hI1 HE ho hg hv hB c1 hown2 hz hz2 hbA hb12 hb2 hb1 hw
      go_wp2_with fail
      go_roundw
      case rel => exact ⟨vals ++ [_], _, by simp; have := HK.out; omega, by rw [List.length_append, HK.out]; go_num, HI1, hB1⟩
      case measure => simp [intOf]; omega
    · have hke : k = l.length := by omega
      have hIr := hI.out
      rw [HK.out, hke, List.take_length] at hIr
      have HIr : Hid (RowsOwn w.heap.size own (l.map listI) u3 vals wr) := hIr
      clear hke hI hIr
      go_wp2_with fail
      go_ret
      exact ⟨_, _, _, rfl, HIr.out, hB⟩
end

section
/- Rows of sets that are being written: what 'live.Of' has in memory while it runs. -/
open Go.RowKit

theorem hid_of {p : Prop} (h : p) : Hid p := h
theorem IsWords.mono {p p' : Nat → Prop} {W : World} {v : Value} {ws : List Nat} (h : IsWords p W v ws) (hp : ∀ b, p b → p' b) : IsWords p' W v ws := h.keep (Keep.refl W fun _ hb _ => hp _ hb)

theorem World.ownsRow.kept_set {W : World} (a : Addr) (u : Value) : W.grownBy (W.setCell a u) (some a.block) :=
  ⟨rfl, rfl, rfl, by simp, fun k _ hne => Below.heap_setCell _ _ _ _ (fun e => hne (by rw [e]))⟩
/-- A row of set values; the sets' words lie in blocks with p, the row does not. -/
structure SetRow (p : Nat → Prop) (g : Nat) (I : List (List Nat)) (W : World) : Prop where
  np : ¬ p g
  ex : ∃ vs : List Value, Row W g 96 vs ∧ vs.length = I.length ∧ ∀ j (h : j < vs.length), IsWords p W vs[j] (I.getD j [])

theorem SetRow.lt {p : Nat → Prop} {g : Nat} {I : List (List Nat)} {W : World} (h : SetRow p g I W) : g < W.heap.size := let ⟨_, h1, _⟩ := h.ex; h1.lt
theorem SetRow.keep {p p' : Nat → Prop} {g : Nat} {I : List (List Nat)} {W W' : World} (h : SetRow p g I W) (hb : W'.heap[g]? = W.heap[g]?) (hk : Keep p p' W W') (np : ¬ p' g) : SetRow p' g I W' :=
  let ⟨vs, h1, h2, h3⟩ := h.ex; ⟨np, vs, h1.keep hb, h2, fun j hj => (h3 j hj).keep hk⟩
theorem SetRow.below {p : Nat → Prop} {g : Nat} {I : List (List Nat)} {W W' : World} (h : SetRow p g I W) (hb : Below W.heap.size W W') : SetRow p g I W' := h.keep (hb.block g h.lt) (Keep.below hb) h.np
theorem SetRow.alloc {p : Nat → Prop} {g : Nat} {I : List (List Nat)} {W : World} (h : SetRow p g I W) (o : Obj) : SetRow p g I (W.alloc o) := h.below (bel_alloc (bel_refl W) o)
theorem SetRow.other {p : Nat → Prop} {g : Nat} {I : List (List Nat)} {W : World} (h : SetRow p g I W) {a : Addr} (hne : g ≠ a.block) (hp : ¬ p a.block) (u : Value) : SetRow p g I (W.setCell a u) :=
  h.keep (Below.heap_setCell _ _ _ _ hne) (Keep.setCell fun _ hb _ => ⟨hb, fun e => hp (e ▸ hb)⟩) h.np
theorem SetRow.get {p : Nat → Prop} {g : Nat} {I : List (List Nat)} {W : World} (h : SetRow p g I W) {j : Nat} (hj : j < I.length) : ∃ a n c, W.cell? ⟨g, j, none⟩ = some (.slice a n c) ∧ IsWords p W (.slice a n c) (I.getD j []) := by
  obtain ⟨vs, h1, h2, h3⟩ := h.ex
  have hj' : j < vs.length := by omega
  have hw := h3 j hj'
  have hc := h1.cell (k := j) (v := vs[j]) (by simp [hj'])
  obtain ⟨a, n, c, e⟩ := words_slice hw
  rw [e] at hc hw
  exact ⟨a, n, c, hc, hw⟩
theorem SetRow.frozen {p : Nat → Prop} {g : Nat} {I : List (List Nat)} {W : World} (h : SetRow p g I W) (k : Nat) : W.frozen? ⟨g, k, none⟩ = false := let ⟨_, h1, _⟩ := h.ex; h1.frozen k
theorem SetRow.set {p : Nat → Prop} {g : Nat} {I : List (List Nat)} {W : World} (h : SetRow p g I W) {z : Value} {ws : List Nat} (hz : IsWords p W z ws) (j : Nat) : SetRow p g (I.set j ws) (W.setCell ⟨g, j, none⟩ z) := by
  obtain ⟨vs, h1, h2, h3⟩ := h.ex
  have hk : Keep p p W (W.setCell ⟨g, j, none⟩ z) := Keep.setCell fun b hb _ => ⟨hb, fun e => h.np (by have e' : b = g := e; exact e' ▸ hb)⟩
  refine ⟨h.np, vs.set j z, h1.set j z, by simp [h2], fun i hi => ?_⟩
  have hi' : i < vs.length := by simpa using hi
  rw [List.getElem_set, getD_set]
  by_cases e : j = i
  · rw [if_pos e, if_pos ⟨e, by omega⟩]; exact hz.keep hk
  · rw [if_neg e, if_neg (by omega)]; exact (h3 i hi').keep hk
theorem SetRow.sets {p p' : Nat → Prop} {g : Nat} {I : List (List Nat)} {W : World} (h : SetRow p g I W) (hg : p' g) (hp : ∀ b, p b → p' b) (hl : I.length ≤ 100000) : IsSets p' W (.slice (some ⟨g, 0, none⟩) I.length I.length) I := by
  obtain ⟨vs, h1, h2, h3⟩ := h.ex
  refine sets_of_row h1 hg h2 (by omega) fun j hj hj2 => ?_
  have := h3 j hj
  have e : I.getD j [] = I[j] := by simp [List.getD, hj2]
  rw [e] at this
  exact this.mono hp
theorem SetRow.start {p : Nat → Prop} {g n : Nat} {W : World} (h : Row W g 96 (List.replicate n (.slice none 0 0))) (np : ¬ p g) : SetRow p g (List.replicate n []) W := by
  refine ⟨np, _, h, by simp, fun j hj => ?_⟩
  rw [List.getElem_replicate, replicate_getD]
  exact words_nil _ _
theorem SetRow.mono {p p' : Nat → Prop} {g : Nat} {I : List (List Nat)} {W : World} (h : SetRow p g I W) (hp : ∀ b, p b → p' b) (np : ¬ p' g) : SetRow p' g I W := h.keep rfl (Keep.refl W fun b hb _ => hp b hb) np

/-- A function by value. -/
def funcV (nm : ByteArray) (va : Option Addr) (vn vc : Nat) (pa : Option Addr) (pn pc : Nat) (re : ByteArray) (ba : Option Addr) (bn bc : Nat) : Value := .agg #[.string nm, .slice va vn vc, .slice pa pn pc, .string re, .slice ba bn bc]
def funcC (nm : ByteArray) (va : Option Addr) (vn vc : Nat) (pa : Option Addr) (pn pc : Nat) (re : ByteArray) (ba : Option Addr) (bn bc : Nat) : List Value := [.string nm, .slice va vn vc, .slice pa pn pc, .string re, .slice ba bn bc]

/-- The blocks of 'live.Of' are different ones. -/
def Six (B sv gI gO gk gg : Nat) : Prop :=
  (B + 2 ≤ sv ∧ sv < B + 7) ∧ (B + 2 ≤ gI ∧ gI < B + 7) ∧ (B + 2 ≤ gO ∧ gO < B + 7) ∧ (B + 2 ≤ gk ∧ gk < B + 7) ∧ (B + 2 ≤ gg ∧ gg < B + 7) ∧
  sv ≠ gI ∧ sv ≠ gO ∧ sv ≠ gk ∧ sv ≠ gg ∧ gI ≠ gO ∧ gI ≠ gk ∧ gI ≠ gg ∧ gO ≠ gk ∧ gO ≠ gg ∧ gk ≠ gg

structure LvSt (w : World) (B n : Nat) (fc : List Value) (sv gI gO gk gg : Nat) (p : Nat → Prop) (I O K G : List (List Nat)) (W : World) : Prop where
  fb : Row W B 44 fc
  rb : Row W (B + 1) 90 [.slice none 0 0, .slice none 0 0]
  sb : Row W sv 90 [.slice (some ⟨gI, 0, none⟩) n n, .slice (some ⟨gO, 0, none⟩) n n]
  rI : SetRow p gI I W
  rO : SetRow p gO O W
  rK : SetRow p gk K W
  rG : SetRow p gg G W
  bel : Below B w W
  sz : B + 7 ≤ W.heap.size
  six : Six B sv gI gO gk gg
  np : ∀ b, b < B + 7 → ¬ p b

section
variable {w : World} {B n : Nat} {fc : List Value} {sv gI gO gk gg : Nat} {p p' : Nat → Prop} {I O K G : List (List Nat)} {W W' : World}
theorem LvSt.below (h : LvSt w B n fc sv gI gO gk gg p I O K G W) (hb : Below W.heap.size W W') : LvSt w B n fc sv gI gO gk gg p I O K G W' :=
  ⟨h.fb.keep (hb.block _ h.fb.lt), h.rb.keep (hb.block _ h.rb.lt), h.sb.keep (hb.block _ h.sb.lt), h.rI.below hb, h.rO.below hb, h.rK.below hb, h.rG.below hb, h.bel.trans (hb.mono (by have := h.sz; omega)), by have := hb.size; have := h.sz; omega, h.six, h.np⟩
theorem LvSt.grown {row : Option Nat} (h : LvSt w B n fc sv gI gO gk gg p I O K G W) (hg : W.grownBy W' row) (hr : ∀ k, row = some k → B + 7 ≤ k ∧ ¬ p k) : LvSt w B n fc sv gI gO gk gg p I O K G W' := by
  have hz := h.sz
  have s := h.six
  unfold Six at s
  have hk : Keep p p W W' := Keep.grown hg fun b hb _ => ⟨hb, fun e => (hr b e.symm).2 hb⟩
  have hh : ∀ b, b < B + 7 → W'.heap[b]? = W.heap[b]? := fun b hb => hg.block b (by omega) (fun e => by have := (hr b e.symm).1; omega)
  exact ⟨h.fb.keep (hh _ (by omega)), h.rb.keep (hh _ (by omega)), h.sb.keep (hh _ (by omega)), h.rI.keep (hh _ (by omega)) hk h.rI.np, h.rO.keep (hh _ (by omega)) hk h.rO.np, h.rK.keep (hh _ (by omega)) hk h.rK.np, h.rG.keep (hh _ (by omega)) hk h.rG.np,
    h.bel.grown hg (by omega) (fun k e => by have := (hr k e).1; omega), by have := hg.size; omega, h.six, h.np⟩
theorem LvSt.move (h : LvSt w B n fc sv gI gO gk gg p I O K G W) (hb : Below (B + 7) W W') (hk : Keep p p' W W') (np : ∀ b, b < B + 7 → ¬ p' b) : LvSt w B n fc sv gI gO gk gg p' I O K G W' := by
  have hz := h.sz
  have s := h.six
  unfold Six at s
  have hh := hb.block
  exact ⟨h.fb.keep (hh _ (by omega)), h.rb.keep (hh _ (by omega)), h.sb.keep (hh _ (by omega)), h.rI.keep (hh _ (by omega)) hk (np _ (by omega)), h.rO.keep (hh _ (by omega)) hk (np _ (by omega)), h.rK.keep (hh _ (by omega)) hk (np _ (by omega)), h.rG.keep (hh _ (by omega)) hk (np _ (by omega)),
    h.bel.trans (hb.mono (by omega)), by have := hb.size; omega, h.six, np⟩
theorem LvSt.mono (h : LvSt w B n fc sv gI gO gk gg p I O K G W) (hp : ∀ b, p b → p' b) (np : ∀ b, b < B + 7 → ¬ p' b) : LvSt w B n fc sv gI gO gk gg p' I O K G W := by
  have s := h.six
  unfold Six at s
  exact ⟨h.fb, h.rb, h.sb, h.rI.mono hp (np _ (by omega)), h.rO.mono hp (np _ (by omega)), h.rK.mono hp (np _ (by omega)), h.rG.mono hp (np _ (by omega)), h.bel, h.sz, h.six, np⟩
/-- A store into a block that is none of these. -/
theorem LvSt.cell (h : LvSt w B n fc sv gI gO gk gg p I O K G W) {a : Addr} (ha : B + 7 ≤ a.block) (hp : ¬ p a.block) (u : Value) : LvSt w B n fc sv gI gO gk gg p I O K G (W.setCell a u) := by
  have s := h.six
  unfold Six at s
  exact ⟨h.fb.other (by omega) u, h.rb.other (by omega) u, h.sb.other (by omega) u, h.rI.other (by omega) hp u, h.rO.other (by omega) hp u, h.rK.other (by omega) hp u, h.rG.other (by omega) hp u, h.bel.setCell (by omega) u, by simpa using h.sz, h.six, h.np⟩
theorem LvSt.setG (h : LvSt w B n fc sv gI gO gk gg p I O K G W) {z : Value} {ws : List Nat} (hz : IsWords p W z ws) (j : Nat) : LvSt w B n fc sv gI gO gk gg p I O K (G.set j ws) (W.setCell ⟨gg, j, none⟩ z) := by
  have s := h.six
  unfold Six at s
  exact ⟨h.fb.other (by show B ≠ gg; omega) z, h.rb.other (by show B + 1 ≠ gg; omega) z, h.sb.other (by show sv ≠ gg; omega) z, h.rI.other (by show gI ≠ gg; omega) h.rG.np z, h.rO.other (by show gO ≠ gg; omega) h.rG.np z, h.rK.other (by show gk ≠ gg; omega) h.rG.np z, h.rG.set hz j, h.bel.setCell (by show B ≤ gg; omega) z, by simpa using h.sz, h.six, h.np⟩
theorem LvSt.setK (h : LvSt w B n fc sv gI gO gk gg p I O K G W) {z : Value} {ws : List Nat} (hz : IsWords p W z ws) (j : Nat) : LvSt w B n fc sv gI gO gk gg p I O (K.set j ws) G (W.setCell ⟨gk, j, none⟩ z) := by
  have s := h.six
  unfold Six at s
  exact ⟨h.fb.other (by show B ≠ gk; omega) z, h.rb.other (by show B + 1 ≠ gk; omega) z, h.sb.other (by show sv ≠ gk; omega) z, h.rI.other (by show gI ≠ gk; omega) h.rK.np z, h.rO.other (by show gO ≠ gk; omega) h.rK.np z, h.rK.set hz j, h.rG.other (by show gg ≠ gk; omega) h.rK.np z, h.bel.setCell (by show B ≤ gk; omega) z, by simpa using h.sz, h.six, h.np⟩
theorem LvSt.setI (h : LvSt w B n fc sv gI gO gk gg p I O K G W) {z : Value} {ws : List Nat} (hz : IsWords p W z ws) (j : Nat) : LvSt w B n fc sv gI gO gk gg p (I.set j ws) O K G (W.setCell ⟨gI, j, none⟩ z) := by
  have s := h.six
  unfold Six at s
  exact ⟨h.fb.other (by show B ≠ gI; omega) z, h.rb.other (by show B + 1 ≠ gI; omega) z, h.sb.other (by show sv ≠ gI; omega) z, h.rI.set hz j, h.rO.other (by show gO ≠ gI; omega) h.rI.np z, h.rK.other (by show gk ≠ gI; omega) h.rI.np z, h.rG.other (by show gg ≠ gI; omega) h.rI.np z, h.bel.setCell (by show B ≤ gI; omega) z, by simpa using h.sz, h.six, h.np⟩
theorem LvSt.setO (h : LvSt w B n fc sv gI gO gk gg p I O K G W) {z : Value} {ws : List Nat} (hz : IsWords p W z ws) (j : Nat) : LvSt w B n fc sv gI gO gk gg p I (O.set j ws) K G (W.setCell ⟨gO, j, none⟩ z) := by
  have s := h.six
  unfold Six at s
  exact ⟨h.fb.other (by show B ≠ gO; omega) z, h.rb.other (by show B + 1 ≠ gO; omega) z, h.sb.other (by show sv ≠ gO; omega) z, h.rI.other (by show gI ≠ gO; omega) h.rO.np z, h.rO.set hz j, h.rK.other (by show gk ≠ gO; omega) h.rO.np z, h.rG.other (by show gg ≠ gO; omega) h.rO.np z, h.bel.setCell (by show B ≤ gO; omega) z, by simpa using h.sz, h.six, h.np⟩
/-- Where the sets may lie while a row of the call's own grows. -/
def pD (B : Nat) (v : Value) (b : Nat) : Prop := B ≤ b ∧ some b ≠ v.ownBlock
theorem LvSt.app {v v' : Value} (h : LvSt w B n fc sv gI gO gk gg (pD (B + 7) v) I O K G W) (hg : W.grownBy W' v.ownBlock) (hv : v'.ownBlock = v.ownBlock ∨ v'.ownBlock = some W.heap.size) (hb : ∀ k, v.ownBlock = some k → B + 7 ≤ k) : LvSt w B n fc sv gI gO gk gg (pD (B + 7) v') I O K G W' := by
  have hz := h.sz
  refine h.move ⟨hg.os, hg.tape, hg.output, hg.size, fun b hb' => hg.block b (by omega) (fun e => by have := hb b e.symm; omega)⟩ (Keep.grown hg fun b hb' hlt => ⟨⟨hb'.1, fun e => ?_⟩, hb'.2⟩) (fun b hb' hh => by have := hh.1; omega)
  rcases hv with e' | e'
  · exact hb'.2 (e.trans e')
  · rw [e'] at e; simp at e; omega
end

/-- The first k of n sets are told. -/
def upTo (f : Nat → List Nat) (n k : Nat) : List (List Nat) := (List.range n).map fun j => if j < k then f j else []
theorem upTo_length (f : Nat → List Nat) (n k : Nat) : (upTo f n k).length = n := by simp [upTo]
theorem upTo_zero (f : Nat → List Nat) (n : Nat) : upTo f n 0 = List.replicate n [] := by
  refine List.ext_getElem (by simp [upTo]) fun j h1 h2 => by simp [upTo]
theorem upTo_set (f : Nat → List Nat) {n k : Nat} (_h : k < n) : (upTo f n k).set k (f k) = upTo f n (k + 1) := by
  refine List.ext_getElem (by simp [upTo]) fun j h1 h2 => ?_
  rw [List.getElem_set]
  by_cases e : k = j
  · subst e; simp [upTo]
  · rw [if_neg e]
    simp only [upTo, List.getElem_map, List.getElem_range]
    by_cases h : j < k
    · rw [if_pos h, if_pos (by omega)]
    · rw [if_neg h, if_neg (by omega)]
theorem upTo_nil (f : Nat → List Nat) (n k : Nat) : (upTo f n k).set k [] = upTo f n k := by
  by_cases h : k < n
  · have := set_same (upTo f n k) k
    rw [show (upTo f n k).getD k [] = [] by simp [upTo, List.getD, h]] at this
    exact this
  · exact List.set_eq_of_length_le (by rw [upTo_length]; omega)
theorem upTo_getD (f : Nat → List Nat) (n k j : Nat) (h : j < n) : (upTo f n k).getD j [] = if j < k then f j else [] := by
  simp [upTo, List.getD, h]

/-- A block gone through from its end: what is wanted, what was written. -/
def genD (l : List InsD) (r : Nat) : List Nat := (l.drop r).reverse.foldl backW []
def defD (l : List InsD) (r : Nat) : List Int := (l.drop r).reverse.map defS
theorem drop_rev {l : List InsD} {q : Nat} (h : q < l.length) : (l.drop q).reverse = (l.drop (q + 1)).reverse ++ [l[q]] := by
  rw [List.drop_eq_getElem_cons h, List.reverse_cons]
theorem genD_succ {l : List InsD} {q : Nat} (h : q < l.length) : genD l q = backW (genD l (q + 1)) l[q] := by
  unfold genD; rw [drop_rev h, List.foldl_append]; rfl
theorem defD_succ {l : List InsD} {q : Nat} (h : q < l.length) : defD l q = defD l (q + 1) ++ [defS l[q]] := by
  unfold defD; rw [drop_rev h, List.map_append]; rfl
theorem genD_all (l : List InsD) : genD l l.length = [] := by unfold genD; simp
theorem defD_all (l : List InsD) : defD l l.length = [] := by unfold defD; simp
theorem genD_zero (l : List InsD) : genD l 0 = genW l := rfl
theorem defD_zero (l : List InsD) : Bit.ofW (defD l 0) = killW l := rfl
theorem genD_good (l : List InsD) (r : Nat) : Good1 (genD l r) := foldl_back _ [] (by simp) Bit.can_nil
theorem defD_length (l : List InsD) (r : Nat) : (defD l r).length = l.length - r := by simp [defD]
end

section
/- 'Equal'. -/
open Go.RowKit

theorem takeN_succ_eq {α : Type} {xs ys : List α} {k : Nat} (h1 : k < xs.length) (h2 : k < ys.length) (ht : xs.take k = ys.take k) (he : xs[k] = ys[k]) : xs.take (k + 1) = ys.take (k + 1) := by
  rw [List.take_succ_eq_append_getElem h1, List.take_succ_eq_append_getElem h2, ht, he]

set_option maxRecDepth 100000 in
theorem sameWords_c {p p' : Nat → Prop} {v u : Value} {xs ys : List Nat} (w : World) (h1 : IsWords p w v xs) (h2 : IsWords p' w u ys) :
    Calls Try.prog 124 #[v, u] w fun e w' => e = .returned (.bool (decide (xs = ys))) ∧ ∃ n, w' = w.drewN n := by
  obtain ⟨a, cap, rfl, hl, hx⟩ := h1
  obtain ⟨a', cap', rfl, hl', hy⟩ := h2
  by_cases hlen : xs.length = ys.length
  · have HL : Hid (xs.length = ys.length) := hlen
    rw [hlen]
    clear hlen
    go_enter Try.func124, Try.ntmps124
    go_wp2
    go_loopw [13] (fun i wr => ∃ k n : Nat, k ≤ ys.length ∧ i = .int .i64 k ∧ wr = w.drewN n ∧ xs.take k = ys.take k) (fun i _ => ys.length - (intOf i).toNat)
    case atStart => exact ⟨0, 0, by omega, rfl, rfl, rfl⟩
    case round =>
      obtain ⟨k, n, hk, rfl, rfl, ht⟩ := hrel
      by_cases hlt : k < ys.length
      · have hlt' : k < xs.length := by rw [HL.out]; exact hlt
        rcases hx with rfl | ⟨b, off, rfl, _, hx⟩
        · simp at hlt'
        rcases hy with rfl | ⟨b', off', rfl, _, hy⟩
        · simp at hlt
        have c1 := hx k hlt'
        have c2 := hy k hlt
        simp only [CWord, Nat.mul_one] at c1 c2
        clear hx hy
        go_wp2_with fail
        go_quiet (fail)
        go_wp2
        · have hne : (((xs[k] : Nat) : Int) != ((ys[k] : Nat) : Int)) = true := by assumption
          go_ret
          refine ⟨ret_bool ?_, _, World.drewN_drewN _ _ _⟩
          have : xs ≠ ys := by rintro rfl; simp at hne
          simp [this]
        · have hne : (((xs[k] : Nat) : Int) != ((ys[k] : Nat) : Int)) = false := by assumption
          go_roundw
          case rel => exact ⟨k + 1, _, by omega, by go_num, rfl, takeN_succ_eq hlt' hlt ht (by have h := hne; simp at h; omega)⟩
          case measure => simp [intOf]; omega
      · go_wp2
        go_ret
        refine ⟨ret_bool ?_, _, rfl⟩
        have h0 := HL.out
        rw [List.take_of_length_le (by omega), List.take_of_length_le (by omega)] at ht
        simp [ht]
  · have hne : ((xs.length : Int) != (ys.length : Int)) = true := by simp; omega
    go_enter Try.func124, Try.ntmps124
    go_wp2
    go_ret
    refine ⟨ret_bool ?_, 0, rfl⟩
    have : xs ≠ ys := by rintro rfl; exact hlen rfl
    simp [this]


set_option maxRecDepth 100000 in
theorem equal_c {p q : Nat → Prop} {u v : Value} {a b : List Nat} (w : World) (ha : IsWords p w u a) (hb : IsWords q w v b) :
    Calls Try.prog 109 #[.agg #[u], .agg #[v]] w fun e w' => e = .returned (.bool (decide (a = b))) ∧ Below w.heap.size w w' := by
  go_enter Try.func109, Try.ntmps109
  go_wp2_with fail
  refine (sameWords_c _ (ha.keep (p' := p) (fun b h hb => ⟨h, (bel_alloc (bel_alloc (bel_refl w) _) _).block b hb⟩)) (hb.keep (p' := q) (fun b h hb => ⟨h, (bel_alloc (bel_alloc (bel_refl w) _) _).block b hb⟩))).mono ?_
  rintro e w1 ⟨rfl, n, rfl⟩
  have hbb := bel_drewN (bel_alloc (bel_alloc (bel_refl w) (.cells #[u] 96)) (.cells #[v] 96)) n
  go_wp2_with fail
  go_ret
  exact ⟨rfl, hbb⟩
end
end Go.Proofs.Ytcihobmjohpnkaa
