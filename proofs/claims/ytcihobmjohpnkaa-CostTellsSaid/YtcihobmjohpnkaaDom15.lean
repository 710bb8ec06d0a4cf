/- 'dom.Idom' and 'dom.Over' as contracts, and the document's example of chapter 15. -/
import Derived.Test.YtcihobmjohpnkaaDomI
import Derived.Test.YtcihobmjohpnkaaDomV
import Derived.Test.YtcihobmjohpnkaaFlow
namespace Go.Proofs.Ytcihobmjohpnkaa

section
open Go.RowKit Go.Sort

/-- The blocks over block b, rising. -/
def overL (L : List (List InsD)) (b : Int) : List Int := ((List.range L.length).map fun (i : Nat) => (i : Int)).filter fun a => overS L a b
def idStepS (L : List (List InsD)) (b cur a : Int) : Int := if a ≠ b ∧ (cur < 0 ∨ (overL L cur).length < (overL L a).length) then a else cur
/-- The nearest one over block b. -/
def idS (L : List (List InsD)) (b : Nat) : Int := (overL L b).foldl (idStepS L b) (-1)
theorem range_rising (n : Nat) : ((List.range n).map fun (i : Nat) => (i : Int)).Pairwise (· < ·) := by
  rw [List.pairwise_map]
  exact List.pairwise_lt_range.imp fun h => by omega
theorem OverOk.list {L : List (List InsD)} {D : List (List Nat)} (h : OverOk L D) {b : Nat} (hb : b < L.length) : listI (D.getD b []) = overL L b := by
  refine rising_ext (listI_rising _) ((range_rising _).filter _) fun x => ?_
  unfold overL
  rw [List.mem_filter, List.mem_map]
  constructor
  · intro hx
    obtain ⟨h1, h2⟩ := h.lt hb hx
    obtain ⟨x0, x1, -⟩ := order_range h1
    refine ⟨⟨x.toNat, List.mem_range.2 (by omega), by omega⟩, ?_⟩
    have h3 := h.over h2 x.toNat
    rw [Int.toNat_natCast, Int.toNat_of_nonneg x0] at h3
    rw [← h3]
    exact (mem_listI.1 hx).2
  · rintro ⟨⟨i, hi, rfl⟩, ho⟩
    have ho' := ho
    unfold overS at ho'
    simp only [Bool.and_eq_true, decide_eq_true_eq] at ho'
    have h3 := h.over ho'.1.2 i
    rw [Int.toNat_natCast] at h3
    rw [mem_listI]
    exact ⟨by omega, by rw [Int.toNat_natCast, h3]; exact ho⟩
theorem overL_range {L : List (List InsD)} {b x : Int} (h : x ∈ overL L b) : 0 ≤ x ∧ x < L.length := by
  unfold overL at h
  obtain ⟨h1, -⟩ := List.mem_filter.1 h
  obtain ⟨i, hi, rfl⟩ := List.mem_map.1 h1
  have := List.mem_range.1 hi
  omega
theorem OverOk.idAt {L : List (List InsD)} {D : List (List Nat)} (h : OverOk L D) {b : Nat} (hb : b < L.length) : idAt D b = idS L b := by
  unfold Proofs.Ytcihobmjohpnkaa.idAt idS
  rw [h.list hb]
  have hc : ∀ c : Int, 0 ≤ c → c < L.length → idC D c = (overL L c).length := fun c h0 h1 => by
    unfold idC
    rw [h.list (by omega), Int.toNat_of_nonneg h0]
  have key : ∀ (ys : List Int), (∀ y ∈ ys, 0 ≤ y ∧ y < L.length) → ∀ c : Int, (c < 0 ∨ (0 ≤ c ∧ c < L.length)) → ys.foldl (idStep D b) c = ys.foldl (idStepS L b) c := by
    intro ys
    induction ys with
    | nil => intro _ c _; rfl
    | cons y ys ih =>
      intro hy c hcc
      have y1 := hy y (by simp)
      have e : idStep D b c y = idStepS L b c y := by
        unfold idStep idStepS
        rcases hcc with hcc | hcc
        · simp [hcc]
        · rw [hc c hcc.1 hcc.2, hc y y1.1 y1.2]
      rw [List.foldl_cons, List.foldl_cons, e]
      refine ih (fun z hz => hy z (by simp [hz])) _ ?_
      unfold idStepS
      split
      · exact .inr y1
      · exact hcc
  exact key _ (fun y hy => overL_range hy) _ (.inl (by omega))

theorem idom_c {a : Option Addr} {n cap : Nat} (w : World) {L : List (List InsD)} (h : IsBlocks (· < w.heap.size) w (.slice a n cap) L) (hl : n ≤ 1000) :
    Calls Try.prog 50 #[.slice a n cap] w fun e w' => ∃ z, e = .returned z ∧ w'.ownsRow w.heap.size 3 1 z L.length (ints ((List.range L.length).map (idS L))) ∧ Below w.heap.size w w' := by
  have hnL : n = L.length := by obtain ⟨_, _, hv0, hl0, hx⟩ := id h; simp only [Value.slice.injEq] at hv0; exact hv0.2.1
  refine (callsIn_wide.1 (idom_in w h hl)).mono ?_
  rintro e w' ⟨z, D, rfl, hD, ho, hb⟩
  have e : (List.range n).map (idAt D) = (List.range L.length).map (idS L) := by
    rw [hnL]
    exact List.map_congr_left fun b hb => hD.idAt (List.mem_range.1 hb)
  rw [e, hnL] at ho
  exact ⟨z, rfl, ho, hb⟩

set_option maxRecDepth 100000 in
theorem domOver_c {a : Option Addr} {n cap : Nat} (w : World) {L : List (List InsD)} (h : IsBlocks (· < w.heap.size) w (.slice a n cap) L) (hl : n ≤ 1000) (x y : Int) :
    Calls Try.prog 52 #[.slice a n cap, .int .i64 x, .int .i64 y] w fun e w' => e = .returned (.bool (overS L x y)) ∧ Below w.heap.size w w' := by
  have hnL : n = L.length := by obtain ⟨_, _, hv0, hl0, hx⟩ := id h; simp only [Value.slice.injEq] at hv0; exact hv0.2.1
  have HOf := hid_of (tree_of w h hl)
  have HL : Hid (L.length ≤ 1000) := by show _ ≤ _; omega
  clear hnL h
  go_enter Try.func52, Try.ntmps52
  go_wp2_with fail
  refine HOf.out.mono ?_
  rintro e W1 ⟨t, R, D, rfl, hT, hb1⟩
  have HO := hid_of (over_t W1 hT HL.out x y)
  have HB := hid_of hb1
  clear hT hb1
  go_wp2_with fail
  refine HO.out.mono ?_
  rintro e W2 ⟨rfl, hb2⟩
  have HB2 := hid_of (bel_call HB.out hb2)
  clear hb2
  go_wp2_with fail
  go_ret
  exact ⟨rfl, HB2.out⟩

theorem alive15_I : (List.range (flowS [[1, 2], [3], [3], []]).length).map (idS (flowS [[1, 2], [3], [3], []])) = [-1, 0, 0, 0] := by decide +kernel
theorem alive15_F : frontP (flowS [[1, 2], [3], [3], []]) 1 (flowS [[1, 2], [3], [3], []]).length = [3] := by decide +kernel

set_option maxRecDepth 100000 in
set_option maxHeartbeats 2000000 in
theorem alive15_c (w : World) : Calls Try.prog 49 #[] w fun e w' => e = .returned (.bool true) ∧ Below w.heap.size w w' := by
  go_enter Try.func49, Try.ntmps49
  go_wp2_with fail
  generalize hW0 : (((w.alloc _).alloc _).alloc _).alloc _ = W0
  have hB0 : Below w.heap.size w W0 := by subst hW0; exact bel_alloc (bel_alloc (bel_alloc (bel_alloc (bel_refl w) _) _) _) _
  have hr : IsRows (w.heap.size ≤ ·) W0 (.slice (some ⟨w.heap.size + 1 + 1 + 1, 0, none⟩) 4 4) [[1, 2], [3], [3], []] := by
    subst hW0
    refine rows_of_row (ll := [[1, 2], [3], [3], []]) (vs := [Value.slice (some { block := w.heap.size, off := 0 }) 2 2, Value.slice (some { block := w.heap.size + 1, off := 0 }) 1 1, Value.slice (some { block := w.heap.size + 1 + 1, off := 0 }) 1 1, Value.slice none 0 0]) (e := 25) (heap_alloc_eq _ _ _ (by simp)) (by omega) rfl (by decide) fun j h1 h2 => ?_
    match j, h1 with
    | 0, _ => exact ints_of_row (xs := [1, 2]) (e := 3) (heap_alloc_ne _ _ _ _ (heap_alloc_ne _ _ _ _ (heap_alloc_ne _ _ _ _ (heap_alloc_eq _ _ _ (by simp))))) (Nat.le_refl _) (by decide)
    | 1, _ => exact ints_of_row (xs := [3]) (e := 3) (heap_alloc_ne _ _ _ _ (heap_alloc_ne _ _ _ _ (heap_alloc_eq _ _ _ (by simp)))) (by omega) (by decide)
    | 2, _ => exact ints_of_row (xs := [3]) (e := 3) (heap_alloc_ne _ _ _ _ (heap_alloc_eq _ _ _ (by simp))) (by omega) (by decide)
    | 3, _ => exact ints_nil _ _
  clear hW0
  refine (flow_c W0 hr (by decide)).mono ?_
  rintro e w1 ⟨u, rfl, hbl, hb1⟩
  have hB1 := bel_call hB0 hb1
  obtain ⟨ua, uc, rfl, -, -⟩ := id hbl
  have hlen : (flowS [[1, 2], [3], [3], []]).length = 4 := by decide
  rw [hlen] at hbl
  have HBL := hid_of (fun W (hW : Below w1.heap.size w1 W) => hbl.keep (p' := (· < W.heap.size)) (fun b _ hlt => ⟨Nat.lt_of_lt_of_le hlt hW.size, hW.block b hlt⟩))
  rw [hlen]
  have HI := hid_of (idom_c w1 (HBL.out w1 (bel_refl w1)) (by decide))
  clear hr hbl hb1 hB0
  go_wp2_with fail
  refine HI.out.mono ?_
  rintro e w2 ⟨z, rfl, ho, hb2⟩
  rw [alive15_I] at ho
  have hi : IsInts (fun _ => True) w2 z [-1, 0, 0, 0] := ints_of_owns (by rw [hlen] at ho; exact ho) (by decide) (fun _ _ _ _ => trivial)
  obtain ⟨za, zc, rfl, -, -⟩ := id hi
  have hB2 := bel_call hB1 hb2
  have HB12 := hid_of hb2
  clear ho hb2 HI
  go_wp2_with fail
  refine (sameInts_c (ys := [-1, 0, 0, 0]) _ (hi.keep (Keep.below (bel_alloc (bel_refl w2) _))) (ints_of_row (p := fun _ => True) (xs := [-1, 0, 0, 0]) (e := 3) (heap_alloc_eq _ _ _ rfl) trivial (by decide))).mono ?_
  rintro e w3 ⟨rfl, n, rfl⟩
  rw [sameS_self]
  have hb3 := bel_drewN (bel_alloc (bel_refl w2) (.cells #[.int .i64 (-1), .int .i64 0, .int .i64 0, .int .i64 0] 3)) n
  have HF := hid_of (frontier_c _ (HBL.out _ (bel_call HB12.out hb3)) (by decide) 1)
  have HB3 := hid_of (bel_call hB2 hb3)
  clear hi hB2 hb3 hB1
  go_wp2_with fail
  refine HF.out.mono ?_
  rintro e w4 ⟨z, rfl, ho, hb4⟩
  rw [alive15_F] at ho
  have hi : IsInts (fun _ => True) w4 z [3] := ints_of_owns ho (by decide) (fun _ _ _ _ => trivial)
  obtain ⟨za4, zc4, rfl, -, -⟩ := id hi
  have HB4 := hid_of (bel_call HB3.out hb4)
  clear ho hb4 HF
  go_wp2_with fail
  refine (sameInts_c (ys := [3]) _ (hi.keep (Keep.below (bel_alloc (bel_refl w4) _))) (ints_of_row (p := fun _ => True) (xs := [3]) (e := 3) (heap_alloc_eq _ _ _ rfl) trivial (by decide))).mono ?_
  rintro e w5 ⟨rfl, m, rfl⟩
  rw [sameS_self]
  have HB5 := hid_of (bel_drewN (bel_alloc HB4.out (.cells #[.int .i64 3] 3)) m)
  clear hi
  go_wp2_with fail
  go_ret
  exact ⟨rfl, HB5.out⟩
end

section
/- What stands over a block is a chain, in plain Lean; the nearest one; a row of blocks, a row of diamonds. -/
section
variable {L : List (List InsD)} {a b c : Int}
theorem over_mem (h : overS L a b = true) : a ∈ orderS L ∧ b ∈ orderS L := by
  unfold overS at h
  simp only [Bool.and_eq_true, decide_eq_true_eq] at h
  exact h.1
theorem over_refl (h : b ∈ orderS L) : overS L b b = true := by unfold overS; simp [h]
theorem over_zero (h : b ∈ orderS L) : overS L 0 b = true := (dm_over h).1 ⟨(order_range h).2.2, .inr (.inl rfl)⟩
theorem order_zero (h : b ∈ orderS L) : (0 : Int) ∈ orderS L := (over_mem (over_zero h)).1
theorem over_dm (h : overS L a b = true) : Dm L a b := (dm_over (over_mem h).2).2 h
theorem not_way (h : overS L a b = true) (h0 : a ≠ 0) (hne : a ≠ b) : ¬ Way (succX L a) 0 b := by
  rcases (over_dm h).2 with h1 | h1 | h1
  · exact absurd h1 hne
  · exact absurd h1 h0
  · exact h1
/-- A way that does not meet a: it meets b, or not. -/
theorem way_split (a b : Int) {z : Int} (h : Way (succX L a) 0 z) : Way (succX L b) 0 z ∨ Way (succX L a) 0 b := by
  induction h with
  | here => exact .inl (.here _)
  | @on y z hw hz ih =>
    obtain ⟨z1, z2⟩ := List.mem_filter.1 hz
    by_cases e : z = b
    · subst e; exact .inr (.on hw hz)
    · rcases ih with ih | ih
      · exact .inl (.on ih (List.mem_filter.2 ⟨z1, by simpa using e⟩))
      · exact .inr ih
theorem over_trans (h1 : overS L a b = true) (h2 : overS L b c = true) : overS L a c = true := by
  by_cases e0 : a = 0
  · subst e0; exact over_zero (over_mem h2).2
  by_cases e1 : a = b
  · subst e1; exact h2
  by_cases e2 : b = c
  · subst e2; exact h1
  have hb0 : b ≠ 0 := by
    rintro rfl
    exact not_way h1 e0 e1 (.here _)
  refine (dm_over (over_mem h2).2).1 ⟨(over_dm h2).1, .inr (.inr fun hw => ?_)⟩
  rcases way_split a b hw with h | h
  · exact not_way h2 hb0 e2 h
  · exact not_way h1 e0 e1 h
theorem over_anti (h1 : overS L a b = true) (h2 : overS L b a = true) : a = b := by
  apply Classical.byContradiction
  intro hne
  have a0 : a ≠ 0 := by
    rintro rfl
    exact not_way h2 (fun e => hne e.symm) (fun e => hne e.symm) (.here _)
  have b0 : b ≠ 0 := by
    rintro rfl
    exact not_way h1 a0 hne (.here _)
  have n1 := not_way h1 a0 hne
  have n2 := not_way h2 b0 (fun e => hne e.symm)
  have key : ∀ z, Way (succS L) 0 z → Way (succX L a) 0 z ∧ Way (succX L b) 0 z := fun z hz => by
    induction hz with
    | here => exact ⟨.here _, .here _⟩
    | @on y z _ hz ih =>
      have za : z ≠ a := by rintro rfl; exact n2 (.on ih.2 (List.mem_filter.2 ⟨hz, by simpa using hne⟩))
      have zb : z ≠ b := by rintro rfl; exact n1 (.on ih.1 (List.mem_filter.2 ⟨hz, by simpa using fun e => hne e.symm⟩))
      exact ⟨.on ih.1 (List.mem_filter.2 ⟨hz, by simpa using za⟩), .on ih.2 (List.mem_filter.2 ⟨hz, by simpa using zb⟩)⟩
  exact n1 (key b (over_dm h1).1).1
theorem over_line (h1 : overS L a c = true) (h2 : overS L b c = true) : overS L a b = true ∨ overS L b a = true := by
  by_cases e : a = b
  · subst e; exact .inl (over_refl (over_mem h1).1)
  by_cases a0 : a = 0
  · subst a0; exact .inl (over_zero (over_mem h2).1)
  by_cases b0 : b = 0
  · subst b0; exact .inr (over_zero (over_mem h1).1)
  by_cases ac : a = c
  · subst ac; exact .inr h2
  by_cases bc : b = c
  · subst bc; exact .inl h1
  apply Classical.byContradiction
  intro hn
  have w1 : Way (succX L a) 0 b := by
    apply Classical.byContradiction
    intro h
    exact hn (.inl ((dm_over (over_mem h2).1).1 ⟨(over_dm h2).reach, .inr (.inr h)⟩))
  have w2 : Way (succX L b) 0 a := by
    apply Classical.byContradiction
    intro h
    exact hn (.inr ((dm_over (over_mem h1).1).1 ⟨(over_dm h1).reach, .inr (.inr h)⟩))
  have key : ∀ z, Way (succS L) 0 z → Way (succX L a) 0 z ∨ Way (succX L b) 0 z := fun z hz => by
    induction hz with
    | here => exact .inl (.here _)
    | @on y z _ hz ih =>
      by_cases za : z = a
      · subst za; exact .inr w2
      by_cases zb : z = b
      · subst zb; exact .inl w1
      rcases ih with ih | ih
      · exact .inl (.on ih (List.mem_filter.2 ⟨hz, by simpa using za⟩))
      · exact .inr (.on ih (List.mem_filter.2 ⟨hz, by simpa using zb⟩))
  rcases key c (over_dm h1).1 with h | h
  · exact not_way h1 a0 ac h
  · exact not_way h2 b0 bc h

theorem mem_over {x : Int} : x ∈ overL L b ↔ overS L x b = true := by
  unfold overL
  rw [List.mem_filter, List.mem_map]
  constructor
  · exact fun h => h.2
  · intro h
    obtain ⟨h0, h1, -⟩ := order_range (over_mem h).1
    exact ⟨⟨x.toNat, List.mem_range.2 (by omega), by omega⟩, h⟩
theorem overL_nodup (L : List (List InsD)) (b : Int) : (overL L b).Nodup := ((range_rising L.length).filter _).imp fun h => by omega
theorem sub_len {xs ys : List Int} (hx : xs.Nodup) (h : ∀ z ∈ xs, z ∈ ys) : xs.length ≤ ys.length := by
  induction xs generalizing ys with
  | nil => simp
  | cons x xs ih =>
    have hxy := h x (by simp)
    obtain ⟨n1, n2⟩ := List.nodup_cons.1 hx
    have h1 := ih (ys := ys.erase x) n2 fun z hz => (List.mem_erase_of_ne (fun e : z = x => n1 (e ▸ hz))).2 (h z (by simp [hz]))
    rw [List.length_erase_of_mem hxy] at h1
    have := List.length_pos_of_mem hxy
    simp; omega
theorem overL_le (h : overS L a b = true) : (overL L a).length ≤ (overL L b).length :=
  sub_len (overL_nodup L a) fun _ hz => mem_over.2 (over_trans (mem_over.1 hz) h)
theorem overL_lt (h : overS L a b = true) (hne : a ≠ b) : (overL L a).length < (overL L b).length := by
  have hn : b ∉ overL L a := fun hb => hne (over_anti h (mem_over.1 hb))
  have := sub_len (xs := b :: overL L a) (ys := overL L b) (List.nodup_cons.2 ⟨hn, overL_nodup L a⟩) fun z hz => by
    rcases List.mem_cons.1 hz with rfl | hz
    · exact mem_over.2 (over_refl (over_mem h).2)
    · exact mem_over.2 (over_trans (mem_over.1 hz) h)
  rw [List.length_cons] at this
  omega
end

/-- What the fold for the nearest one holds, among those gone over. -/
theorem idS_fold (L : List (List InsD)) (b : Int) (ys : List Int) (hy : ∀ y ∈ ys, 0 ≤ y) : ∀ c : Int, c = -1 ∨ 0 ≤ c →
    (ys.foldl (idStepS L b) c = c ∨ ((ys.foldl (idStepS L b) c) ∈ ys ∧ ys.foldl (idStepS L b) c ≠ b)) ∧
    (0 ≤ c → 0 ≤ ys.foldl (idStepS L b) c ∧ (overL L c).length ≤ (overL L (ys.foldl (idStepS L b) c)).length) ∧
    (∀ y ∈ ys, y ≠ b → 0 ≤ ys.foldl (idStepS L b) c ∧ (overL L y).length ≤ (overL L (ys.foldl (idStepS L b) c)).length) := by
  induction ys with
  | nil => intro c hc; exact ⟨.inl rfl, fun h => ⟨h, Nat.le_refl _⟩, fun y hy => by simp at hy⟩
  | cons y ys ih =>
    intro c hc
    have y0 := hy y (by simp)
    rw [List.foldl_cons]
    have hc2 : idStepS L b c y = -1 ∨ 0 ≤ idStepS L b c y := by unfold idStepS; split <;> omega
    obtain ⟨i1, i2, i3⟩ := ih (fun z hz => hy z (by simp [hz])) (idStepS L b c y) hc2
    by_cases hs : y ≠ b ∧ (c < 0 ∨ (overL L c).length < (overL L y).length)
    · have e : idStepS L b c y = y := by unfold idStepS; rw [if_pos hs]
      rw [e] at i1 i2 ⊢
      rw [e] at i3
      obtain ⟨j1, j2⟩ := i2 y0
      refine ⟨.inr ?_, fun h0 => ⟨j1, ?_⟩, fun z hz hzb => ?_⟩
      · rcases i1 with i1 | i1
        · rw [i1]; exact ⟨by simp, hs.1⟩
        · exact ⟨List.mem_cons_of_mem _ i1.1, i1.2⟩
      · rcases hs.2 with h1 | h1 <;> omega
      · rcases List.mem_cons.1 hz with rfl | hz
        · exact ⟨j1, j2⟩
        · exact i3 z hz hzb
    · have e : idStepS L b c y = c := by unfold idStepS; rw [if_neg hs]
      rw [e] at i1 i2 ⊢
      rw [e] at i3
      refine ⟨?_, i2, fun z hz hzb => ?_⟩
      · rcases i1 with i1 | i1
        · exact .inl i1
        · exact .inr ⟨List.mem_cons_of_mem _ i1.1, i1.2⟩
      · rcases List.mem_cons.1 hz with rfl | hz
        · have h1 : ¬ (c < 0 ∨ (overL L c).length < (overL L z).length) := fun h => hs ⟨hzb, h⟩
          have := i2 (by omega)
          omega
        · exact i3 z hz hzb
section
variable {L : List (List InsD)} {b : Nat}
theorem overL_nn {x c : Int} (h : x ∈ overL L c) : 0 ≤ x := (order_range (over_mem (mem_over.1 h)).1).1
/-- No other one is over it: there is no nearest. -/
theorem idS_none (h : ∀ z, overS L z b = true → z = b) : idS L b = -1 := by
  obtain ⟨h1, -, -⟩ := idS_fold L b (overL L b) (fun _ hy => overL_nn hy) (-1) (.inl rfl)
  unfold idS
  rcases h1 with h1 | h1
  · exact h1
  · exact absurd (h _ (mem_over.1 h1.1)) h1.2
/-- Else the nearest is over it, and all others that are over it are over the nearest. -/
theorem idS_some {a : Int} (h : overS L a b = true) (hne : a ≠ b) : overS L (idS L b) b = true ∧ idS L b ≠ b ∧ 0 ≤ idS L b ∧ (overL L b).length = (overL L (idS L b)).length + 1 ∧ ∀ z, overS L z b = true → z ≠ b → overS L z (idS L b) = true := by
  obtain ⟨h1, -, h3⟩ := idS_fold L b (overL L b) (fun _ hy => overL_nn hy) (-1) (.inl rfl)
  change idS L b = -1 ∨ idS L b ∈ overL L b ∧ idS L b ≠ b at h1
  change ∀ y ∈ overL L b, y ≠ b → 0 ≤ idS L b ∧ (overL L y).length ≤ (overL L (idS L b)).length at h3
  have g := h3 a (mem_over.2 h) hne
  rcases h1 with h1 | ⟨h1, h2⟩
  · omega
  have ho := mem_over.1 h1
  have hall : ∀ z, overS L z b = true → z ≠ b → overS L z (idS L b) = true := fun z hz hzb => by
    rcases over_line hz ho with h4 | h4
    · exact h4
    · by_cases e : idS L b = z
      · rw [e] at h4 ⊢; exact h4
      · have := overL_lt h4 e
        have := (h3 z (mem_over.2 hz) hzb).2
        omega
  refine ⟨ho, h2, g.1, ?_, hall⟩
  have l1 := overL_lt ho h2
  have l2 := sub_len (xs := overL L b) (ys := (b : Int) :: overL L (idS L b)) (overL_nodup L b) fun z hz => by
    by_cases e : z = b
    · exact List.mem_cons.2 (.inl e)
    · exact List.mem_cons_of_mem _ (mem_over.2 (hall z (mem_over.1 hz) e))
  rw [List.length_cons] at l2
  omega
/-- The nearest is the one that all others that are over it are over. -/
theorem idS_eq {y : Int} (h : overS L y b = true) (hne : y ≠ b) (hall : ∀ z, overS L z b = true → z ≠ b → overS L z y = true) : idS L b = y := by
  obtain ⟨h1, h2, -, -, h5⟩ := idS_some h hne
  exact over_anti (hall _ h1 h2) (h5 _ h hne)
theorem idS_off (h : (b : Int) ∉ orderS L) : idS L b = -1 := idS_none fun _ ha => absurd (over_mem ha).2 h
theorem idS_lt (L : List (List InsD)) (b : Nat) : idS L b = -1 ∨ (0 ≤ idS L b ∧ idS L b < L.length) := by
  obtain ⟨h1, -, -⟩ := idS_fold L b (overL L b) (fun _ hy => overL_nn hy) (-1) (.inl rfl)
  change idS L b = -1 ∨ idS L b ∈ overL L b ∧ idS L b ≠ b at h1
  rcases h1 with h1 | h1
  · exact .inl h1
  · have := order_range (over_mem (mem_over.1 h1.1)).1
    exact .inr ⟨this.1, this.2.1⟩
end

/-- Going up from block b, after i steps: at x. -/
structure UpAt (L : List (List InsD)) (b i : Nat) (x : Int) : Prop where
  ge : -1 ≤ x
  lt : x < L.length
  on : 0 ≤ x → overS L x b = true ∧ i + (overL L x).length = (overL L b).length
  off : x < 0 → i = (overL L b).length
theorem UpAt.start {L : List (List InsD)} {b : Nat} (h : (b : Int) ∈ orderS L) : UpAt L b 0 b := by
  have := order_range h
  exact ⟨by omega, by omega, fun _ => ⟨over_refl h, by omega⟩, fun h => by omega⟩
theorem UpAt.step {L : List (List InsD)} {b i : Nat} {xN : Nat} (h : UpAt L b i (xN : Int)) : UpAt L b (i + 1) (idS L xN) := by
  obtain ⟨h1, h2⟩ := h.on (by omega)
  have hx := (over_mem h1).1
  rcases idS_lt L xN with e | e
  · rw [e]
    refine ⟨by omega, by omega, fun h => by omega, fun _ => ?_⟩
    have hx0 : (xN : Int) = 0 := by
      apply Classical.byContradiction
      intro hne
      have := (idS_some (over_zero hx) (fun e => hne e.symm)).2.2.1
      omega
    have : ∀ z ∈ overL L (xN : Int), z ∈ [(0 : Int)] := fun z hz => by
      have h3 := mem_over.1 hz
      rw [hx0] at h3
      have := over_anti h3 (over_zero (over_mem h3).1)
      simp [this]
    have l1 := sub_len (overL_nodup L xN) this
    have l2 : 0 < (overL L (xN : Int)).length := List.length_pos_iff.2 (List.ne_nil_of_mem (mem_over.2 (over_refl hx)))
    simp at l1
    omega
  · have hne : ∃ a, overS L a xN = true ∧ a ≠ (xN : Int) := by
      apply Classical.byContradiction
      intro hn
      have := idS_none (L := L) (b := xN) fun a ha => Classical.byContradiction fun hh => hn ⟨a, ha, hh⟩
      omega
    obtain ⟨a, ha, han⟩ := hne
    obtain ⟨k1, -, -, k4, -⟩ := idS_some ha han
    exact ⟨by omega, e.2, fun _ => ⟨over_trans k1 h1, by omega⟩, fun h => by omega⟩
theorem UpAt.few {L : List (List InsD)} {b i : Nat} {x : Int} (h : UpAt L b i x) (hx : 0 ≤ x) : i < L.length := by
  obtain ⟨h1, h2⟩ := h.on hx
  have l2 : 0 < (overL L x).length := List.length_pos_iff.2 (List.ne_nil_of_mem (mem_over.2 (over_refl (over_mem h1).1)))
  have : (overL L (b : Int)).length ≤ L.length := by
    unfold overL
    exact Nat.le_trans (List.length_filter_le _ _) (by simp)
  omega

/-- Over, where it is known of ways. -/
theorem over_iff {L : List (List InsD)} {b : Int} (a : Int) (hn : 0 < L.length) (hb : Way (succS L) 0 b) : overS L a b = true ↔ (a = b ∨ a = 0 ∨ ¬ Way (succX L a) 0 b) := by
  rw [← dm_over (order_way hn hb)]
  exact ⟨fun h => h.2, fun h => ⟨hb, h⟩⟩
end

section
/- A row of blocks, a row of diamonds: what is over what, in plain Lean. -/
theorem flow_len (ll : List (List Int)) : (flowS ll).length = ll.length := by simp [flowS]
theorem flow_succ {ll : List (List Int)} (a : Nat) (y : Int) : y ∈ succS (flowS ll) a ↔ (a < ll.length ∧ y ∈ (ll.getD a []).take 2) ∧ 0 ≤ y ∧ y < ll.length := by
  unfold succS
  rw [if_pos (by omega)]
  unfold succN
  rw [Int.toNat_natCast, flow_len]
  by_cases hl : a < ll.length
  · have e : (flowS ll).getD a [] = flowRow ll[a] := by simp [flowS, List.getD, hl]
    have e2 : ll.getD a [] = ll[a] := by simp [List.getD, hl]
    rw [e, e2]
    generalize ll[a] = row
    rcases row with _ | ⟨t, _ | ⟨f, r⟩⟩
    · simp [flowRow, rawS]
    · simp [flowRow, rawS, inR, hl]
    · simp only [flowRow, List.getLast?_singleton, rawS, if_pos, List.mem_filter, inR, Bool.and_eq_true, decide_eq_true_eq, List.take_succ_cons, List.take_zero, hl, true_and]
      refine and_congr ?_ Iff.rfl
      split
      · rename_i h; subst h; simp
      · simp
  · have e : (flowS ll).getD a [] = [] := by simp [flowS, List.getD, show ll.length ≤ a by omega]
    rw [e]
    simp [hl]
theorem succX_mem {L : List (List InsD)} {nt x y : Int} : y ∈ succX L nt x ↔ y ∈ succS L x ∧ y ≠ nt := by
  unfold succX; rw [List.mem_filter]; simp
theorem way_on {L : List (List InsD)} {nt b y z : Int} (h : Way (succX L nt) b y) (hz : z ∈ succS L y) (hne : z ≠ nt) : Way (succX L nt) b z := .on h (succX_mem.2 ⟨hz, hne⟩)
theorem way_range {L : List (List InsD)} {z : Int} (hn : 0 < L.length) (h : Way (succS L) 0 z) : 0 ≤ z ∧ z < L.length := by
  cases h with
  | here => omega
  | on _ hz => exact succS_range L _ _ hz
theorem not_over_out {L : List (List InsD)} {a b : Int} (h : a < 0 ∨ (L.length : Int) ≤ a ∨ b < 0 ∨ (L.length : Int) ≤ b) : overS L a b = false := by
  cases ho : overS L a b with
  | false => rfl
  | true =>
    have h1 := order_range (over_mem ho).1
    have h2 := order_range (over_mem ho).2
    omega

/-- A row of n blocks. -/
def chainR (n k : Nat) : List (List Int) := (List.range k).map fun i => if i + 1 < n then [((i + 1 : Nat) : Int)] else []
theorem chainR_length (n k : Nat) : (chainR n k).length = k := by simp [chainR]
theorem chainR_succ (n k : Nat) : chainR n (k + 1) = chainR n k ++ [if k + 1 < n then [((k + 1 : Nat) : Int)] else []] := by simp [chainR, List.range_succ]
abbrev chainL (n : Nat) : List (List InsD) := flowS (chainR n n)
theorem chainL_length (n : Nat) : (chainL n).length = n := by rw [flow_len, chainR_length]
theorem chain_succ {n a : Nat} (y : Int) : y ∈ succS (chainL n) a ↔ a + 1 < n ∧ y = ((a + 1 : Nat) : Int) := by
  rw [flow_succ, chainR_length]
  by_cases ha : a < n
  · have e : (chainR n n).getD a [] = if a + 1 < n then [((a + 1 : Nat) : Int)] else [] := by simp [chainR, List.getD, ha]
    rw [e]
    by_cases h : a + 1 < n
    · rw [if_pos h]; simp; omega
    · rw [if_neg h]; simp [h]
  · constructor
    · intro h; omega
    · intro h; omega
theorem chain_way {n b : Nat} (h : b < n) (a : Int) (ha : a ≤ 0 ∨ (b : Int) < a) : Way (succX (chainL n) a) 0 b := by
  induction b with
  | zero => exact .here _
  | succ b ih => exact way_on (ih (by omega) (by omega)) ((chain_succ _).2 ⟨h, rfl⟩) (by omega)
theorem chain_reach {n b : Nat} (h : b < n) : Way (succS (chainL n)) 0 b := way_in _ _ (chain_way h (-1) (.inl (by omega)))
theorem chain_over {n : Nat} (a b : Nat) (hb : b < n) : overS (chainL n) a b = decide (a ≤ b) := by
  have hn : 0 < (chainL n).length := by rw [chainL_length]; omega
  rw [Bool.eq_iff_iff, over_iff _ hn (chain_reach hb), decide_eq_true_eq]
  constructor
  · intro h
    apply Classical.byContradiction
    intro hab
    rcases h with h | h | h
    · omega
    · omega
    · exact h (chain_way hb a (.inr (by omega)))
  · intro h
    by_cases e : a = b
    · exact .inl (by omega)
    by_cases e0 : a = 0
    · exact .inr (.inl (by omega))
    refine .inr (.inr fun hw => ?_)
    have key : ∀ z, Way (succX (chainL n) a) 0 z → 0 ≤ z ∧ z < a := fun z hz => by
      induction hz with
      | here => omega
      | @on y z _ hz ih =>
        obtain ⟨z1, z2⟩ := succX_mem.1 hz
        obtain ⟨yN, rfl⟩ : ∃ yN : Nat, y = yN := ⟨y.toNat, by omega⟩
        have := (chain_succ z).1 z1
        omega
    have := key b hw
    omega

theorem over_nat {L : List (List InsD)} {z : Int} {b : Int} (h : overS L z b = true) : ∃ k : Nat, z = k ∧ k < L.length := by
  have := order_range (over_mem h).1
  exact ⟨z.toNat, by omega, by omega⟩
theorem chain_id {n b : Nat} (hb : b < n) : idS (chainL n) b = (b : Int) - 1 := by
  by_cases h0 : b = 0
  · subst h0
    rw [idS_none fun a ha => ?_]
    · rfl
    · obtain ⟨k, rfl, hk⟩ := over_nat ha
      rw [chain_over k 0 hb, decide_eq_true_eq] at ha
      omega
  · have e : (b : Int) - 1 = ((b - 1 : Nat) : Int) := by omega
    rw [e]
    refine idS_eq ?_ (by omega) fun z hz hne => ?_
    · rw [chain_over _ _ hb]; simp
    · obtain ⟨k, rfl, hk⟩ := over_nat hz
      rw [chain_over k b hb, decide_eq_true_eq] at hz
      rw [chain_over _ _ (by omega), decide_eq_true_eq]
      omega
theorem frontP_nil {L : List (List InsD)} {a : Int} {k : Nat} (h : ∀ c : Nat, c < k → frontB L a c = false) : frontP L a k = [] := by
  unfold frontP
  rw [List.filter_eq_nil_iff]
  intro c hc
  obtain ⟨i, hi, rfl⟩ := List.mem_map.1 hc
  rw [h i (List.mem_range.1 hi)]
  simp
theorem frontB_iff {L : List (List InsD)} {a b : Int} : frontB L a b = true ↔ b ∈ orderS L ∧ (∃ p, b ∈ succS L p ∧ overS L a p = true) ∧ (a = b ∨ overS L a b = false) := by
  unfold frontB
  rw [Bool.and_eq_true, Bool.and_eq_true, List.any_eq_true, Bool.or_eq_true, decide_eq_true_eq, decide_eq_true_eq, Bool.not_eq_true']
  constructor
  · rintro ⟨⟨h1, p, hp, h2⟩, h3⟩
    rw [Bool.and_eq_true, decide_eq_true_eq] at h2
    exact ⟨h1, ⟨p, h2⟩, h3⟩
  · rintro ⟨h1, ⟨p, h2⟩, h3⟩
    exact ⟨⟨h1, p, (over_mem h2.2).2, by simp [h2.1, h2.2]⟩, h3⟩
theorem chain_front (n a k : Nat) : frontP (chainL n) a k = [] :=
  frontP_nil fun c hc => by
    cases h : frontB (chainL n) a c with
    | false => rfl
    | true =>
      obtain ⟨-, ⟨p, h1, h2⟩, h3⟩ := frontB_iff.1 h
      have := order_range (over_mem h2).2
      obtain ⟨pN, rfl⟩ : ∃ pN : Nat, p = pN := ⟨p.toNat, by omega⟩
      have h4 := (chain_succ _).1 h1
      rw [chain_over a pN (by omega), decide_eq_true_eq] at h2
      rcases h3 with h3 | h3
      · omega
      · rw [chain_over a c (by omega), decide_eq_false_iff_not] at h3
        omega

/-- A row of n diamonds: the first k rows of it. -/
def diaR (n : Nat) : List (List Int) := ((List.range n).flatMap fun i => [[((3 * i + 1 : Nat) : Int), ((3 * i + 2 : Nat) : Int)], [((3 * i + 3 : Nat) : Int)], [((3 * i + 3 : Nat) : Int)]])
theorem diaR_succ (n : Nat) : diaR (n + 1) = diaR n ++ [[((3 * n + 1 : Nat) : Int), ((3 * n + 2 : Nat) : Int)], [((3 * n + 3 : Nat) : Int)], [((3 * n + 3 : Nat) : Int)]] := by simp [diaR, List.range_succ]
theorem diaR_length (n : Nat) : (diaR n).length = 3 * n := by
  induction n with
  | zero => rfl
  | succ n ih => rw [diaR_succ, List.length_append, ih]; simp; omega
def diaRow (a : Nat) : List Int := if a % 3 = 0 then [((a + 1 : Nat) : Int), ((a + 2 : Nat) : Int)] else [((a / 3 * 3 + 3 : Nat) : Int)]
theorem diaR_get {n a : Nat} (h : a < 3 * n) : (diaR n).getD a [] = diaRow a := by
  induction n with
  | zero => omega
  | succ n ih =>
    rw [diaR_succ]
    by_cases hl : a < 3 * n
    · rw [← ih hl, List.getD_eq_getElem?_getD, List.getElem?_append_left (by rw [diaR_length]; exact hl), List.getD_eq_getElem?_getD]
    · rw [List.getD_eq_getElem?_getD, List.getElem?_append_right (by rw [diaR_length]; omega), diaR_length]
      have h3 : a = 3 * n ∨ a = 3 * n + 1 ∨ a = 3 * n + 2 := by omega
      unfold diaRow
      rcases h3 with rfl | rfl | rfl
      · simp
      · have e1 : (3 * n + 1) % 3 = 1 := by omega
        have e2 : (3 * n + 1) / 3 * 3 = 3 * n := by omega
        rw [e1, e2]; simp
      · have e1 : (3 * n + 2) % 3 = 2 := by omega
        have e2 : (3 * n + 2) / 3 * 3 = 3 * n := by omega
        rw [e1, e2]; simp
abbrev diaL (n : Nat) : List (List InsD) := flowS (diaR n ++ [[]])
theorem diaL_length (n : Nat) : (diaL n).length = 3 * n + 1 := by rw [flow_len, List.length_append, diaR_length]; rfl
theorem dia_succ {n a : Nat} (y : Int) : y ∈ succS (diaL n) a ↔ a < 3 * n ∧ y ∈ diaRow a := by
  rw [flow_succ, List.length_append, diaR_length]
  by_cases ha : a < 3 * n
  · have e : (diaR n ++ [[]]).getD a [] = diaRow a := by
      rw [← diaR_get ha, List.getD_eq_getElem?_getD, List.getElem?_append_left (by rw [diaR_length]; exact ha), List.getD_eq_getElem?_getD]
    rw [e]
    unfold diaRow
    have hd : a % 3 = 0 → a + 2 < 3 * n := by omega
    split <;> simp <;> omega
  · constructor
    · rintro ⟨⟨h1, h2⟩, -⟩
      have : a = 3 * n := by simp at h1; omega
      subst this
      rw [List.getD_eq_getElem?_getD, List.getElem?_append_right (by rw [diaR_length]; omega), diaR_length] at h2
      simp at h2
    · intro h; omega
theorem dia_way {n : Nat} (a : Int) (b : Nat) (hb : b ≤ 3 * n) (ha : (b : Int) ≠ a) (h : (a % 3 ≠ 0) ∨ (b : Int) < a ∨ a < 0) : Way (succX (diaL n) a) 0 b := by
  induction b using Nat.strongRecOn with
  | _ b ih =>
    by_cases h0 : b = 0
    · subst h0; exact .here _
    by_cases hm : b % 3 = 0
    · by_cases e : ((b - 1 : Nat) : Int) = a
      · refine way_on (ih (b - 2) (by omega) (by omega) (by omega) (by omega)) ((dia_succ _).2 ⟨by omega, ?_⟩) ha
        unfold diaRow
        rw [if_neg (by omega)]
        simp; omega
      · refine way_on (ih (b - 1) (by omega) (by omega) e (by omega)) ((dia_succ _).2 ⟨by omega, ?_⟩) ha
        unfold diaRow
        rw [if_neg (by omega)]
        simp; omega
    · refine way_on (ih (b / 3 * 3) (by omega) (by omega) (by omega) (by omega)) ((dia_succ _).2 ⟨by omega, ?_⟩) ha
      unfold diaRow
      rw [if_pos (by omega)]
      simp; omega
theorem dia_reach {n b : Nat} (h : b ≤ 3 * n) : Way (succS (diaL n)) 0 b := way_in _ _ (dia_way (-1) b h (by omega) (by omega))
theorem dia_over {n : Nat} (a b : Nat) (hb : b ≤ 3 * n) : overS (diaL n) a b = decide (a = b ∨ a < b ∧ a % 3 = 0) := by
  have hn : 0 < (diaL n).length := by rw [diaL_length]; omega
  rw [Bool.eq_iff_iff, over_iff _ hn (dia_reach hb), decide_eq_true_eq]
  constructor
  · intro h
    apply Classical.byContradiction
    intro hab
    rcases h with h | h | h
    · omega
    · omega
    · exact h (dia_way a b hb (by omega) (by omega))
  · intro h
    by_cases e : a = b
    · exact .inl (by omega)
    by_cases e0 : a = 0
    · exact .inr (.inl (by omega))
    refine .inr (.inr fun hw => ?_)
    have key : ∀ z, Way (succX (diaL n) a) 0 z → 0 ≤ z ∧ z < a := fun z hz => by
      induction hz with
      | here => omega
      | @on y z _ hz ih =>
        obtain ⟨z1, z2⟩ := succX_mem.1 hz
        obtain ⟨yN, rfl⟩ : ∃ yN : Nat, y = yN := ⟨y.toNat, by omega⟩
        obtain ⟨h1, h2⟩ := (dia_succ z).1 z1
        unfold diaRow at h2
        split at h2
        · simp at h2; omega
        · simp at h2; omega
    have := key b hw
    omega
theorem dia_id {n b : Nat} (hb : b ≤ 3 * n) (h0 : 0 < b) : idS (diaL n) b = (((b - 1) / 3 * 3 : Nat) : Int) := by
  refine idS_eq ?_ (by omega) fun z hz hne => ?_
  · rw [dia_over _ _ hb, decide_eq_true_eq]; omega
  · obtain ⟨k, rfl, hk⟩ := over_nat hz
    rw [dia_over k b hb, decide_eq_true_eq] at hz
    rw [dia_over _ _ (by omega), decide_eq_true_eq]
    omega
theorem dia_frontB {n b c : Nat} (hb : b ≤ 3 * n) (hc : c ≤ 3 * n) : frontB (diaL n) b c = true ↔ b % 3 ≠ 0 ∧ c = (b / 3 + 1) * 3 := by
  rw [frontB_iff]
  constructor
  · rintro ⟨-, ⟨p, h1, h2⟩, h3⟩
    have := order_range (over_mem h2).2
    rw [diaL_length] at this
    obtain ⟨pN, rfl⟩ : ∃ pN : Nat, p = pN := ⟨p.toNat, by omega⟩
    obtain ⟨h4, h5⟩ := (dia_succ _).1 h1
    rw [dia_over b pN (by omega), decide_eq_true_eq] at h2
    rw [dia_over b c hc, decide_eq_false_iff_not] at h3
    unfold diaRow at h5
    split at h5
    · simp at h5; omega
    · simp at h5; omega
  · rintro ⟨h1, rfl⟩
    refine ⟨order_way (by rw [diaL_length]; omega) (dia_reach hc), ⟨b, (dia_succ _).2 ⟨by omega, ?_⟩, ?_⟩, .inr ?_⟩
    · unfold diaRow; rw [if_neg h1]; simp; omega
    · rw [dia_over b b hb]; simp
    · rw [dia_over b _ hc, decide_eq_false_iff_not]; omega
theorem range_filter_one {n c : Nat} (hc : c < n) : (((List.range n).map fun (i : Nat) => (i : Int)).filter fun x => decide (x = (c : Int))) = [(c : Int)] := by
  refine rising_ext ((range_rising n).filter _) (by simp) fun x => ?_
  rw [List.mem_filter, List.mem_map, decide_eq_true_eq, List.mem_singleton]
  exact ⟨fun h => h.2, fun h => ⟨⟨c, List.mem_range.2 hc, h.symm⟩, h⟩⟩
theorem dia_front {n b : Nat} (hb : b ≤ 3 * n) : frontP (diaL n) b (diaL n).length = if b % 3 ≠ 0 then [(((b / 3 + 1) * 3 : Nat) : Int)] else [] := by
  rw [diaL_length]
  split
  · rename_i h
    rw [← range_filter_one (n := 3 * n + 1) (c := (b / 3 + 1) * 3) (by omega)]
    unfold frontP
    refine List.filter_congr fun x hx => ?_
    obtain ⟨i, hi, rfl⟩ := List.mem_map.1 hx
    have hi := List.mem_range.1 hi
    rw [Bool.eq_iff_iff, dia_frontB hb (by omega), decide_eq_true_eq]
    omega
  · rename_i h
    refine frontP_nil fun c hc => ?_
    rw [← Bool.not_eq_true, dia_frontB hb (by omega)]
    omega
end
end Go.Proofs.Ytcihobmjohpnkaa
