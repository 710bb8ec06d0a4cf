/- 'dom.Idom' and 'dom.Over' as contracts, and the document's example of chapter 15. -/
import Derived.Test.YtcihobmjohpnkaaDomI
import Derived.Test.YtcihobmjohpnkaaDomV
import Derived.Test.YtcihobmjohpnkaaFlow
namespace Go.Proofs.Ytcihobmjohpnkaa
open Go.RowKit Go.Sort

/-- The blocks over block b, rising. -/
def overL (L : List (List InsD)) (b : Int) : List Int := ((List.range L.length).map fun (i : Nat) => (i : Int)).filter fun a => overS L a b
def idStepS (L : List (List InsD)) (b cur a : Int) : Int := if a ≠ b ∧ (cur < 0 ∨ (overL L cur).length < (overL L a).length) then a else cur
/-- The nearest one over block b. -/
def idS (L : List (List InsD)) (b : Nat) : Int := (overL L b).foldl (idStepS L b) (-1)
theorem range_rising (n : Nat) : ((List.range n).map fun (i : Nat) => (i : Int)).Pairwise (· < ·) := by
  rw [List.pairwise_map]
  exact List.pairwise_lt_range.imp fun h => by omega
theorem OverOk.list {L : List (List InsD)} {D : List (List Nat)} (h : OverOk L D) {b : Nat} (hb : b < L.length) : listI (D.getD b []) = overL L b := by
  refine rising_ext (listI_rising _) ((range_rising _).filter _) fun x => ?_
  unfold overL
  rw [List.mem_filter, List.mem_map]
  constructor
  · intro hx
    obtain ⟨h1, h2⟩ := h.lt hb hx
    obtain ⟨x0, x1, -⟩ := order_range h1
    refine ⟨⟨x.toNat, List.mem_range.2 (by omega), by omega⟩, ?_⟩
    have h3 := h.over h2 x.toNat
    rw [Int.toNat_natCast, Int.toNat_of_nonneg x0] at h3
    rw [← h3]
    exact (mem_listI.1 hx).2
  · rintro ⟨⟨i, hi, rfl⟩, ho⟩
    have ho' := ho
    unfold overS at ho'
    simp only [Bool.and_eq_true, decide_eq_true_eq] at ho'
    have h3 := h.over ho'.1.2 i
    rw [Int.toNat_natCast] at h3
    rw [mem_listI]
    exact ⟨by omega, by rw [Int.toNat_natCast, h3]; exact ho⟩
theorem overL_range {L : List (List InsD)} {b x : Int} (h : x ∈ overL L b) : 0 ≤ x ∧ x < L.length := by
  unfold overL at h
  obtain ⟨h1, -⟩ := List.mem_filter.1 h
  obtain ⟨i, hi, rfl⟩ := List.mem_map.1 h1
  have := List.mem_range.1 hi
  omega
theorem OverOk.idAt {L : List (List InsD)} {D : List (List Nat)} (h : OverOk L D) {b : Nat} (hb : b < L.length) : idAt D b = idS L b := by
  unfold Proofs.Ytcihobmjohpnkaa.idAt idS
  rw [h.list hb]
  have hc : ∀ c : Int, 0 ≤ c → c < L.length → idC D c = (overL L c).length := fun c h0 h1 => by
    unfold idC
    rw [h.list (by omega), Int.toNat_of_nonneg h0]
  have key : ∀ (ys : List Int), (∀ y ∈ ys, 0 ≤ y ∧ y < L.length) → ∀ c : Int, (c < 0 ∨ (0 ≤ c ∧ c < L.length)) → ys.foldl (idStep D b) c = ys.foldl (idStepS L b) c := by
    intro ys
    induction ys with
    | nil => intro _ c _; rfl
    | cons y ys ih =>
      intro hy c hcc
      have y1 := hy y (by simp)
      have e : idStep D b c y = idStepS L b c y := by
        unfold idStep idStepS
        rcases hcc with hcc | hcc
        · simp [hcc]
        · rw [hc c hcc.1 hcc.2, hc y y1.1 y1.2]
      rw [List.foldl_cons, List.foldl_cons, e]
      refine ih (fun z hz => hy z (by simp [hz])) _ ?_
      unfold idStepS
      split
      · exact .inr y1
      · exact hcc
  exact key _ (fun y hy => overL_range hy) _ (.inl (by omega))

theorem idom_c {a : Option Addr} {n cap : Nat} (w : World) {L : List (List InsD)} (h : IsBlocks (· < w.heap.size) w (.slice a n cap) L) (hl : n ≤ 1000) :
    Calls Try.prog 50 #[.slice a n cap] w fun e w' => ∃ z, e = .returned z ∧ w'.ownsRow w.heap.size 3 1 z L.length (ints ((List.range L.length).map (idS L))) ∧ Below w.heap.size w w' := by
  have hnL : n = L.length := by obtain ⟨_, _, hv0, hl0, hx⟩ := id h; simp only [Value.slice.injEq] at hv0; exact hv0.2.1
  refine (callsIn_wide.1 (idom_in w h hl)).mono ?_
  rintro e w' ⟨z, D, rfl, hD, ho, hb⟩
  have e : (List.range n).map (idAt D) = (List.range L.length).map (idS L) := by
    rw [hnL]
    exact List.map_congr_left fun b hb => hD.idAt (List.mem_range.1 hb)
  rw [e, hnL] at ho
  exact ⟨z, rfl, ho, hb⟩

set_option maxRecDepth 100000 in
theorem domOver_c {a : Option Addr} {n cap : Nat} (w : World) {L : List (List InsD)} (h : IsBlocks (· < w.heap.size) w (.slice a n cap) L) (hl : n ≤ 1000) (x y : Int) :
    Calls Try.prog 52 #[.slice a n cap, .int .i64 x, .int .i64 y] w fun e w' => e = .returned (.bool (overS L x y)) ∧ Below w.heap.size w w' := by
  have hnL : n = L.length := by obtain ⟨_, _, hv0, hl0, hx⟩ := id h; simp only [Value.slice.injEq] at hv0; exact hv0.2.1
  have HOf := hid_of (tree_of w h hl)
  have HL : Hid (L.length ≤ 1000) := by show _ ≤ _; omega
  clear hnL h
  go_enter Try.func52, Try.ntmps52
  go_wp2_with fail
  refine HOf.out.mono ?_
  rintro e W1 ⟨t, R, D, rfl, hT, hb1⟩
  have HO := hid_of (over_t W1 hT HL.out x y)
  have HB := hid_of hb1
  clear hT hb1
  go_wp2_with fail
  refine HO.out.mono ?_
  rintro e W2 ⟨rfl, hb2⟩
  have HB2 := hid_of (bel_call HB.out hb2)
  clear hb2
  go_wp2_with fail
  go_ret
  exact ⟨rfl, HB2.out⟩

theorem alive15_I : (List.range (flowS [[1, 2], [3], [3], []]).length).map (idS (flowS [[1, 2], [3], [3], []])) = [-1, 0, 0, 0] := by decide +kernel
theorem alive15_F : frontP (flowS [[1, 2], [3], [3], []]) 1 (flowS [[1, 2], [3], [3], []]).length = [3] := by decide +kernel

set_option maxRecDepth 100000 in
set_option maxHeartbeats 2000000 in
theorem alive15_c (w : World) : Calls Try.prog 49 #[] w fun e w' => e = .returned (.bool true) ∧ Below w.heap.size w w' := by
  go_enter Try.func49, Try.ntmps49
  go_wp2_with fail
  generalize hW0 : (((w.alloc _).alloc _).alloc _).alloc _ = W0
  have hB0 : Below w.heap.size w W0 := by subst hW0; exact bel_alloc (bel_alloc (bel_alloc (bel_alloc (bel_refl w) _) _) _) _
  have hr : IsRows (w.heap.size ≤ ·) W0 (.slice (some ⟨w.heap.size + 1 + 1 + 1, 0, none⟩) 4 4) [[1, 2], [3], [3], []] := by
    subst hW0
    refine rows_of_row (ll := [[1, 2], [3], [3], []]) (vs := [Value.slice (some { block := w.heap.size, off := 0 }) 2 2, Value.slice (some { block := w.heap.size + 1, off := 0 }) 1 1, Value.slice (some { block := w.heap.size + 1 + 1, off := 0 }) 1 1, Value.slice none 0 0]) (e := 25) (heap_alloc_eq _ _ _ (by simp)) (by omega) rfl (by decide) fun j h1 h2 => ?_
    match j, h1 with
    | 0, _ => exact ints_of_row (xs := [1, 2]) (e := 3) (heap_alloc_ne _ _ _ _ (heap_alloc_ne _ _ _ _ (heap_alloc_ne _ _ _ _ (heap_alloc_eq _ _ _ (by simp))))) (Nat.le_refl _) (by decide)
    | 1, _ => exact ints_of_row (xs := [3]) (e := 3) (heap_alloc_ne _ _ _ _ (heap_alloc_ne _ _ _ _ (heap_alloc_eq _ _ _ (by simp)))) (by omega) (by decide)
    | 2, _ => exact ints_of_row (xs := [3]) (e := 3) (heap_alloc_ne _ _ _ _ (heap_alloc_eq _ _ _ (by simp))) (by omega) (by decide)
    | 3, _ => exact ints_nil _ _
  clear hW0
  refine (flow_c W0 hr (by decide)).mono ?_
  rintro e w1 ⟨u, rfl, hbl, hb1⟩
  have hB1 := bel_call hB0 hb1
  obtain ⟨ua, uc, rfl, -, -⟩ := id hbl
  have hlen : (flowS [[1, 2], [3], [3], []]).length = 4 := by decide
  rw [hlen] at hbl
  have HBL := hid_of (fun W (hW : Below w1.heap.size w1 W) => hbl.keep (p' := (· < W.heap.size)) (fun b _ hlt => ⟨Nat.lt_of_lt_of_le hlt hW.size, hW.block b hlt⟩))
  rw [hlen]
  have HI := hid_of (idom_c w1 (HBL.out w1 (bel_refl w1)) (by decide))
  clear hr hbl hb1 hB0
  go_wp2_with fail
  refine HI.out.mono ?_
  rintro e w2 ⟨z, rfl, ho, hb2⟩
  rw [alive15_I] at ho
  have hi : IsInts (fun _ => True) w2 z [-1, 0, 0, 0] := ints_of_owns (by rw [hlen] at ho; exact ho) (by decide) (fun _ _ _ _ => trivial)
  obtain ⟨za, zc, rfl, -, -⟩ := id hi
  have hB2 := bel_call hB1 hb2
  have HB12 := hid_of hb2
  clear ho hb2 HI
  go_wp2_with fail
  refine (sameInts_c (ys := [-1, 0, 0, 0]) _ (hi.keep (Keep.below (bel_alloc (bel_refl w2) _))) (ints_of_row (p := fun _ => True) (xs := [-1, 0, 0, 0]) (e := 3) (heap_alloc_eq _ _ _ rfl) trivial (by decide))).mono ?_
  rintro e w3 ⟨rfl, n, rfl⟩
  rw [sameS_self]
  have hb3 := bel_drewN (bel_alloc (bel_refl w2) (.cells #[.int .i64 (-1), .int .i64 0, .int .i64 0, .int .i64 0] 3)) n
  have HF := hid_of (frontier_c _ (HBL.out _ (bel_call HB12.out hb3)) (by decide) 1)
  have HB3 := hid_of (bel_call hB2 hb3)
  clear hi hB2 hb3 hB1
  go_wp2_with fail
  refine HF.out.mono ?_
  rintro e w4 ⟨z, rfl, ho, hb4⟩
  rw [alive15_F] at ho
  have hi : IsInts (fun _ => True) w4 z [3] := ints_of_owns ho (by decide) (fun _ _ _ _ => trivial)
  obtain ⟨za4, zc4, rfl, -, -⟩ := id hi
  have HB4 := hid_of (bel_call HB3.out hb4)
  clear ho hb4 HF
  go_wp2_with fail
  refine (sameInts_c (ys := [3]) _ (hi.keep (Keep.below (bel_alloc (bel_refl w4) _))) (ints_of_row (p := fun _ => True) (xs := [3]) (e := 3) (heap_alloc_eq _ _ _ rfl) trivial (by decide))).mono ?_
  rintro e w5 ⟨rfl, m, rfl⟩
  rw [sameS_self]
  have HB5 := hid_of (bel_drewN (bel_alloc HB4.out (.cells #[.int .i64 3] 3)) m)
  clear hi
  go_wp2_with fail
  go_ret
  exact ⟨rfl, HB5.out⟩
end Go.Proofs.Ytcihobmjohpnkaa
