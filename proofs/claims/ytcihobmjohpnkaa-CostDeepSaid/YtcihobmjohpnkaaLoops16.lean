/- The document's example of chapter 16; 'LoopsNone'; the walks. -/
import Derived.Test.YtcihobmjohpnkaaLoopsE
import Derived.Test.YtcihobmjohpnkaaRowO
namespace Go.Proofs.Ytcihobmjohpnkaa
open Go.RowKit Go.Sort

theorem alive16_H : headsS (flowS [[1], [1, 2], []]) = [1] := by decide +kernel
theorem alive16_B : bodyS (flowS [[1], [1, 2], []]) 1 = [1] := by decide +kernel

set_option maxRecDepth 100000 in
set_option maxHeartbeats 2000000 in
theorem alive16_c (w : World) : Calls Try.prog 56 #[] w fun e w' => e = .returned (.bool true) ∧ Below w.heap.size w w' := by
  go_enter Try.func56, Try.ntmps56
  go_wp2_with fail
  generalize hW0 : (((w.alloc _).alloc _).alloc _) = W0
  have hB0 : Below w.heap.size w W0 := by subst hW0; exact bel_alloc (bel_alloc (bel_alloc (bel_refl w) _) _) _
  have hr : IsRows (w.heap.size ≤ ·) W0 (.slice (some ⟨w.heap.size + 1 + 1, 0, none⟩) 3 3) [[1], [1, 2], []] := by
    subst hW0
    refine rows_of_row (ll := [[1], [1, 2], []]) (vs := [Value.slice (some { block := w.heap.size, off := 0 }) 1 1, Value.slice (some { block := w.heap.size + 1, off := 0 }) 2 2, Value.slice none 0 0]) (e := 25) (heap_alloc_eq _ _ _ (by simp)) (by omega) rfl (by decide) fun j h1 h2 => ?_
    match j, h1 with
    | 0, _ => exact ints_of_row (xs := [1]) (e := 3) (heap_alloc_ne _ _ _ _ (heap_alloc_ne _ _ _ _ (heap_alloc_eq _ _ _ (by simp)))) (Nat.le_refl _) (by decide)
    | 1, _ => exact ints_of_row (xs := [1, 2]) (e := 3) (heap_alloc_ne _ _ _ _ (heap_alloc_eq _ _ _ (by simp))) (by omega) (by decide)
    | 2, _ => exact ints_nil _ _
  clear hW0
  refine (flow_c W0 hr (by decide)).mono ?_
  rintro e w1 ⟨u, rfl, hbl, hb1⟩
  have hB1 := bel_call hB0 hb1
  obtain ⟨ua, uc, rfl, -, -⟩ := id hbl
  have hlen : (flowS [[1], [1, 2], []]).length = 3 := by decide
  rw [hlen] at hbl
  have HBL := hid_of (fun W (hW : Below w1.heap.size w1 W) => hbl.keep (p' := (· < W.heap.size)) (fun b _ hlt => ⟨Nat.lt_of_lt_of_le hlt hW.size, hW.block b hlt⟩))
  rw [hlen]
  have HI := hid_of (loopsHeads_c w1 (HBL.out w1 (bel_refl w1)) (by decide))
  clear hr hbl hb1 hB0 hlen
  go_wp2_with fail
  refine HI.out.mono ?_
  rintro e w2 ⟨z, rfl, ho, hb2⟩
  rw [alive16_H] at ho
  have hi : IsInts (fun _ => True) w2 z [1] := ints_of_owns ho (by decide) (fun _ _ _ _ => trivial)
  obtain ⟨za, zc, rfl, -, -⟩ := id hi
  have hB2 := bel_call hB1 hb2
  have HB12 := hid_of hb2
  clear ho hb2 HI
  go_wp2_with fail
  refine (sameInts_c (ys := [1]) _ (hi.keep (Keep.below (bel_alloc (bel_refl w2) _))) (ints_of_row (p := fun _ => True) (xs := [1]) (e := 3) (heap_alloc_eq _ _ _ rfl) trivial (by decide))).mono ?_
  rintro e w3 ⟨rfl, n, rfl⟩
  rw [sameS_self]
  have hb3 := bel_drewN (bel_alloc (bel_refl w2) (.cells #[.int .i64 1] 3)) n
  have HF := hid_of (loopsBody_c _ (HBL.out _ (bel_call HB12.out hb3)) (by decide) 1)
  have HB3 := hid_of (bel_call hB2 hb3)
  clear hi hB2 hb3 hB1
  go_wp2_with fail
  refine HF.out.mono ?_
  rintro e w4 ⟨z, rfl, ho, hb4⟩
  rw [alive16_B] at ho
  have hi : IsInts (fun _ => True) w4 z [1] := ints_of_owns ho (by decide) (fun _ _ _ _ => trivial)
  obtain ⟨za4, zc4, rfl, -, -⟩ := id hi
  have HB4 := hid_of (bel_call HB3.out hb4)
  clear ho hb4 HF
  go_wp2_with fail
  refine (sameInts_c (ys := [1]) _ (hi.keep (Keep.below (bel_alloc (bel_refl w4) _))) (ints_of_row (p := fun _ => True) (xs := [1]) (e := 3) (heap_alloc_eq _ _ _ rfl) trivial (by decide))).mono ?_
  rintro e w5 ⟨rfl, m, rfl⟩
  rw [sameS_self]
  have HB5 := hid_of (bel_drewN (bel_alloc HB4.out (.cells #[.int .i64 1] 3)) m)
  clear hi
  go_wp2_with fail
  go_ret
  exact ⟨rfl, HB5.out⟩

/-- Where all edges go on there is no head. -/
theorem no_heads {ll : List (List Int)} (h : ∀ (i : Nat) (hi : i < ll.length), ∀ x ∈ ll[i], (i : Int) < x) (x : Int) : headB (flowS ll) x = false := by
  have hs : ∀ (a y : Int), y ∈ succS (flowS ll) a → a < y := fun a y hy => by
    have hr := succ_from hy
    obtain ⟨aN, rfl⟩ : ∃ aN : Nat, a = aN := ⟨a.toNat, by omega⟩
    obtain ⟨⟨h1, h2⟩, -⟩ := (flow_succ aN y).1 hy
    have h3 := List.mem_of_mem_take h2
    have e : ll.getD aN [] = ll[aN] := by simp [List.getD, h1]
    rw [e] at h3
    exact h aN h1 y h3
  cases hh : headB (flowS ll) x with
  | false => rfl
  | true =>
    exfalso
    obtain ⟨p, hp⟩ := headB_iff.1 hh
    obtain ⟨h1, h2⟩ := tail_mem hp
    have hpx := hs p x h1
    have x0 : x ≠ 0 := by
      rintro rfl
      have := (order_range (over_mem h2).2).1
      omega
    refine not_way h2 x0 (by omega) ?_
    have key : ∀ z, Way (succS (flowS ll)) 0 z → z < x → Way (succX (flowS ll) x) 0 z := fun z hz => by
      induction hz with
      | here => exact fun _ => .here _
      | on _ hc ih => exact fun hzx => way_on (ih (by have := hs _ _ hc; omega)) hc (by omega)
    exact key p (over_dm h2).1 hpx
theorem headsS_nil {L : List (List InsD)} (h : ∀ x, headB L x = false) : headsS L = [] := by
  unfold headsS headsP
  rw [List.filter_eq_nil_iff]
  intro x _
  rw [h]; simp
end Go.Proofs.Ytcihobmjohpnkaa
