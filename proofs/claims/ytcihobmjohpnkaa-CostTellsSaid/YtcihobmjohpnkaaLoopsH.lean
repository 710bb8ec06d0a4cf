/- 'loops.Heads', 'loops.Body'; the references of both. -/
import Derived.Test.YtcihobmjohpnkaaLoopsB
namespace Go.Proofs.Ytcihobmjohpnkaa
open Go.RowKit Go.Sort

set_option maxRecDepth 100000 in
theorem loopsHeads_c (w : World) {a : Option Addr} {n cap : Nat} {L : List (List InsD)} (h : IsBlocks (· < w.heap.size) w (.slice a n cap) L) (hl : n ≤ 1000) :
    Calls Try.prog 59 #[.slice a n cap] w fun e w' => ∃ z, e = .returned z ∧ w'.ownsRow w.heap.size 3 1 z (headsS L).length (ints (headsS L)) ∧ Below w.heap.size w w' := by
  have hnL : n = L.length := by obtain ⟨_, _, hv0, hl0, hx⟩ := id h; simp only [Value.slice.injEq] at hv0; exact hv0.2.1
  have HNL := hid_of hnL
  have HOf := hid_of (tree_of w h hl)
  clear hnL h
  go_enter Try.func59, Try.ntmps59
  go_wp2_with fail
  refine HOf.out.mono ?_
  rintro e W1 ⟨t, R, D, rfl, hT, hb1⟩
  have HH := hid_of (heads_c W1 hT (by rw [← HNL.out]; exact hl) HNL.out)
  have HB1 := hid_of hb1
  clear hT hb1 HOf
  go_wp2_with fail
  refine HH.out.mono ?_
  rintro e W2 ⟨z, rfl, ho, hb2⟩
  have HO := hid_of (owns_mono ho HB1.out.size)
  have HB2 := hid_of (bel_call HB1.out hb2)
  clear ho hb2 HH
  go_wp2_with fail
  go_ret
  exact ⟨_, rfl, HO.out, HB2.out⟩

theorem bodyS_none {L : List (List InsD)} {x : Int} (h : headB L x = false) : bodyS L x = [] := by
  unfold bodyS bodyP
  rw [List.filter_eq_nil_iff]
  intro y _
  unfold bodyB
  rw [h]; simp
theorem head_out {L : List (List InsD)} {x : Int} (h : x < 0 ∨ (L.length : Int) ≤ x) : headB L x = false := by
  cases e : headB L x with
  | false => rfl
  | true => have := head_range e; omega

set_option maxRecDepth 100000 in
theorem loopsBody_c (w : World) {a : Option Addr} {n cap : Nat} {L : List (List InsD)} (h : IsBlocks (· < w.heap.size) w (.slice a n cap) L) (hl : n ≤ 1000) (x : Int) :
    Calls Try.prog 57 #[.slice a n cap, .int .i64 x] w fun e w' => ∃ z, e = .returned z ∧ w'.ownsRow w.heap.size 3 1 z (bodyS L x).length (ints (bodyS L x)) ∧ Below w.heap.size w w' := by
  have hnL : n = L.length := by obtain ⟨_, _, hv0, hl0, hx⟩ := id h; simp only [Value.slice.injEq] at hv0; exact hv0.2.1
  have HNL := hid_of hnL
  have HOf := hid_of (tree_of w h hl)
  have HKP : Hid (∀ W, Below w.heap.size w W → IsBlocks (· < W.heap.size) W (.slice a n cap) L) := fun W hW => h.keep (fun b hb hlt => ⟨Nat.lt_of_lt_of_le hb hW.size, hW.block b hlt⟩)
  clear hnL h
  by_cases hx0 : x < 0
  · have d1 : decide (x < 0) = true := by simpa using hx0
    have HE : Hid (bodyS L x = []) := bodyS_none (head_out (.inl hx0))
    clear hx0
    go_enter Try.func57, Try.ntmps57
    go_wp2_with fail
    go_ret
    refine ⟨_, rfl, ?_, bel_refl w⟩
    rw [HE.out]
    exact World.ownsRow_nil _ _ _ _
  obtain ⟨xN, rfl⟩ : ∃ xN : Nat, x = xN := ⟨x.toNat, by omega⟩
  have d1 : decide ((xN : Int) < 0) = false := by simp
  by_cases hxn : n ≤ xN
  · have d2 : decide ((xN : Int) ≥ (n : Int)) = true := by simp; omega
    have d2' : decide (n ≤ xN) = true := by simp; omega
    have HE : Hid (bodyS L xN = []) := bodyS_none (head_out (.inr (by rw [← HNL.out]; omega)))
    clear hxn hx0
    go_enter Try.func57, Try.ntmps57
    go_wp2_with fail
    go_ret
    refine ⟨_, rfl, ?_, bel_refl w⟩
    rw [HE.out]
    exact World.ownsRow_nil _ _ _ _
  have d2 : decide ((xN : Int) ≥ (n : Int)) = false := by simp; omega
  have d2' : decide (n ≤ xN) = false := by simp; omega
  have hxl : xN < n := by omega
  clear hxn hx0
  go_enter Try.func57, Try.ntmps57
  go_wp2_with fail
  refine HOf.out.mono ?_
  rintro e W1 ⟨t, R, D, rfl, hT, hb1⟩
  have HBd := hid_of (body_c W1 (HKP.out W1 hb1) hT hl hxl)
  have HB1 := hid_of hb1
  clear hT hb1 HOf
  go_wp2_with fail
  refine HBd.out.mono ?_
  rintro e W2 ⟨z, S, rfl, hz, hg, hls, hb2⟩
  have HLs := hid_of (list_c W2 (hz.keep (p' := (· < W2.heap.size)) (Keep.refl W2 fun _ _ hlt => hlt)) (by have := hg.2; omega) hg.1.1)
  have HB2 := hid_of (bel_call HB1.out hb2)
  have HE := hid_of hls
  clear hz hg hls hb2 HBd
  go_wp2_with fail
  refine HLs.out.mono ?_
  rintro e W3 ⟨z3, rfl, ho, hb3⟩
  rw [HE.out] at ho
  have HO := hid_of (owns_mono ho HB2.out.size)
  have HB3 := hid_of (bel_call HB2.out hb3)
  clear ho hb3 HLs
  go_wp2_with fail
  go_ret
  exact ⟨_, rfl, HO.out, HB3.out⟩
end Go.Proofs.Ytcihobmjohpnkaa
