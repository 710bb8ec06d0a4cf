/- 'live.In', 'live.Out'. -/
import Derived.Test.YtcihobmjohpnkaaLvO
namespace Go.Proofs.Ytcihobmjohpnkaa
open Go.RowKit Go.Sort

theorem RowsOwn.base {B B' : Nat} {own : Nat → Nat} {ll : List (List Int)} {v : Value} {vals : List Value} {W : World} (h : RowsOwn B own ll v vals W) (hb : B' ≤ B) : RowsOwn B' own ll v vals W :=
  ⟨owns_mono h.row hb, h.len, fun j hj => owns_mono (h.el j hj) hb, h.apart⟩
theorem sets_slice {p : Nat → Prop} {w : World} {z : Value} {l : List (List Nat)} (h : IsSets p w z l) : ∃ za zn zc, z = .slice za zn zc := by obtain ⟨_, _, h, -⟩ := h; exact ⟨_, _, _, h⟩

set_option maxRecDepth 100000 in
set_option maxHeartbeats 2000000 in
theorem liveIn_c (w : World) (nm : ByteArray) (va : Option Addr) (vn vc : Nat) (pa : Option Addr) (pn pc : Nat) (re : ByteArray) (ba : Option Addr) (n bc : Nat) {L : List (List InsD)}
    (h : IsBlocks (· < w.heap.size) w (.slice ba n bc) L) (hl : n ≤ 1000) (hbd : ∀ l ∈ L, l.length ≤ 100000 ∧ ∀ i ∈ l, i.args.length ≤ 1000000) :
    Calls Try.prog 40 #[funcV nm va vn vc pa pn pc re ba n bc] w fun e w' => ∃ u own vals I O, e = .returned u ∧ IsLive L I O ∧ RowsOwn w.heap.size own (I.map listI) u vals w' ∧ Below w.heap.size w w' := by
  have hOf := hid_of (fun W (hh : IsBlocks (· < W.heap.size) W (.slice ba n bc) L) => of_live W nm va vn vc pa pn pc re ba n bc hh hl hbd)
  have hnL : n = L.length := by obtain ⟨_, _, hv0, hl0, hx⟩ := id h; simp only [Value.slice.injEq] at hv0; exact hv0.2.1
  have HNL := hid_of hnL
  unfold funcV at hOf ⊢
  clear hnL
  have hB := bel_alloc (bel_refl w) (.cells #[.string nm, .slice va vn vc, .slice pa pn pc, .string re, .slice ba n bc] 44)
  have h1 := h.keep (p' := fun b => b < (w.alloc (.cells #[.string nm, .slice va vn vc, .slice pa pn pc, .string re, .slice ba n bc] 44)).heap.size) (fun b hb hlt => ⟨by simp; omega, hB.block b hlt⟩)
  have H1 := hid_of h1
  clear h1 hbd
  go_enter Try.func40, Try.ntmps40
  go_wp2_with fail
  refine (hOf.out _ H1.out).mono ?_
  rintro e W1 ⟨I, O, vi, vo, rfl, hL, hi, ho, hb1⟩
  obtain ⟨ia, iN, ic, rfl⟩ := sets_slice hi
  obtain ⟨oa, oN, oc, rfl⟩ := sets_slice ho
  have HL := hid_of hL
  have hs1 := hb1.size
  have hls := hid_of (lists_c W1 (hi.keep (Keep.refl W1 fun b _ hlt => hlt)) (by rw [hL.lI, ← HNL.out]; omega) (fun ws hw => ⟨(hL.gI ws hw).1.1, by have := (hL.gI ws hw).2; omega⟩))
  clear hL hi ho hOf H1 h
  have hfd : ∀ W : World, (Instr.field 90 (.agg #[.slice ia iN ic, .slice oa oN oc]) 0).run Try.prog W = .ok (.slice ia iN ic) W := fun _ => by kernel_rfl
  have hfe : ∀ W : World, (Instr.field 90 (.agg #[.slice ia iN ic, .slice oa oN oc]) 1).run Try.prog W = .ok (.slice oa oN oc) W := fun _ => by kernel_rfl
  go_wp2_with fail
  refine hls.out.mono ?_
  rintro e W2 ⟨u, own, vals, rfl, hr, hb2⟩
  have hB2 := bel_call (bel_call hB hb1) hb2
  have HR := hid_of (hr.base (B' := w.heap.size) (by simp at hs1; omega))
  clear hr hls
  go_wp2_with fail
  go_ret
  exact ⟨_, own, vals, I, O, rfl, HL.out, HR.out, hB2⟩

set_option maxRecDepth 100000 in
set_option maxHeartbeats 2000000 in
theorem liveOut_c (w : World) (nm : ByteArray) (va : Option Addr) (vn vc : Nat) (pa : Option Addr) (pn pc : Nat) (re : ByteArray) (ba : Option Addr) (n bc : Nat) {L : List (List InsD)}
    (h : IsBlocks (· < w.heap.size) w (.slice ba n bc) L) (hl : n ≤ 1000) (hbd : ∀ l ∈ L, l.length ≤ 100000 ∧ ∀ i ∈ l, i.args.length ≤ 1000000) :
    Calls Try.prog 47 #[funcV nm va vn vc pa pn pc re ba n bc] w fun e w' => ∃ u own vals I O, e = .returned u ∧ IsLive L I O ∧ RowsOwn w.heap.size own (O.map listI) u vals w' ∧ Below w.heap.size w w' := by
  have hOf := hid_of (fun W (hh : IsBlocks (· < W.heap.size) W (.slice ba n bc) L) => of_live W nm va vn vc pa pn pc re ba n bc hh hl hbd)
  have hnL : n = L.length := by obtain ⟨_, _, hv0, hl0, hx⟩ := id h; simp only [Value.slice.injEq] at hv0; exact hv0.2.1
  have HNL := hid_of hnL
  unfold funcV at hOf ⊢
  clear hnL
  have hB := bel_alloc (bel_refl w) (.cells #[.string nm, .slice va vn vc, .slice pa pn pc, .string re, .slice ba n bc] 44)
  have h1 := h.keep (p' := fun b => b < (w.alloc (.cells #[.string nm, .slice va vn vc, .slice pa pn pc, .string re, .slice ba n bc] 44)).heap.size) (fun b hb hlt => ⟨by simp; omega, hB.block b hlt⟩)
  have H1 := hid_of h1
  clear h1 hbd
  go_enter Try.func47, Try.ntmps47
  go_wp2_with fail
  refine (hOf.out _ H1.out).mono ?_
  rintro e W1 ⟨I, O, vi, vo, rfl, hL, hi, ho, hb1⟩
  obtain ⟨ia, iN, ic, rfl⟩ := sets_slice hi
  obtain ⟨oa, oN, oc, rfl⟩ := sets_slice ho
  have HL := hid_of hL
  have hs1 := hb1.size
  have hls := hid_of (lists_c W1 (ho.keep (Keep.refl W1 fun b _ hlt => hlt)) (by rw [hL.lO, ← HNL.out]; omega) (fun ws hw => ⟨(hL.gO ws hw).1.1, by have := (hL.gO ws hw).2; omega⟩))
  clear hL hi ho hOf H1 h
  have hfd : ∀ W : World, (Instr.field 90 (.agg #[.slice ia iN ic, .slice oa oN oc]) 0).run Try.prog W = .ok (.slice ia iN ic) W := fun _ => by kernel_rfl
  have hfe : ∀ W : World, (Instr.field 90 (.agg #[.slice ia iN ic, .slice oa oN oc]) 1).run Try.prog W = .ok (.slice oa oN oc) W := fun _ => by kernel_rfl
  go_wp2_with fail
  refine hls.out.mono ?_
  rintro e W2 ⟨u, own, vals, rfl, hr, hb2⟩
  have hB2 := bel_call (bel_call hB hb1) hb2
  have HR := hid_of (hr.base (B' := w.heap.size) (by simp at hs1; omega))
  clear hr hls
  go_wp2_with fail
  go_ret
  exact ⟨_, own, vals, I, O, rfl, HL.out, HR.out, hB2⟩
end Go.Proofs.Ytcihobmjohpnkaa
