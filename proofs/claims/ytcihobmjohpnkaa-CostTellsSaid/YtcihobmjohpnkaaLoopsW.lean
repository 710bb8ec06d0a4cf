/- 'loops': tails, heads, body; the walks. -/
import Derived.Test.YtcihobmjohpnkaaLoopsP
namespace Go.Proofs.Ytcihobmjohpnkaa
open Go.RowKit Go.Sort

section
variable {B t : Nat} {L : List (List InsD)} {R : List (List Int)} {D : List (List Nat)}
set_option maxRecDepth 100000 in
theorem preds_t (w : World) (h : TreeAt B t L R D w) {b : Nat} (hb : b < L.length) :
    Calls Try.prog 129 #[.pointer (some ⟨t, 0, none⟩), .int .i64 b] w fun e w' => ∃ v, e = .returned v ∧ IsInts (B ≤ ·) w v (R.getD b []) ∧ w' = w := by
  obtain ⟨ord, vp, vo, h1, h2, h3⟩ := h.row
  have hRl := h.len
  obtain ⟨n, Hn⟩ : ∃ n, Hid (R.length = n) := ⟨_, (rfl : R.length = _)⟩
  obtain ⟨pa, pc, rfl, -, hx⟩ := id h2
  rw [Hn.out] at h1
  have hbR : b < R.length := by omega
  rcases hx with hx | ⟨pb, po, rfl, -, hx⟩
  · rw [hx] at hbR; simp at hbR
  obtain ⟨v, q1, hv⟩ := hx b hbR
  rw [Nat.mul_one] at q1
  have eR : R[b] = R.getD b [] := by simp [List.getD, hbR]
  rw [eR] at hv
  have c1 := h1.cell (k := 1) (v := .slice (some ⟨pb, po, none⟩) n pc) rfl
  have hb0 : (0 : Int) ≤ (b : Int) := by omega
  have hbn : (b : Int) < (n : Int) := by have := Hn.out; omega
  have HV := hid_of hv
  obtain ⟨va, vn, vc, rfl⟩ := isInts_slice hv
  clear hx hv h1 h2 h3 h hRl hbR hb eR
  go_enter Try.func129, Try.ntmps129
  go_wp2_with fail
  go_ret
  exact ⟨_, rfl, HV.out, rfl⟩

def tailL (L : List (List InsD)) (R : List (List Int)) (b k : Nat) : List Int := ((R.getD b []).take k).filter (overS L b)
def tailR (L : List (List InsD)) (R : List (List Int)) (b : Nat) : List Int := tailL L R b (R.getD b []).length
theorem tailR_mem (hp : PredOk L R) {b : Nat} (hb : b < L.length) (p : Int) : p ∈ tailR L R b ↔ tailB L b p = true := by
  unfold tailR tailL tailB
  have hm := hp (b : Int) p (by omega) (by omega)
  rw [Int.toNat_natCast] at hm
  rw [List.take_length, List.mem_filter, hm, Bool.and_eq_true, decide_eq_true_eq]
  exact ⟨fun h => ⟨h.1.2, h.2⟩, fun h => ⟨⟨(over_mem h.2).2, h.1⟩, h.2⟩⟩
theorem tailR_none (hp : PredOk L R) {b : Nat} (hb : b < L.length) : (tailR L R b).length = 0 ↔ headB L b = false := by
  rw [List.length_eq_zero_iff, ← Bool.not_eq_true, headB_iff]
  constructor
  · rintro h ⟨p, hp2⟩
    have := (tailR_mem hp hb p).2 hp2
    rw [h] at this
    simp at this
  · intro h
    cases e : tailR L R b with
    | nil => rfl
    | cons p r => exact absurd ⟨p, (tailR_mem hp hb p).1 (by rw [e]; simp)⟩ h
theorem tailL_length (L : List (List InsD)) (R : List (List Int)) (b k : Nat) : (tailL L R b k).length ≤ k := Nat.le_trans (List.length_filter_le _ _) (List.length_take_le _ _)

set_option maxRecDepth 100000 in
set_option maxHeartbeats 2000000 in
theorem tails_c (w : World) (h : TreeAt B t L R D w) (hl : L.length ≤ 1000) {b : Nat} (hb : b < L.length) :
    Calls Try.prog 116 #[.pointer (some ⟨t, 0, none⟩), .int .i64 b] w fun e w' => ∃ z, e = .returned z ∧ w'.ownsRow w.heap.size 3 1 z (tailR L R b).length (ints (tailR L R b)) ∧ Below w.heap.size w w' := by
  have HP := hid_of (preds_t w h hb)
  have HOv := hid_of (fun W (hW : Below w.heap.size w W) (p : Int) => over_t W (h.below hW) hl b p)
  have hsm := h.sm b
  obtain ⟨P, HPe⟩ : ∃ P, Hid (R.getD b [] = P) := ⟨_, (rfl : R.getD b [] = _)⟩
  have HTL : Hid (∀ k, tailL L R b k = (P.take k).filter (overS L b)) := fun k => by unfold tailL; rw [HPe.out]
  have HTR : Hid (tailR L R b = P.filter (overS L b)) := by show _ = _; unfold tailR; rw [HTL.out, HPe.out, List.take_length]
  rw [HPe.out] at HP hsm
  rw [HTR.out]
  clear h
  go_enter Try.func116, Try.ntmps116
  go_wp2_with fail
  refine HP.out.mono ?_
  rintro e w1 ⟨v, rfl, hv, rfl⟩
  obtain ⟨pa, pc, rfl, -, hx⟩ := id hv
  obtain ⟨n, Hn⟩ : ∃ n, Hid (P.length = n) := ⟨_, (rfl : P.length = _)⟩
  rw [Hn.out] at hsm ⊢
  have HX := hid_of hx
  clear HP hv hx
  go_wp2_with fail
  go_loopw [5, 12] (fun s5 s12 wx => ∃ k : Nat, k ≤ n ∧ s12 = .int .i64 k ∧ Hid (wx.ownsRow w1.heap.size 3 1 s5 ((P.take k).filter (overS L b)).length (ints ((P.take k).filter (overS L b)))) ∧ Hid (Below w1.heap.size w1 wx)) (fun _ s12 _ => n - (intOf s12).toNat)
  case atStart => exact ⟨0, by omega, rfl, World.ownsRow_nil _ _ _ _, bel_refl _⟩
  case round =>
    obtain ⟨k, hk, rfl, HO, HB⟩ := hrel
    by_cases hkt : k < n
    · have hkP : k < P.length := by rw [Hn.out]; exact hkt
      rcases HX.out with hx | ⟨pb, po, rfl, -, hx⟩
      · exfalso; rw [hx] at hkP; simp at hkP
      have e1 := hx k hkP
      unfold CInt at e1
      rw [Nat.mul_one] at e1
      have q1 := (World.cell?_of_block (a := ⟨pb, po + k, none⟩) (HB.out.block pb (lt_of_cell e1))).trans e1
      have ht := List.take_succ_eq_append_getElem hkP
      have hfs : (P.take (k + 1)).filter (overS L b) = (P.take k).filter (overS L b) ++ [P[k]].filter (overS L b) := by rw [ht, List.filter_append]
      have hO := HOv.out wr HB.out P[k]
      obtain ⟨p, Hp⟩ : ∃ p, Hid (P[k] = p) := ⟨_, (rfl : P[k] = _)⟩
      rw [Hp.out] at q1 hfs hO
      obtain ⟨ov, Hov⟩ : ∃ ov, Hid (overS L (b : Int) p = ov) := ⟨_, (rfl : overS L (b : Int) p = _)⟩
      rw [Hov.out] at hO
      have HOc := hid_of hO
      have HFS := hid_of hfs
      have hk0 : (0 : Int) ≤ (k : Int) := by omega
      have hkz : (k : Int) < (n : Int) := by omega
      have hfl : ((P.take k).filter (overS L b)).length ≤ k := Nat.le_trans (List.length_filter_le _ _) (List.length_take_le _ _)
      clear hx e1 ht hfs hO
      go_wp2_with fail
      refine HOc.out.mono ?_
      rintro e w2 ⟨rfl, hb2⟩
      have HO2 := hid_of (owns_below HO.out hb2)
      have HB2 := hid_of (bel_call HB.out hb2)
      clear HOc hb2 HO HB q1
      cases ov with
      | false =>
        have HE : Hid ((P.take (k + 1)).filter (overS L b) = (P.take k).filter (overS L b)) := by show _ = _; rw [HFS.out]; simp [Hov.out]
        go_wp2_with fail
        go_roundw
        case rel => exact ⟨k + 1, by omega, by go_num, by rw [HE.out]; exact HO2, HB2⟩
        case measure => simp [intOf]; omega
      | true =>
        have HE : Hid ((P.take (k + 1)).filter (overS L b) = (P.take k).filter (overS L b) ++ [p]) := by show _ = _; rw [HFS.out]; simp [Hov.out]
        obtain ⟨fp, Hfp⟩ : ∃ fp, Hid ((P.take k).filter (overS L b) = fp) := ⟨_, (rfl : (P.take k).filter (overS L b) = _)⟩
        have ho := HO2.out
        rw [Hfp.out] at ho hfl
        have hs2 := HB2.out.size
        go_wp2_with (at_builtin; refine stop_here ?_)
        refine stop_go (app_int rfl _ _ rfl w1.heap.size _ fp rfl (ho.alloc _) _ p rfl (heap_alloc_eq _ _ _ rfl) (by omega) (by simp; omega) ?_)
        intro v' w' ho' hg hv'
        have HBE := hid_of (bel_grown (bel_alloc HB2.out _) hg (fun b hb => (ho.lt b hb).1))
        have HOE : Hid (w'.ownsRow w1.heap.size 3 1 v' ((P.take (k + 1)).filter (overS L b)).length (ints ((P.take (k + 1)).filter (overS L b)))) := by
          rw [HE.out, Hfp.out]
          have h9 := ho'
          show World.ownsRow _ _ _ _ _ _ _
          simpa [ints] using h9
        clear ho ho' hg hv'
        go_wp2_with fail
        go_roundw
        case rel => exact ⟨k + 1, by omega, by go_num, HOE, HBE⟩
        case measure => simp [intOf]; omega
    · obtain rfl : k = n := by omega
      have ho := HO.out
      rw [List.take_of_length_le (by rw [Hn.out]; exact Nat.le_refl _)] at ho
      have HO2 := hid_of ho
      clear ho
      go_wp2_with fail
      go_ret
      exact ⟨_, rfl, HO2.out, HB.out⟩

set_option maxRecDepth 100000 in
set_option maxHeartbeats 2000000 in
theorem heads_c (w : World) (h : TreeAt B t L R D w) (hl : L.length ≤ 1000) {n : Nat} (hn : n = L.length) :
    Calls Try.prog 96 #[.pointer (some ⟨t, 0, none⟩), .int .i64 n] w fun e w' => ∃ z, e = .returned z ∧ w'.ownsRow w.heap.size 3 1 z (headsS L).length (ints (headsS L)) ∧ Below w.heap.size w w' := by
  have HT := hid_of (fun W (hW : Below w.heap.size w W) (b : Nat) (hb : b < L.length) => tails_c W (h.below hW) hl hb)
  have HN : Hid (∀ b, b < L.length → ((tailR L R b).length = 0 ↔ headB L b = false)) := fun b hb => tailR_none h.pr hb
  have HHS : Hid (headsS L = headsP L n) := by show _ = _; unfold headsS; rw [hn]
  have HNL := hid_of hn
  rw [HHS.out]
  clear h hn
  go_enter Try.func96, Try.ntmps96
  go_wp2_with fail
  go_loopw [5, 8] (fun s5 s8 wx => ∃ k : Nat, k ≤ n ∧ s8 = .int .i64 k ∧ Hid (wx.ownsRow w.heap.size 3 1 s5 (headsP L k).length (ints (headsP L k))) ∧ Hid (Below w.heap.size w wx)) (fun _ s8 _ => n - (intOf s8).toNat)
  case atStart => exact ⟨0, by omega, rfl, World.ownsRow_nil _ _ _ _, bel_refl _⟩
  case round =>
    obtain ⟨k, hk, rfl, HO, HB⟩ := hrel
    by_cases hkt : k < n
    · have hkL : k < L.length := by rw [← HNL.out]; exact hkt
      have HTc := hid_of (HT.out wr HB.out k hkL)
      have hz := HN.out k hkL
      obtain ⟨tl, Htl⟩ : ∃ tl, Hid ((tailR L R k).length = tl) := ⟨_, (rfl : (tailR L R k).length = _)⟩
      rw [Htl.out] at hz
      have HZ := hid_of hz
      have hfs := headsP_succ L k
      have HFS := hid_of hfs
      have hfl := headsP_length L k
      have hk0 : (0 : Int) ≤ (k : Int) := by omega
      have hkz : (k : Int) < (n : Int) := by omega
      clear hz hfs
      go_wp2_with fail
      refine HTc.out.mono ?_
      rintro e w2 ⟨z, rfl, hoz, hb2⟩
      obtain ⟨za, zc, rfl, -⟩ := owns_slice hoz
      have HO2 := hid_of (owns_below HO.out hb2)
      have HB2 := hid_of (bel_call HB.out hb2)
      rw [Htl.out]
      clear HTc hb2 HO HB hoz
      by_cases ht0 : tl = 0
      · have d1 : decide ((tl : Int) > 0) = false := by simp; omega
        have d1' : decide (0 < tl) = false := by simp; omega
        have HE : Hid (headsP L (k + 1) = headsP L k) := by show _ = _; rw [HFS.out, HZ.out.1 ht0]; simp
        clear ht0
        go_wp2_with fail
        go_roundw
        case rel => exact ⟨k + 1, by omega, by go_num, by rw [HE.out]; exact HO2, HB2⟩
        case measure => simp [intOf]; omega
      · have d1 : decide ((tl : Int) > 0) = true := by simp; omega
        have d1' : decide (0 < tl) = true := by simp; omega
        have HE : Hid (headsP L (k + 1) = headsP L k ++ [(k : Int)]) := by
          show _ = _
          have : headB L k = true := by cases e : headB L k with
            | false => exact absurd (HZ.out.2 e) ht0
            | true => rfl
          rw [HFS.out, this]; simp
        obtain ⟨fp, Hfp⟩ : ∃ fp, Hid (headsP L k = fp) := ⟨_, (rfl : headsP L k = _)⟩
        have ho := HO2.out
        rw [Hfp.out] at ho hfl
        have hs2 := HB2.out.size
        clear ht0
        go_wp2_with (at_builtin; refine stop_here ?_)
        refine stop_go (app_int rfl _ _ rfl w.heap.size _ fp rfl (ho.alloc _) _ (k : Int) rfl (heap_alloc_eq _ _ _ rfl) (by have := HNL.out; omega) (by simp; omega) ?_)
        intro v' w' ho' hg hv'
        have HBE := hid_of (bel_grown (bel_alloc HB2.out _) hg (fun b hb => (ho.lt b hb).1))
        have HOE : Hid (w'.ownsRow w.heap.size 3 1 v' (headsP L (k + 1)).length (ints (headsP L (k + 1)))) := by
          rw [HE.out, Hfp.out]
          have h9 := ho'
          show World.ownsRow _ _ _ _ _ _ _
          simpa [ints] using h9
        clear ho ho' hg hv'
        go_wp2_with fail
        go_roundw
        case rel => exact ⟨k + 1, by omega, by go_num, HOE, HBE⟩
        case measure => simp [intOf]; omega
    · obtain rfl : k = n := by omega
      go_wp2_with fail
      go_ret
      exact ⟨_, rfl, HO.out, HB.out⟩
end
end Go.Proofs.Ytcihobmjohpnkaa
