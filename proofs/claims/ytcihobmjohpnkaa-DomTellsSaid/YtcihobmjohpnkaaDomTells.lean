/- 'DomTells': the walk. -/
import Derived.Test.YtcihobmjohpnkaaDomU
import Derived.Test.YtcihobmjohpnkaaLvO
namespace Go.Proofs.Ytcihobmjohpnkaa
open Go.RowKit Go.Sort

set_option maxRecDepth 100000 in
set_option maxHeartbeats 16000000 in
theorem domTells_c {u : Value} {L : List (List InsD)} (w : World) (h : IsBlocks (· < w.heap.size) w u L) (a b : Int) :
    Calls Try.prog 12 #[u, .int .i64 a, .int .i64 b] w fun e w' => e = .returned (.bool true) ∧ Below w.heap.size w w' := by
  obtain ⟨ba, bc, rfl, -, -⟩ := id h
  obtain ⟨n, Hn⟩ : ∃ n, Hid (L.length = n) := ⟨_, (rfl : L.length = _)⟩
  rw [Hn.out] at h
  rw [Hn.out]
  have HAL := hid_of (alive15_c w)
  have HKP : Hid (∀ W, Below w.heap.size w W → IsBlocks (· < W.heap.size) W (.slice ba n bc) L) := fun W hW => h.keep (fun b hb hlt => ⟨Nat.lt_of_lt_of_le hb hW.size, hW.block b hlt⟩)
  clear h
  go_enter Try.func12, Try.ntmps12
  go_wp2_with fail
  refine HAL.out.mono ?_
  rintro e W ⟨rfl, hb⟩
  have HB := hid_of hb
  have HBg := hid_of (big_c W (HKP.out W hb))
  clear hb HAL
  go_wp2_with fail
  refine HBg.out.mono ?_
  rintro e W1 ⟨r, rfl, rfl, hr⟩
  have HR := hid_of hr
  clear hr HBg
  cases r with
  | true =>
    go_wp2_with fail
    go_ret
    exact ⟨rfl, HB.out⟩
  | false =>
    by_cases ht2 : 40 < n
    · have d1 : decide ((n : Int) > 40) = true := by simp; omega
      have d1' : decide (40 < n) = true := by simp; omega
      clear ht2
      go_wp2_with fail
      go_ret
      exact ⟨rfl, HB.out⟩
    have d1 : decide ((n : Int) > 40) = false := by simp; omega
    have d1' : decide (40 < n) = false := by simp; omega
    have hn4 : n ≤ 40 := by omega
    have hln : n ≤ 1000 := by omega
    have HD := hid_of (doms_c W1 (HKP.out W1 HB.out) hln)
    clear ht2 HR
    go_wp2_with fail
    refine HD.out.mono ?_
    rintro e W2 ⟨G, rfl, hG, hB2, hb2⟩
    have HB2 := hid_of hB2
    have Hb2 := hid_of (bel_call HB.out hb2)
    clear hB2 hb2 HD HB
    go_wp2_with fail
    obtain ⟨wo, rfl⟩ : ∃ wo : World, wo = W2 := ⟨_, rfl⟩
    go_loopw [10] (fun s10 wx => ∃ i : Nat, i ≤ n ∧ s10 = .int .i64 i ∧ Hid (Below wo.heap.size wo wx)) (fun s10 _ => n - (intOf s10).toNat)
    case atStart => exact ⟨0, by omega, rfl, bel_refl _⟩
    case round =>
      obtain ⟨i, hi, rfl, HBi⟩ := hrel
      by_cases hit : i < n
      · have hiL : i < L.length := by rw [Hn.out]; exact hit
        have hi0 : (0 : Int) ≤ (i : Int) := by omega
        have hiz : (i : Int) < (n : Int) := by omega
        go_wp2_with fail
        go_loopw [11] (fun s11 wx => ∃ k : Nat, k ≤ n ∧ s11 = .int .i64 k ∧ Hid (Below wo.heap.size wo wx)) (fun s11 _ => n - (intOf s11).toNat)
        case atStart => exact ⟨0, by omega, rfl, HBi⟩
        case round =>
          obtain ⟨k, hk, rfl, HBk⟩ := hrel
          clear HBi
          by_cases hkt : k < n
          · have hkL : k < L.length := by rw [Hn.out]; exact hkt
            have hk0 : (0 : Int) ≤ (k : Int) := by omega
            have hkz : (k : Int) < (n : Int) := by omega
            obtain ⟨gb, q2, hgb, -⟩ := (HB2.out.below HBk.out).get hkt
            obtain ⟨ov, Hov⟩ : ∃ ov, Hid (overS L (i : Int) (k : Int) = ov) := ⟨_, (rfl : overS L (i : Int) (k : Int) = _)⟩
            have q3 := hgb.cell (k := i) (v := .bool ov) (by rw [domsM_get hkL hiL, Hov.out])
            have hS : ∀ X, BkS wr X → X.cell? ⟨G, k, none⟩ = some (.slice (some ⟨gb, 0, none⟩) n n) ∧ X.cell? ⟨gb, i, none⟩ = some (.bool ov) := fun X hX =>
              ⟨(World.cell?_of_block (a := ⟨G, k, none⟩) (hX.block G (lt_of_cell q2))).trans q2, (World.cell?_of_block (a := ⟨gb, i, none⟩) (hX.block gb hgb.lt)).trans q3⟩
            have hOs : ∀ X, BkS wr X → Calls Try.prog 52 #[.slice ba n bc, .int .i64 i, .int .i64 k] X fun e X' => e = .returned (.bool ov) ∧ BkS wr X' := fun X hX =>
              (domOver_c X (HKP.out X (bel_call (bel_call Hb2.out HBk.out) hX)) hln i k).mono (by rintro e X' ⟨rfl, hb⟩; rw [Hov.out]; exact ⟨rfl, bel_call hX hb⟩)
            have hE0 : BkS wr wr := bel_refl wr
            have hE1 : BkS wr wr.drew := (bel_refl wr).drew
            have hbn : (ov != ov) = false := by simp
            have HF : Hid (∀ X, BkS wr X → Below wo.heap.size wo X) := fun X hX => bel_call HBk.out hX
            clear hgb q2 q3 HBk
            go_wp2_with fail
            go_region_held3 (fun X => X.cell? ⟨G, k, none⟩ = some (.slice (some ⟨gb, 0, none⟩) n n) ∧ X.cell? ⟨gb, i, none⟩ = some (.bool ov))
              ((refine hS _ ?_; with_reducible assumption))
              (first | (go_at_call 52; (with_reducible refine (hOs _ ?_).mono ?_); (with_reducible assumption); rintro e Yo ⟨rfl, hEo⟩))
            all_goals
              have HBF := hid_of (HF.out _ (by with_reducible assumption))
              try go_wp2_with fail
              go_roundw
              case rel => exact ⟨k + 1, by omega, by go_num, HBF⟩
              case measure => simp [intOf]; omega
          · obtain rfl : k = n := by omega
            have hbw := bel_call Hb2.out HBk.out
            have HF1 := hid_of (frontier_c wr (HKP.out wr hbw) hln (i : Int))
            have HF2 := hid_of (fun X (hX : Below wr.heap.size wr X) => frontR_c X (HKP.out X (bel_call hbw hX)) hln (i : Int))
            have hfl := frontP_length L (i : Int) L.length
            clear hbw
            obtain ⟨F, HF⟩ : ∃ F, Hid (frontP L (i : Int) L.length = F) := ⟨_, (rfl : frontP L (i : Int) L.length = _)⟩
            rw [HF.out] at HF1 HF2 hfl
            rw [Hn.out] at hfl
            go_wp2_with fail
            refine HF1.out.mono ?_
            rintro e W4 ⟨z1, rfl, ho1, hb4⟩
            have hz1 : IsInts (fun _ => True) W4 z1 F := ints_of_owns ho1 (by omega) (fun _ _ _ _ => trivial)
            have HZ1 := hid_of hz1
            have Hb4 := hid_of hb4
            obtain ⟨a1, n1, c1, rfl⟩ := isInts_slice hz1
            have HF3 := hid_of (HF2.out W4 hb4)
            clear HF1 ho1 hb4 hz1 HF2
            go_wp2_with fail
            refine HF3.out.mono ?_
            rintro e W5 ⟨z2, rfl, ho2, hb5⟩
            have hz2 : IsInts (fun _ => True) W5 z2 F := ints_of_owns ho2 (by omega) (fun _ _ _ _ => trivial)
            obtain ⟨a2, n2, c2, rfl⟩ := isInts_slice hz2
            have HS := hid_of (sameInts_c W5 (HZ1.out.keep (Keep.below hb5)) hz2)
            rw [sameS_self] at HS
            have Hb5 := hid_of (bel_call HBk.out (bel_call Hb4.out hb5))
            clear HF3 ho2 hb5 hz2
            go_wp2_with fail
            refine HS.out.mono ?_
            rintro e W6 ⟨rfl, m, rfl⟩
            have Hb6 := hid_of (bel_drewN Hb5.out m)
            clear HS Hb5
            go_wp2_with fail
            go_roundw
            case rel => exact ⟨i + 1, by omega, by go_num, Hb6⟩
            case measure => simp [intOf]; omega
      · obtain rfl : i = n := by omega
        have Hbw := hid_of (bel_call Hb2.out HBi.out)
        have HOUT : Hid (∀ x y : Int, x < 0 ∨ (i : Int) ≤ x ∨ y < 0 ∨ (i : Int) ≤ y → overS L x y = false) := fun x y hxy => not_over_out (by rw [Hn.out]; exact hxy)
        have HFN : Hid (∀ x : Int, x < 0 ∨ (i : Int) ≤ x → frontP L x L.length = []) := fun x hx => front_none (fun hm => by have := order_range hm; rw [Hn.out] at this; omega) _
        have HIN : Hid ((List.range L.length).length = i) := by show _ = _; rw [List.length_range]; exact Hn.out
        by_cases ha0 : a < 0
        · have e1 : decide (a < 0) = true := by simpa using ha0
          have e2 : decide (a ≥ 0) = false := by simpa using ha0
          have e2' : decide (0 ≤ a) = false := by simpa using ha0
          have hO := domOver_c wr (HKP.out wr Hbw.out) hln a b
          rw [HOUT.out _ _ (by omega)] at hO
          have HO := hid_of hO
          clear hO
          go_wp2_with fail
          refine HO.out.mono ?_
          rintro e W7 ⟨rfl, hb7⟩
          have Hb7 := hid_of (bel_call Hbw.out hb7)
          clear HO hb7
          have HI := hid_of (idom_c W7 (HKP.out W7 Hb7.out) hln)
          go_wp2_with fail
          refine HI.out.mono ?_
          rintro e W8 ⟨z1, rfl, ho1, hb8⟩
          have hIl : ((List.range L.length).map (idS L)).length = i := by rw [List.length_map]; exact HIN.out
          have HIL := hid_of hIl
          have hz1 : IsInts (fun _ => True) W8 z1 ((List.range L.length).map (idS L)) := ints_of_owns (by rw [hIl, ← Hn.out]; exact ho1) (by omega) (fun _ _ _ _ => trivial)
          obtain ⟨a1, n1, c1, rfl⟩ := isInts_slice hz1
          have HZ1 := hid_of hz1
          have Hb8 := hid_of (bel_call Hb7.out hb8)
          have HJ := hid_of (idomR_c W8 (HKP.out W8 Hb8.out) hln)
          clear HI ho1 hb8 hz1 hIl
          go_wp2_with fail
          refine HJ.out.mono ?_
          rintro e W9 ⟨g2, rfl, hg2, hr2, hb9⟩
          have hz2 : IsInts (fun _ => True) W9 (.slice (some ⟨g2, 0, none⟩) ((List.range L.length).map (idS L)).length ((List.range L.length).map (idS L)).length) ((List.range L.length).map (idS L)) := ints_of_row hr2 trivial (by rw [HIL.out]; omega)
          rw [HIL.out] at hz2
          have HS := hid_of (sameInts_c W9 (HZ1.out.keep (Keep.below hb9)) hz2)
          rw [sameS_self] at HS
          have Hb9 := hid_of (bel_call Hb8.out hb9)
          clear HJ hr2 hb9 hz2
          go_wp2_with fail
          refine HS.out.mono ?_
          rintro e W10 ⟨rfl, m, rfl⟩
          have Hb10 := hid_of (bel_drewN Hb9.out m)
          clear HS Hb9
          have hF := frontier_c (W9.drewN m) (HKP.out _ Hb10.out) hln a
          rw [HFN.out _ (by omega)] at hF
          have HFr := hid_of hF
          clear hF
          go_wp2_with fail
          refine HFr.out.mono ?_
          rintro e W11 ⟨z3, rfl, ho3, hb11⟩
          obtain ⟨a3, c3, rfl, -⟩ := owns_slice ho3
          have Hb11 := hid_of (bel_call Hb10.out hb11)
          clear HFr ho3 hb11
          go_wp2_with fail
          go_ret
          exact ⟨rfl, Hb11.out⟩
        obtain ⟨aN, rfl⟩ : ∃ aN : Nat, a = aN := ⟨a.toNat, by omega⟩
        have e1 : decide ((aN : Int) < 0) = false := by simp
        have e2 : decide ((aN : Int) ≥ 0) = true := by simp
        have e2' : decide (0 ≤ (aN : Int)) = true := by simp
        by_cases hb0 : b < 0
        · have e3 : decide (b < 0) = true := by simpa using hb0
          by_cases hai : i ≤ aN
          · have e4 : decide ((aN : Int) ≥ (i : Int)) = true := by simp; omega
            have e4' : decide (i ≤ aN) = true := by simp; omega
            have e5 : decide ((aN : Int) < (i : Int)) = false := by simp; omega
            have e5' : decide (aN < i) = false := by simp; omega
            have hO := domOver_c wr (HKP.out wr Hbw.out) hln aN b
            rw [HOUT.out _ _ (by omega)] at hO
            have HO := hid_of hO
            clear hO
            go_wp2_with fail
            refine HO.out.mono ?_
            rintro e W7 ⟨rfl, hb7⟩
            have Hb7 := hid_of (bel_call Hbw.out hb7)
            clear HO hb7
            have HI := hid_of (idom_c W7 (HKP.out W7 Hb7.out) hln)
            go_wp2_with fail
            refine HI.out.mono ?_
            rintro e W8 ⟨z1, rfl, ho1, hb8⟩
            have hIl : ((List.range L.length).map (idS L)).length = i := by rw [List.length_map]; exact HIN.out
            have HIL := hid_of hIl
            have hz1 : IsInts (fun _ => True) W8 z1 ((List.range L.length).map (idS L)) := ints_of_owns (by rw [hIl, ← Hn.out]; exact ho1) (by omega) (fun _ _ _ _ => trivial)
            obtain ⟨a1, n1, c1, rfl⟩ := isInts_slice hz1
            have HZ1 := hid_of hz1
            have Hb8 := hid_of (bel_call Hb7.out hb8)
            have HJ := hid_of (idomR_c W8 (HKP.out W8 Hb8.out) hln)
            clear HI ho1 hb8 hz1 hIl
            go_wp2_with fail
            refine HJ.out.mono ?_
            rintro e W9 ⟨g2, rfl, hg2, hr2, hb9⟩
            have hz2 : IsInts (fun _ => True) W9 (.slice (some ⟨g2, 0, none⟩) ((List.range L.length).map (idS L)).length ((List.range L.length).map (idS L)).length) ((List.range L.length).map (idS L)) := ints_of_row hr2 trivial (by rw [HIL.out]; omega)
            rw [HIL.out] at hz2
            have HS := hid_of (sameInts_c W9 (HZ1.out.keep (Keep.below hb9)) hz2)
            rw [sameS_self] at HS
            have Hb9 := hid_of (bel_call Hb8.out hb9)
            clear HJ hr2 hb9 hz2
            go_wp2_with fail
            refine HS.out.mono ?_
            rintro e W10 ⟨rfl, m, rfl⟩
            have Hb10 := hid_of (bel_drewN Hb9.out m)
            clear HS Hb9
            have hF := frontier_c (W9.drewN m) (HKP.out _ Hb10.out) hln aN
            rw [HFN.out _ (by omega)] at hF
            have HFr := hid_of hF
            clear hF
            go_wp2_with fail
            refine HFr.out.mono ?_
            rintro e W11 ⟨z3, rfl, ho3, hb11⟩
            obtain ⟨a3, c3, rfl, -⟩ := owns_slice ho3
            have Hb11 := hid_of (bel_call Hb10.out hb11)
            clear HFr ho3 hb11
            go_wp2_with fail
            go_ret
            exact ⟨rfl, Hb11.out⟩
          · have e4 : decide ((aN : Int) ≥ (i : Int)) = false := by simp; omega
            have e4' : decide (i ≤ aN) = false := by simp; omega
            have e5 : decide ((aN : Int) < (i : Int)) = true := by simp; omega
            have e5' : decide (aN < i) = true := by simp; omega
            have hO := domOver_c wr (HKP.out wr Hbw.out) hln aN b
            rw [HOUT.out _ _ (by omega)] at hO
            have HO := hid_of hO
            clear hO
            go_wp2_with fail
            refine HO.out.mono ?_
            rintro e W7 ⟨rfl, hb7⟩
            have Hb7 := hid_of (bel_call Hbw.out hb7)
            clear HO hb7
            have HI := hid_of (idom_c W7 (HKP.out W7 Hb7.out) hln)
            go_wp2_with fail
            refine HI.out.mono ?_
            rintro e W8 ⟨z1, rfl, ho1, hb8⟩
            have hIl : ((List.range L.length).map (idS L)).length = i := by rw [List.length_map]; exact HIN.out
            have HIL := hid_of hIl
            have hz1 : IsInts (fun _ => True) W8 z1 ((List.range L.length).map (idS L)) := ints_of_owns (by rw [hIl, ← Hn.out]; exact ho1) (by omega) (fun _ _ _ _ => trivial)
            obtain ⟨a1, n1, c1, rfl⟩ := isInts_slice hz1
            have HZ1 := hid_of hz1
            have Hb8 := hid_of (bel_call Hb7.out hb8)
            have HJ := hid_of (idomR_c W8 (HKP.out W8 Hb8.out) hln)
            clear HI ho1 hb8 hz1 hIl
            go_wp2_with fail
            refine HJ.out.mono ?_
            rintro e W9 ⟨g2, rfl, hg2, hr2, hb9⟩
            have hz2 : IsInts (fun _ => True) W9 (.slice (some ⟨g2, 0, none⟩) ((List.range L.length).map (idS L)).length ((List.range L.length).map (idS L)).length) ((List.range L.length).map (idS L)) := ints_of_row hr2 trivial (by rw [HIL.out]; omega)
            rw [HIL.out] at hz2
            have HS := hid_of (sameInts_c W9 (HZ1.out.keep (Keep.below hb9)) hz2)
            rw [sameS_self] at HS
            have Hb9 := hid_of (bel_call Hb8.out hb9)
            clear HJ hr2 hb9 hz2
            go_wp2_with fail
            refine HS.out.mono ?_
            rintro e W10 ⟨rfl, m, rfl⟩
            have Hb10 := hid_of (bel_drewN Hb9.out m)
            clear HS Hb9
            go_wp2_with fail
            go_ret
            exact ⟨rfl, Hb10.out⟩
        obtain ⟨bN, rfl⟩ : ∃ bN : Nat, b = bN := ⟨b.toNat, by omega⟩
        have e3 : decide ((bN : Int) < 0) = false := by simp
        by_cases hai : i ≤ aN
        · have e4 : decide ((aN : Int) ≥ (i : Int)) = true := by simp; omega
          have e4' : decide (i ≤ aN) = true := by simp; omega
          have e5 : decide ((aN : Int) < (i : Int)) = false := by simp; omega
          have e5' : decide (aN < i) = false := by simp; omega
          have hO := domOver_c wr (HKP.out wr Hbw.out) hln aN bN
          rw [HOUT.out _ _ (by omega)] at hO
          have HO := hid_of hO
          clear hO
          go_wp2_with fail
          refine HO.out.mono ?_
          rintro e W7 ⟨rfl, hb7⟩
          have Hb7 := hid_of (bel_call Hbw.out hb7)
          clear HO hb7
          have HI := hid_of (idom_c W7 (HKP.out W7 Hb7.out) hln)
          go_wp2_with fail
          refine HI.out.mono ?_
          rintro e W8 ⟨z1, rfl, ho1, hb8⟩
          have hIl : ((List.range L.length).map (idS L)).length = i := by rw [List.length_map]; exact HIN.out
          have HIL := hid_of hIl
          have hz1 : IsInts (fun _ => True) W8 z1 ((List.range L.length).map (idS L)) := ints_of_owns (by rw [hIl, ← Hn.out]; exact ho1) (by omega) (fun _ _ _ _ => trivial)
          obtain ⟨a1, n1, c1, rfl⟩ := isInts_slice hz1
          have HZ1 := hid_of hz1
          have Hb8 := hid_of (bel_call Hb7.out hb8)
          have HJ := hid_of (idomR_c W8 (HKP.out W8 Hb8.out) hln)
          clear HI ho1 hb8 hz1 hIl
          go_wp2_with fail
          refine HJ.out.mono ?_
          rintro e W9 ⟨g2, rfl, hg2, hr2, hb9⟩
          have hz2 : IsInts (fun _ => True) W9 (.slice (some ⟨g2, 0, none⟩) ((List.range L.length).map (idS L)).length ((List.range L.length).map (idS L)).length) ((List.range L.length).map (idS L)) := ints_of_row hr2 trivial (by rw [HIL.out]; omega)
          rw [HIL.out] at hz2
          have HS := hid_of (sameInts_c W9 (HZ1.out.keep (Keep.below hb9)) hz2)
          rw [sameS_self] at HS
          have Hb9 := hid_of (bel_call Hb8.out hb9)
          clear HJ hr2 hb9 hz2
          go_wp2_with fail
          refine HS.out.mono ?_
          rintro e W10 ⟨rfl, m, rfl⟩
          have Hb10 := hid_of (bel_drewN Hb9.out m)
          clear HS Hb9
          have hF := frontier_c (W9.drewN m) (HKP.out _ Hb10.out) hln aN
          rw [HFN.out _ (by omega)] at hF
          have HFr := hid_of hF
          clear hF
          go_wp2_with fail
          refine HFr.out.mono ?_
          rintro e W11 ⟨z3, rfl, ho3, hb11⟩
          obtain ⟨a3, c3, rfl, -⟩ := owns_slice ho3
          have Hb11 := hid_of (bel_call Hb10.out hb11)
          clear HFr ho3 hb11
          go_wp2_with fail
          go_ret
          exact ⟨rfl, Hb11.out⟩
        · have e4 : decide ((aN : Int) ≥ (i : Int)) = false := by simp; omega
          have e4' : decide (i ≤ aN) = false := by simp; omega
          have e5 : decide ((aN : Int) < (i : Int)) = true := by simp; omega
          have e5' : decide (aN < i) = true := by simp; omega
          by_cases hbi : i ≤ bN
          · have e6 : decide ((bN : Int) ≥ (i : Int)) = true := by simp; omega
            have e6' : decide (i ≤ bN) = true := by simp; omega
            have hO := domOver_c wr (HKP.out wr Hbw.out) hln aN bN
            rw [HOUT.out _ _ (by omega)] at hO
            have HO := hid_of hO
            clear hO
            go_wp2_with fail
            refine HO.out.mono ?_
            rintro e W7 ⟨rfl, hb7⟩
            have Hb7 := hid_of (bel_call Hbw.out hb7)
            clear HO hb7
            have HI := hid_of (idom_c W7 (HKP.out W7 Hb7.out) hln)
            go_wp2_with fail
            refine HI.out.mono ?_
            rintro e W8 ⟨z1, rfl, ho1, hb8⟩
            have hIl : ((List.range L.length).map (idS L)).length = i := by rw [List.length_map]; exact HIN.out
            have HIL := hid_of hIl
            have hz1 : IsInts (fun _ => True) W8 z1 ((List.range L.length).map (idS L)) := ints_of_owns (by rw [hIl, ← Hn.out]; exact ho1) (by omega) (fun _ _ _ _ => trivial)
            obtain ⟨a1, n1, c1, rfl⟩ := isInts_slice hz1
            have HZ1 := hid_of hz1
            have Hb8 := hid_of (bel_call Hb7.out hb8)
            have HJ := hid_of (idomR_c W8 (HKP.out W8 Hb8.out) hln)
            clear HI ho1 hb8 hz1 hIl
            go_wp2_with fail
            refine HJ.out.mono ?_
            rintro e W9 ⟨g2, rfl, hg2, hr2, hb9⟩
            have hz2 : IsInts (fun _ => True) W9 (.slice (some ⟨g2, 0, none⟩) ((List.range L.length).map (idS L)).length ((List.range L.length).map (idS L)).length) ((List.range L.length).map (idS L)) := ints_of_row hr2 trivial (by rw [HIL.out]; omega)
            rw [HIL.out] at hz2
            have HS := hid_of (sameInts_c W9 (HZ1.out.keep (Keep.below hb9)) hz2)
            rw [sameS_self] at HS
            have Hb9 := hid_of (bel_call Hb8.out hb9)
            clear HJ hr2 hb9 hz2
            go_wp2_with fail
            refine HS.out.mono ?_
            rintro e W10 ⟨rfl, m, rfl⟩
            have Hb10 := hid_of (bel_drewN Hb9.out m)
            clear HS Hb9
            go_wp2_with fail
            go_ret
            exact ⟨rfl, Hb10.out⟩
          · have e6 : decide ((bN : Int) ≥ (i : Int)) = false := by simp; omega
            have e6' : decide (i ≤ bN) = false := by simp; omega
            have Hb7 := Hbw
            obtain ⟨W7, rfl⟩ : ∃ W7, W7 = wr := ⟨_, rfl⟩
            have HI := hid_of (idom_c W7 (HKP.out W7 Hb7.out) hln)
            go_wp2_with fail
            refine HI.out.mono ?_
            rintro e W8 ⟨z1, rfl, ho1, hb8⟩
            have hIl : ((List.range L.length).map (idS L)).length = i := by rw [List.length_map]; exact HIN.out
            have HIL := hid_of hIl
            have hz1 : IsInts (fun _ => True) W8 z1 ((List.range L.length).map (idS L)) := ints_of_owns (by rw [hIl, ← Hn.out]; exact ho1) (by omega) (fun _ _ _ _ => trivial)
            obtain ⟨a1, n1, c1, rfl⟩ := isInts_slice hz1
            have HZ1 := hid_of hz1
            have Hb8 := hid_of (bel_call Hb7.out hb8)
            have HJ := hid_of (idomR_c W8 (HKP.out W8 Hb8.out) hln)
            clear HI ho1 hb8 hz1 hIl
            go_wp2_with fail
            refine HJ.out.mono ?_
            rintro e W9 ⟨g2, rfl, hg2, hr2, hb9⟩
            have hz2 : IsInts (fun _ => True) W9 (.slice (some ⟨g2, 0, none⟩) ((List.range L.length).map (idS L)).length ((List.range L.length).map (idS L)).length) ((List.range L.length).map (idS L)) := ints_of_row hr2 trivial (by rw [HIL.out]; omega)
            rw [HIL.out] at hz2
            have HS := hid_of (sameInts_c W9 (HZ1.out.keep (Keep.below hb9)) hz2)
            rw [sameS_self] at HS
            have Hb9 := hid_of (bel_call Hb8.out hb9)
            clear HJ hr2 hb9 hz2
            go_wp2_with fail
            refine HS.out.mono ?_
            rintro e W10 ⟨rfl, m, rfl⟩
            have Hb10 := hid_of (bel_drewN Hb9.out m)
            clear HS Hb9
            go_wp2_with fail
            go_ret
            exact ⟨rfl, Hb10.out⟩
end Go.Proofs.Ytcihobmjohpnkaa
