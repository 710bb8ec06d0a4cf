/- 'LoopsTell': the walk. -/
import Derived.Test.YtcihobmjohpnkaaLoops16
namespace Go.Proofs.Ytcihobmjohpnkaa
open Go.RowKit Go.Sort

set_option maxRecDepth 100000 in
set_option maxHeartbeats 16000000 in
theorem loopsTell_c {u : Value} {L : List (List InsD)} (w : World) (h : IsBlocks (· < w.heap.size) w u L) (b : Int) :
    Calls Try.prog 16 #[u, .int .i64 b] w fun e w' => e = .returned (.bool true) ∧ Below w.heap.size w w' := by
  obtain ⟨ba, bc, rfl, -, -⟩ := id h
  obtain ⟨n, Hn⟩ : ∃ n, Hid (L.length = n) := ⟨_, (rfl : L.length = _)⟩
  rw [Hn.out] at h
  rw [Hn.out]
  have HAL := hid_of (alive16_c w)
  have HKP : Hid (∀ W, Below w.heap.size w W → IsBlocks (· < W.heap.size) W (.slice ba n bc) L) := fun W hW => h.keep (fun b hb hlt => ⟨Nat.lt_of_lt_of_le hb hW.size, hW.block b hlt⟩)
  clear h
  go_enter Try.func16, Try.ntmps16
  go_wp2_with fail
  refine HAL.out.mono ?_
  rintro e W ⟨rfl, hb⟩
  have HB := hid_of hb
  have HBg := hid_of (big_c W (HKP.out W hb))
  clear hb HAL
  go_wp2_with fail
  refine HBg.out.mono ?_
  rintro e W1 ⟨r, rfl, rfl, hr⟩
  clear hr HBg
  cases r with
  | true =>
    go_wp2_with fail
    go_ret
    exact ⟨rfl, HB.out⟩
  | false =>
    by_cases ht2 : 40 < n
    · have d1 : decide ((n : Int) > 40) = true := by simp; omega
      have d1' : decide (40 < n) = true := by simp; omega
      clear ht2
      go_wp2_with fail
      go_ret
      exact ⟨rfl, HB.out⟩
    have d1 : decide ((n : Int) > 40) = false := by simp; omega
    have d1' : decide (40 < n) = false := by simp; omega
    have hln : n ≤ 1000 := by omega
    clear ht2
    go_wp2_with fail
    go_loopw [7] (fun s7 wx => ∃ i : Nat, i ≤ n ∧ s7 = .int .i64 i ∧ Hid (Below w.heap.size w wx)) (fun s7 _ => n - (intOf s7).toNat)
    case atStart => exact ⟨0, by omega, rfl, HB⟩
    case round =>
      obtain ⟨i, hi, rfl, HBi⟩ := hrel
      clear HB
      by_cases hit : i < n
      · have hi0 : (0 : Int) ≤ (i : Int) := by omega
        have hiz : (i : Int) < (n : Int) := by omega
        have HF1 := hid_of (loopsBody_c wr (HKP.out wr HBi.out) hln (i : Int))
        have HF2 := hid_of (fun X (hX : Below w.heap.size w X) => bodyR_c X (HKP.out X hX) hln (i : Int))
        have hfl := bodyP_length L (i : Int) L.length
        change (bodyS L (i : Int)).length ≤ _ at hfl
        obtain ⟨F, HF⟩ : ∃ F, Hid (bodyS L (i : Int) = F) := ⟨_, (rfl : bodyS L (i : Int) = _)⟩
        rw [HF.out] at HF1 HF2 hfl
        rw [Hn.out] at hfl
        go_wp2_with fail
        refine HF1.out.mono ?_
        rintro e W4 ⟨z1, rfl, ho1, hb4⟩
        have hz1 : IsInts (fun _ => True) W4 z1 F := ints_of_owns ho1 (by omega) (fun _ _ _ _ => trivial)
        have hb04 := bel_call HBi.out hb4
        have HO1 := hid_of (owns_mono ho1 HBi.out.size)
        have HZ1 := hid_of hz1
        have Hb4 := hid_of hb04
        obtain ⟨a1, n1, c1, rfl⟩ := isInts_slice hz1
        have HF3 := hid_of (HF2.out W4 hb04)
        clear HF1 ho1 hb4 hz1 HF2 hb04
        go_wp2_with fail
        refine HF3.out.mono ?_
        rintro e W5 ⟨z2, rfl, ho2, hb5⟩
        have hz2 : IsInts (fun _ => True) W5 z2 F := ints_of_owns ho2 (by omega) (fun _ _ _ _ => trivial)
        obtain ⟨a2, n2, c2, rfl⟩ := isInts_slice hz2
        have HS := hid_of (sameInts_c W5 (HZ1.out.keep (Keep.below hb5)) hz2)
        rw [sameS_self] at HS
        have HO5 := hid_of (owns_below HO1.out hb5)
        have Hb5 := hid_of (bel_call Hb4.out hb5)
        clear HF3 ho2 hb5 hz2 HZ1 HO1 Hb4
        go_wp2_with fail
        refine HS.out.mono ?_
        rintro e W6 ⟨rfl, m, rfl⟩
        have Hb6 := hid_of (bel_drewN Hb5.out m)
        have ho6 := owns_below HO5.out (bel_drewN (bel_refl W5) m)
        obtain ⟨a1', c1', he, -⟩ := owns_slice ho6
        simp only [Value.slice.injEq] at he
        obtain ⟨rfl, rfl, rfl⟩ := he
        have HO6 := hid_of ho6
        clear HS Hb5 HO5 ho6
        obtain ⟨fn, Hfn⟩ : ∃ fn, Hid (F.length = fn) := ⟨_, (rfl : F.length = _)⟩
        have HF0 := HF
        rw [Hfn.out] at HO6 hfl ⊢
        have HL0 : Hid (F.length = fn) := Hfn
        go_wp2_with fail
        go_loopw [9] (fun s9 wx => ∃ (k : Nat) (zs : List Int), k ≤ fn ∧ Hid (zs.length = fn) ∧ s9 = .int .i64 k ∧ Hid (wx.ownsRow w.heap.size 3 1 (.slice a1 fn c1) fn (ints zs)) ∧ Hid (Below w.heap.size w wx)) (fun s9 _ => fn - (intOf s9).toNat)
        case atStart => exact ⟨0, F, by omega, HL0, rfl, HO6, Hb6⟩
        case round =>
          obtain ⟨k, zs, hk, HZL, rfl, HO7, Hb7⟩ := hrel
          clear HO6 Hb6
          by_cases hkt : k < fn
          · obtain ⟨g1, rfl⟩ : ∃ g1, a1 = some ⟨g1, 0, none⟩ := by
              rcases owns_nilcase HO7.out with ⟨_, h0, _⟩ | ⟨g, c, h⟩
              · omega
              · simp at h; exact ⟨g, h.1⟩
            have hI := HO7.out
            have hkz' : k < zs.length := by rw [HZL.out]; exact hkt
            obtain ⟨zv, hzv⟩ : ∃ zv, (ints zs)[k]? = some (.int .i64 zv) := ⟨zs[k], by simp [ints, hkz']⟩
            have c1 : wr.cell? ⟨g1, k, none⟩ = some (.int .i64 zv) := (hI.cellAt k (by omega)).trans hzv
            have hf := hI.frozenAt k
            have hI1 := (hI.stored k (.int .i64 (-1))).1
            rw [ints_set] at hI1
            have hg := hI.lt g1 rfl
            have HB7 := hid_of (bel_setCell (a := ⟨g1, k, none⟩) (u := .int .i64 (-1)) Hb7.out (by show _ ≤ g1; omega))
            have HI1 := hid_of hI1
            have hk0 : (0 : Int) ≤ (k : Int) := by omega
            have hkz : (k : Int) < (fn : Int) := by omega
            clear hI hI1 hzv hkz'
            go_wp2_with fail
            go_roundw
            case rel => exact ⟨k + 1, zs.set k (-1), by omega, by show _ = _; rw [List.length_set]; exact HZL.out, by go_num, HI1, HB7⟩
            case measure => simp [intOf]; omega
          · obtain rfl : k = fn := by omega
            go_wp2_with fail
            go_roundw
            case rel => exact ⟨i + 1, by omega, by go_num, Hb7⟩
            case measure => simp [intOf]; omega
      · obtain rfl : i = n := by omega
        have HJ1 := hid_of (loopsHeads_c wr (HKP.out wr HBi.out) hln)
        have hhl : (headsS L).length ≤ i := by rw [← Hn.out]; exact headsP_length L _
        have hdl : (depthO L (headsS L).length).length = i := by rw [depthO_length]; exact Hn.out
        have HR1 := hid_of (fun X (hX : Below w.heap.size w X) => headsR_c X (HKP.out X hX) hln)
        have HD1 := hid_of (fun X (hX : Below w.heap.size w X) => depth_c X (HKP.out X hX) hln)
        have HD2 := hid_of (fun X (hX : Below w.heap.size w X) => depthR_c X (HKP.out X hX) hln)
        have HBX := hid_of (fun X (hX : Below w.heap.size w X) (y : Int) => loopsBody_c X (HKP.out X hX) hln y)
        have HBN : Hid (∀ y : Int, y < 0 ∨ (i : Int) ≤ y → bodyS L y = []) := fun y hy => bodyS_none (head_out (by rw [Hn.out]; exact hy))
        obtain ⟨H, HH⟩ : ∃ H, Hid (headsS L = H) := ⟨_, (rfl : headsS L = _)⟩
        rw [HH.out] at HJ1 hhl HR1
        obtain ⟨DD, HDD⟩ : ∃ DD, Hid (depthO L (headsS L).length = DD) := ⟨_, (rfl : depthO L (headsS L).length = _)⟩
        rw [HDD.out] at hdl HD1 HD2
        have HDL := hid_of hdl
        clear hdl
        go_wp2_with fail
        refine HJ1.out.mono ?_
        rintro e W2 ⟨z1, rfl, ho1, hb2⟩
        have hz1 : IsInts (fun _ => True) W2 z1 H := ints_of_owns ho1 (by omega) (fun _ _ _ _ => trivial)
        have HZ1 := hid_of hz1
        have hb02 := bel_call HBi.out hb2
        have HR2 := hid_of (HR1.out W2 hb02)
        have Hb2 := hid_of hb02
        obtain ⟨a1, n1, c1, rfl⟩ := isInts_slice hz1
        clear HJ1 ho1 hb2 hz1 hb02 HR1
        go_wp2_with fail
        refine HR2.out.mono ?_
        rintro e W3 ⟨z2, rfl, ho2, hb3⟩
        have hz2 : IsInts (fun _ => True) W3 z2 H := ints_of_owns ho2 (by omega) (fun _ _ _ _ => trivial)
        obtain ⟨a2, n2, c2, rfl⟩ := isInts_slice hz2
        have HS := hid_of (sameInts_c W3 (HZ1.out.keep (Keep.below hb3)) hz2)
        rw [sameS_self] at HS
        have Hb3 := hid_of (bel_call Hb2.out hb3)
        clear HR2 ho2 hb3 hz2 HZ1 Hb2
        go_wp2_with fail
        refine HS.out.mono ?_
        rintro e W4 ⟨rfl, m, rfl⟩
        have hb4 := bel_drewN Hb3.out m
        have HDc := hid_of (HD1.out _ hb4)
        have Hb4 := hid_of hb4
        clear HS Hb3 hb4 HD1
        go_wp2_with fail
        refine HDc.out.mono ?_
        rintro e W5 ⟨z3, rfl, ho3, hb5⟩
        have hz3 : IsInts (fun _ => True) W5 z3 DD := ints_of_owns (by rw [HDL.out]; exact ho3) (by rw [HDL.out]; omega) (fun _ _ _ _ => trivial)
        have HZ3 := hid_of hz3
        have hb05 := bel_call Hb4.out hb5
        have HDr := hid_of (HD2.out _ hb05)
        have Hb5 := hid_of hb05
        obtain ⟨a3, n3, c3, rfl⟩ := isInts_slice hz3
        clear HDc ho3 hb5 hz3 hb05 HD2 Hb4
        go_wp2_with fail
        refine HDr.out.mono ?_
        rintro e W6 ⟨g4, rfl, hg4, hr4, hb6⟩
        have hz4 : IsInts (fun _ => True) W6 (.slice (some ⟨g4, 0, none⟩) DD.length DD.length) DD := ints_of_row hr4 trivial (by rw [HDL.out]; omega)
        rw [HDL.out] at hz4
        have HS := hid_of (sameInts_c W6 (HZ3.out.keep (Keep.below hb6)) hz4)
        rw [sameS_self] at HS
        have Hb6 := hid_of (bel_call Hb5.out hb6)
        clear HDr hr4 hb6 hz4 HZ3 Hb5
        go_wp2_with fail
        refine HS.out.mono ?_
        rintro e W7 ⟨rfl, m2, rfl⟩
        have hb7 := bel_drewN Hb6.out m2
        have Hb7 := hid_of hb7
        clear HS Hb6
        by_cases hb0 : b < 0
        · have e2 : decide (b ≥ 0) = false := by simpa using hb0
          have e2' : decide (0 ≤ b) = false := by simpa using hb0
          have hF := HBX.out _ hb7 b
          rw [HBN.out _ (by omega)] at hF
          have HFr := hid_of hF
          clear hF hb7
          go_wp2_with fail
          refine HFr.out.mono ?_
          rintro e W8 ⟨z5, rfl, ho5, hb8⟩
          obtain ⟨a5, c5, rfl, -⟩ := owns_slice ho5
          have Hb8 := hid_of (bel_call Hb7.out hb8)
          clear HFr ho5 hb8
          go_wp2_with fail
          go_ret
          exact ⟨rfl, Hb8.out⟩
        obtain ⟨bN, rfl⟩ : ∃ bN : Nat, b = bN := ⟨b.toNat, by omega⟩
        have e2 : decide ((bN : Int) ≥ 0) = true := by simp
        have e2' : decide (0 ≤ (bN : Int)) = true := by simp
        by_cases hbi : i ≤ bN
        · have e4 : decide ((bN : Int) < (i : Int)) = false := by simp; omega
          have e4' : decide (bN < i) = false := by simp; omega
          have hF := HBX.out _ hb7 bN
          rw [HBN.out _ (by omega)] at hF
          have HFr := hid_of hF
          clear hF hb7
          go_wp2_with fail
          refine HFr.out.mono ?_
          rintro e W8 ⟨z5, rfl, ho5, hb8⟩
          obtain ⟨a5, c5, rfl, -⟩ := owns_slice ho5
          have Hb8 := hid_of (bel_call Hb7.out hb8)
          clear HFr ho5 hb8
          go_wp2_with fail
          go_ret
          exact ⟨rfl, Hb8.out⟩
        · have e4 : decide ((bN : Int) < (i : Int)) = true := by simp; omega
          have e4' : decide (bN < i) = true := by simp; omega
          go_wp2_with fail
          go_ret
          exact ⟨rfl, Hb7.out⟩
end Go.Proofs.Ytcihobmjohpnkaa
