/- 'DomChain': the walk. -/
import Derived.Test.YtcihobmjohpnkaaDom15
import Derived.Test.YtcihobmjohpnkaaRowO
namespace Go.Proofs.Ytcihobmjohpnkaa
open Go.RowKit Go.Sort

set_option maxRecDepth 100000 in
set_option maxHeartbeats 16000000 in
theorem domChain_c (w : World) (n a b : Int) : Calls Try.prog 14 #[.int .i64 n, .int .i64 a, .int .i64 b] w fun e w' => e = .returned (.bool true) ∧ Below w.heap.size w w' := by
  have HAL := hid_of (alive15_c w)
  by_cases h1 : n < 1
  · have d1 : decide (n < 1) = true := by simpa using h1
    go_enter Try.func14, Try.ntmps14
    go_wp2_with fail
    refine HAL.out.mono ?_
    rintro e W ⟨rfl, hb⟩
    go_wp2_with fail
    go_ret
    exact ⟨rfl, hb⟩
  have d1 : decide (n < 1) = false := by simpa using h1
  by_cases h2 : n > 50
  · have d2 : decide (n > 50) = true := by simpa using h2
    have d2' : decide (50 < n) = true := by simpa using h2
    go_enter Try.func14, Try.ntmps14
    go_wp2_with fail
    refine HAL.out.mono ?_
    rintro e W ⟨rfl, hb⟩
    go_wp2_with fail
    go_ret
    exact ⟨rfl, hb⟩
  obtain ⟨nn, rfl⟩ : ∃ nn : Nat, n = nn := ⟨n.toNat, by omega⟩
  have d1' : decide (nn < 1) = false := by simp; omega
  have d2 : decide ((nn : Int) > 50) = false := by simp; omega
  have d2' : decide (50 < nn) = false := by simp; omega
  have hn1 : 1 ≤ nn := by omega
  have hn5 : nn ≤ 50 := by omega
  clear h1 h2
  go_enter Try.func14, Try.ntmps14
  go_wp2_with fail
  refine HAL.out.mono ?_
  rintro e W1 ⟨rfl, hb1⟩
  have HB1 := hid_of hb1
  clear HAL hb1
  go_wp2_with fail
  clear d1 d1' d2 d2'
  go_loopw [8, 9] (fun s8 s9 wx => ∃ i : Nat, i ≤ nn ∧ s9 = .int .i64 i ∧ Hid (RowOwn W1.heap.size (chainR nn i) s8 wx) ∧ Hid (Below W1.heap.size W1 wx)) (fun _ s9 _ => nn - (intOf s9).toNat)
  case atStart => exact ⟨0, by omega, rfl, RowOwn.nil _ _, bel_refl _⟩
  case round =>
    obtain ⟨i, hi, rfl, HO, HB⟩ := hrel
    obtain ⟨oa, oc, rfl⟩ := HO.out.slice
    have hcl := chainR_length nn i
    by_cases hit : i < nn
    · have hiz : (i : Int) < (nn : Int) := by omega
      have hsz := HB.out.size
      by_cases hi1 : i + 1 < nn
      · have e1 : decide ((i : Int) + 1 < (nn : Int)) = true := by simp; omega
        have e1' : decide (i + 1 < nn) = true := by simp; omega
        have HS : Hid (chainR nn i ++ [[((i + 1 : Nat) : Int)]] = chainR nn (i + 1)) := by show _ = _; rw [chainR_succ, if_pos hi1]
        have hiw : (i : Int) + 1 < (nn : Int) := by omega
        clear hi1
        go_wp2_with (at_builtin; refine stop_here ?_)
        refine stop_go (app_rows rfl _ _ rfl W1.heap.size _ (chainR nn i) rfl HO.out hsz (bel_alloc (bel_alloc (bel_refl wr) _) _) _ [.slice (some ⟨wr.heap.size, 0, none⟩) 1 1] [[((i + 1 : Nat) : Int)]] rfl (heap_alloc_eq _ _ _ (by simp)) rfl (by intro u hu; simp at hu; subst hu; rfl) ?_ (by simp; omega) ?_)
        · intro j hj
          have : j = 0 := by simpa using hj
          subst this
          exact ints_of_row (xs := [((i + 1 : Nat) : Int)]) (e := 3) (heap_alloc_ne _ _ _ _ (heap_alloc_eq _ _ _ rfl)) (by simp; omega) (by simp)
        · intro v' w' hO' hB'
          rw [HS.out] at hO'
          have HO2 := hid_of hO'
          have HB2 := hid_of (HB.out.trans hB')
          clear hO' hB' HO HB
          go_wp2_with fail
          go_roundw
          case rel => exact ⟨i + 1, by omega, by go_num, HO2, HB2⟩
          case measure => simp [intOf]; omega
      · have e1 : decide ((i : Int) + 1 < (nn : Int)) = false := by simp; omega
        have e1' : decide (i + 1 < nn) = false := by simp; omega
        have HS : Hid (chainR nn i ++ [[]] = chainR nn (i + 1)) := by show _ = _; rw [chainR_succ, if_neg hi1]
        clear hi1
        go_wp2_with (at_builtin; refine stop_here ?_)
        refine stop_go (app_rows rfl _ _ rfl W1.heap.size _ (chainR nn i) rfl HO.out hsz (bel_alloc (bel_refl wr) _) _ [.slice none 0 0] [[]] rfl (heap_alloc_eq _ _ _ (by simp)) rfl (by intro u hu; simp at hu; subst hu; rfl) ?_ (by simp; omega) ?_)
        · intro j hj
          have : j = 0 := by simpa using hj
          subst this
          exact ints_nil _ _
        · intro v' w' hO' hB'
          rw [HS.out] at hO'
          have HO2 := hid_of hO'
          have HB2 := hid_of (HB.out.trans hB')
          clear hO' hB' HO HB
          go_wp2_with fail
          go_roundw
          case rel => exact ⟨i + 1, by omega, by go_num, HO2, HB2⟩
          case measure => simp [intOf]; omega
    · obtain rfl : i = nn := by omega
      have HF := hid_of (flow_c wr (HO.out.rows (by omega)) (by omega))
      have Hbw := hid_of (bel_call HB1.out HB.out)
      clear HO HB hcl
      go_wp2_with fail
      refine HF.out.mono ?_
      rintro e W3 ⟨u, rfl, hbl, hb3⟩
      have hcl : (chainL i).length = i := chainL_length i
      obtain ⟨ua, uc, rfl, -, -⟩ := id hbl
      change IsBlocks _ _ (.slice ua (chainL i).length uc) (chainL i) at hbl
      rw [hcl] at hbl
      have hsl : Value.slice ua (flowS (chainR i i)).length uc = .slice ua i uc := congrArg (fun k => Value.slice ua k uc) hcl
      rw [hsl]
      have HKP := hid_of (fun W (hW : Below W3.heap.size W3 W) => hbl.keep (p' := (· < W.heap.size)) (fun b _ hlt => ⟨Nat.lt_of_lt_of_le hlt hW.size, hW.block b hlt⟩))
      have Hb3 := hid_of (bel_call Hbw.out hb3)
      have HCL := hid_of hcl
      clear HF Hbw hbl hb3 hsl hcl
      have HID : Hid ((List.range (chainL i).length).map (idS (chainL i)) = (List.range i).map fun (k : Nat) => (k : Int) - 1) := by
        show _ = _
        rw [HCL.out]
        exact List.map_congr_left fun k hk => chain_id (List.mem_range.1 hk)
      have HFR : Hid (∀ k : Nat, frontP (chainL i) (k : Int) (chainL i).length = []) := fun k => chain_front i k _
      have HOUT : Hid (∀ x y : Int, x < 0 ∨ (i : Int) ≤ x ∨ y < 0 ∨ (i : Int) ≤ y → overS (chainL i) x y = false) := fun x y hxy => not_over_out (by rw [HCL.out]; exact hxy)
      have HOV : Hid (∀ x y : Nat, y < i → overS (chainL i) x y = decide (x ≤ y)) := fun x y hy => chain_over x y hy
      obtain ⟨L, HL⟩ : ∃ L, Hid (chainL i = L) := ⟨_, (rfl : chainL i = _)⟩
      rw [HL.out] at HKP HCL HID HFR HOUT HOV
      clear HL
      by_cases ha0 : a < 0
      · have e2 : decide (a ≥ 0) = false := by simpa using ha0
        have e2' : decide (0 ≤ a) = false := by simpa using ha0
        have HI := hid_of (idom_c W3 (HKP.out W3 (bel_refl _)) (by omega))
        go_wp2_with fail
        refine HI.out.mono ?_
        rintro e W4 ⟨z1, rfl, ho1, hb4⟩
        rw [HID.out, HCL.out] at ho1
        have hIl : ((List.range i).map fun (k : Nat) => (k : Int) - 1).length = i := by rw [List.length_map, List.length_range]
        have hz1 : IsInts (fun _ => True) W4 z1 ((List.range i).map fun (k : Nat) => (k : Int) - 1) := ints_of_owns (by rw [hIl]; exact ho1) (by omega) (fun _ _ _ _ => trivial)
        have HB4 := hid_of hb4
        obtain ⟨za, zc, rfl, -, hx⟩ := id hz1
        rw [hIl]
        rcases hx with hx | ⟨zb, zo, rfl, -, hx⟩
        · exfalso; rw [hx] at hIl; simp at hIl; omega
        have hup : ∀ k : Nat, k < i → W4.cell? ⟨zb, zo + k, none⟩ = some (.int .i64 ((k : Int) - 1)) := fun k hk => by
          have e1 := hx k (by rw [hIl]; exact hk)
          unfold CInt at e1
          rw [Nat.mul_one] at e1
          rw [e1]
          simp
        have HUP := hid_of hup
        have hnn : ((i : Int) != (i : Int)) = false := by simp
        have hzl := lt_of_cell (hup 0 (by omega))
        clear HI ho1 hb4 hz1 hx hup hIl
        go_wp2_with fail
        obtain ⟨wo, rfl⟩ : ∃ wo : World, wo = W4 := ⟨_, rfl⟩
        go_loopw [13] (fun s13 wx => ∃ k : Nat, k ≤ i ∧ s13 = .int .i64 k ∧ Hid (Below wo.heap.size wo wx)) (fun s13 _ => i - (intOf s13).toNat)
        case atStart => exact ⟨0, by omega, rfl, bel_refl _⟩
        case round =>
          obtain ⟨k, hk, rfl, HBk⟩ := hrel
          have Hbx := hid_of (bel_call HB4.out HBk.out)
          by_cases hkt : k < i
          · have q1 := (World.cell?_of_block (a := ⟨zb, zo + k, none⟩) (HBk.out.block zb hzl)).trans (HUP.out k hkt)
            have hF := frontier_c wr (HKP.out wr Hbx.out) (by omega) (k : Int)
            rw [HFR.out] at hF
            have HF := hid_of hF
            have hw1 : IntKind.i64.wrap ((k : Int) - 1) = (k : Int) - 1 := by rw [IntKind.wrap_i64]; omega
            have hne : (((k : Int) - 1) != ((k : Int) - 1)) = false := by simp
            have hk0 : (0 : Int) ≤ (k : Int) := by omega
            have hkz : (k : Int) < (i : Int) := by omega
            clear hF
            go_wp2_with fail
            refine HF.out.mono ?_
            rintro e W6 ⟨z3, rfl, ho3, hb6⟩
            obtain ⟨a3, c3, rfl, -⟩ := owns_slice ho3
            have HB6 := hid_of (bel_call HBk.out hb6)
            clear HF ho3 hb6 q1 hw1
            go_wp2_with fail
            go_roundw
            case rel => exact ⟨k + 1, by omega, by go_num, HB6⟩
            case measure => simp [intOf]; omega
          · obtain rfl : k = i := by omega
            have hO := domOver_c wr (HKP.out wr Hbx.out) (by omega) a b
            rw [HOUT.out _ _ (by omega)] at hO
            have HOc := hid_of hO
            clear hO
            go_wp2_with fail
            refine HOc.out.mono ?_
            rintro e W7 ⟨rfl, hb7⟩
            have HB7 := hid_of (bel_call (bel_call Hb3.out Hbx.out) hb7)
            clear HOc hb7
            go_wp2_with fail
            go_ret
            exact ⟨rfl, HB7.out⟩
      obtain ⟨aN, rfl⟩ : ∃ aN : Nat, a = aN := ⟨a.toNat, by omega⟩
      have e2 : decide ((aN : Int) ≥ 0) = true := by simp
      have e2' : decide (0 ≤ (aN : Int)) = true := by simp
      by_cases hb0 : b < 0
      · have e3 : decide (b ≥ 0) = false := by simpa using hb0
        have e3' : decide (0 ≤ b) = false := by simpa using hb0
        have HI := hid_of (idom_c W3 (HKP.out W3 (bel_refl _)) (by omega))
        go_wp2_with fail
        refine HI.out.mono ?_
        rintro e W4 ⟨z1, rfl, ho1, hb4⟩
        rw [HID.out, HCL.out] at ho1
        have hIl : ((List.range i).map fun (k : Nat) => (k : Int) - 1).length = i := by rw [List.length_map, List.length_range]
        have hz1 : IsInts (fun _ => True) W4 z1 ((List.range i).map fun (k : Nat) => (k : Int) - 1) := ints_of_owns (by rw [hIl]; exact ho1) (by omega) (fun _ _ _ _ => trivial)
        have HB4 := hid_of hb4
        obtain ⟨za, zc, rfl, -, hx⟩ := id hz1
        rw [hIl]
        rcases hx with hx | ⟨zb, zo, rfl, -, hx⟩
        · exfalso; rw [hx] at hIl; simp at hIl; omega
        have hup : ∀ k : Nat, k < i → W4.cell? ⟨zb, zo + k, none⟩ = some (.int .i64 ((k : Int) - 1)) := fun k hk => by
          have e1 := hx k (by rw [hIl]; exact hk)
          unfold CInt at e1
          rw [Nat.mul_one] at e1
          rw [e1]
          simp
        have HUP := hid_of hup
        have hnn : ((i : Int) != (i : Int)) = false := by simp
        have hzl := lt_of_cell (hup 0 (by omega))
        clear HI ho1 hb4 hz1 hx hup hIl
        go_wp2_with fail
        obtain ⟨wo, rfl⟩ : ∃ wo : World, wo = W4 := ⟨_, rfl⟩
        go_loopw [13] (fun s13 wx => ∃ k : Nat, k ≤ i ∧ s13 = .int .i64 k ∧ Hid (Below wo.heap.size wo wx)) (fun s13 _ => i - (intOf s13).toNat)
        case atStart => exact ⟨0, by omega, rfl, bel_refl _⟩
        case round =>
          obtain ⟨k, hk, rfl, HBk⟩ := hrel
          have Hbx := hid_of (bel_call HB4.out HBk.out)
          by_cases hkt : k < i
          · have q1 := (World.cell?_of_block (a := ⟨zb, zo + k, none⟩) (HBk.out.block zb hzl)).trans (HUP.out k hkt)
            have hF := frontier_c wr (HKP.out wr Hbx.out) (by omega) (k : Int)
            rw [HFR.out] at hF
            have HF := hid_of hF
            have hw1 : IntKind.i64.wrap ((k : Int) - 1) = (k : Int) - 1 := by rw [IntKind.wrap_i64]; omega
            have hne : (((k : Int) - 1) != ((k : Int) - 1)) = false := by simp
            have hk0 : (0 : Int) ≤ (k : Int) := by omega
            have hkz : (k : Int) < (i : Int) := by omega
            clear hF
            go_wp2_with fail
            refine HF.out.mono ?_
            rintro e W6 ⟨z3, rfl, ho3, hb6⟩
            obtain ⟨a3, c3, rfl, -⟩ := owns_slice ho3
            have HB6 := hid_of (bel_call HBk.out hb6)
            clear HF ho3 hb6 q1 hw1
            go_wp2_with fail
            go_roundw
            case rel => exact ⟨k + 1, by omega, by go_num, HB6⟩
            case measure => simp [intOf]; omega
          · obtain rfl : k = i := by omega
            have hO := domOver_c wr (HKP.out wr Hbx.out) (by omega) aN b
            rw [HOUT.out _ _ (by omega)] at hO
            have HOc := hid_of hO
            clear hO
            go_wp2_with fail
            refine HOc.out.mono ?_
            rintro e W7 ⟨rfl, hb7⟩
            have HB7 := hid_of (bel_call (bel_call Hb3.out Hbx.out) hb7)
            clear HOc hb7
            go_wp2_with fail
            go_ret
            exact ⟨rfl, HB7.out⟩
      obtain ⟨bN, rfl⟩ : ∃ bN : Nat, b = bN := ⟨b.toNat, by omega⟩
      have e3 : decide ((bN : Int) ≥ 0) = true := by simp
      have e3' : decide (0 ≤ (bN : Int)) = true := by simp
      by_cases hai : i ≤ aN
      · have ea : decide ((aN : Int) < (i : Int)) = false := by simp; omega
        have ea' : decide (aN < i) = false := by simp; omega
        have HI := hid_of (idom_c W3 (HKP.out W3 (bel_refl _)) (by omega))
        go_wp2_with fail
        refine HI.out.mono ?_
        rintro e W4 ⟨z1, rfl, ho1, hb4⟩
        rw [HID.out, HCL.out] at ho1
        have hIl : ((List.range i).map fun (k : Nat) => (k : Int) - 1).length = i := by rw [List.length_map, List.length_range]
        have hz1 : IsInts (fun _ => True) W4 z1 ((List.range i).map fun (k : Nat) => (k : Int) - 1) := ints_of_owns (by rw [hIl]; exact ho1) (by omega) (fun _ _ _ _ => trivial)
        have HB4 := hid_of hb4
        obtain ⟨za, zc, rfl, -, hx⟩ := id hz1
        rw [hIl]
        rcases hx with hx | ⟨zb, zo, rfl, -, hx⟩
        · exfalso; rw [hx] at hIl; simp at hIl; omega
        have hup : ∀ k : Nat, k < i → W4.cell? ⟨zb, zo + k, none⟩ = some (.int .i64 ((k : Int) - 1)) := fun k hk => by
          have e1 := hx k (by rw [hIl]; exact hk)
          unfold CInt at e1
          rw [Nat.mul_one] at e1
          rw [e1]
          simp
        have HUP := hid_of hup
        have hnn : ((i : Int) != (i : Int)) = false := by simp
        have hzl := lt_of_cell (hup 0 (by omega))
        clear HI ho1 hb4 hz1 hx hup hIl
        go_wp2_with fail
        obtain ⟨wo, rfl⟩ : ∃ wo : World, wo = W4 := ⟨_, rfl⟩
        go_loopw [13] (fun s13 wx => ∃ k : Nat, k ≤ i ∧ s13 = .int .i64 k ∧ Hid (Below wo.heap.size wo wx)) (fun s13 _ => i - (intOf s13).toNat)
        case atStart => exact ⟨0, by omega, rfl, bel_refl _⟩
        case round =>
          obtain ⟨k, hk, rfl, HBk⟩ := hrel
          have Hbx := hid_of (bel_call HB4.out HBk.out)
          by_cases hkt : k < i
          · have q1 := (World.cell?_of_block (a := ⟨zb, zo + k, none⟩) (HBk.out.block zb hzl)).trans (HUP.out k hkt)
            have hF := frontier_c wr (HKP.out wr Hbx.out) (by omega) (k : Int)
            rw [HFR.out] at hF
            have HF := hid_of hF
            have hw1 : IntKind.i64.wrap ((k : Int) - 1) = (k : Int) - 1 := by rw [IntKind.wrap_i64]; omega
            have hne : (((k : Int) - 1) != ((k : Int) - 1)) = false := by simp
            have hk0 : (0 : Int) ≤ (k : Int) := by omega
            have hkz : (k : Int) < (i : Int) := by omega
            clear hF
            go_wp2_with fail
            refine HF.out.mono ?_
            rintro e W6 ⟨z3, rfl, ho3, hb6⟩
            obtain ⟨a3, c3, rfl, -⟩ := owns_slice ho3
            have HB6 := hid_of (bel_call HBk.out hb6)
            clear HF ho3 hb6 q1 hw1
            go_wp2_with fail
            go_roundw
            case rel => exact ⟨k + 1, by omega, by go_num, HB6⟩
            case measure => simp [intOf]; omega
          · obtain rfl : k = i := by omega
            have hO := domOver_c wr (HKP.out wr Hbx.out) (by omega) aN bN
            rw [HOUT.out _ _ (by omega)] at hO
            have HOc := hid_of hO
            clear hO
            go_wp2_with fail
            refine HOc.out.mono ?_
            rintro e W7 ⟨rfl, hb7⟩
            have HB7 := hid_of (bel_call (bel_call Hb3.out Hbx.out) hb7)
            clear HOc hb7
            go_wp2_with fail
            go_ret
            exact ⟨rfl, HB7.out⟩
      have ea : decide ((aN : Int) < (i : Int)) = true := by simp; omega
      have ea' : decide (aN < i) = true := by simp; omega
      by_cases hbi : i ≤ bN
      · have eb : decide ((bN : Int) < (i : Int)) = false := by simp; omega
        have eb' : decide (bN < i) = false := by simp; omega
        have HI := hid_of (idom_c W3 (HKP.out W3 (bel_refl _)) (by omega))
        go_wp2_with fail
        refine HI.out.mono ?_
        rintro e W4 ⟨z1, rfl, ho1, hb4⟩
        rw [HID.out, HCL.out] at ho1
        have hIl : ((List.range i).map fun (k : Nat) => (k : Int) - 1).length = i := by rw [List.length_map, List.length_range]
        have hz1 : IsInts (fun _ => True) W4 z1 ((List.range i).map fun (k : Nat) => (k : Int) - 1) := ints_of_owns (by rw [hIl]; exact ho1) (by omega) (fun _ _ _ _ => trivial)
        have HB4 := hid_of hb4
        obtain ⟨za, zc, rfl, -, hx⟩ := id hz1
        rw [hIl]
        rcases hx with hx | ⟨zb, zo, rfl, -, hx⟩
        · exfalso; rw [hx] at hIl; simp at hIl; omega
        have hup : ∀ k : Nat, k < i → W4.cell? ⟨zb, zo + k, none⟩ = some (.int .i64 ((k : Int) - 1)) := fun k hk => by
          have e1 := hx k (by rw [hIl]; exact hk)
          unfold CInt at e1
          rw [Nat.mul_one] at e1
          rw [e1]
          simp
        have HUP := hid_of hup
        have hnn : ((i : Int) != (i : Int)) = false := by simp
        have hzl := lt_of_cell (hup 0 (by omega))
        clear HI ho1 hb4 hz1 hx hup hIl
        go_wp2_with fail
        obtain ⟨wo, rfl⟩ : ∃ wo : World, wo = W4 := ⟨_, rfl⟩
        go_loopw [13] (fun s13 wx => ∃ k : Nat, k ≤ i ∧ s13 = .int .i64 k ∧ Hid (Below wo.heap.size wo wx)) (fun s13 _ => i - (intOf s13).toNat)
        case atStart => exact ⟨0, by omega, rfl, bel_refl _⟩
        case round =>
          obtain ⟨k, hk, rfl, HBk⟩ := hrel
          have Hbx := hid_of (bel_call HB4.out HBk.out)
          by_cases hkt : k < i
          · have q1 := (World.cell?_of_block (a := ⟨zb, zo + k, none⟩) (HBk.out.block zb hzl)).trans (HUP.out k hkt)
            have hF := frontier_c wr (HKP.out wr Hbx.out) (by omega) (k : Int)
            rw [HFR.out] at hF
            have HF := hid_of hF
            have hw1 : IntKind.i64.wrap ((k : Int) - 1) = (k : Int) - 1 := by rw [IntKind.wrap_i64]; omega
            have hne : (((k : Int) - 1) != ((k : Int) - 1)) = false := by simp
            have hk0 : (0 : Int) ≤ (k : Int) := by omega
            have hkz : (k : Int) < (i : Int) := by omega
            clear hF
            go_wp2_with fail
            refine HF.out.mono ?_
            rintro e W6 ⟨z3, rfl, ho3, hb6⟩
            obtain ⟨a3, c3, rfl, -⟩ := owns_slice ho3
            have HB6 := hid_of (bel_call HBk.out hb6)
            clear HF ho3 hb6 q1 hw1
            go_wp2_with fail
            go_roundw
            case rel => exact ⟨k + 1, by omega, by go_num, HB6⟩
            case measure => simp [intOf]; omega
          · obtain rfl : k = i := by omega
            have hO := domOver_c wr (HKP.out wr Hbx.out) (by omega) aN bN
            rw [HOUT.out _ _ (by omega)] at hO
            have HOc := hid_of hO
            clear hO
            go_wp2_with fail
            refine HOc.out.mono ?_
            rintro e W7 ⟨rfl, hb7⟩
            have HB7 := hid_of (bel_call (bel_call Hb3.out Hbx.out) hb7)
            clear HOc hb7
            go_wp2_with fail
            go_ret
            exact ⟨rfl, HB7.out⟩
      have eb : decide ((bN : Int) < (i : Int)) = true := by simp; omega
      have eb' : decide (bN < i) = true := by simp; omega
      by_cases hab : aN ≤ bN
      · have e7 : decide ((aN : Int) ≤ (bN : Int)) = true := by simp; omega
        have e7' : decide (aN ≤ bN) = true := by simp; omega
        have HI := hid_of (idom_c W3 (HKP.out W3 (bel_refl _)) (by omega))
        go_wp2_with fail
        refine HI.out.mono ?_
        rintro e W4 ⟨z1, rfl, ho1, hb4⟩
        rw [HID.out, HCL.out] at ho1
        have hIl : ((List.range i).map fun (k : Nat) => (k : Int) - 1).length = i := by rw [List.length_map, List.length_range]
        have hz1 : IsInts (fun _ => True) W4 z1 ((List.range i).map fun (k : Nat) => (k : Int) - 1) := ints_of_owns (by rw [hIl]; exact ho1) (by omega) (fun _ _ _ _ => trivial)
        have HB4 := hid_of hb4
        obtain ⟨za, zc, rfl, -, hx⟩ := id hz1
        rw [hIl]
        rcases hx with hx | ⟨zb, zo, rfl, -, hx⟩
        · exfalso; rw [hx] at hIl; simp at hIl; omega
        have hup : ∀ k : Nat, k < i → W4.cell? ⟨zb, zo + k, none⟩ = some (.int .i64 ((k : Int) - 1)) := fun k hk => by
          have e1 := hx k (by rw [hIl]; exact hk)
          unfold CInt at e1
          rw [Nat.mul_one] at e1
          rw [e1]
          simp
        have HUP := hid_of hup
        have hnn : ((i : Int) != (i : Int)) = false := by simp
        have hzl := lt_of_cell (hup 0 (by omega))
        clear HI ho1 hb4 hz1 hx hup hIl
        go_wp2_with fail
        obtain ⟨wo, rfl⟩ : ∃ wo : World, wo = W4 := ⟨_, rfl⟩
        go_loopw [13] (fun s13 wx => ∃ k : Nat, k ≤ i ∧ s13 = .int .i64 k ∧ Hid (Below wo.heap.size wo wx)) (fun s13 _ => i - (intOf s13).toNat)
        case atStart => exact ⟨0, by omega, rfl, bel_refl _⟩
        case round =>
          obtain ⟨k, hk, rfl, HBk⟩ := hrel
          have Hbx := hid_of (bel_call HB4.out HBk.out)
          by_cases hkt : k < i
          · have q1 := (World.cell?_of_block (a := ⟨zb, zo + k, none⟩) (HBk.out.block zb hzl)).trans (HUP.out k hkt)
            have hF := frontier_c wr (HKP.out wr Hbx.out) (by omega) (k : Int)
            rw [HFR.out] at hF
            have HF := hid_of hF
            have hw1 : IntKind.i64.wrap ((k : Int) - 1) = (k : Int) - 1 := by rw [IntKind.wrap_i64]; omega
            have hne : (((k : Int) - 1) != ((k : Int) - 1)) = false := by simp
            have hk0 : (0 : Int) ≤ (k : Int) := by omega
            have hkz : (k : Int) < (i : Int) := by omega
            clear hF
            go_wp2_with fail
            refine HF.out.mono ?_
            rintro e W6 ⟨z3, rfl, ho3, hb6⟩
            obtain ⟨a3, c3, rfl, -⟩ := owns_slice ho3
            have HB6 := hid_of (bel_call HBk.out hb6)
            clear HF ho3 hb6 q1 hw1
            go_wp2_with fail
            go_roundw
            case rel => exact ⟨k + 1, by omega, by go_num, HB6⟩
            case measure => simp [intOf]; omega
          · obtain rfl : k = i := by omega
            have hO := domOver_c wr (HKP.out wr Hbx.out) (by omega) aN bN
            rw [HOV.out _ _ (by omega), show decide (aN ≤ bN) = true from e7'] at hO
            have HOc := hid_of hO
            clear hO
            go_wp2_with fail
            refine HOc.out.mono ?_
            rintro e W7 ⟨rfl, hb7⟩
            have HB7 := hid_of (bel_call (bel_call Hb3.out Hbx.out) hb7)
            clear HOc hb7
            go_wp2_with fail
            go_ret
            exact ⟨rfl, HB7.out⟩
      · have e7 : decide ((aN : Int) ≤ (bN : Int)) = false := by simp; omega
        have e7' : decide (aN ≤ bN) = false := by simp; omega
        have HI := hid_of (idom_c W3 (HKP.out W3 (bel_refl _)) (by omega))
        go_wp2_with fail
        refine HI.out.mono ?_
        rintro e W4 ⟨z1, rfl, ho1, hb4⟩
        rw [HID.out, HCL.out] at ho1
        have hIl : ((List.range i).map fun (k : Nat) => (k : Int) - 1).length = i := by rw [List.length_map, List.length_range]
        have hz1 : IsInts (fun _ => True) W4 z1 ((List.range i).map fun (k : Nat) => (k : Int) - 1) := ints_of_owns (by rw [hIl]; exact ho1) (by omega) (fun _ _ _ _ => trivial)
        have HB4 := hid_of hb4
        obtain ⟨za, zc, rfl, -, hx⟩ := id hz1
        rw [hIl]
        rcases hx with hx | ⟨zb, zo, rfl, -, hx⟩
        · exfalso; rw [hx] at hIl; simp at hIl; omega
        have hup : ∀ k : Nat, k < i → W4.cell? ⟨zb, zo + k, none⟩ = some (.int .i64 ((k : Int) - 1)) := fun k hk => by
          have e1 := hx k (by rw [hIl]; exact hk)
          unfold CInt at e1
          rw [Nat.mul_one] at e1
          rw [e1]
          simp
        have HUP := hid_of hup
        have hnn : ((i : Int) != (i : Int)) = false := by simp
        have hzl := lt_of_cell (hup 0 (by omega))
        clear HI ho1 hb4 hz1 hx hup hIl
        go_wp2_with fail
        obtain ⟨wo, rfl⟩ : ∃ wo : World, wo = W4 := ⟨_, rfl⟩
        go_loopw [13] (fun s13 wx => ∃ k : Nat, k ≤ i ∧ s13 = .int .i64 k ∧ Hid (Below wo.heap.size wo wx)) (fun s13 _ => i - (intOf s13).toNat)
        case atStart => exact ⟨0, by omega, rfl, bel_refl _⟩
        case round =>
          obtain ⟨k, hk, rfl, HBk⟩ := hrel
          have Hbx := hid_of (bel_call HB4.out HBk.out)
          by_cases hkt : k < i
          · have q1 := (World.cell?_of_block (a := ⟨zb, zo + k, none⟩) (HBk.out.block zb hzl)).trans (HUP.out k hkt)
            have hF := frontier_c wr (HKP.out wr Hbx.out) (by omega) (k : Int)
            rw [HFR.out] at hF
            have HF := hid_of hF
            have hw1 : IntKind.i64.wrap ((k : Int) - 1) = (k : Int) - 1 := by rw [IntKind.wrap_i64]; omega
            have hne : (((k : Int) - 1) != ((k : Int) - 1)) = false := by simp
            have hk0 : (0 : Int) ≤ (k : Int) := by omega
            have hkz : (k : Int) < (i : Int) := by omega
            clear hF
            go_wp2_with fail
            refine HF.out.mono ?_
            rintro e W6 ⟨z3, rfl, ho3, hb6⟩
            obtain ⟨a3, c3, rfl, -⟩ := owns_slice ho3
            have HB6 := hid_of (bel_call HBk.out hb6)
            clear HF ho3 hb6 q1 hw1
            go_wp2_with fail
            go_roundw
            case rel => exact ⟨k + 1, by omega, by go_num, HB6⟩
            case measure => simp [intOf]; omega
          · obtain rfl : k = i := by omega
            have hO := domOver_c wr (HKP.out wr Hbx.out) (by omega) aN bN
            rw [HOV.out _ _ (by omega), show decide (aN ≤ bN) = false from e7'] at hO
            have HOc := hid_of hO
            clear hO
            go_wp2_with fail
            refine HOc.out.mono ?_
            rintro e W7 ⟨rfl, hb7⟩
            have HB7 := hid_of (bel_call (bel_call Hb3.out Hbx.out) hb7)
            clear HOc hb7
            go_wp2_with fail
            go_ret
            exact ⟨rfl, HB7.out⟩
end Go.Proofs.Ytcihobmjohpnkaa
