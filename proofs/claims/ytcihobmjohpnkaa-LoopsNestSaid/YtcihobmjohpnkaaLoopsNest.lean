/- 'LoopsNest': the walk. -/
import Derived.Test.YtcihobmjohpnkaaLoopsQ
namespace Go.Proofs.Ytcihobmjohpnkaa
open Go.RowKit Go.Sort

set_option maxRecDepth 100000 in
set_option maxHeartbeats 16000000 in
theorem loopsNest_c (w : World) (n : Int) : Calls Try.prog 17 #[.int .i64 n] w fun e w' => e = .returned (.bool true) ∧ Below w.heap.size w w' := by
  have HAL := hid_of (alive16_c w)
  by_cases h1 : n < 1
  · have d1 : decide (n < 1) = true := by simpa using h1
    go_enter Try.func17, Try.ntmps17
    go_wp2_with fail
    refine HAL.out.mono ?_
    rintro e W ⟨rfl, hb⟩
    go_wp2_with fail
    go_ret
    exact ⟨rfl, hb⟩
  have d1 : decide (n < 1) = false := by simpa using h1
  by_cases h2 : n > 15
  · have d2 : decide (n > 15) = true := by simpa using h2
    have d2' : decide (15 < n) = true := by simpa using h2
    go_enter Try.func17, Try.ntmps17
    go_wp2_with fail
    refine HAL.out.mono ?_
    rintro e W ⟨rfl, hb⟩
    go_wp2_with fail
    go_ret
    exact ⟨rfl, hb⟩
  obtain ⟨nn, rfl⟩ : ∃ nn : Nat, n = nn := ⟨n.toNat, by omega⟩
  have d1' : decide (nn < 1) = false := by simp; omega
  have d2 : decide ((nn : Int) > 15) = false := by simp; omega
  have d2' : decide (15 < nn) = false := by simp; omega
  have hn1 : 1 ≤ nn := by omega
  have hn5 : nn ≤ 15 := by omega
  have hn15 : (nn : Int) ≤ 15 := by omega
  have hn00 : (0 : Int) ≤ (nn : Int) := by omega
  clear h1 h2
  go_enter Try.func17, Try.ntmps17
  go_wp2_with fail
  refine HAL.out.mono ?_
  rintro e W1 ⟨rfl, hb1⟩
  have HB1 := hid_of hb1
  clear HAL hb1
  go_wp2_with fail
  clear d1 d1' d2 d2'
  go_loopw [4, 5] (fun s4 s5 wx => ∃ i : Nat, i ≤ nn + 1 ∧ s5 = .int .i64 i ∧ Hid (RowOwn W1.heap.size (upR i) s4 wx) ∧ Hid (Below W1.heap.size W1 wx)) (fun _ s5 _ => nn + 1 - (intOf s5).toNat)
  case atStart => exact ⟨0, by omega, rfl, RowOwn.nil _ _, bel_refl _⟩
  case round =>
    obtain ⟨i, hi, rfl, HO, HB⟩ := hrel
    obtain ⟨oa, oc, rfl⟩ := HO.out.slice
    have hcl := upR_length i
    have hsz := HB.out.size
    by_cases hit : i ≤ nn
    · have hiz : (i : Int) ≤ (nn : Int) := by omega
      have d3 : decide ((i : Int) ≤ (nn : Int)) = true := by simp; omega
      have d3' : decide (i ≤ nn) = true := by simp; omega
      have hi0 : (0 : Int) ≤ (i : Int) := by omega
      have HS : Hid (upR i ++ [[(i : Int) + 1]] = upR (i + 1)) := upR_succ i
      go_wp2_with (at_builtin; refine stop_here ?_)
      refine stop_go (app_rows rfl _ _ rfl W1.heap.size _ (upR i) rfl HO.out hsz (bel_alloc (bel_alloc (bel_refl wr) _) _) _ [.slice (some ⟨wr.heap.size, 0, none⟩) 1 1] [[(i : Int) + 1]] rfl (heap_alloc_eq _ _ _ (by simp)) rfl (by intro u hu; simp at hu; subst hu; rfl) ?_ (by simp; omega) ?_)
      · intro j hj
        have : j = 0 := by simpa using hj
        subst this
        exact ints_of_row (xs := [(i : Int) + 1]) (e := 3) (heap_alloc_ne _ _ _ _ (heap_alloc_eq _ _ _ rfl)) (by simp; omega) (by simp)
      · intro v' w' hO' hB'
        rw [HS.out] at hO'
        have HO2 := hid_of hO'
        have HB2 := hid_of (HB.out.trans hB')
        clear hO' hB' HO HB
        go_wp2_with fail
        go_roundw
        case rel => exact ⟨i + 1, by omega, by go_num, HO2, HB2⟩
        case measure => simp [intOf]; omega
    · have HIE : Hid (i = nn + 1) := by show _ = _; omega
      have d3 : decide ((i : Int) ≤ (nn : Int)) = false := by simp; omega
      have d3' : decide (i ≤ nn) = false := by simp; omega
      have HO1 : Hid (RowOwn W1.heap.size (upR (nn + 1) ++ backR nn 0) (.slice oa (upR i).length oc) wr) := by
        show RowOwn _ _ _ _
        rw [show upR (nn + 1) ++ backR nn 0 = upR i from by rw [HIE.out]; simp [backR]]
        exact HO.out
      clear hit
      have HCL := hid_of hcl
      clear hcl HO
      go_wp2_with fail
      clear d3 d3'
      go_loopw [4, 6] (fun s4 s6 wx => ∃ i : Nat, i ≤ nn ∧ s6 = .int .i64 i ∧ Hid (RowOwn W1.heap.size (upR (nn + 1) ++ backR nn i) s4 wx) ∧ Hid (Below W1.heap.size W1 wx)) (fun _ s6 _ => nn - (intOf s6).toNat)
      case atStart => exact ⟨0, by omega, rfl, HO1, HB⟩
      case round =>
        obtain ⟨i, hi, rfl, HO, HB⟩ := hrel
        clear HO1
        obtain ⟨oa, oc, rfl⟩ := HO.out.slice
        have hcl : (upR (nn + 1) ++ backR nn i).length = nn + 1 + i := by rw [List.length_append, upR_length, backR_length]
        have hsz := HB.out.size
        obtain ⟨RR, HRR⟩ : ∃ RR, Hid (upR (nn + 1) ++ backR nn i = RR) := ⟨_, (rfl : upR (nn + 1) ++ backR nn i = _)⟩
        rw [HRR.out] at HO hcl ⊢
        have HCL2 := hid_of hcl
        clear hcl
        by_cases hit : i < nn
        · have hiz : (i : Int) < (nn : Int) := by omega
          have hi0 : (0 : Int) ≤ (i : Int) := by omega
          have HS : Hid (RR ++ [[(nn : Int) - (i : Int), (nn : Int) + (i : Int) + 2]] = upR (nn + 1) ++ backR nn (i + 1)) := by show _ = _; rw [← HRR.out, List.append_assoc, backR_succ]
          go_wp2_with (at_builtin; refine stop_here ?_)
          refine stop_go (app_rows rfl _ _ rfl W1.heap.size _ RR rfl HO.out hsz (bel_alloc (bel_alloc (bel_refl wr) _) _) _ [.slice (some ⟨wr.heap.size, 0, none⟩) 2 2] [[(nn : Int) - (i : Int), (nn : Int) + (i : Int) + 2]] rfl (heap_alloc_eq _ _ _ (by simp)) rfl (by intro u hu; simp at hu; subst hu; rfl) ?_ (by rw [HCL2.out]; simp; omega) ?_)
          · intro j hj
            have : j = 0 := by simpa using hj
            subst this
            exact ints_of_row (xs := [(nn : Int) - (i : Int), (nn : Int) + (i : Int) + 2]) (e := 3) (heap_alloc_ne _ _ _ _ (heap_alloc_eq _ _ _ rfl)) (by simp; omega) (by simp)
          · intro v' w' hO' hB'
            rw [HS.out] at hO'
            have HO2 := hid_of hO'
            have HB2 := hid_of (HB.out.trans hB')
            clear hO' hB' HO HB
            go_wp2_with fail
            go_roundw
            case rel => exact ⟨i + 1, by omega, by go_num, HO2, HB2⟩
            case measure => simp [intOf]; omega
        · obtain rfl : nn = i := by omega
          have HS : Hid (RR ++ [[]] = nestR nn) := by show _ = _; rw [← HRR.out]; rfl
          go_wp2_with (at_builtin; refine stop_here ?_)
          refine stop_go (app_rows rfl _ _ rfl W1.heap.size _ RR rfl HO.out hsz (bel_alloc (bel_refl wr) _) _ [.slice none 0 0] [[]] rfl (heap_alloc_eq _ _ _ (by simp)) rfl (by intro u hu; simp at hu; subst hu; rfl) ?_ (by rw [HCL2.out]; simp; omega) ?_)
          · intro j hj
            have : j = 0 := by simpa using hj
            subst this
            exact ints_nil _ _
          intro v' W2 hO' hB'
          rw [HS.out] at hO'
          have hO2 := hO'.rows (by rw [nestR_length]; omega)
          obtain ⟨ra, rc, rfl⟩ := hO'.slice
          have hF := flow_c W2 hO2 (by rw [nestR_length]; omega)
          have hcl : (nestL nn).length = 2 * nn + 2 := nestL_length nn
          have hdp : ∀ k : Nat, k < 2 * nn + 2 → (depthO (nestL nn) (headsS (nestL nn)).length)[k]? = some ((min k (2 * nn + 1 - k) : Nat) : Int) := fun k hk => by
            have h1 : k < (nestL nn).length := by rw [hcl]; exact hk
            simp [depthO, h1, nest_depth (n := nn) (j := k) (by omega)]
          have hdl := depthO_length (nestL nn) (headsS (nestL nn)).length
          obtain ⟨FL, HFL⟩ : ∃ FL, Hid (nestL nn = FL) := ⟨_, (rfl : nestL nn = _)⟩
          change Calls _ _ _ _ (fun e w' => ∃ u, e = .returned u ∧ IsBlocks _ w' u (nestL nn) ∧ _) at hF
          rw [HFL.out] at hF hcl hdp hdl
          obtain ⟨DD, HDD⟩ : ∃ DD, Hid (depthO FL (headsS FL).length = DD) := ⟨_, (rfl : depthO FL (headsS FL).length = _)⟩
          rw [HDD.out] at hdp hdl
          rw [hcl] at hdl
          obtain ⟨m, Hm⟩ : ∃ m, Hid (2 * nn + 2 = m) := ⟨_, (rfl : 2 * nn + 2 = _)⟩
          rw [Hm.out] at hcl hdp hdl
          obtain ⟨RL, HRL⟩ : ∃ RL, Hid (nestR nn = RL) := ⟨_, (rfl : nestR nn = _)⟩
          rw [HRL.out] at hF ⊢
          have HF := hid_of hF
          have HDP := hid_of hdp
          have HDL := hid_of hdl
          have HCF := hid_of hcl
          have Hbw := hid_of (bel_call HB1.out (HB.out.trans hB'))
          clear HO HB hcl hO' hB' hO2 hsz hF hdp hdl hit
          go_wp2_with fail
          refine HF.out.mono ?_
          rintro e W3 ⟨u, rfl, hbl, hb3⟩
          obtain ⟨ua, uc, rfl, -, -⟩ := id hbl
          rw [HCF.out] at hbl ⊢
          have hm1000 : m ≤ 1000 := by have := Hm.out; omega
          have HD := hid_of (depth_c W3 (hbl.keep (p' := (· < W3.heap.size)) (Keep.refl W3 fun _ _ hlt => hlt)) hm1000)
          have Hb3 := hid_of (bel_call Hbw.out hb3)
          clear HF Hbw hbl hb3
          go_wp2_with fail
          refine HD.out.mono ?_
          rintro e W4 ⟨z, rfl, ho, hb4⟩
          rw [HDD.out] at ho
          have hi4 : IsInts (fun _ => True) W4 z DD := ints_of_owns (by rw [HDL.out]; exact ho) (by rw [HDL.out]; omega) (fun _ _ _ _ => trivial)
          obtain ⟨za, zc, rfl, -, hzx⟩ := id hi4
          rw [HDL.out]
          have Hb4 := hid_of (bel_call Hb3.out hb4)
          rcases hzx with hx | ⟨zb, zo, rfl, -, hx⟩
          · exfalso
            have h1 := HDL.out
            rw [hx] at h1
            have h2 := Hm.out
            simp only [List.length_nil] at h1
            omega
          have hup : ∀ k : Nat, k < m → W4.cell? ⟨zb, zo + k, none⟩ = some (.int .i64 ((min k (2 * nn + 1 - k) : Nat) : Int)) := fun k hk => by
            have hkD : k < DD.length := by rw [HDL.out]; exact hk
            have e1 := hx k hkD
            unfold CInt at e1
            rw [Nat.mul_one] at e1
            have e2 := HDP.out k hk
            rw [List.getElem?_eq_getElem hkD] at e2
            rw [e1, Option.some.inj e2]
          have HUP := hid_of hup
          have hm0 : 0 < m := by have := Hm.out; omega
          obtain ⟨q, Hq⟩ : ∃ q, Hid (2 * nn + 1 = q) := ⟨_, (rfl : 2 * nn + 1 = _)⟩
          have hqm : q < m := by have := Hm.out; have := Hq.out; omega
          have c0 : W4.cell? ⟨zb, zo, none⟩ = some (.int .i64 0) := by
            have e0 : min 0 (2 * nn + 1 - 0) = 0 := by omega
            have := hup 0 hm0
            rw [e0] at this
            exact this
          have cq : W4.cell? ⟨zb, zo + q, none⟩ = some (.int .i64 0) := by
            have eq0 : min q (2 * nn + 1 - q) = 0 := by have := Hq.out; omega
            have := hup q hqm
            rw [eq0] at this
            exact this
          have hqi : 2 * (nn : Int) + 1 = (q : Int) := by have := Hq.out; omega
          have hmm : ((m : Int) != 2 * (nn : Int) + 2) = false := by have := Hm.out; simp; omega
          have hq0 : (0 : Int) ≤ (q : Int) := by omega
          have hqmz : (q : Int) < (m : Int) := by omega
          have hmz : (0 : Int) < (m : Int) := by omega
          clear HD ho hi4 hx hup hb4
          go_wp2_with fail
          go_loop [8] (fun s8 => ∃ j : Nat, 1 ≤ j ∧ j ≤ nn + 1 ∧ s8 = .int .i64 j) (fun s8 => nn + 1 - (intOf s8).toNat)
          case atStart => exact ⟨1, by omega, by omega, rfl⟩
          case round =>
            obtain ⟨j, hj1, hj2, rfl⟩ := hrel
            by_cases hjt : j ≤ nn
            · have f3 : decide ((j : Int) ≤ (nn : Int)) = true := by simp; omega
              have f3' : decide (j ≤ nn) = true := by simp; omega
              have cj := HUP.out j (by have := Hm.out; omega)
              rw [show min j (2 * nn + 1 - j) = j by omega] at cj
              obtain ⟨r, Hr⟩ : ∃ r, Hid (2 * nn + 1 - j = r) := ⟨_, (rfl : 2 * nn + 1 - j = _)⟩
              have cr := HUP.out r (by have := Hm.out; have := Hr.out; omega)
              rw [show min r (2 * nn + 1 - r) = j by have := Hr.out; omega] at cr
              have hrj : (q : Int) - (j : Int) = (r : Int) := by have := Hr.out; have := Hq.out; omega
              have hjj : ((j : Int) != (j : Int)) = false := by simp
              have hj0 : (0 : Int) ≤ (j : Int) := by omega
              have hjm : (j : Int) < (m : Int) := by have := Hm.out; omega
              have hr0 : (0 : Int) ≤ (r : Int) := by omega
              have hrm : (r : Int) < (m : Int) := by have := Hm.out; have := Hr.out; omega
              have hj15 : (j : Int) ≤ 15 := by omega
              have hq100 : (q : Int) ≤ 100 := by omega
              have hjz : (j : Int) ≤ (nn : Int) := by omega
              clear hjt
              go_wp2_with fail
              go_round
              case rel => exact ⟨j + 1, by omega, by omega, by go_num⟩
              case measure => simp [intOf]; omega
            · have HJE : Hid (j = nn + 1) := by show _ = _; omega
              have f3 : decide ((j : Int) ≤ (nn : Int)) = false := by simp; omega
              have f3' : decide (j ≤ nn) = false := by simp; omega
              clear hjt
              go_wp2_with fail
              go_ret
              exact ⟨rfl, Hb4.out⟩
end Go.Proofs.Ytcihobmjohpnkaa
