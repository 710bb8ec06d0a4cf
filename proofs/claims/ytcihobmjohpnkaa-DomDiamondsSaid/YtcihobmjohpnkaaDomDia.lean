/- 'DomDiamonds': the walk. -/
import Derived.Test.YtcihobmjohpnkaaDom15
import Derived.Test.YtcihobmjohpnkaaRowO
namespace Go.Proofs.Ytcihobmjohpnkaa
open Go.RowKit Go.Sort

/-- The rows of one diamond. -/
def diaThree (i : Nat) : List (List Int) := [[3 * (i : Int) + 1, 3 * (i : Int) + 2], [3 * (i : Int) + 3], [3 * (i : Int) + 3]]
theorem diaR_three (n : Nat) : diaR n ++ diaThree n = diaR (n + 1) := by rw [diaR_succ]; unfold diaThree; push_cast; rfl

set_option maxRecDepth 100000 in
set_option maxHeartbeats 16000000 in
theorem domDia_c (w : World) (n : Int) : Calls Try.prog 15 #[.int .i64 n] w fun e w' => e = .returned (.bool true) ∧ Below w.heap.size w w' := by
  have HAL := hid_of (alive15_c w)
  by_cases h1 : n < 1
  · have d1 : decide (n < 1) = true := by simpa using h1
    go_enter Try.func15, Try.ntmps15
    go_wp2_with fail
    refine HAL.out.mono ?_
    rintro e W ⟨rfl, hb⟩
    go_wp2_with fail
    go_ret
    exact ⟨rfl, hb⟩
  have d1 : decide (n < 1) = false := by simpa using h1
  by_cases h2 : n > 12
  · have d2 : decide (n > 12) = true := by simpa using h2
    have d2' : decide (12 < n) = true := by simpa using h2
    go_enter Try.func15, Try.ntmps15
    go_wp2_with fail
    refine HAL.out.mono ?_
    rintro e W ⟨rfl, hb⟩
    go_wp2_with fail
    go_ret
    exact ⟨rfl, hb⟩
  obtain ⟨nn, rfl⟩ : ∃ nn : Nat, n = nn := ⟨n.toNat, by omega⟩
  have d1' : decide (nn < 1) = false := by simp; omega
  have d2 : decide ((nn : Int) > 12) = false := by simp; omega
  have d2' : decide (12 < nn) = false := by simp; omega
  have hn1 : 1 ≤ nn := by omega
  have hn5 : nn ≤ 12 := by omega
  clear h1 h2
  go_enter Try.func15, Try.ntmps15
  go_wp2_with fail
  refine HAL.out.mono ?_
  rintro e W1 ⟨rfl, hb1⟩
  have HB1 := hid_of hb1
  clear HAL hb1
  go_wp2_with fail
  clear d1 d1' d2 d2'
  go_loopw [4, 5] (fun s4 s5 wx => ∃ i : Nat, i ≤ nn ∧ s5 = .int .i64 i ∧ Hid (RowOwn W1.heap.size (diaR i) s4 wx) ∧ Hid (Below W1.heap.size W1 wx)) (fun _ s5 _ => nn - (intOf s5).toNat)
  case atStart => exact ⟨0, by omega, rfl, RowOwn.nil _ _, bel_refl _⟩
  case round =>
    obtain ⟨i, hi, rfl, HO, HB⟩ := hrel
    obtain ⟨oa, oc, rfl⟩ := HO.out.slice
    have hcl := diaR_length i
    have hsz := HB.out.size
    by_cases hit : i < nn
    · have hiz : (i : Int) < (nn : Int) := by omega
      have hi12 : (i : Int) ≤ 12 := by omega
      have hi0 : (0 : Int) ≤ (i : Int) := by omega
      have HS : Hid (diaR i ++ diaThree i = diaR (i + 1)) := diaR_three i
      go_wp2_with (at_builtin; refine stop_here ?_)
      refine stop_go (app_rows rfl _ _ rfl W1.heap.size _ (diaR i) rfl HO.out hsz (bel_alloc (bel_alloc (bel_alloc (bel_alloc (bel_refl wr) _) _) _) _) _ [.slice (some ⟨wr.heap.size, 0, none⟩) 2 2, .slice (some ⟨wr.heap.size + 1, 0, none⟩) 1 1, .slice (some ⟨wr.heap.size + 1 + 1, 0, none⟩) 1 1] (diaThree i) rfl (heap_alloc_eq _ _ _ (by simp)) rfl (by intro u hu; simp at hu; (first | subst hu | (rcases hu with rfl | rfl | rfl)) <;> rfl) ?_ (by simp [diaThree]; omega) ?_)
      · intro j hj
        match j, hj with
        | 0, _ => exact ints_of_row (xs := [3 * (i : Int) + 1, 3 * (i : Int) + 2]) (e := 3) (heap_alloc_ne _ _ _ _ (heap_alloc_ne _ _ _ _ (heap_alloc_ne _ _ _ _ (heap_alloc_eq _ _ _ rfl)))) (by simp; try omega) (by simp)
        | 1, _ => exact ints_of_row (xs := [3 * (i : Int) + 3]) (e := 3) (heap_alloc_ne _ _ _ _ (heap_alloc_ne _ _ _ _ (heap_alloc_eq _ _ _ (by simp)))) (by simp; try omega) (by simp)
        | 2, _ => exact ints_of_row (xs := [3 * (i : Int) + 3]) (e := 3) (heap_alloc_ne _ _ _ _ (heap_alloc_eq _ _ _ (by simp))) (by simp; try omega) (by simp)
      · intro v' w' hO' hB'
        rw [HS.out] at hO'
        have HO2 := hid_of hO'
        have HB2 := hid_of (HB.out.trans hB')
        clear hO' hB' HO HB
        go_wp2_with fail
        go_roundw
        case rel => exact ⟨i + 1, by omega, by go_num, HO2, HB2⟩
        case measure => simp [intOf]; omega
    · obtain rfl : i = nn := by omega
      go_wp2_with (at_builtin; refine stop_here ?_)
      refine stop_go (app_rows rfl _ _ rfl W1.heap.size _ (diaR i) rfl HO.out hsz (bel_alloc (bel_refl wr) _) _ [.slice none 0 0] [[]] rfl (heap_alloc_eq _ _ _ (by simp)) rfl (by intro u hu; simp at hu; (first | subst hu | (rcases hu with rfl | rfl | rfl)) <;> rfl) ?_ (by simp; omega) ?_)
      · intro j hj
        have : j = 0 := by simpa using hj
        subst this
        exact ints_nil _ _
      intro v' W2 hO' hB'
      have hrl : (diaR i ++ [[]]).length = 3 * i + 1 := by rw [List.length_append, hcl]; rfl
      have hO2 := hO'.rows (by omega)
      obtain ⟨ra, rc, rfl⟩ := hO'.slice
      have hF := flow_c W2 hO2 (by omega)
      obtain ⟨RL, HRL⟩ : ∃ RL, Hid (diaR i ++ [[]] = RL) := ⟨_, (rfl : diaR i ++ [[]] = _)⟩
      rw [HRL.out] at hF ⊢
      have HF := hid_of hF
      clear hF
      have Hbw := hid_of (bel_call HB1.out (HB.out.trans hB'))
      clear HO HB hcl hO' hB' hO2 hsz hrl
      go_wp2_with fail
      refine HF.out.mono ?_
      rintro e W3 ⟨u, rfl, hbl, hb3⟩
      rw [← HRL.out] at hbl
      have hcl : (diaL i).length = 3 * i + 1 := diaL_length i
      obtain ⟨ua, uc, rfl, -, -⟩ := id hbl
      change IsBlocks _ _ (.slice ua (diaL i).length uc) (diaL i) at hbl
      obtain ⟨m, Hm⟩ : ∃ m, Hid (3 * i + 1 = m) := ⟨_, (rfl : 3 * i + 1 = _)⟩
      rw [Hm.out] at hcl
      rw [hcl] at hbl
      have hsl : Value.slice ua (flowS (diaR i ++ [[]])).length uc = .slice ua m uc := congrArg (fun k => Value.slice ua k uc) hcl
      rw [hsl]
      have HKP := hid_of (fun W (hW : Below W3.heap.size W3 W) => hbl.keep (p' := (· < W.heap.size)) (fun b _ hlt => ⟨Nat.lt_of_lt_of_le hlt hW.size, hW.block b hlt⟩))
      have Hb3 := hid_of (bel_call Hbw.out hb3)
      have HCL := hid_of hcl
      have hmi := Hm.out
      have hm1000 : m ≤ 1000 := by omega
      clear HF Hbw hbl hb3 hsl hcl
      have HID : Hid (∀ b : Nat, 0 < b → b < m → idS (diaL i) b = (((b - 1) / 3 * 3 : Nat) : Int)) := fun b h0 hb => dia_id (by omega) h0
      have HFR : Hid (∀ b : Nat, b < m → frontP (diaL i) (b : Int) (diaL i).length = if b % 3 ≠ 0 then [(((b / 3 + 1) * 3 : Nat) : Int)] else []) := fun b hb => dia_front (by omega)
      have HOV : Hid (∀ x y : Nat, y < m → overS (diaL i) x y = decide (x = y ∨ x < y ∧ x % 3 = 0)) := fun x y hy => dia_over x y (by omega)
      obtain ⟨L, HL⟩ : ∃ L, Hid (diaL i = L) := ⟨_, (rfl : diaL i = _)⟩
      rw [HL.out] at HKP HCL HID HFR HOV
      have HI := hid_of (idom_c W3 (HKP.out W3 (bel_refl _)) (by omega))
      have HMI := hid_of hmi
      clear HL hmi
      go_wp2_with fail
      refine HI.out.mono ?_
      rintro e W4 ⟨z1, rfl, ho1, hb4⟩
      rw [HCL.out] at ho1
      have hIl : ((List.range m).map (idS L)).length = m := by rw [List.length_map, List.length_range]
      have hz1 : IsInts (fun _ => True) W4 z1 ((List.range m).map (idS L)) := ints_of_owns (by rw [hIl]; exact ho1) (by omega) (fun _ _ _ _ => trivial)
      have HB4 := hid_of hb4
      obtain ⟨za, zc, rfl, -, hx⟩ := id hz1
      rw [hIl]
      have hm0 : 0 < m := by have := HMI.out; omega
      rcases hx with hx | ⟨zb, zo, rfl, -, hx⟩
      · exfalso; rw [hx] at hIl; simp at hIl; omega
      have hup : ∀ k : Nat, k < m → W4.cell? ⟨zb, zo + k, none⟩ = some (.int .i64 (idS L k)) := fun k hk => by
        have e1 := hx k (by rw [hIl]; exact hk)
        unfold CInt at e1
        rw [Nat.mul_one] at e1
        rw [e1]
        simp
      have HUP := hid_of hup
      have hmm : ((m : Int) != 3 * (i : Int) + 1) = false := by have := HMI.out; simp; omega
      have hzl := lt_of_cell (hup 0 hm0)
      clear HI ho1 hb4 hz1 hx hup hIl
      go_wp2_with fail
      obtain ⟨wo, rfl⟩ : ∃ wo : World, wo = W4 := ⟨_, rfl⟩
      have hi0 : (0 : Int) ≤ (i : Int) := by omega
      have hi12 : (i : Int) ≤ 12 := by omega
      have HII := hid_of hmm
      clear hmm
      go_loopw [8] (fun s8 wx => ∃ b : Nat, 1 ≤ b ∧ b ≤ m ∧ s8 = .int .i64 b ∧ Hid (Below wo.heap.size wo wx)) (fun s8 _ => m - (intOf s8).toNat)
      case atStart => exact ⟨1, by omega, by omega, rfl, bel_refl _⟩
      case round =>
        obtain ⟨b, hb1, hb, rfl, HBb⟩ := hrel
        by_cases hbt : b < m
        · have hb0 : (1 : Int) ≤ (b : Int) := by omega
          have hb3 : (b : Int) ≤ 3 * (i : Int) := by have := HMI.out; omega
          have hb36 : (b : Int) ≤ 36 := by omega
          have d3 : decide ((b : Int) ≤ 3 * (i : Int)) = true := by simpa using hb3
          have hbm : (b : Int) < (m : Int) := by omega
          have hy := HUP.out b hbt
          rw [HID.out b hb1 hbt] at hy
          have hyc : (((b - 1) / 3 * 3 : Nat) : Int) = ((b : Int) - 1) / 3 * 3 := by omega
          rw [hyc] at hy
          have q1 := (World.cell?_of_block (a := ⟨zb, zo + b, none⟩) (HBb.out.block zb hzl)).trans hy
          have hb00 : (0 : Int) ≤ (b : Int) := by omega
          have Hbx := hid_of (bel_call HB4.out HBb.out)
          have hF := frontier_c wr (HKP.out wr Hbx.out) hm1000 (b : Int)
          rw [HFR.out b hbt] at hF
          clear hy hyc
          by_cases hs : b % 3 = 0
          · rw [if_neg (by simp [hs])] at hF
            have HF := hid_of hF
            have e5 : (((b : Int) % 3) != 0) = false := by simp; omega
            clear hF hs
            go_wp2_with fail
            refine HF.out.mono ?_
            rintro e W6 ⟨z3, rfl, ho3, hb6⟩
            obtain ⟨a3, c3, rfl, -⟩ := owns_slice ho3
            have HB6 := hid_of (bel_call HBb.out hb6)
            clear HF ho3 hb6 q1 HBb Hbx
            go_wp2_with fail
            clear e5
            go_loopw [11] (fun s11 wx => ∃ a : Nat, a ≤ m ∧ s11 = .int .i64 a ∧ Hid (Below wo.heap.size wo wx)) (fun s11 _ => m - (intOf s11).toNat)
            case atStart => exact ⟨0, by omega, rfl, HB6⟩
            case round =>
              obtain ⟨a, ha, rfl, HBa⟩ := hrel
              have Hbx := hid_of (bel_call HB4.out HBa.out)
              by_cases hat : a < m
              · have ha0 : (0 : Int) ≤ (a : Int) := by omega
                have ha36 : (a : Int) ≤ 36 := by have := HMI.out; omega
                have f3 : decide ((a : Int) ≤ 3 * (i : Int)) = true := by have := HMI.out; simp; omega
                by_cases hab : a = b
                · subst hab
                  have f4 : ((a : Int) == (a : Int)) = true := by simp
                  have hO := domOver_c wr (HKP.out wr Hbx.out) hm1000 a a
                  rw [HOV.out _ a hbt, show decide (a = a ∨ a < a ∧ a % 3 = 0) = true from by simp; try omega] at hO
                  have HOc := hid_of hO
                  clear hO
                  go_wp2_with fail
                  refine HOc.out.mono ?_
                  rintro e W7 ⟨rfl, hb7⟩
                  have HB7 := hid_of (bel_call HBa.out hb7)
                  clear HOc hb7
                  go_wp2_with fail
                  go_roundw
                  case rel => exact ⟨a + 1, by omega, by go_num, HB7⟩
                  case measure => simp [intOf]; omega
                have f4 : ((a : Int) == (b : Int)) = false := beq_eq_false_iff_ne.2 (by omega)
                have f4' : (a == b) = false := beq_eq_false_iff_ne.2 hab
                by_cases hlt : b < a
                · have f5 : decide ((a : Int) < (b : Int)) = false := by simp; omega
                  have f5' : decide (a < b) = false := by simp; omega
                  have hO := domOver_c wr (HKP.out wr Hbx.out) hm1000 a b
                  rw [HOV.out _ b hbt, show decide (a = b ∨ a < b ∧ a % 3 = 0) = false from by simp; try omega] at hO
                  have HOc := hid_of hO
                  clear hO
                  go_wp2_with fail
                  refine HOc.out.mono ?_
                  rintro e W7 ⟨rfl, hb7⟩
                  have HB7 := hid_of (bel_call HBa.out hb7)
                  clear HOc hb7
                  go_wp2_with fail
                  go_roundw
                  case rel => exact ⟨a + 1, by omega, by go_num, HB7⟩
                  case measure => simp [intOf]; omega
                have f5 : decide ((a : Int) < (b : Int)) = true := by simp; omega
                have f5' : decide (a < b) = true := by simp; omega
                by_cases ha3 : a % 3 = 0
                · have f6 : (((a : Int) % 3) == 0) = true := by simp; omega
                  have hO := domOver_c wr (HKP.out wr Hbx.out) hm1000 a b
                  rw [HOV.out _ b hbt, show decide (a = b ∨ a < b ∧ a % 3 = 0) = true from by simp; try omega] at hO
                  have HOc := hid_of hO
                  clear hO
                  go_wp2_with fail
                  refine HOc.out.mono ?_
                  rintro e W7 ⟨rfl, hb7⟩
                  have HB7 := hid_of (bel_call HBa.out hb7)
                  clear HOc hb7
                  go_wp2_with fail
                  go_roundw
                  case rel => exact ⟨a + 1, by omega, by go_num, HB7⟩
                  case measure => simp [intOf]; omega
                · have f6 : (((a : Int) % 3) == 0) = false := by simp; omega
                  have hO := domOver_c wr (HKP.out wr Hbx.out) hm1000 a b
                  rw [HOV.out _ b hbt, show decide (a = b ∨ a < b ∧ a % 3 = 0) = false from by simp; try omega] at hO
                  have HOc := hid_of hO
                  clear hO
                  go_wp2_with fail
                  refine HOc.out.mono ?_
                  rintro e W7 ⟨rfl, hb7⟩
                  have HB7 := hid_of (bel_call HBa.out hb7)
                  clear HOc hb7
                  go_wp2_with fail
                  go_roundw
                  case rel => exact ⟨a + 1, by omega, by go_num, HB7⟩
                  case measure => simp [intOf]; omega
              · obtain rfl : a = m := by omega
                have f3 : decide ((a : Int) ≤ 3 * (i : Int)) = false := by have := HMI.out; simp; omega
                go_wp2_with fail
                go_roundw
                case rel => exact ⟨b + 1, by omega, by omega, by go_num, HBa⟩
                case measure => simp [intOf]; omega
          · rw [if_pos hs] at hF
            have HF := hid_of hF
            have e5 : (((b : Int) % 3) != 0) = true := by simp; omega
            clear hF hs
            go_wp2_with fail
            refine HF.out.mono ?_
            rintro e W6 ⟨z3, rfl, ho3, hb6⟩
            have hz3 : IsInts (fun _ => True) W6 z3 [(((b / 3 + 1) * 3 : Nat) : Int)] := ints_of_owns ho3 (by simp) (fun _ _ _ _ => trivial)
            obtain ⟨a3, c3, rfl, -, hx3⟩ := hz3
            rcases hx3 with hx3 | ⟨b3, o3, rfl, -, hx3⟩
            · cases hx3
            have q3 := hx3 0 (by simp)
            unfold CInt at q3
            have hyc : (((b / 3 + 1) * 3 : Nat) : Int) = ((b : Int) / 3 + 1) * 3 := by omega
            have q3' : W6.cell? ⟨b3, o3, none⟩ = some (.int .i64 (((b : Int) / 3 + 1) * 3)) := by rw [← hyc]; exact q3
            have HB6 := hid_of (bel_call HBb.out hb6)
            clear HF ho3 hb6 q1 HBb Hbx hx3 q3 hyc
            go_wp2_with fail
            clear q3' e5
            go_loopw [11] (fun s11 wx => ∃ a : Nat, a ≤ m ∧ s11 = .int .i64 a ∧ Hid (Below wo.heap.size wo wx)) (fun s11 _ => m - (intOf s11).toNat)
            case atStart => exact ⟨0, by omega, rfl, HB6⟩
            case round =>
              obtain ⟨a, ha, rfl, HBa⟩ := hrel
              have Hbx := hid_of (bel_call HB4.out HBa.out)
              by_cases hat : a < m
              · have ha0 : (0 : Int) ≤ (a : Int) := by omega
                have ha36 : (a : Int) ≤ 36 := by have := HMI.out; omega
                have f3 : decide ((a : Int) ≤ 3 * (i : Int)) = true := by have := HMI.out; simp; omega
                by_cases hab : a = b
                · subst hab
                  have f4 : ((a : Int) == (a : Int)) = true := by simp
                  have hO := domOver_c wr (HKP.out wr Hbx.out) hm1000 a a
                  rw [HOV.out _ a hbt, show decide (a = a ∨ a < a ∧ a % 3 = 0) = true from by simp; try omega] at hO
                  have HOc := hid_of hO
                  clear hO
                  go_wp2_with fail
                  refine HOc.out.mono ?_
                  rintro e W7 ⟨rfl, hb7⟩
                  have HB7 := hid_of (bel_call HBa.out hb7)
                  clear HOc hb7
                  go_wp2_with fail
                  go_roundw
                  case rel => exact ⟨a + 1, by omega, by go_num, HB7⟩
                  case measure => simp [intOf]; omega
                have f4 : ((a : Int) == (b : Int)) = false := beq_eq_false_iff_ne.2 (by omega)
                have f4' : (a == b) = false := beq_eq_false_iff_ne.2 hab
                by_cases hlt : b < a
                · have f5 : decide ((a : Int) < (b : Int)) = false := by simp; omega
                  have f5' : decide (a < b) = false := by simp; omega
                  have hO := domOver_c wr (HKP.out wr Hbx.out) hm1000 a b
                  rw [HOV.out _ b hbt, show decide (a = b ∨ a < b ∧ a % 3 = 0) = false from by simp; try omega] at hO
                  have HOc := hid_of hO
                  clear hO
                  go_wp2_with fail
                  refine HOc.out.mono ?_
                  rintro e W7 ⟨rfl, hb7⟩
                  have HB7 := hid_of (bel_call HBa.out hb7)
                  clear HOc hb7
                  go_wp2_with fail
                  go_roundw
                  case rel => exact ⟨a + 1, by omega, by go_num, HB7⟩
                  case measure => simp [intOf]; omega
                have f5 : decide ((a : Int) < (b : Int)) = true := by simp; omega
                have f5' : decide (a < b) = true := by simp; omega
                by_cases ha3 : a % 3 = 0
                · have f6 : (((a : Int) % 3) == 0) = true := by simp; omega
                  have hO := domOver_c wr (HKP.out wr Hbx.out) hm1000 a b
                  rw [HOV.out _ b hbt, show decide (a = b ∨ a < b ∧ a % 3 = 0) = true from by simp; try omega] at hO
                  have HOc := hid_of hO
                  clear hO
                  go_wp2_with fail
                  refine HOc.out.mono ?_
                  rintro e W7 ⟨rfl, hb7⟩
                  have HB7 := hid_of (bel_call HBa.out hb7)
                  clear HOc hb7
                  go_wp2_with fail
                  go_roundw
                  case rel => exact ⟨a + 1, by omega, by go_num, HB7⟩
                  case measure => simp [intOf]; omega
                · have f6 : (((a : Int) % 3) == 0) = false := by simp; omega
                  have hO := domOver_c wr (HKP.out wr Hbx.out) hm1000 a b
                  rw [HOV.out _ b hbt, show decide (a = b ∨ a < b ∧ a % 3 = 0) = false from by simp; try omega] at hO
                  have HOc := hid_of hO
                  clear hO
                  go_wp2_with fail
                  refine HOc.out.mono ?_
                  rintro e W7 ⟨rfl, hb7⟩
                  have HB7 := hid_of (bel_call HBa.out hb7)
                  clear HOc hb7
                  go_wp2_with fail
                  go_roundw
                  case rel => exact ⟨a + 1, by omega, by go_num, HB7⟩
                  case measure => simp [intOf]; omega
              · obtain rfl : a = m := by omega
                have f3 : decide ((a : Int) ≤ 3 * (i : Int)) = false := by have := HMI.out; simp; omega
                go_wp2_with fail
                go_roundw
                case rel => exact ⟨b + 1, by omega, by omega, by go_num, HBa⟩
                case measure => simp [intOf]; omega
        · obtain rfl : b = m := by omega
          have f3 : decide ((b : Int) ≤ 3 * (i : Int)) = false := by have := HMI.out; simp; omega
          have HBF := hid_of (bel_call Hb3.out (bel_call HB4.out HBb.out))
          go_wp2_with fail
          go_ret
          exact ⟨rfl, HBF.out⟩
end Go.Proofs.Ytcihobmjohpnkaa
