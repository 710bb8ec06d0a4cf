/- The reference's 'CheckCosts': the walk. -/
import Derived.Test.YtdomnbgjafdnjaaPqC
import Derived.Deep.DeepCutAuto
namespace Go.Proofs.Ytdomnbgjafdnjaa
open Go.RowKit

set_option maxRecDepth 100000 in
theorem costsR_c {p : Nat → Prop} {a : Option Addr} {n cap : Nat} {xs : List Int} (w : World) (h : IsInts p w (.slice a n cap) xs) :
    Calls Try.prog 23 #[.slice a n cap] w fun e w' => e = .returned (.bool (costsB xs)) ∧ w' = w := by
  have HN := hid_of (sl_len h).1
  have HX := hid_of h
  have hnb := (sl_len h).2.2
  obtain ⟨B, HB⟩ : ∃ B, Hid (costsB xs = B) := ⟨_, (rfl : costsB xs = _)⟩
  rw [HB.out]
  clear h
  go_enter Try.func23, Try.ntmps23
  go_wp2_with fail
  go_loop [3] (fun s3 => ∃ k : Nat, k ≤ n ∧ s3 = .int .i64 k ∧ Hid ((xs.take k).all okC = true)) (fun s3 => n - (intOf s3).toNat)
  case atStart => exact ⟨0, by omega, rfl, by show _ = _; rfl⟩
  case round =>
    obtain ⟨k, hk, rfl, HA⟩ := hrel
    by_cases hlt : k < n
    · have hkx : k < xs.length := by have := HN.out; omega
      obtain ⟨b, off, rfl, -, hc⟩ := sl_at HX.out (by omega)
      have c1 := hc k hkx
      simp only [CInt, Nat.mul_one] at c1
      have hsn := all_take_succ (f := okC) hkx
      have hfl := all_false_of (f := okC) hkx
      obtain ⟨x, Hx⟩ : ∃ x, Hid (xs[k] = x) := ⟨_, (rfl : xs[k] = _)⟩
      rw [Hx.out] at c1 hsn hfl
      rw [HA.out] at hsn
      have HSN := hid_of hsn
      have HFL := hid_of hfl
      have hkz : (k : Int) < (n : Int) := by omega
      clear hc hsn hfl
      by_cases h0 : x < 0
      · have d0 : decide (x < 0) = true := by simpa using h0
        have HF : Hid (B = false) := by show _ = _; rw [← HB.out]; exact HFL.out (by unfold okC infC; simp; omega)
        clear h0
        go_wp2_with fail
        go_ret
        exact ⟨by rw [HF.out]; rfl, rfl⟩
      have d0 : decide (x < 0) = false := by simpa using h0
      by_cases h1 : x > 1099511627776
      · have d1 : decide (x > 1099511627776) = true := by simpa using h1
        have d1' : decide (1099511627776 < x) = true := by simpa using h1
        have HF : Hid (B = false) := by show _ = _; rw [← HB.out]; exact HFL.out (by unfold okC infC; simp; omega)
        clear h0 h1
        go_wp2_with fail
        go_ret
        exact ⟨by rw [HF.out]; rfl, rfl⟩
      have d1 : decide (x > 1099511627776) = false := by simpa using h1
      have d1' : decide (1099511627776 < x) = false := by simpa using h1
      have HO : Hid ((xs.take (k + 1)).all okC = true) := by show _ = _; rw [HSN.out]; unfold okC infC; simp; omega
      clear h0 h1
      go_wp2_with fail
      go_round
      case rel => exact ⟨k + 1, by omega, by go_num, HO⟩
      case measure => simp [intOf]; omega
    · obtain rfl : k = n := by omega
      have HF : Hid (B = true) := by show _ = _; rw [← HB.out, ← HA.out, HN.out, List.take_length]; rfl
      go_wp2_with fail
      go_ret
      exact ⟨by rw [HF.out]; rfl, rfl⟩

set_option maxRecDepth 100000 in
set_option maxHeartbeats 16000000 in
theorem checkR_c {p : Nat → Prop} (w : World) {na : Option Addr} {nl nc : Nat} {ea : Option Addr} {el ec : Nat} {N : List (List Int)} {E : List EdgeD}
    (hp : ∀ b, p b → b < w.heap.size) (h : IsPq p w na nl nc ea el ec N E) :
    Calls Try.prog 13 #[costsV na nl nc ea el ec] w fun e w' => e = .returned (.int .i64 (chkS N E)) ∧ Below w.heap.size w w' := by
  obtain ⟨hN, hE⟩ := h
  have HNL := hid_of (sl_len hN).1
  have HEL := hid_of (sl_len hE).1
  have hnm := (sl_len hN).2.2
  have hem := (sl_len hE).2.2
  obtain ⟨C, HC⟩ : ∃ C, Hid (chkS N E = C) := ⟨_, (rfl : chkS N E = _)⟩
  rw [HC.out]
  have HN : Hid (∀ X, Below w.heap.size w X → IsRows p X (.slice na nl nc) N) := fun X hX => hN.keep (fun b hb hlt => ⟨hb, hX.block b (hp b hb)⟩)
  have HE : Hid (∀ X, Below w.heap.size w X → IsEdges p X (.slice ea el ec) E) := fun X hX => hE.keep (fun b hb hlt => ⟨hb, hX.block b (hp b hb)⟩)
  clear hN hE
  go_enter Try.func13, Try.ntmps13
  go_upto_region 1 with fail
  refine wp_at (fun X => Row X w.heap.size 25 [.slice na nl nc, .slice ea el ec] ∧ Below w.heap.size w X) ⟨heap_alloc_eq _ _ _ rfl, bel_alloc (bel_refl w) _⟩ ?_
  rintro W ⟨r1, hB⟩
  have a0 := r1.cell (k := 0) rfl
  have a1 := r1.cell (k := 1) rfl
  have HB := hid_of hB
  have HR := hid_of r1
  clear r1 hB
  by_cases h1 : (nl : Int) > 300
  · have d1 : decide ((nl : Int) > 300) = true := by simpa using h1
    have d1' : decide (300 < nl) = true := by simp; omega
    have HF : Hid (C = 2) := by show _ = _; rw [← HC.out]; unfold chkS; rw [if_pos (by have := HNL.out; simp; left; left; omega)]
    clear h1
    go_wp2_with fail
    go_ret
    exact ⟨by rw [HF.out]; rfl, HB.out⟩
  have d1 : decide ((nl : Int) > 300) = false := by simpa using h1
  have d1' : decide (300 < nl) = false := by simp; omega
  by_cases h2 : (el : Int) > 2000
  · have d2 : decide ((el : Int) > 2000) = true := by simpa using h2
    have d2' : decide (2000 < el) = true := by simp; omega
    have HF : Hid (C = 2) := by show _ = _; rw [← HC.out]; unfold chkS; rw [if_pos (by have := HEL.out; simp; left; right; omega)]
    clear h1 h2
    go_wp2_with fail
    go_ret
    exact ⟨by rw [HF.out]; rfl, HB.out⟩
  have d2 : decide ((el : Int) > 2000) = false := by simpa using h2
  have d2' : decide (2000 < el) = false := by simp; omega
  have HL0 : Hid ((decide (300 < N.length) || decide (2000 < E.length)) = false) := by show _ = _; have := HEL.out; have := HNL.out; simp; omega
  clear h1 h2
  go_wp2_with fail
  clear d1 d1' d2 d2'
  go_loop [3] (fun s3 => ∃ k : Nat, k ≤ nl ∧ s3 = .int .i64 k ∧ Hid ((N.take k).any longB = false)) (fun s3 => nl - (intOf s3).toNat)
  case atStart => exact ⟨0, by omega, rfl, by show _ = _; rfl⟩
  case round =>
    obtain ⟨k, hk, rfl, HA⟩ := hrel
    by_cases hlt : k < nl
    · have hkx : k < N.length := by have := HNL.out; omega
      obtain ⟨nb, no, a3, n3, c3, rfl, -, ck, -, hn3, hn3m⟩ := rows_at (HN.out W HB.out) hkx
      have hsn := any_take_succ (f := longB) hkx
      have hl3 : longB N[k] = decide (32 < n3) := by unfold longB; rw [← hn3]
      rw [hl3, HA.out] at hsn
      have HSN := hid_of hsn
      have HTL : Hid (decide (32 < n3) = true → C = 2) := fun hh => by rw [← HC.out]; unfold chkS; rw [if_pos (by rw [any_true_of hkx (hl3.trans hh)]; simp)]
      have hkz : (k : Int) < (nl : Int) := by omega
      clear hsn hn3 hl3
      by_cases h1 : n3 > 32
      · have d1 : decide ((n3 : Int) > 32) = true := by simp; omega
        have d1' : decide (32 < n3) = true := by simpa using h1
        have HF := hid_of (HTL.out d1')
        clear h1
        go_wp2_with fail
        go_ret
        exact ⟨by rw [HF.out]; rfl, HB.out⟩
      · have d1 : decide ((n3 : Int) > 32) = false := by simp; omega
        have d1' : decide (32 < n3) = false := by simpa using h1
        have HO : Hid ((N.take (k + 1)).any longB = false) := by show _ = _; rw [HSN.out, d1']; rfl
        clear h1
        go_wp2_with fail
        go_round
        case rel => exact ⟨k + 1, by omega, by go_num, HO⟩
        case measure => simp [intOf]; omega
    · obtain rfl : k = nl := by omega
      have HC2 : Hid (C = if N.all nodeB = true then (if E.all (edgeB N) = true then 0 else 1) else 1) := by
        show _ = _
        have := HA.out
        rw [HNL.out, List.take_length] at this
        rw [← HC.out]; unfold chkS; rw [if_neg (by rw [HL0.out, this]; simp)]
      go_wp2_with fail
      go_loop [4] (fun s4 => ∃ j : Nat, j ≤ k ∧ s4 = .int .i64 j ∧ Hid ((N.take j).all nodeB = true)) (fun s4 => k - (intOf s4).toNat)
      case atStart => exact ⟨0, by omega, rfl, by show _ = _; rfl⟩
      case round =>
        obtain ⟨j, hj, rfl, HJ⟩ := hrel
        by_cases hjt : j < k
        · have hjx : j < N.length := by have := HNL.out; omega
          obtain ⟨nb, no, a3, n3, c3, rfl, -, ck, hi, hn3, hn3m⟩ := rows_at (HN.out W HB.out) hjx
          have hsn := all_take_succ (f := nodeB) hjx
          rw [HJ.out] at hsn
          have HFL : Hid (nodeB N[j] = false → C = 1) := fun hf => by rw [HC2.out, if_neg (by rw [all_false_of hjx hf]; simp)]
          have HCB := hid_of (costsR_c W hi)
          obtain ⟨x, Hx⟩ : ∃ x, Hid (N[j] = x) := ⟨_, (rfl : N[j] = _)⟩
          rw [Hx.out] at hn3 hsn HFL HCB
          have HSN := hid_of hsn
          have HN3 := hid_of hn3
          have hjz : (j : Int) < (k : Int) := by omega
          clear hsn hi hn3
          by_cases h1 : n3 = 0
          · have d1 : ((n3 : Int) == 0) = true := by simp; omega
            have d1' : (n3 == 0) = true := by simpa using h1
            have HF : Hid (C = 1) := HFL.out (by have := HN3.out; have hz : x.length = 0 := by omega
                                                 unfold nodeB; rw [hz]; rfl)
            clear h1
            go_wp2_with fail
            go_ret
            exact ⟨by rw [HF.out]; rfl, HB.out⟩
          have d1 : ((n3 : Int) == 0) = false := beq_eq_false_iff_ne.2 (by omega)
          have d1' : (n3 == 0) = false := beq_eq_false_iff_ne.2 h1
          have HNB : Hid (nodeB x = costsB x) := by show _ = _; unfold nodeB; rw [← HN3.out]; simp [h1]
          clear h1
          go_wp2_with fail
          refine HCB.out.mono ?_
          rintro e w' ⟨rfl, rfl⟩
          obtain ⟨cb2, Hcb⟩ : ∃ cb2, Hid (costsB x = cb2) := ⟨_, (rfl : costsB x = _)⟩
          rw [Hcb.out]
          cases cb2 with
          | false =>
            have HF : Hid (C = 1) := HFL.out (by rw [HNB.out]; exact Hcb.out)
            go_wp2_with fail
            go_ret
            exact ⟨by rw [HF.out]; rfl, HB.out⟩
          | true =>
            have HO : Hid ((N.take (j + 1)).all nodeB = true) := by show _ = _; rw [HSN.out, HNB.out, Hcb.out]; rfl
            go_wp2_with fail
            go_round
            case rel => exact ⟨j + 1, by omega, by go_num, HO⟩
            case measure => simp [intOf]; omega
        · obtain rfl : j = k := by omega
          have HC3 : Hid (C = if E.all (edgeB N) = true then 0 else 1) := by
            have := HJ.out
            rw [HNL.out, List.take_length] at this
            show _ = _
            rw [HC2.out, if_pos this]
          have HRB : Hid (Row W w.heap.size 25 [.slice na j nc, .slice ea el ec] ∧ Below w.heap.size w W) := ⟨HR.out, HB.out⟩
          go_wp2_with fail
          clear a0 a1
          go_loopw [5] (fun s5 wx => ∃ i : Nat, i ≤ el ∧ s5 = .int .i64 i ∧ Hid ((E.take i).all (edgeB N) = true) ∧ Hid (Row wx w.heap.size 25 [.slice na j nc, .slice ea el ec] ∧ Below w.heap.size w wx)) (fun s5 _ => el - (intOf s5).toNat)
          case atStart => exact ⟨0, by omega, rfl, by show _ = _; rfl, HRB⟩
          case round =>
            obtain ⟨i, hi, rfl, HI, HX⟩ := hrel
            clear HRB
            have a0 := HX.out.1.cell (k := 0) rfl
            have a1 := HX.out.1.cell (k := 1) rfl
            by_cases hit : i < el
            · have hix : i < E.length := by have := HEL.out; omega
              obtain ⟨qb, qo, hqe, hpe, hc⟩ := sl_at (HE.out wr HX.out.2) (by omega)
              have hci := hc i hix
              have hsn := all_take_succ (f := edgeB N) hix
              rw [HI.out] at hsn
              have HFL : Hid (edgeB N E[i] = false → C = 1) := fun hf => by rw [HC3.out, if_neg (by rw [all_false_of hix hf]; simp)]
              obtain ⟨x, Hx⟩ : ∃ x, Hid (E[i] = x) := ⟨_, (rfl : E[i] = _)⟩
              rw [Hx.out] at hci hsn HFL
              have HSNE := hid_of hsn
              obtain ⟨xa, xb, M⟩ := x
              obtain ⟨c0, c1, v2, c2, hM⟩ := hci
              obtain ⟨ma, mc, rfl, -, -⟩ := id hM
              dsimp only at c0 c1 c2 hM
              obtain ⟨ml, Hml⟩ : ∃ ml, Hid (M.length = ml) := ⟨_, (rfl : M.length = _)⟩
              have HML : Hid (ml = M.length) := Hml.out.symm
              rw [Hml.out] at c2 hM
              have hizz : (i : Int) < (el : Int) := by omega
              have hsz := HX.out.2.size
              have hgl := HX.out.1.lt
              have HM : Hid (∀ X, Below w.heap.size w X → IsRows p X (.slice ma ml mc) M) := fun X hX => hM.keep (fun b hb hlt => ⟨hb, (hX.block b (hp b hb)).trans (HX.out.2.block b (hp b hb)).symm⟩)
              subst hqe
              obtain ⟨g, Hg⟩ : ∃ g, Hid (wr.heap.size = g) := ⟨_, (rfl : wr.heap.size = _)⟩
              clear hc hsn hM
              go_wp2_with fail
              refine wp_at (fun X => Row X w.heap.size 25 [.slice na j nc, .slice (some ⟨qb, qo, none⟩) el ec] ∧ Row X wr.heap.size 32 [.int .i64 xa, .int .i64 xb, .slice ma ml mc] ∧ Below w.heap.size w X)
                ⟨HX.out.1.keep ((bel_alloc (bel_refl wr) _).block _ hgl), heap_alloc_eq _ _ _ rfl, bel_call HX.out.2 (bel_alloc (bel_refl wr) _)⟩ ?_
              rw [Hg.out]
              rintro W ⟨r1, r2, hB⟩
              clear a0 a1 c0 c1 c2
              have a0 := r1.cell (k := 0) rfl
              have b0 := r2.cell (k := 0) rfl
              have b1 := r2.cell (k := 1) rfl
              have b2 := r2.cell (k := 2) rfl
              by_cases h1 : xa < 0
              · have d1 : decide (xa < 0) = true := by simpa using h1
                have HF : Hid (C = 1) := HFL.out (by unfold edgeB endsB; simp; omega)
                clear h1
                go_quiet (fail)
                go_wp2_with fail
                go_ret
                exact ⟨by rw [HF.out]; rfl, bel_drewN hB _⟩
              have d1 : decide (xa < 0) = false := by simpa using h1
              by_cases h2 : xb < 0
              · have d2 : decide (xb < 0) = true := by simpa using h2
                have HF : Hid (C = 1) := HFL.out (by unfold edgeB endsB; simp; omega)
                clear h2
                go_quiet (fail)
                go_wp2_with fail
                go_ret
                exact ⟨by rw [HF.out]; rfl, bel_drewN hB _⟩
              have d2 : decide (xb < 0) = false := by simpa using h2
              by_cases h3 : xa ≥ (j : Int)
              · have d3 : decide (xa ≥ (j : Int)) = true := by simpa using h3
                have d3' : decide ((j : Int) ≤ xa) = true := by simpa using h3
                have HF : Hid (C = 1) := HFL.out (by have := HNL.out; unfold edgeB endsB; simp; omega)
                clear h3
                go_quiet (fail)
                go_wp2_with fail
                go_ret
                exact ⟨by rw [HF.out]; rfl, bel_drewN hB _⟩
              have d3 : decide (xa ≥ (j : Int)) = false := by simp; omega
              have d3' : decide ((j : Int) ≤ xa) = false := by simp; omega
              by_cases h4 : xb ≥ (j : Int)
              · have d4 : decide (xb ≥ (j : Int)) = true := by simpa using h4
                have d4' : decide ((j : Int) ≤ xb) = true := by simpa using h4
                have HF : Hid (C = 1) := HFL.out (by have := HNL.out; unfold edgeB endsB; simp; omega)
                clear h4
                go_quiet (fail)
                go_wp2_with fail
                go_ret
                exact ⟨by rw [HF.out]; rfl, bel_drewN hB _⟩
              have d4 : decide (xb ≥ (j : Int)) = false := by simp; omega
              have d4' : decide ((j : Int) ≤ xb) = false := by simp; omega
              by_cases h5 : xa = xb
              · have d5 : (xa == xb) = true := by simpa using h5
                have HF : Hid (C = 1) := HFL.out (by unfold edgeB endsB; simp; omega)
                clear h5
                go_quiet (fail)
                go_wp2_with fail
                go_ret
                exact ⟨by rw [HF.out]; rfl, bel_drewN hB _⟩
              have d5 : (xa == xb) = false := by simpa using h5
              obtain ⟨aN, rfl⟩ : ∃ aN : Nat, xa = aN := ⟨xa.toNat, by omega⟩
              obtain ⟨bN, rfl⟩ : ∃ bN : Nat, xb = bN := ⟨xb.toNat, by omega⟩
              have e1 : decide (aN < j) = true := by simp; omega
              have e3 : decide (j ≤ aN) = false := by simp; omega
              have e4 : decide (j ≤ bN) = false := by simp; omega
              have e5 : (aN == bN) = false := beq_eq_false_iff_ne.2 (by omega)
              have haL : aN < N.length := by have := HNL.out; omega
              have hbL : bN < N.length := by have := HNL.out; omega
              obtain ⟨nb, no, a1, n1, c1, hna, hpn, ca, -, hn1, hn1m⟩ := rows_at (HN.out W hB) haL
              obtain ⟨nb', no', a2, n2, c2, hna', -, cb, -, hn2, hn2m⟩ := rows_at (HN.out W hB) hbL
              rw [hna] at hna'
              simp only [Option.some.injEq, Addr.mk.injEq, and_true] at hna'
              obtain ⟨rfl, rfl⟩ := hna'
              subst hna
              have HNLT : Hid (nb < w.heap.size) := hp nb hpn
              have HE1 : Hid (N.getD aN [] = N[aN]) := by show _ = _; simp [List.getD, haL]
              have HE2 : Hid (N.getD bN [] = N[bN]) := by show _ = _; simp [List.getD, hbL]
              have HN1 := hid_of hn1
              have HN2 := hid_of hn2
              have hazl : (aN : Int) < (j : Int) := by omega
              have hbzl : (bN : Int) < (j : Int) := by omega
              have hmlb : ml ≤ 140737488351232 := (sl_len (HM.out W hB)).2.2
              clear hn1 hn2 hpn
              by_cases h6 : ml ≠ n1
              · have d6 : ((ml : Int) != (n1 : Int)) = true := by simp; omega
                have d6' : (ml != n1) = true := by simpa using h6
                have HEF : Hid (endsB N ⟨aN, bN, M⟩ = false) := by
                  show _ = _
                  rw [← Bool.not_eq_true, endsB_iff]
                  rintro ⟨-, -, -, -, -, hh⟩
                  have hh2 : M.length = (N.getD (aN : Int).toNat []).length := hh
                  rw [Int.toNat_natCast, HE1.out] at hh2
                  have := HN1.out; have := HML.out
                  omega
                have HF : Hid (C = 1) := HFL.out (by unfold edgeB; rw [HEF.out]; rfl)
                clear h6
                go_quiet (fail)
                go_wp2_with fail
                go_ret
                exact ⟨by rw [HF.out]; rfl, bel_drewN hB _⟩
              have h6' : ml = n1 := by omega
              have d6 : ((ml : Int) != (n1 : Int)) = false := by simp; omega
              have d6' : (ml != n1) = false := by simpa using h6'
              have HEN : Hid (endsB N ⟨aN, bN, M⟩ = true) := by
                show _ = _
                rw [endsB_iff]
                have := HN1.out; have := HML.out; have := HNL.out
                refine ⟨by simp, by simp, by show (aN : Int) < _; omega, by show (bN : Int) < _; omega, by show (aN : Int) ≠ bN; omega, ?_⟩
                show M.length = (N.getD (aN : Int).toNat []).length
                rw [Int.toNat_natCast, HE1.out]
                omega
              clear h1 h2 h3 h4 h5 h6 h6'
              go_quiet (fail)
              refine k_at (fun X => Row X w.heap.size 25 [.slice (some ⟨nb, no, none⟩) j nc, .slice (some ⟨qb, qo, none⟩) el ec] ∧ Row X g 32 [.int .i64 (aN : Int), .int .i64 (bN : Int), .slice ma ml mc] ∧ Below w.heap.size w X) ⟨r1, r2, bel_drewN hB nq⟩ ?_
              have HCB : Hid (W.cell? ⟨nb, no + bN, none⟩ = some (.slice a2 n2 c2)) := cb
              have HBW := hid_of hB
              clear a0 b0 b1 b2 ca cb r1 r2 hB
              rintro W2 HW2
              have HWW : Hid (Row W2 w.heap.size 25 [.slice (some ⟨nb, no, none⟩) j nc, .slice (some ⟨qb, qo, none⟩) el ec] ∧ Row W2 g 32 [.int .i64 (aN : Int), .int .i64 (bN : Int), .slice ma ml mc] ∧ Below w.heap.size w W2) := HW2
              clear d1 d2 d3 d3' d4 d4' d5 d6 d6' e1 e3 e4 e5 HW2
              go_wp2_with fail
              go_loopw [7] (fun s7 wx => ∃ k : Nat, k ≤ ml ∧ s7 = .int .i64 k ∧ Hid ((M.take k).all (rowB n2) = true) ∧ Hid (Row wx w.heap.size 25 [.slice (some ⟨nb, no, none⟩) j nc, .slice (some ⟨qb, qo, none⟩) el ec] ∧ Row wx g 32 [.int .i64 (aN : Int), .int .i64 (bN : Int), .slice ma ml mc] ∧ Below w.heap.size w wx)) (fun s7 _ => ml - (intOf s7).toNat)
              case atStart => exact ⟨0, by omega, rfl, by show _ = _; rfl, HWW⟩
              case round =>
                obtain ⟨k, hk, rfl, HA, HX⟩ := hrel
                clear HWW
                have a0 := HX.out.1.cell (k := 0) rfl
                have b1 := HX.out.2.1.cell (k := 1) rfl
                have b2 := HX.out.2.1.cell (k := 2) rfl
                by_cases hlt : k < ml
                · have hkx : k < M.length := by have := HML.out; omega
                  obtain ⟨mb, mo, a3, n3, c3, rfl, -, ck, hi, hn3, hn3m⟩ := rows_at (HM.out wr HX.out.2.2) hkx
                  have cb : wr.cell? ⟨nb, no + bN, none⟩ = some (.slice a2 n2 c2) := (World.cell?_of_block (a := ⟨nb, no + bN, none⟩) ((HX.out.2.2.block nb HNLT.out).trans (HBW.out.block nb HNLT.out).symm)).trans HCB.out
                  have hsn := all_take_succ (f := rowB n2) hkx
                  rw [HA.out] at hsn
                  have hfl := all_false_of (f := rowB n2) hkx
                  have hcq := fun q => costsR_c (wr.drewN q) (hi.keep (p' := p) (Keep.below (bel_drewN (bel_refl wr) q)))
                  obtain ⟨x, Hx⟩ : ∃ x, Hid (M[k] = x) := ⟨_, (rfl : M[k] = _)⟩
                  rw [Hx.out] at hn3 hsn hfl hcq
                  have HSN := hid_of hsn
                  have HN3 := hid_of hn3
                  have hkz : (k : Int) < (ml : Int) := by omega
                  have HFF : Hid (rowB n2 x = false → C = 1) := fun hr => by
                    refine HFL.out ?_
                    unfold edgeB
                    have : (M.all (rowB (N.getD (bN : Int).toNat []).length)) = false := by
                      rw [Int.toNat_natCast, HE2.out, ← HN2.out]
                      exact hfl hr
                    show (_ && M.all (rowB (N.getD (bN : Int).toNat []).length)) = false
                    rw [this, Bool.and_false]
                  clear hsn hfl hi hn3
                  by_cases h1 : n3 ≠ n2
                  · have d1 : ((n3 : Int) != (n2 : Int)) = true := by simp; omega
                    have d1' : (n3 != n2) = true := by simpa using h1
                    have HF : Hid (C = 1) := HFF.out (by have := HN3.out; unfold rowB; simp; omega)
                    clear h1 hcq
                    go_wp2_with fail
                    go_quiet (fail)
                    go_wp2_with fail
                    go_ret
                    exact ⟨by rw [HF.out]; rfl, bel_drewN HX.out.2.2 _⟩
                  have h1' : n3 = n2 := by omega
                  have d1 : ((n3 : Int) != (n2 : Int)) = false := by simp; omega
                  have d1' : (n3 != n2) = false := by simpa using h1'
                  have HRB : Hid (rowB n2 x = costsB x) := by show _ = _; unfold rowB; rw [← HN3.out, h1']; simp
                  obtain ⟨cb2, Hcb⟩ : ∃ cb2, Hid (costsB x = cb2) := ⟨_, (rfl : costsB x = _)⟩
                  rw [Hcb.out] at hcq
                  have hsm : ∀ q, Calls Try.prog 23 #[.slice a3 n3 c3] (wr.drewN q) fun e w' => e = .returned (.bool cb2) ∧ ∃ m, w' = (wr.drewN q).drewN m := fun q => (hcq q).mono (by rintro e w' ⟨rfl, rfl⟩; exact ⟨rfl, 0, rfl⟩)
                  clear h1 h1' hcq
                  cases cb2 with
                  | false =>
                    have HF : Hid (C = 1) := HFF.out (by rw [HRB.out]; exact Hcb.out)
                    go_wp2_with fail
                    go_quiet ((go_at_call 23; exact Calls.quiet_of (hsm _)))
                    go_wp2_with fail
                    go_ret
                    exact ⟨by rw [HF.out]; rfl, bel_drewN HX.out.2.2 _⟩
                  | true =>
                    have HO : Hid ((M.take (k + 1)).all (rowB n2) = true) := by show _ = _; rw [HSN.out, HRB.out, Hcb.out]; rfl
                    go_wp2_with fail
                    go_quiet ((go_at_call 23; exact Calls.quiet_of (hsm _)))
                    have HX2 : Hid (Row (wr.drewN nq) w.heap.size 25 [.slice (some ⟨nb, no, none⟩) j nc, .slice (some ⟨qb, qo, none⟩) el ec] ∧ Row (wr.drewN nq) g 32 [.int .i64 (aN : Int), .int .i64 (bN : Int), .slice (some ⟨mb, mo, none⟩) ml mc] ∧ Below w.heap.size w (wr.drewN nq)) := ⟨HX.out.1, HX.out.2.1, bel_drewN HX.out.2.2 _⟩
                    clear hsm a0 b1 b2 cb ck
                    go_wp2_with fail
                    go_roundw
                    case rel => exact ⟨k + 1, by omega, by go_num, HO, HX2⟩
                    case measure => simp [intOf]; omega
                · obtain rfl : k = ml := by omega
                  have HTE : Hid (edgeB N ⟨aN, bN, M⟩ = true) := by
                    show _ = _
                    unfold edgeB
                    show (endsB N ⟨aN, bN, M⟩ && M.all (rowB (N.getD (bN : Int).toNat []).length)) = true
                    rw [HEN.out, Int.toNat_natCast, HE2.out, ← HN2.out]
                    have := HA.out
                    rw [HML.out, List.take_length] at this
                    rw [this]; rfl
                  have HO : Hid ((E.take (i + 1)).all (edgeB N) = true) := by show _ = _; rw [HSNE.out, HTE.out]; rfl
                  have HX2 : Hid (Row wr w.heap.size 25 [.slice (some ⟨nb, no, none⟩) j nc, .slice (some ⟨qb, qo, none⟩) el ec] ∧ Below w.heap.size w wr) := ⟨HX.out.1, HX.out.2.2⟩
                  clear a0 b1
                  go_wp2_with fail
                  go_roundw
                  case rel => exact ⟨i + 1, by omega, by go_num, HO, HX2⟩
                  case measure => simp [intOf]; omega
            · obtain rfl : i = el := by omega
              have HF : Hid (C = 0) := by
                have := HI.out
                rw [HEL.out, List.take_length] at this
                show _ = _
                rw [HC3.out, if_pos this]
              go_wp2_with fail
              go_ret
              exact ⟨by rw [HF.out]; rfl, HX.out.2⟩
end Go.Proofs.Ytdomnbgjafdnjaa
