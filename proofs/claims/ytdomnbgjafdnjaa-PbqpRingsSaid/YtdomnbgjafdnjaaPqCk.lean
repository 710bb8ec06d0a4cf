/- 'pbqp.Check': the walk. -/
import Derived.Test.YtdomnbgjafdnjaaPqC
import Derived.Deep.CutBlock
import Derived.Deep.DeepCutAuto
namespace Go.Proofs.Ytdomnbgjafdnjaa
open Go.RowKit

set_option maxRecDepth 100000 in
set_option maxHeartbeats 8000000 in
theorem check_c {p : Nat → Prop} (w : World) {na : Option Addr} {nl nc : Nat} {ea : Option Addr} {el ec : Nat} {N : List (List Int)} {E : List EdgeD}
    (hp : ∀ b, p b → b < w.heap.size) (h : IsPq p w na nl nc ea el ec N E) :
    Calls Try.prog 17 #[costsV na nl nc ea el ec] w fun e w' => e = .returned (.int .i64 (chkS N E)) ∧ Below w.heap.size w w' := by
  obtain ⟨hN, hE⟩ := h
  have HNL := hid_of (sl_len hN).1
  have HEL := hid_of (sl_len hE).1
  have hnm := (sl_len hN).2.2
  have hem := (sl_len hE).2.2
  obtain ⟨C, HC⟩ : ∃ C, Hid (chkS N E = C) := ⟨_, (rfl : chkS N E = _)⟩
  rw [HC.out]
  have HN : Hid (∀ X, Below w.heap.size w X → IsRows p X (.slice na nl nc) N) := fun X hX => hN.keep (fun b hb hlt => ⟨hb, hX.block b (hp b hb)⟩)
  have HE : Hid (∀ X, Below w.heap.size w X → IsEdges p X (.slice ea el ec) E) := fun X hX => hE.keep (fun b hb hlt => ⟨hb, hX.block b (hp b hb)⟩)
  clear hN hE
  obtain ⟨L0, HL0⟩ : ∃ L0, Hid ((decide (300 < N.length) || decide (2000 < E.length)) = L0) := ⟨_, (rfl : (decide (300 < N.length) || decide (2000 < E.length)) = _)⟩
  go_enter Try.func17, Try.ntmps17
  go_upto_region 1 with fail
  refine wp_at (fun X => Row X w.heap.size 25 [.slice na nl nc, .slice ea el ec] ∧ Below w.heap.size w X) ⟨heap_alloc_eq _ _ _ rfl, bel_alloc (bel_refl w) _⟩ ?_
  rintro W ⟨r1, hB⟩
  have a0 := r1.cell (k := 0) rfl
  have a1 := r1.cell (k := 1) rfl
  have HB := hid_of hB
  have HR := hid_of r1
  clear r1 hB
  go_cut [3] (fun s3 wx => s3 = .bool L0 ∧ wx = W)
  case first =>
    by_cases h1 : (nl : Int) > 300
    · have d1 : decide ((nl : Int) > 300) = true := by simpa using h1
      have d1' : decide (300 < nl) = true := by simp; omega
      have HT : Hid (L0 = true) := by show _ = _; rw [← HL0.out]; have := HNL.out; simp; omega
      clear h1
      go_wp2_with fail
      go_meet
      exact ⟨by rw [HT.out], rfl⟩
    have d1 : decide ((nl : Int) > 300) = false := by simpa using h1
    have d1' : decide (300 < nl) = false := by simp; omega
    by_cases h2 : (el : Int) > 2000
    · have d2 : decide ((el : Int) > 2000) = true := by simpa using h2
      have d2' : decide (2000 < el) = true := by simp; omega
      have HT : Hid (L0 = true) := by show _ = _; rw [← HL0.out]; have := HEL.out; simp; omega
      clear h1 h2
      go_wp2_with fail
      go_meet
      exact ⟨by rw [HT.out], rfl⟩
    have d2 : decide ((el : Int) > 2000) = false := by simpa using h2
    have d2' : decide (2000 < el) = false := by simp; omega
    have HT : Hid (L0 = false) := by show _ = _; rw [← HL0.out]; have := HEL.out; have := HNL.out; simp; omega
    clear h1 h2
    go_wp2_with fail
    go_meet
    exact ⟨by rw [HT.out], rfl⟩
  case rest =>
    obtain ⟨rfl, rfl⟩ := hcut
    go_wp2_with fail
    go_loop [3, 23] (fun s3 s23 => ∃ (k : Nat) (lb : Bool), k ≤ nl ∧ s23 = .int .i64 k ∧ s3 = .bool lb ∧ Hid ((L0 || (N.take k).any longB) = lb)) (fun _ s23 => nl - (intOf s23).toNat)
    case atStart => exact ⟨0, L0, by omega, rfl, rfl, by show _ = _; simp⟩
    case round =>
      obtain ⟨k, lb, hk, rfl, rfl, HA⟩ := hrel
      by_cases hlt : k < nl
      · have hkx : k < N.length := by have := HNL.out; omega
        obtain ⟨nb, no, a3, n3, c3, rfl, -, ck, -, hn3, hn3m⟩ := rows_at (HN.out wc HB.out) hkx
        have hsn := any_take_succ (f := longB) hkx
        rw [show longB N[k] = decide (32 < n3) by unfold longB; rw [← hn3]] at hsn
        have HSN := hid_of hsn
        have hkz : (k : Int) < (nl : Int) := by omega
        clear hsn hn3
        cases lb with
        | true =>
          have HO : Hid ((L0 || (N.take (k + 1)).any longB) = true) := by show _ = _; rw [HSN.out, ← Bool.or_assoc, HA.out]; rfl
          go_wp2_with fail
          go_round
          case rel => exact ⟨k + 1, true, by omega, by go_num, rfl, HO⟩
          case measure => simp [intOf]; omega
        | false =>
          by_cases h1 : n3 > 32
          · have d1 : decide ((n3 : Int) > 32) = true := by simp; omega
            have d1' : decide (32 < n3) = true := by simpa using h1
            have HO : Hid ((L0 || (N.take (k + 1)).any longB) = true) := by show _ = _; rw [HSN.out, ← Bool.or_assoc, HA.out, d1']; rfl
            clear h1
            go_wp2_with fail
            go_round
            case rel => exact ⟨k + 1, true, by omega, by go_num, rfl, HO⟩
            case measure => simp [intOf]; omega
          · have d1 : decide ((n3 : Int) > 32) = false := by simp; omega
            have d1' : decide (32 < n3) = false := by simpa using h1
            have HO : Hid ((L0 || (N.take (k + 1)).any longB) = false) := by show _ = _; rw [HSN.out, ← Bool.or_assoc, HA.out, d1']; rfl
            clear h1
            go_wp2_with fail
            go_round
            case rel => exact ⟨k + 1, false, by omega, by go_num, rfl, HO⟩
            case measure => simp [intOf]; omega
      · obtain rfl : k = nl := by omega
        have HLB : Hid ((decide (300 < N.length) || decide (2000 < E.length) || N.any longB) = lb) := by show _ = _; rw [HL0.out, ← HA.out, HNL.out, List.take_length]
        cases lb with
        | true =>
          have HF : Hid (C = 2) := by show _ = _; rw [← HC.out]; unfold chkS; rw [if_pos HLB.out]
          go_wp2_with fail
          go_ret
          exact ⟨by rw [HF.out]; rfl, HB.out⟩
        | false =>
          have HC2 : Hid (C = if N.all nodeB = true then (if E.all (edgeB N) = true then 0 else 1) else 1) := by show _ = _; rw [← HC.out]; unfold chkS; rw [if_neg (by rw [HLB.out]; simp)]
          go_wp2_with fail
          go_loop [38] (fun s38 => ∃ j : Nat, j ≤ k ∧ s38 = .int .i64 j ∧ Hid ((N.take j).all nodeB = true)) (fun s38 => k - (intOf s38).toNat)
          case atStart => exact ⟨0, by omega, rfl, by show _ = _; rfl⟩
          case round =>
            obtain ⟨j, hj, rfl, HJ⟩ := hrel
            by_cases hjt : j < k
            · have hjx : j < N.length := by have := HNL.out; omega
              obtain ⟨nb, no, a3, n3, c3, rfl, -, ck, hi, hn3, hn3m⟩ := rows_at (HN.out wc HB.out) hjx
              have hsn := all_take_succ (f := nodeB) hjx
              rw [HJ.out] at hsn
              have HFL : Hid (nodeB N[j] = false → C = 1) := fun hf => by rw [HC2.out, if_neg (by rw [all_false_of hjx hf]; simp)]
              have HCB := hid_of (costsB_c wc hi)
              obtain ⟨x, Hx⟩ : ∃ x, Hid (N[j] = x) := ⟨_, (rfl : N[j] = _)⟩
              rw [Hx.out] at hn3 hsn HFL HCB
              have HSN := hid_of hsn
              have HN3 := hid_of hn3
              have hjz : (j : Int) < (k : Int) := by omega
              clear hsn hi hn3
              by_cases h1 : n3 = 0
              · have d1 : ((n3 : Int) == 0) = true := by simp; omega
                have d1' : (n3 == 0) = true := by simpa using h1
                have HF : Hid (C = 1) := HFL.out (by have := HN3.out; have hz : x.length = 0 := by omega
                                                     unfold nodeB; rw [hz]; rfl)
                clear h1
                go_wp2_with fail
                go_ret
                exact ⟨by rw [HF.out]; rfl, HB.out⟩
              have d1 : ((n3 : Int) == 0) = false := beq_eq_false_iff_ne.2 (by omega)
              have d1' : (n3 == 0) = false := beq_eq_false_iff_ne.2 h1
              have HNB : Hid (nodeB x = costsB x) := by show _ = _; unfold nodeB; rw [← HN3.out]; simp [h1]
              clear h1
              go_wp2_with fail
              refine HCB.out.mono ?_
              rintro e w' ⟨rfl, rfl⟩
              obtain ⟨cb2, Hcb⟩ : ∃ cb2, Hid (costsB x = cb2) := ⟨_, (rfl : costsB x = _)⟩
              rw [Hcb.out]
              cases cb2 with
              | false =>
                have HF : Hid (C = 1) := HFL.out (by rw [HNB.out]; exact Hcb.out)
                go_wp2_with fail
                go_ret
                exact ⟨by rw [HF.out]; rfl, HB.out⟩
              | true =>
                have HO : Hid ((N.take (j + 1)).all nodeB = true) := by show _ = _; rw [HSN.out, HNB.out, Hcb.out]; rfl
                go_wp2_with fail
                go_round
                case rel => exact ⟨j + 1, by omega, by go_num, HO⟩
                case measure => simp [intOf]; omega
            · obtain rfl : j = k := by omega
              have HC3 : Hid (C = if E.all (edgeB N) = true then 0 else 1) := by
                have := HJ.out
                rw [HNL.out, List.take_length] at this
                show _ = _
                rw [HC2.out, if_pos this]
              have HRB : Hid (Row wc w.heap.size 25 [.slice na j nc, .slice ea el ec] ∧ Below w.heap.size w wc) := ⟨HR.out, HB.out⟩
              go_wp2_with fail
              clear a0 a1
              go_loopw [54] (fun s54 wx => ∃ i : Nat, i ≤ el ∧ s54 = .int .i64 i ∧ Hid ((E.take i).all (edgeB N) = true) ∧ Hid (Row wx w.heap.size 25 [.slice na j nc, .slice ea el ec] ∧ Below w.heap.size w wx)) (fun s54 _ => el - (intOf s54).toNat)
              case atStart => exact ⟨0, by omega, rfl, by show _ = _; rfl, HRB⟩
              case round =>
                obtain ⟨i, hi, rfl, HI, HX⟩ := hrel
                clear HRB
                by_cases hit : i < el
                · have hix : i < E.length := by have := HEL.out; omega
                  obtain ⟨eb, eo, rfl, hpe, hc⟩ := sl_at (HE.out wr HX.out.2) (by omega)
                  have hci := hc i hix
                  have hsn := all_take_succ (f := edgeB N) hix
                  rw [HI.out] at hsn
                  have HFL : Hid (edgeB N E[i] = false → C = 1) := fun hf => by rw [HC3.out, if_neg (by rw [all_false_of hix hf]; simp)]
                  obtain ⟨x, Hx⟩ : ∃ x, Hid (E[i] = x) := ⟨_, (rfl : E[i] = _)⟩
                  rw [Hx.out] at hci hsn HFL
                  have HSN := hid_of hsn
                  obtain ⟨xa, xb, M⟩ := x
                  obtain ⟨c0, c1, v2, c2, hM⟩ := hci
                  obtain ⟨ma, mc, rfl, -, -⟩ := id hM
                  dsimp only at c0 c1 c2 hM
                  have hizz : (i : Int) < (el : Int) := by omega
                  have hsz := HX.out.2.size
                  have hgl := HX.out.1.lt
                  have b0 := HX.out.1.cell (k := 0) rfl
                  have b1 := HX.out.1.cell (k := 1) rfl
                  have hB1 := bel_call HX.out.2 (bel_alloc (bel_refl wr) (.cells #[.int .i64 xa, .int .i64 xb, .slice ma M.length mc] 32))
                  have HED := hid_of (edge_c (p := p) (wr.alloc (.cells #[.int .i64 xa, .int .i64 xb, .slice ma M.length mc] 32)) (xa := some ⟨eb, eo, none⟩) (xl := el) (xc := ec) ⟨xa, xb, M⟩ (fun b hb => by have := hp b hb; have := hB1.size; omega) (HN.out _ hB1)
                    (hM.keep (fun b hb hlt => ⟨hb, by rw [(bel_alloc (bel_refl wr) _).block b (by have := hp b hb; omega)]⟩)))
                  have HB1 := hid_of hB1
                  clear hc hsn hM hB1
                  go_wp2_with fail
                  refine HED.out.mono ?_
                  rintro e w' ⟨rfl, hb⟩
                  have HX2 : Hid (Row w' w.heap.size 25 [.slice na j nc, .slice (some ⟨eb, eo, none⟩) el ec] ∧ Below w.heap.size w w') := ⟨(HX.out.1.keep ((bel_alloc (bel_refl wr) _).block _ hgl)).keep (hb.block _ (by simp; omega)), bel_call HB1.out hb⟩
                  clear hb b0 b1 c0 c1 c2
                  obtain ⟨cb2, Hcb⟩ : ∃ cb2, Hid (edgeB N ⟨xa, xb, M⟩ = cb2) := ⟨_, (rfl : edgeB N ⟨xa, xb, M⟩ = _)⟩
                  rw [Hcb.out]
                  cases cb2 with
                  | false =>
                    have HF : Hid (C = 1) := HFL.out Hcb.out
                    go_wp2_with fail
                    go_ret
                    exact ⟨by rw [HF.out]; rfl, HX2.out.2⟩
                  | true =>
                    have HO : Hid ((E.take (i + 1)).all (edgeB N) = true) := by show _ = _; rw [HSN.out, Hcb.out]; rfl
                    go_wp2_with fail
                    go_roundw
                    case rel => exact ⟨i + 1, by omega, by go_num, HO, HX2⟩
                    case measure => simp [intOf]; omega
                · obtain rfl : i = el := by omega
                  have HF : Hid (C = 0) := by
                    have := HI.out
                    rw [HEL.out, List.take_length] at this
                    show _ = _
                    rw [HC3.out, if_pos this]
                  go_wp2_with fail
                  go_ret
                  exact ⟨by rw [HF.out]; rfl, HX.out.2⟩
end Go.Proofs.Ytdomnbgjafdnjaa
