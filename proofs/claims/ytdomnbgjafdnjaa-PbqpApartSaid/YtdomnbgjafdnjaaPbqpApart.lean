/- 'PbqpApart': the walk. -/
import Derived.Test.YtdomnbgjafdnjaaPqX
import Derived.Test.YtdomnbgjafdnjaaRef1
namespace Go.Proofs.Ytdomnbgjafdnjaa
open Go.RowKit

set_option maxRecDepth 100000 in
set_option maxHeartbeats 8000000 in
theorem pbqpApart_c (w : World) {na : Option Addr} {nl nc : Nat} {N : List (List Int)} (h : IsRows (· < w.heap.size) w (.slice na nl nc) N) :
    Calls Try.prog 5 #[.slice na nl nc] w fun e w' => e = .returned (.bool true) ∧ Below w.heap.size w w' := by
  have hNL := (sl_len h).1
  have HN : Hid (∀ X, Below w.heap.size w X → IsRows (· < w.heap.size) X (.slice na nl nc) N) := fun X hX => h.keep (fun b hb hlt => ⟨hb, hX.block b hb⟩)
  have HP : Hid (∀ X, Below w.heap.size w X → IsPq (· < w.heap.size) X na nl nc none 0 0 N []) := fun X hX => ⟨HN.out X hX, ⟨none, 0, rfl, ⟨by simp, by simp⟩, .inl rfl⟩⟩
  have HAL := hid_of (alive25_c w)
  have HNU := hid_of num_c
  have HNL := hid_of hNL
  clear h hNL
  by_cases h1 : (nl : Int) > 200
  · have d1 : decide ((nl : Int) > 200) = true := by simpa using h1
    have d1' : decide (200 < nl) = true := by simp; omega
    clear h1
    go_enter Try.func5, Try.ntmps5
    go_wp2_with fail
    refine HAL.out.mono ?_
    rintro e W ⟨rfl, hb⟩
    go_wp2_with fail
    go_ret
    exact ⟨rfl, hb⟩
  have d1 : decide ((nl : Int) > 200) = false := by simpa using h1
  have d1' : decide (200 < nl) = false := by simp; omega
  have hn200 : nl ≤ 200 := by omega
  clear h1
  obtain ⟨C, HC⟩ : ∃ C, Hid (chkS N [] = C) := ⟨_, (rfl : chkS N [] = _)⟩
  go_enter Try.func5, Try.ntmps5
  go_wp2_with fail
  refine HAL.out.mono ?_
  rintro e W ⟨rfl, hb⟩
  have hB0 := bel_alloc hb (.cells #[.slice na nl nc, .slice none 0 0] 25)
  have HCK := hid_of (checkR_c (p := (· < w.heap.size)) (W.alloc (.cells #[.slice na nl nc, .slice none 0 0] 25)) (fun b hb => by have := hB0.size; omega) (HP.out _ hB0))
  rw [HC.out] at HCK
  have HB0 := hid_of hB0
  clear HAL hB0
  go_wp2_with fail
  refine HCK.out.mono ?_
  rintro e W1 ⟨rfl, hb1⟩
  have r1 : Row W1 W.heap.size 25 [.slice na nl nc, .slice none 0 0] := Row.keep (W := W.alloc (.cells #[.slice na nl nc, .slice none 0 0] 25)) (heap_alloc_eq _ _ _ rfl) (hb1.block _ (by simp))
  have hB1 := bel_call HB0.out hb1
  have HB1 := hid_of hB1
  have HR1 := hid_of r1
  clear HCK hb1 hb hB1
  by_cases h0 : C ≠ 0
  · have d0 : (C != 0) = true := by simpa using h0
    have d0' : (C == 0) = false := by simpa using h0
    clear h0
    go_wp2_with fail
    go_ret
    exact ⟨rfl, HB1.out⟩
  obtain rfl : C = 0 := by omega
  clear h0 d1 d1'
  have hck := chk_ok HC.out
  have HNE := hid_of hck.2.2.1
  clear hck
  go_wp2_with fail
  go_loop [5, 6] (fun s5 s6 => ∃ (i : Nat) (S : Int), i ≤ nl ∧ s6 = .int .i64 i ∧ s5 = .int .i64 S ∧ Hid (nSum N (chosen N) i = S)) (fun _ s6 => nl - (intOf s6).toNat)
  case atStart => exact ⟨0, 0, by omega, rfl, rfl, by show _ = _; rfl⟩
  case round =>
    obtain ⟨i, S, hi, rfl, rfl, HS⟩ := hrel
    have hal : allIn N (chosen N) i = true := by
      have := chosen_in HC.out
      unfold allIn at this ⊢
      rw [List.all_eq_true] at this ⊢
      exact fun x hx => this x (List.mem_range.2 (by have := List.mem_range.1 hx; have := HNL.out; omega))
    have hns := nSum_ok HC.out (show i ≤ N.length by have := HNL.out; omega) hal
    have hS0 : 0 ≤ S ∧ S ≤ 300000000000000 := by have := HS.out; unfold infC at hns; omega
    obtain ⟨S0, S1⟩ := hS0
    clear hal hns
    by_cases hit : i < nl
    · have hix : i < N.length := by have := HNL.out; omega
      obtain ⟨nb, no, a3, n3, c3, rfl, -, ck, hii, hn3, hn3m⟩ := rows_at2 (HN.out W1 HB1.out) hix
      have hnn := HNE.out _ (mem_getD (d := []) hix)
      have hsu : nSum N (chosen N) (i + 1) = S + (N.getD i []).getD (leastS (N.getD i [])) 0 := by rw [← HS.out, ← chosen_nT hix]; rfl
      obtain ⟨L, HL⟩ : ∃ L, Hid (N.getD i [] = L) := ⟨_, (rfl : N.getD i [] = _)⟩
      rw [HL.out] at hii hn3 hnn hsu
      have HSU := hid_of hsu
      have HN3 := hid_of hn3
      have hl0 : 0 < L.length := by omega
      have hls : ∀ k, k < L.length → 0 ≤ L.getD k 0 ∧ L.getD k 0 ≤ 1099511627776 := fun k hk => hnn.2.2 _ (mem_getD hk)
      have HLS := hid_of hls
      obtain ⟨ib, io, rfl, -, c0⟩ := ints_at hii hl0
      have HII := hid_of hii
      obtain ⟨z, Hz⟩ : ∃ z, Hid (L.getD 0 0 = z) := ⟨_, (rfl : L.getD 0 0 = _)⟩
      rw [Hz.out, Nat.add_zero] at c0
      have hiz : (i : Int) < (nl : Int) := by omega
      have hn30 : (0 : Int) < (n3 : Int) := by have := HN3.out; omega
      have HL0 := hid_of hl0
      have HZ2 : Hid (L.getD (leastK L 0) 0 = z) := Hz.out
      clear hsu hn3 hnn hls hii hl0
      go_wp2_with fail
      go_loop [7, 8] (fun s7 s8 => ∃ (k : Nat) (m : Int), k ≤ n3 ∧ s8 = .int .i64 k ∧ s7 = .int .i64 m ∧ Hid (L.getD (leastK L k) 0 = m)) (fun _ s8 => n3 - (intOf s8).toNat)
      case atStart => exact ⟨0, z, by omega, rfl, rfl, HZ2⟩
      case round =>
        obtain ⟨k, m, hk, rfl, rfl, HM⟩ := hrel
        by_cases hkt : k < n3
        · have hkx : k < L.length := by have := HN3.out; omega
          obtain ⟨ib2, io2, hia, -, ckk⟩ := ints_at HII.out hkx
          simp only [Option.some.injEq, Addr.mk.injEq, and_true] at hia
          obtain ⟨rfl, rfl⟩ := hia
          obtain ⟨x, Hx⟩ : ∃ x, Hid (L.getD k 0 = x) := ⟨_, (rfl : L.getD k 0 = _)⟩
          rw [Hx.out] at ckk
          have hle : leastK L (k + 1) = if x < m then k else leastK L k := by rw [← Hx.out, ← HM.out]; rfl
          have HLE := hid_of hle
          have hkz : (k : Int) < (n3 : Int) := by omega
          clear hle hkx
          by_cases h2 : x < m
          · have d2 : decide (x < m) = true := by simpa using h2
            have HO : Hid (L.getD (leastK L (k + 1)) 0 = x) := by show _ = _; rw [HLE.out, if_pos h2]; exact Hx.out
            clear h2
            go_wp2_with fail
            go_round
            case rel => exact ⟨k + 1, x, by omega, by go_num, rfl, HO⟩
            case measure => simp [intOf]; omega
          · have d2 : decide (x < m) = false := by simpa using h2
            have HO : Hid (L.getD (leastK L (k + 1)) 0 = m) := by show _ = _; rw [HLE.out, if_neg h2]; exact HM.out
            clear h2
            go_wp2_with fail
            go_round
            case rel => exact ⟨k + 1, m, by omega, by go_num, rfl, HO⟩
            case measure => simp [intOf]; omega
        · obtain rfl : k = n3 := by omega
          have hm : m = L.getD (leastS L) 0 := by rw [← HM.out]; unfold leastS; rw [HN3.out]
          have hmb := HLS.out _ (leastS_lt HL0.out)
          rw [← hm] at hmb
          have HSU2 : Hid (nSum N (chosen N) (i + 1) = S + m) := by show _ = _; rw [HSU.out, hm]
          obtain ⟨m0, m1⟩ := hmb
          clear hm
          go_wp2_with fail
          go_round
          case rel => exact ⟨i + 1, S + m, by omega, by go_num, by go_num, HSU2⟩
          case measure => simp [intOf]; omega
    · obtain rfl : i = nl := by omega
      obtain ⟨D, HD⟩ : ∃ D, Hid (min S 1099511627776 = D) := ⟨_, (rfl : min S 1099511627776 = _)⟩
      have HCP : Hid (costP N [] (chosen N) = D) := by show _ = _; rw [costP_chosen HC.out, ← HNL.out, HS.out]; exact HD.out
      have HSO : Hid (∀ X, Below w.heap.size w X → Calls Try.prog 14 #[costsV na i nc none 0 0] X fun e w' => ∃ lb, e = .returned (.tuple #[.slice (some ⟨lb, 0, none⟩) i i, .int .i64 D, .int .i64 0]) ∧ X.heap.size ≤ lb ∧ Row w' lb 3 (ints (chosen N)) ∧ Below X.heap.size X w') := fun X hX => by
        have := solve_c (p := (· < X.heap.size)) X (fun b hb => hb) ((HP.out X hX).keep (fun b hb hlt => ⟨hlt, rfl⟩)) HC.out
        rw [HCP.out] at this
        exact this
      have q0 := HR1.out.cell (k := 0) rfl
      have q1 := HR1.out.cell (k := 1) rfl
      by_cases h3 : S > 1099511627776
      · have d3 : decide (S > 1099511627776) = true := by simpa using h3
        have d3' : decide (1099511627776 < S) = true := by simpa using h3
        obtain rfl : D = 1099511627776 := by have := HD.out; omega
        clear h3
        go_wp2_with fail
        refine (HSO.out W1 HB1.out).mono ?_
        rintro e W2 ⟨lb, rfl, hlo, hr, hb2⟩
        have r2 := HR1.out.keep (hb2.block _ HR1.out.lt)
        have hB2 := bel_call HB1.out hb2
        have p0 := r2.cell (k := 0) rfl
        have p1 := r2.cell (k := 1) rfl
        have HB2 := hid_of hB2
        have HR := hid_of hr
        clear q0 q1 r2 hB2 hr hb2
        go_wp2_with fail
        refine (HSO.out W2 HB2.out).mono ?_
        rintro e W3 ⟨lb2, rfl, hlo2, hr2, hb3⟩
        have hcl : (chosen N).length = i := by rw [chosen_length]; exact HNL.out.symm
        have hra := HR.out.keep (hb3.block lb HR.out.lt)
        have hi1 := ints_of_row (p := fun _ => True) hra trivial (by omega)
        have hi2 := ints_of_row (p := fun _ => True) hr2 trivial (by omega)
        rw [hcl] at hi1 hi2
        have HI1 := hid_of hi1
        have HI2 := hid_of hi2
        have HB3 := hid_of (bel_call HB2.out hb3)
        clear p0 p1 hcl hra hi1 hi2 hr2 hb3 hlo hlo2 HR
        go_wp2_with fail
        refine (HNU.out _ _).mono ?_
        rintro e W4 ⟨rfl, rfl⟩
        go_wp2_with fail
        refine (sameInts_c _ HI1.out HI2.out).mono ?_
        rintro e W5 ⟨rfl, nd, rfl⟩
        rw [show sameS (chosen N) (chosen N) = true by simp [sameS]]
        go_wp2_with fail
        go_ret
        exact ⟨rfl, bel_drewN HB3.out nd⟩
      · have d3 : decide (S > 1099511627776) = false := by simpa using h3
        have d3' : decide (1099511627776 < S) = false := by simpa using h3
        obtain rfl : D = S := by have := HD.out; omega
        have hDD : (D == D) = true := by simp
        clear h3
        go_wp2_with fail
        refine (HSO.out W1 HB1.out).mono ?_
        rintro e W2 ⟨lb, rfl, hlo, hr, hb2⟩
        have r2 := HR1.out.keep (hb2.block _ HR1.out.lt)
        have hB2 := bel_call HB1.out hb2
        have p0 := r2.cell (k := 0) rfl
        have p1 := r2.cell (k := 1) rfl
        have HB2 := hid_of hB2
        have HR := hid_of hr
        clear q0 q1 r2 hB2 hr hb2
        go_wp2_with fail
        refine (HSO.out W2 HB2.out).mono ?_
        rintro e W3 ⟨lb2, rfl, hlo2, hr2, hb3⟩
        have hcl : (chosen N).length = i := by rw [chosen_length]; exact HNL.out.symm
        have hra := HR.out.keep (hb3.block lb HR.out.lt)
        have hi1 := ints_of_row (p := fun _ => True) hra trivial (by omega)
        have hi2 := ints_of_row (p := fun _ => True) hr2 trivial (by omega)
        rw [hcl] at hi1 hi2
        have HI1 := hid_of hi1
        have HI2 := hid_of hi2
        have HB3 := hid_of (bel_call HB2.out hb3)
        clear p0 p1 hcl hra hi1 hi2 hr2 hb3 hlo hlo2 HR
        go_wp2_with fail
        refine (HNU.out _ _).mono ?_
        rintro e W4 ⟨rfl, rfl⟩
        go_wp2_with fail
        refine (sameInts_c _ HI1.out HI2.out).mono ?_
        rintro e W5 ⟨rfl, nd, rfl⟩
        rw [show sameS (chosen N) (chosen N) = true by simp [sameS]]
        go_wp2_with fail
        go_ret
        exact ⟨rfl, bel_drewN HB3.out nd⟩
end Go.Proofs.Ytdomnbgjafdnjaa
