/- 'PbqpSolves': the walk. -/
import Derived.Test.YtdomnbgjafdnjaaPsA
namespace Go.Proofs.Ytdomnbgjafdnjaa
open Go.RowKit

set_option maxRecDepth 100000 in
set_option maxHeartbeats 8000000 in
theorem pbqpSolves_bad (w : World) {na : Option Addr} {nl nc : Nat} {ea : Option Addr} {el ec : Nat} {N : List (List Int)} {E : List EdgeD} (h : IsPq (· < w.heap.size) w na nl nc ea el ec N E) (hc : chkS N E ≠ 0) :
    Calls Try.prog 7 #[costsV na nl nc ea el ec] w fun e w' => e = .returned (.bool true) ∧ Below w.heap.size w w' := by
  have HP := hid_of h
  have HC := hid_of hc
  have HAL := hid_of (alive25_c (w.alloc (.cells #[.slice na nl nc, .slice ea el ec] 25)))
  have HX : Hid (BoxC w na nl nc ea el ec (w.alloc (.cells #[.slice na nl nc, .slice ea el ec] 25))) := ⟨heap_alloc_eq _ _ _ rfl, bel_alloc (bel_refl w) _⟩
  obtain ⟨x, Hx⟩ : ∃ x, Hid (chkS N E = x) := ⟨_, (rfl : chkS N E = _)⟩
  have hxx : (x != x) = false := by simp
  clear h hc
  go_enter Try.func7, Try.ntmps7
  go_wp2_with fail
  refine HAL.out.mono ?_
  rintro e W0 ⟨rfl, hb⟩
  have HX := hid_of (HX.out.next hb)
  clear HAL hb
  have a0 := HX.out.r.cell (k := 0) rfl
  have a1 := HX.out.r.cell (k := 1) rfl
  have HQ := hid_of (big25_c (p := (· < w.heap.size)) W0 HX.out.lt (HX.out.pq HP.out))
  go_wp2_with fail
  refine HQ.out.mono ?_
  rintro e W1 ⟨⟨bg, rfl⟩, hb⟩
  have HX := hid_of (HX.out.next hb)
  clear a0 a1 HQ hb
  cases bg with
  | true =>
    go_wp2_with fail
    go_ret
    exact ⟨rfl, HX.out.b⟩
  | false =>
    have a0 := HX.out.r.cell (k := 0) rfl
    have a1 := HX.out.r.cell (k := 1) rfl
    have HQ := hid_of (check_c (p := (· < w.heap.size)) W1 HX.out.lt (HX.out.pq HP.out))
    rw [Hx.out] at HQ
    go_wp2_with fail
    refine HQ.out.mono ?_
    rintro e W2 ⟨rfl, hb⟩
    have HX := hid_of (HX.out.next hb)
    clear a0 a1 HQ hb
    have a0 := HX.out.r.cell (k := 0) rfl
    have a1 := HX.out.r.cell (k := 1) rfl
    have HQ := hid_of (checkR_c (p := (· < w.heap.size)) W2 HX.out.lt (HX.out.pq HP.out))
    rw [Hx.out] at HQ
    go_wp2_with fail
    refine HQ.out.mono ?_
    rintro e W3 ⟨rfl, hb⟩
    have HX := hid_of (HX.out.next hb)
    clear a0 a1 HQ hb
    have a0 := HX.out.r.cell (k := 0) rfl
    have a1 := HX.out.r.cell (k := 1) rfl
    have HQ := hid_of (solve_bad (p := (· < w.heap.size)) W3 HX.out.lt (HX.out.pq HP.out) HC.out)
    rw [Hx.out] at HQ
    go_wp2_with fail
    refine HQ.out.mono ?_
    rintro e W4 ⟨rfl, hb⟩
    have HX := hid_of (HX.out.next hb)
    clear a0 a1 HQ hb
    have a0 := HX.out.r.cell (k := 0) rfl
    have a1 := HX.out.r.cell (k := 1) rfl
    have HQ := hid_of (easyR_bad (p := (· < w.heap.size)) W4 HX.out.lt (HX.out.pq HP.out) HC.out)
    go_wp2_with fail
    refine HQ.out.mono ?_
    rintro e W5 ⟨rfl, hb⟩
    have HX := hid_of (HX.out.next hb)
    clear a0 a1 HQ hb
    have a0 := HX.out.r.cell (k := 0) rfl
    have a1 := HX.out.r.cell (k := 1) rfl
    have HQ := hid_of (num_c W5 x)
    go_wp2_with fail
    refine HQ.out.mono ?_
    rintro e W6 ⟨rfl, rfl⟩
    clear a0 a1 HQ
    have a0 := HX.out.r.cell (k := 0) rfl
    have a1 := HX.out.r.cell (k := 1) rfl
    have HQ := hid_of (num_c W6 x)
    go_wp2_with fail
    refine HQ.out.mono ?_
    rintro e W7 ⟨rfl, rfl⟩
    clear a0 a1 HQ
    have a0 := HX.out.r.cell (k := 0) rfl
    have a1 := HX.out.r.cell (k := 1) rfl
    have HQ := hid_of (easy_bad (p := (· < w.heap.size)) W7 HX.out.lt (HX.out.pq HP.out) HC.out)
    go_wp2_with fail
    refine HQ.out.mono ?_
    rintro e W8 ⟨rfl, hb⟩
    have HX := hid_of (HX.out.next hb)
    clear a0 a1 HQ hb
    have hx0 : (x != 0) = true := by have := HC.out; rw [Hx.out] at this; simpa using this
    go_wp2_with fail
    go_ret
    exact ⟨rfl, HX.out.b⟩

set_option maxRecDepth 100000 in
set_option maxHeartbeats 8000000 in
theorem pbqpSolves_good (w : World) {na : Option Addr} {nl nc : Nat} {ea : Option Addr} {el ec : Nat} {N : List (List Int)} {E : List EdgeD} (h : IsPq (· < w.heap.size) w na nl nc ea el ec N E) (hc : chkS N E = 0) :
    Calls Try.prog 7 #[costsV na nl nc ea el ec] w fun e w' => e = .returned (.bool true) ∧ Below w.heap.size w w' := by
  have HP := hid_of h
  have HC := hid_of hc
  have HAL := hid_of (alive25_c (w.alloc (.cells #[.slice na nl nc, .slice ea el ec] 25)))
  have HX : Hid (BoxC w na nl nc ea el ec (w.alloc (.cells #[.slice na nl nc, .slice ea el ec] 25))) := ⟨heap_alloc_eq _ _ _ rfl, bel_alloc (bel_refl w) _⟩
  obtain ⟨x, Hx⟩ : ∃ x, Hid (chkS N E = x) := ⟨_, (rfl : chkS N E = _)⟩
  have hxx : (x != x) = false := by simp
  clear h hc
  go_enter Try.func7, Try.ntmps7
  go_wp2_with fail
  refine HAL.out.mono ?_
  rintro e W0 ⟨rfl, hb⟩
  have HX := hid_of (HX.out.next hb)
  clear HAL hb
  have a0 := HX.out.r.cell (k := 0) rfl
  have a1 := HX.out.r.cell (k := 1) rfl
  have HQ := hid_of (big25_c (p := (· < w.heap.size)) W0 HX.out.lt (HX.out.pq HP.out))
  go_wp2_with fail
  refine HQ.out.mono ?_
  rintro e W1 ⟨⟨bg, rfl⟩, hb⟩
  have HX := hid_of (HX.out.next hb)
  clear a0 a1 HQ hb
  cases bg with
  | true =>
    go_wp2_with fail
    go_ret
    exact ⟨rfl, HX.out.b⟩
  | false =>
    have a0 := HX.out.r.cell (k := 0) rfl
    have a1 := HX.out.r.cell (k := 1) rfl
    have HQ := hid_of (check_c (p := (· < w.heap.size)) W1 HX.out.lt (HX.out.pq HP.out))
    rw [Hx.out] at HQ
    go_wp2_with fail
    refine HQ.out.mono ?_
    rintro e W2 ⟨rfl, hb⟩
    have HX := hid_of (HX.out.next hb)
    clear a0 a1 HQ hb
    have a0 := HX.out.r.cell (k := 0) rfl
    have a1 := HX.out.r.cell (k := 1) rfl
    have HQ := hid_of (checkR_c (p := (· < w.heap.size)) W2 HX.out.lt (HX.out.pq HP.out))
    rw [Hx.out] at HQ
    go_wp2_with fail
    refine HQ.out.mono ?_
    rintro e W3 ⟨rfl, hb⟩
    have HX := hid_of (HX.out.next hb)
    clear a0 a1 HQ hb
    have hx0 : x = 0 := by rw [← Hx.out]; exact HC.out
    subst hx0
    have a0 := HX.out.r.cell (k := 0) rfl
    have a1 := HX.out.r.cell (k := 1) rfl
    have HQ := hid_of (solve_ok (p := (· < w.heap.size)) W3 HX.out.lt (HX.out.pq HP.out) HC.out)
    clear Hx
    go_wp2_with fail
    refine HQ.out.mono ?_
    rintro e W4 ⟨lb, l, rfl, hlb, hrl, hsr, hb⟩
    have HX := hid_of (HX.out.next hb)
    clear a0 a1 HQ hb
    have HLB := hid_of hlb
    have HRL := hid_of hrl
    have HSR := hid_of hsr
    obtain ⟨D, HD⟩ : ∃ D, Hid (costP N E l = D) := ⟨_, (rfl : costP N E l = _)⟩
    rw [HD.out]
    clear hlb hrl hsr
    have a0 := HX.out.r.cell (k := 0) rfl
    have a1 := HX.out.r.cell (k := 1) rfl
    have HQ := hid_of (easyR_c (p := (· < w.heap.size)) W4 HX.out.lt (HX.out.pq HP.out) HC.out)
    go_wp2_with fail
    refine HQ.out.mono ?_
    rintro e W5 ⟨b1, rfl, HE1, hb⟩
    have hb9 := hb
    have HX := hid_of (HX.out.next hb)
    clear a0 a1 HQ hb
    have HRL := hid_of (HRL.out.keep (hb9.block _ HRL.out.lt))
    clear hb9
    have a0 := HX.out.r.cell (k := 0) rfl
    have a1 := HX.out.r.cell (k := 1) rfl
    have HQ := hid_of (num_c W5 0)
    go_wp2_with fail
    refine HQ.out.mono ?_
    rintro e W6 ⟨rfl, rfl⟩
    clear a0 a1 HQ
    have a0 := HX.out.r.cell (k := 0) rfl
    have a1 := HX.out.r.cell (k := 1) rfl
    have HQ := hid_of (num_c W6 0)
    go_wp2_with fail
    refine HQ.out.mono ?_
    rintro e W7 ⟨rfl, rfl⟩
    clear a0 a1 HQ
    have a0 := HX.out.r.cell (k := 0) rfl
    have a1 := HX.out.r.cell (k := 1) rfl
    have HQ := hid_of (easy_c (p := (· < w.heap.size)) W7 HX.out.lt (HX.out.pq HP.out) HC.out)
    go_wp2_with fail
    refine HQ.out.mono ?_
    rintro e W8 ⟨b2, rfl, HE2, hb⟩
    have hb9 := hb
    have HX := hid_of (HX.out.next hb)
    clear a0 a1 HQ hb
    have HRL := hid_of (HRL.out.keep (hb9.block _ HRL.out.lt))
    clear hb9
    have HBB : Hid (b2 = b1) := by
      have h1 := HE1.out
      have h2 := HE2.out
      show b2 = b1
      rw [Bool.eq_iff_iff, h1, h2]
    obtain rfl := HBB.out
    have hbb : (b2 != b2) = false := by simp
    have HNL := hid_of (sl_len HP.out.nd).1
    have hli : IsInts (fun b => b < W8.heap.size) W8 (.slice (some ⟨lb, 0, none⟩) nl nl) l := by
      have := ints_of_row (p := fun b => b < W8.heap.size) HRL.out HRL.out.lt (by have := HSR.out.len; have := HNL.out; have := (sl_len HP.out.nd).2.2; omega)
      rw [HSR.out.len, ← HNL.out] at this
      exact this
    have a0 := HX.out.r.cell (k := 0) rfl
    have a1 := HX.out.r.cell (k := 1) rfl
    have HQ := hid_of (costR_c (p := fun b => b < W8.heap.size) W8 (fun _ hb => hb) ((HX.out.pq HP.out).keep (Keep.refl _ fun b hb _ => HX.out.lt b hb)) hli)
    rw [HD.out] at HQ
    clear hli
    go_wp2_with fail
    refine HQ.out.mono ?_
    rintro e W9 ⟨rfl, hb⟩
    have hb9 := hb
    have HX := hid_of (HX.out.next hb)
    clear a0 a1 HQ hb
    have HRL := hid_of (HRL.out.keep (hb9.block _ HRL.out.lt))
    clear hb9
    have hdd : (D != D) = false := by simp
    have hli : IsInts (fun b => b < W9.heap.size) W9 (.slice (some ⟨lb, 0, none⟩) nl nl) l := by
      have := ints_of_row (p := fun b => b < W9.heap.size) HRL.out HRL.out.lt (by have := HSR.out.len; have := HNL.out; have := (sl_len HP.out.nd).2.2; omega)
      rw [HSR.out.len, ← HNL.out] at this
      exact this
    have a0 := HX.out.r.cell (k := 0) rfl
    have a1 := HX.out.r.cell (k := 1) rfl
    have HQ := hid_of (costP_c (p := fun b => b < W9.heap.size) W9 (fun _ hb => hb) ((HX.out.pq HP.out).keep (Keep.refl _ fun b hb _ => HX.out.lt b hb)) hli)
    rw [HD.out] at HQ
    clear hli
    go_wp2_with fail
    refine HQ.out.mono ?_
    rintro e W10 ⟨rfl, hb⟩
    have hb9 := hb
    have HX := hid_of (HX.out.next hb)
    clear a0 a1 HQ hb
    have HRL := hid_of (HRL.out.keep (hb9.block _ HRL.out.lt))
    clear hb9
    cases b2 with
    | false =>
      go_wp2_with fail
      go_ret
      exact ⟨rfl, HX.out.b⟩
    | true =>
      have a0 := HX.out.r.cell (k := 0) rfl
      have a1 := HX.out.r.cell (k := 1) rfl
      have HQ := hid_of (ways_c (p := (· < w.heap.size)) W10 HX.out.lt (HX.out.pq HP.out) HC.out)
      go_wp2_with fail
      refine HQ.out.mono ?_
      rintro e W11 ⟨z, rfl, hb⟩
      have HX := hid_of (HX.out.next hb)
      clear a0 a1 HQ hb
      by_cases hz : 2000 < z
      · have hd : decide (2000 < z) = true := by simpa using hz
        go_wp2_with fail
        go_ret
        exact ⟨rfl, HX.out.b⟩
      · have hd : decide (2000 < z) = false := by simpa using hz
        have a0 := HX.out.r.cell (k := 0) rfl
        have a1 := HX.out.r.cell (k := 1) rfl
        have HQ := hid_of (best_c (p := (· < w.heap.size)) W11 HX.out.lt (HX.out.pq HP.out) HC.out)
        clear hz
        go_wp2_with fail
        refine HQ.out.mono ?_
        rintro e W12 ⟨B, rfl, HB, hb⟩
        have HX := hid_of (HX.out.next hb)
        clear a0 a1 HQ hb
        have HDB : Hid (D = B) := by
          show D = B
          have h1 := HE1.out.1 (by first | trivial | rfl)
          rw [HNL.out] at h1
          rw [← HD.out]
          exact best_eq HC.out HSR.out h1 HB.out
        obtain rfl := HDB.out
        have hee : (D == D) = true := by simp
        go_wp2_with fail
        go_ret
        exact ⟨rfl, HX.out.b⟩

theorem pbqpSolves_c (w : World) {na : Option Addr} {nl nc : Nat} {ea : Option Addr} {el ec : Nat} {N : List (List Int)} {E : List EdgeD} (h : IsPq (· < w.heap.size) w na nl nc ea el ec N E) :
    Calls Try.prog 7 #[costsV na nl nc ea el ec] w fun e w' => e = .returned (.bool true) ∧ Below w.heap.size w w' := by
  by_cases hc : chkS N E = 0
  · exact pbqpSolves_good w h hc
  · exact pbqpSolves_bad w h hc
end Go.Proofs.Ytdomnbgjafdnjaa
