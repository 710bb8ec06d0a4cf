/- slices.SortStableFunc over numbers: two runs are merged. -/
import Derived.Test.YtcihobmjohpnkaaStC
import Derived.Deep.CutBlock
namespace Go.Proofs.Ytcihobmjohpnkaa
open Go.RowKit

set_option maxRecDepth 100000 in
set_option maxHeartbeats 8000000 in
theorem sym_first {g n cc cb gc nr : Nat} {C : List Int} (W : World) (D : Nat → Int) (a m b : Nat) (h : Rw g n W D W) (hc : CsAt cb gc nr C W) (hcb : cb ≠ g) (hgc : gc ≠ g) (hr : ∀ k, k < n → 0 ≤ D k ∧ D k < (nr : Int)) (hm : m = a + 1) (hmb : m < b) (hb : b ≤ n) (hn : n ≤ 1000000)
    (hs : SegS (cS C) D m b) (hrun : RunL D a m b) :
    Calls Try.prog 131 #[.slice (some ⟨g, 0, none⟩) n cc, .int .i64 (a : Int), .int .i64 (m : Int), .int .i64 (b : Int), fnV cb] W fun e w' => e = .returned (.tuple #[]) ∧ ∃ D', Rw g n W D' w' ∧ SegS (cS C) D' a b ∧ PSeg D D' a b := by
  have d1 : ((m : Int) - (a : Int) == 1) = true := by simp; omega
  have HM := hid_st hm
  have H0 : Hid (Rw g n W D W ∧ (∀ k, m ≤ k → k < m → ltC (cS C) (D k) (D a)) ∧ ∀ k, b ≤ k → k < b → ltC (cS C) (D a) (D k)) := ⟨h, fun k h1 h2 => by omega, fun k h1 h2 => by omega⟩
  have HC := hid_st hc
  have HRUN := hid_st hrun
  have HR := hid_st hr
  have HS := hid_st hs
  have ham : a < m := by omega
  clear h hc hrun hr hs hm
  go_enter Try.func131, Try.ntmps131
  go_wp2_with fail
  go_loopw [10, 11] (fun s10 s11 wx => ∃ i j : Nat, m ≤ i ∧ i ≤ j ∧ j ≤ b ∧ s10 = .int .i64 i ∧ s11 = .int .i64 j ∧ Hid (Rw g n W D wx ∧ (∀ k, m ≤ k → k < i → ltC (cS C) (D k) (D a)) ∧ ∀ k, j ≤ k → k < b → ltC (cS C) (D a) (D k))) (fun s10 s11 _ => (intOf s11).toNat - (intOf s10).toNat)
  case atStart => exact ⟨m, b, by omega, by omega, by omega, rfl, rfl, H0⟩
  case round =>
    obtain ⟨i, j, hi, hij, hj, rfl, rfl, HI⟩ := hrel
    clear H0 d1
    by_cases hlt : i < j
    · obtain ⟨hR, hlo, hhi⟩ := HI.out
      obtain ⟨hh, Hh⟩ : ∃ hh, Hid ((i + j) / 2 = hh) := ⟨_, (rfl : (i + j) / 2 = _)⟩
      have hh1 : i ≤ hh := by have := Hh.out; omega
      have hh2 : hh < j := by have := Hh.out; omega
      have hhz : ((i : Int) + (j : Int)) / 2 = (hh : Int) := by have := Hh.out; omega
      obtain ⟨x, Hx⟩ : ∃ x, Hid (D (hh) = x) := ⟨_, (rfl : D (hh) = _)⟩
      obtain ⟨y, Hy⟩ : ∃ y, Hid (D (a) = y) := ⟨_, (rfl : D (a) = _)⟩
      have hask := ask_c (D0 := D) hR HC.out hcb hgc HR.out (show hh < n by omega) (show a < n by omega) Hx.out Hy.out
      have c1 := hR.cell (show hh < n by omega)
      have c2 := hR.cell (show a < n by omega)
      rw [Hx.out] at c1
      rw [Hy.out] at c2
      obtain ⟨z, Hz⟩ : ∃ z, Hid (cmpI (cS C x) (cS C y) = z) := ⟨_, (rfl : cmpI (cS C x) (cS C y) = _)⟩
      have hz := cmpI_lt (cS C x) (cS C y)
      rw [Hz.out] at hask hz
      have hlz : (i : Int) < (j : Int) := by omega
      by_cases hcmp : cS C x < cS C y
      · have hz1 : decide (z < 0) = true := by rw [hz]; simpa using hcmp
        have HN : Hid (∀ q, Rw g n W D (wr.drewN q) ∧ (∀ k, m ≤ k → k < hh + 1 → ltC (cS C) (D k) (D a)) ∧ ∀ k, j ≤ k → k < b → ltC (cS C) (D a) (D k)) := fun q =>
          ⟨hR.drewN q, fun k k1 k2 => le_seg HS.out k1 (show k ≤ hh by omega) (by omega) (by rw [Hx.out, Hy.out]; exact ltC_lt hcmp), hhi⟩
        clear hz hcmp hR hlo hhi HI
        go_wp2_with fail
        go_quiet ((go_at_call 99; exact Calls.quiet_of (hask _)))
        clear hask c1 c2
        go_wp2_with fail
        go_roundw
        case rel => exact ⟨hh + 1, j, by omega, by omega, by omega, by go_num, rfl, HN.out _⟩
        case measure => simp [intOf] <;> omega
      · have hz1 : decide (z < 0) = false := by rw [hz]; simpa using hcmp
        have HN : Hid (∀ q, Rw g n W D (wr.drewN q) ∧ (∀ k, m ≤ k → k < i → ltC (cS C) (D k) (D a)) ∧ ∀ k, hh ≤ k → k < b → ltC (cS C) (D a) (D k)) := fun q =>
          ⟨hR.drewN q, hlo, fun k k1 k2 => seg_le HS.out (by omega) k1 k2 (ltC_ge (by rw [Hx.out, Hy.out]; exact hcmp) (HRUN.out a hh (Nat.le_refl _) ham (by omega) (by omega)))⟩
        clear hz hcmp hR hlo hhi HI
        go_wp2_with fail
        go_quiet ((go_at_call 99; exact Calls.quiet_of (hask _)))
        clear hask c1 c2
        go_wp2_with fail
        go_roundw
        case rel => exact ⟨i, hh, by omega, by omega, by omega, rfl, by go_num, HN.out _⟩
        case measure => simp [intOf] <;> omega
    · obtain rfl : i = j := by omega
      obtain ⟨hR, hlo, hhi⟩ := HI.out
      have HLO := hid_st hlo
      have HHI := hid_st hhi
      have HK0 : Hid (Rw g n W (insR D a a) wr) := by show Rw _ _ _ _ _; rw [insR_self]; exact hR
      have hmi : m ≤ i := hi
      clear hR hlo hhi HI
      go_wp2_with fail
      go_loopw [13] (fun s13 wx => ∃ k : Nat, a ≤ k ∧ k + 1 ≤ i ∧ s13 = .int .i64 k ∧ Hid (Rw g n W (insR D a k) wx)) (fun s13 _ => i - (intOf s13).toNat)
      case atStart => exact ⟨a, by omega, by omega, rfl, HK0⟩
      case round =>
        obtain ⟨k, hk1, hk2, rfl, HK⟩ := hrel
        clear HK0
        by_cases hkt : k + 1 < i
        · have hR := HK.out
          have e1 : insR D a k k = D a := by unfold insR; rw [if_pos rfl]
          have e2 : insR D a k (k + 1) = D (k + 1) := by unfold insR; rw [if_neg (by omega), if_neg (by omega)]
          have hin : k + 1 < n := by omega
          have c1 := hR.cell (k := k) (by omega)
          have c2 := hR.cell (k := k + 1) (by omega)
          have f1 := hR.row.frozen k
          have f2 := hR.row.frozen (k + 1)
          rw [e1] at c1
          rw [e2] at c2
          obtain ⟨x, Hx⟩ : ∃ x, Hid (D a = x) := ⟨_, (rfl : D a = _)⟩
          obtain ⟨y, Hy⟩ : ∃ y, Hid (D (k + 1) = y) := ⟨_, (rfl : D (k + 1) = _)⟩
          have HN : Hid (∀ q, Rw g n W (insR D a (k + 1)) (((wr.drewN q).setCell ⟨g, k, none⟩ (.int .i64 y)).setCell ⟨g, k + 1, none⟩ (.int .i64 x))) := fun q => by
            have := (hR.drewN q).swap (i := k) (j := k + 1) (by omega) (by omega)
            rw [insR_step D hk1, e1, e2, Hx.out, Hy.out] at this
            exact this
          rw [Hx.out] at c1
          rw [Hy.out] at c2
          have hkz : decide ((k : Int) < (i : Int) - 1) = true := by simp; omega
          have hkn : (k : Int) + 1 < (n : Int) := by omega
          clear hR e1 e2 HK
          go_wp2_with fail
          go_region
          all_goals clear c1 c2 f1 f2
          all_goals go_wp2_with fail
          all_goals go_roundw
          all_goals first | exact ⟨k + 1, by omega, by omega, by go_num, HN.out _⟩ | (simp [intOf] <;> omega)
        · have HF : Hid (∃ D', Rw g n W D' wr ∧ SegS (cS C) D' a b ∧ PSeg D D' a b) := by
            obtain rfl : i = k + 1 := by omega
            have hsa : SegS (cS C) D (a + 1) b := by rw [← HM.out]; exact HS.out
            have := insR_seg (i := k) hsa hk1 (by omega) (fun l l1 l2 => HLO.out l (by have := HM.out; omega) (by omega)) (fun l l1 l2 => HHI.out l (by omega) l2)
            exact ⟨_, HK.out, this.1, this.2⟩
          have hkz : decide ((k : Int) < (i : Int) - 1) = false := by simp; omega
          clear HK
          go_wp2_with fail
          (try simp only [Exit.inBlock, Exit.then]); refine bodyPost_ret (results_none rfl _ _ _) rfl ?_
          exact ⟨rfl, HF.out⟩

set_option maxRecDepth 100000 in
set_option maxHeartbeats 8000000 in
theorem sym_last {g n cc cb gc nr : Nat} {C : List Int} (W : World) (D : Nat → Int) (a m b : Nat) (h : Rw g n W D W) (hc : CsAt cb gc nr C W) (hcb : cb ≠ g) (hgc : gc ≠ g) (hr : ∀ k, k < n → 0 ≤ D k ∧ D k < (nr : Int)) (hm1 : m ≠ a + 1) (ham : a < m) (hmb : b = m + 1) (hb : b ≤ n) (hn : n ≤ 1000000)
    (hs : SegS (cS C) D a m) (hrun : RunL D a m b) :
    Calls Try.prog 131 #[.slice (some ⟨g, 0, none⟩) n cc, .int .i64 (a : Int), .int .i64 (m : Int), .int .i64 (b : Int), fnV cb] W fun e w' => e = .returned (.tuple #[]) ∧ ∃ D', Rw g n W D' w' ∧ SegS (cS C) D' a b ∧ PSeg D D' a b := by
  have d1 : ((m : Int) - (a : Int) == 1) = false := by simp; omega
  have d2 : ((b : Int) - (m : Int) == 1) = true := by simp; omega
  have HM := hid_st hmb
  have H0 : Hid (Rw g n W D W ∧ (∀ k, a ≤ k → k < a → ltC (cS C) (D k) (D m)) ∧ ∀ k, m ≤ k → k < m → ltC (cS C) (D m) (D k)) := ⟨h, fun k h1 h2 => by omega, fun k h1 h2 => by omega⟩
  have HC := hid_st hc
  have HRUN := hid_st hrun
  have HR := hid_st hr
  have HS := hid_st hs
  have hmb2 : m < b := by omega
  clear h hc hrun hr hs hm1 hmb
  go_enter Try.func131, Try.ntmps131
  go_wp2_with fail
  go_loopw [14, 15] (fun s14 s15 wx => ∃ i j : Nat, a ≤ i ∧ i ≤ j ∧ j ≤ m ∧ s14 = .int .i64 i ∧ s15 = .int .i64 j ∧ Hid (Rw g n W D wx ∧ (∀ k, a ≤ k → k < i → ltC (cS C) (D k) (D m)) ∧ ∀ k, j ≤ k → k < m → ltC (cS C) (D m) (D k))) (fun s14 s15 _ => (intOf s15).toNat - (intOf s14).toNat)
  case atStart => exact ⟨a, m, by omega, by omega, by omega, rfl, rfl, H0⟩
  case round =>
    obtain ⟨i, j, hi, hij, hj, rfl, rfl, HI⟩ := hrel
    clear H0 d1 d2
    by_cases hlt : i < j
    · obtain ⟨hR, hlo, hhi⟩ := HI.out
      obtain ⟨hh, Hh⟩ : ∃ hh, Hid ((i + j) / 2 = hh) := ⟨_, (rfl : (i + j) / 2 = _)⟩
      have hh1 : i ≤ hh := by have := Hh.out; omega
      have hh2 : hh < j := by have := Hh.out; omega
      have hhz : ((i : Int) + (j : Int)) / 2 = (hh : Int) := by have := Hh.out; omega
      obtain ⟨x, Hx⟩ : ∃ x, Hid (D (m) = x) := ⟨_, (rfl : D (m) = _)⟩
      obtain ⟨y, Hy⟩ : ∃ y, Hid (D (hh) = y) := ⟨_, (rfl : D (hh) = _)⟩
      have hask := ask_c (D0 := D) hR HC.out hcb hgc HR.out (show m < n by omega) (show hh < n by omega) Hx.out Hy.out
      have c1 := hR.cell (show m < n by omega)
      have c2 := hR.cell (show hh < n by omega)
      rw [Hx.out] at c1
      rw [Hy.out] at c2
      obtain ⟨z, Hz⟩ : ∃ z, Hid (cmpI (cS C x) (cS C y) = z) := ⟨_, (rfl : cmpI (cS C x) (cS C y) = _)⟩
      have hz := cmpI_lt (cS C x) (cS C y)
      rw [Hz.out] at hask hz
      have hlz : (i : Int) < (j : Int) := by omega
      by_cases hcmp : cS C x < cS C y
      · have hz1 : decide (z < 0) = true := by rw [hz]; simpa using hcmp
        have HN : Hid (∀ q, Rw g n W D (wr.drewN q) ∧ (∀ k, a ≤ k → k < i → ltC (cS C) (D k) (D m)) ∧ ∀ k, hh ≤ k → k < m → ltC (cS C) (D m) (D k)) := fun q =>
          ⟨hR.drewN q, hlo, fun k k1 k2 => seg_le HS.out (by omega) k1 k2 (by rw [Hx.out, Hy.out]; exact ltC_lt hcmp)⟩
        clear hz hcmp hR hlo hhi HI
        go_wp2_with fail
        go_quiet ((go_at_call 99; exact Calls.quiet_of (hask _)))
        clear hask c1 c2
        go_wp2_with fail
        go_roundw
        case rel => exact ⟨i, hh, by omega, by omega, by omega, rfl, by go_num, HN.out _⟩
        case measure => simp [intOf] <;> omega
      · have hz1 : decide (z < 0) = false := by rw [hz]; simpa using hcmp
        have HN : Hid (∀ q, Rw g n W D (wr.drewN q) ∧ (∀ k, a ≤ k → k < hh + 1 → ltC (cS C) (D k) (D m)) ∧ ∀ k, j ≤ k → k < m → ltC (cS C) (D m) (D k)) := fun q =>
          ⟨hR.drewN q, fun k k1 k2 => le_seg HS.out k1 (show k ≤ hh by omega) (by omega) (ltC_ge (by rw [Hx.out, Hy.out]; exact hcmp) (HRUN.out hh m (by omega) (by omega) (Nat.le_refl _) hmb2)), hhi⟩
        clear hz hcmp hR hlo hhi HI
        go_wp2_with fail
        go_quiet ((go_at_call 99; exact Calls.quiet_of (hask _)))
        clear hask c1 c2
        go_wp2_with fail
        go_roundw
        case rel => exact ⟨hh + 1, j, by omega, by omega, by omega, by go_num, rfl, HN.out _⟩
        case measure => simp [intOf] <;> omega
    · obtain rfl : i = j := by omega
      obtain ⟨hR, hlo, hhi⟩ := HI.out
      have HLO := hid_st hlo
      have HHI := hid_st hhi
      have HK0 : Hid (Rw g n W (insL D m m) wr) := by show Rw _ _ _ _ _; rw [insL_self]; exact hR
      clear hR hlo hhi HI
      go_wp2_with fail
      go_loopw [17] (fun s17 wx => ∃ k : Nat, i ≤ k ∧ k ≤ m ∧ s17 = .int .i64 k ∧ Hid (Rw g n W (insL D m k) wx)) (fun s17 _ => (intOf s17).toNat)
      case atStart => exact ⟨m, by omega, by omega, rfl, HK0⟩
      case round =>
        obtain ⟨k, hk1, hk2, rfl, HK⟩ := hrel
        clear HK0
        by_cases hkt : i < k
        · obtain ⟨kp, rfl⟩ : ∃ kp, k = kp + 1 := ⟨k - 1, by omega⟩
          have hR := HK.out
          have e1 : insL D m (kp + 1) (kp + 1) = D m := by unfold insL; rw [if_pos rfl]
          have e2 : insL D m (kp + 1) kp = D kp := by unfold insL; rw [if_neg (by omega), if_neg (by omega)]
          have c1 := hR.cell (k := kp + 1) (by omega)
          have c2 := hR.cell (k := kp) (by omega)
          have f1 := hR.row.frozen (kp + 1)
          have f2 := hR.row.frozen kp
          rw [e1] at c1
          rw [e2] at c2
          obtain ⟨x, Hx⟩ : ∃ x, Hid (D m = x) := ⟨_, (rfl : D m = _)⟩
          obtain ⟨y, Hy⟩ : ∃ y, Hid (D kp = y) := ⟨_, (rfl : D kp = _)⟩
          have HN : Hid (∀ q, Rw g n W (insL D m kp) (((wr.drewN q).setCell ⟨g, kp + 1, none⟩ (.int .i64 y)).setCell ⟨g, kp, none⟩ (.int .i64 x))) := fun q => by
            have := (hR.drewN q).swap (i := kp + 1) (j := kp) (by omega) (by omega)
            rw [insL_step D (by omega), e1, e2, Hx.out, Hy.out] at this
            exact this
          rw [Hx.out] at c1
          rw [Hy.out] at c2
          have hks : ((kp + 1 : Nat) : Int) = (kp : Int) + 1 := by omega
          have hkz : decide ((kp : Int) + 1 > (i : Int)) = true := by simp; omega
          have hkz' : decide ((i : Int) < (kp : Int) + 1) = true := by simp; omega
          have hkm : (kp : Int) + 1 - 1 = (kp : Int) := by omega
          have hkn : (kp : Int) + 1 < (n : Int) := by omega
          rw [hks]
          clear hR e1 e2 HK
          go_wp2_with fail
          go_region
          all_goals clear c1 c2 f1 f2
          all_goals go_wp2_with fail
          all_goals go_roundw
          all_goals first | exact ⟨kp, by omega, by omega, by go_num, HN.out _⟩ | (simp [intOf] <;> omega)
        · have HF : Hid (∃ D', Rw g n W D' wr ∧ SegS (cS C) D' a b ∧ PSeg D D' a b) := by
            obtain rfl : i = k := by omega
            have := insL_seg (m := m) (i := i) HS.out hi hk2 HLO.out HHI.out
            rw [← HM.out] at this
            exact ⟨_, HK.out, this.1, this.2⟩
          have hkz : decide ((k : Int) > (i : Int)) = false := by simp; omega
          have hkz' : decide (i < k) = false := by simpa using hkt
          clear HK
          go_wp2_with fail
          (try simp only [Exit.inBlock, Exit.then]); refine bodyPost_ret (results_none rfl _ _ _) rfl ?_
          exact ⟨rfl, HF.out⟩

end Go.Proofs.Ytcihobmjohpnkaa
