/- slices.SortStableFunc over numbers: two longer runs are merged, by a search, a rotation, and two lesser merges. -/
import Derived.Test.YtcihobmjohpnkaaStM
import Derived.Deep.DeepCutAuto
namespace Go.Proofs.Ytcihobmjohpnkaa
open Go.RowKit

/-- Runs of no more than d numbers are merged. -/
def SymC (g n cc cb gc nr : Nat) (C : List Int) (d : Nat) : Prop := ∀ (W : World) (D : Nat → Int) (a m b : Nat), b - a ≤ d → a < m → m < b → b ≤ n → Rw g n W D W → CsAt cb gc nr C W → (∀ k, k < n → 0 ≤ D k ∧ D k < (nr : Int)) → SegS (cS C) D a m → SegS (cS C) D m b → RunL D a m b →
  Calls Try.prog 131 #[.slice (some ⟨g, 0, none⟩) n cc, .int .i64 (a : Int), .int .i64 (m : Int), .int .i64 (b : Int), fnV cb] W fun e w' => e = .returned (.tuple #[]) ∧ ∃ D', Rw g n W D' w' ∧ SegS (cS C) D' a b ∧ PSeg D D' a b
theorem SymC.at {g n cc cb gc nr : Nat} {C : List Int} {d : Nat} (IH : SymC g n cc cb gc nr C d) (hcb : cb ≠ g) (hgc : gc ≠ g) {W X : World} {D : Nat → Int} {a m b : Nat} (hd : b - a ≤ d) (h1 : a < m) (h2 : m < b) (h3 : b ≤ n) (h : Rw g n W D X) (hc : CsAt cb gc nr C W) (hr : ∀ k, k < n → 0 ≤ D k ∧ D k < (nr : Int))
    (hl : SegS (cS C) D a m) (hr2 : SegS (cS C) D m b) (hL : RunL D a m b) :
    Calls Try.prog 131 #[.slice (some ⟨g, 0, none⟩) n cc, .int .i64 (a : Int), .int .i64 (m : Int), .int .i64 (b : Int), fnV cb] X fun e w' => e = .returned (.tuple #[]) ∧ ∃ D', Rw g n W D' w' ∧ SegS (cS C) D' a b ∧ PSeg D D' a b :=
  (IH X D a m b hd h1 h2 h3 ⟨h.row, Only.refl _ _⟩ (hc.keep h.on hcb hgc) hr hl hr2 hL).mono (by
    rintro e w' ⟨rfl, D', k1, k2, k3⟩
    exact ⟨rfl, D', h.re k1, k2, k3⟩)

set_option maxRecDepth 100000 in
set_option maxHeartbeats 16000000 in
theorem sym_rest {g n cc cb gc nr : Nat} {C : List Int} {d : Nat} (IH : SymC g n cc cb gc nr C d) (W : World) (D : Nat → Int) (a m b : Nat) (h : Rw g n W D W) (hc : CsAt cb gc nr C W) (hcb : cb ≠ g) (hgc : gc ≠ g) (hr : ∀ k, k < n → 0 ≤ D k ∧ D k < (nr : Int))
    (hdd : b - a ≤ d + 1) (ham : a < m) (hmb : m < b) (hm1 : m ≠ a + 1) (hm2 : b ≠ m + 1) (hb : b ≤ n) (hn : n ≤ 1000000) (hl : SegS (cS C) D a m) (hs : SegS (cS C) D m b) (hrun : RunL D a m b) :
    Calls Try.prog 131 #[.slice (some ⟨g, 0, none⟩) n cc, .int .i64 (a : Int), .int .i64 (m : Int), .int .i64 (b : Int), fnV cb] W fun e w' => e = .returned (.tuple #[]) ∧ ∃ D', Rw g n W D' w' ∧ SegS (cS C) D' a b ∧ PSeg D D' a b := by
  have d1 : ((m : Int) - (a : Int) == 1) = false := by simp; omega
  have d2 : ((b : Int) - (m : Int) == 1) = false := by simp; omega
  obtain ⟨mid, Hmid⟩ : ∃ mid, Hid ((a + b) / 2 = mid) := ⟨_, (rfl : (a + b) / 2 = _)⟩
  obtain ⟨nn, Hnn⟩ : ∃ nn, Hid (mid + m = nn) := ⟨_, (rfl : mid + m = _)⟩
  have hmidz : ((a : Int) + (b : Int)) / 2 = (mid : Int) := by have := Hmid.out; omega
  have hnnz : (mid : Int) + (m : Int) = (nn : Int) := by have := Hnn.out; omega
  have HMD : Hid (a < mid ∧ mid < b ∧ 2 * mid ≤ a + b ∧ a + b ≤ 2 * mid + 1 ∧ mid + m = nn) := by have := Hmid.out; have := Hnn.out; show _; exact ⟨by omega, by omega, by omega, by omega, by omega⟩
  have HR0 := hid_st h
  have HC := hid_st hc
  have HRUN := hid_st hrun
  have HR := hid_st hr
  have HL := hid_st hl
  have HS := hid_st hs
  have HIH := hid_st IH
  have HDD : Hid (b - a ≤ d + 1) := hdd
  have hmidn : mid ≤ n := by have := HMD.out; omega
  clear h hc hrun hr hl hs hm1 hm2 IH hdd Hmid Hnn
  obtain ⟨B0, HB0⟩ : ∃ B0, Hid (decide (mid < m) = B0) := ⟨_, (rfl : decide (mid < m) = _)⟩
  have hB0 : decide (mid < m) = B0 := HB0.out
  have hB0z : decide ((m : Int) > (mid : Int)) = B0 := by rw [← HB0.out]; simp
  go_enter Try.func131, Try.ntmps131
  go_upto_if 140 with fail
  go_cut [20, 21] (fun s20 s21 wx => ∃ s0 r0 : Nat, s20 = .int .i64 s0 ∧ s21 = .int .i64 r0 ∧ (a ≤ s0 ∧ s0 ≤ r0 ∧ r0 ≤ m ∧ m + r0 ≤ nn ∧ nn ≤ b + s0) ∧ (a < s0 → nn - s0 < b → False) ∧ (m < nn - r0 → r0 < m → False) ∧ wx = W)
  case first =>
    as_aux_lemma =>
      clear d1 d2 hmidz hnnz hB0 hB0z
      cases B0 with
      | true =>
        have hgt : mid < m := by have := HB0.out; simpa using this
        obtain ⟨s0, Hs0⟩ : ∃ s0, Hid (nn - b = s0) := ⟨_, (rfl : nn - b = _)⟩
        have hs0z : (nn : Int) - (b : Int) = (s0 : Int) := by have := Hs0.out; have := HMD.out; omega
        have hs0n : s0 ≤ n := by have := Hs0.out; have := HMD.out; omega
        have HFIN : Hid ((a ≤ s0 ∧ s0 ≤ mid ∧ mid ≤ m ∧ m + mid ≤ nn ∧ nn ≤ b + s0) ∧ (a < s0 → nn - s0 < b → False) ∧ (m < nn - mid → mid < m → False)) := by
          have := Hs0.out; have := HMD.out
          exact ⟨⟨by omega, by omega, by omega, by omega, by omega⟩, by omega, by omega⟩
        clear hgt
        go_wp2_with fail
        go_meet
        exact ⟨s0, mid, rfl, rfl, HFIN.out.1, HFIN.out.2.1, HFIN.out.2.2, rfl⟩
      | false =>
        have hgt : ¬ mid < m := by have := HB0.out; simpa using this
        have HFIN : Hid ((a ≤ a ∧ a ≤ m ∧ m ≤ m ∧ m + m ≤ nn ∧ nn ≤ b + a) ∧ (a < a → nn - a < b → False) ∧ (m < nn - m → m < m → False)) := by
          have := HMD.out
          exact ⟨⟨by omega, by omega, by omega, by omega, by omega⟩, by omega, by omega⟩
        clear hgt
        go_wp2_with fail
        go_meet
        exact ⟨a, m, rfl, rfl, HFIN.out.1, HFIN.out.2.1, HFIN.out.2.2, rfl⟩
  case rest =>
    obtain ⟨s0, r0, rfl, rfl, ⟨b1, b2, b3, b4, b5⟩, b6, b7, hwc⟩ := hcut
    subst hwc
    obtain ⟨W0, rfl⟩ : ∃ W0, W0 = wc := ⟨wc, rfl⟩
    have H0 : Hid (Rw g n W0 D W0 ∧ (a < s0 → nn - s0 < b → ltC (cS C) (D (s0 - 1)) (D (nn - s0))) ∧ (m < nn - r0 → r0 < m → ltC (cS C) (D (nn - r0 - 1)) (D r0))) := ⟨HR0.out, fun h1 h2 => (b6 h1 h2).elim, fun h1 h2 => (b7 h1 h2).elim⟩
    have hnn2 : nn ≤ 2 * n := by omega
    clear b6 b7 hmidz hnnz d1 d2 hB0 hB0z
    go_wp2_with fail
    go_loopw [20, 21] (fun s20 s21 wx => ∃ s r : Nat, a ≤ s ∧ s ≤ r ∧ r ≤ m ∧ m + r ≤ nn ∧ nn ≤ b + s ∧ s20 = .int .i64 s ∧ s21 = .int .i64 r ∧ Hid (Rw g n W0 D wx ∧ (a < s → nn - s < b → ltC (cS C) (D (s - 1)) (D (nn - s))) ∧ (m < nn - r → r < m → ltC (cS C) (D (nn - r - 1)) (D r)))) (fun s20 s21 _ => (intOf s21).toNat - (intOf s20).toNat)
    case atStart => exact ⟨s0, r0, b1, b2, b3, b4, b5, rfl, rfl, H0⟩
    case round =>
      obtain ⟨s, r, q1, q2, q3, q4, q5, rfl, rfl, HI⟩ := hrel
      clear H0 b1 b2 b3 b4 b5
      by_cases hlt : s < r
      · obtain ⟨hR, hP, hQ⟩ := HI.out
        obtain ⟨hh, Hh⟩ : ∃ hh, Hid ((s + r) / 2 = hh) := ⟨_, (rfl : (s + r) / 2 = _)⟩
        have hh1 : s ≤ hh := by have := Hh.out; omega
        have hh2 : hh < r := by have := Hh.out; omega
        have hhz : ((s : Int) + (r : Int)) / 2 = (hh : Int) := by have := Hh.out; omega
        obtain ⟨ee, Hee⟩ : ∃ ee, Hid (nn - 1 - hh = ee) := ⟨_, (rfl : nn - 1 - hh = _)⟩
        have hez : (nn : Int) - 1 - (hh : Int) = (ee : Int) := by have := Hee.out; omega
        have he1 : m ≤ ee := by have := Hee.out; omega
        have he2 : ee < b := by have := Hee.out; omega
        obtain ⟨x, Hx⟩ : ∃ x, Hid (D ee = x) := ⟨_, (rfl : D ee = _)⟩
        obtain ⟨y, Hy⟩ : ∃ y, Hid (D hh = y) := ⟨_, (rfl : D hh = _)⟩
        have hask := ask_c (D0 := D) hR HC.out hcb hgc HR.out (show ee < n by omega) (show hh < n by omega) Hx.out Hy.out
        have c1 := hR.cell (show ee < n by omega)
        have c2 := hR.cell (show hh < n by omega)
        rw [Hx.out] at c1
        rw [Hy.out] at c2
        obtain ⟨z, Hz⟩ : ∃ z, Hid (cmpI (cS C x) (cS C y) = z) := ⟨_, (rfl : cmpI (cS C x) (cS C y) = _)⟩
        have hz := cmpI_lt (cS C x) (cS C y)
        rw [Hz.out] at hask hz
        have hlz : (s : Int) < (r : Int) := by omega
        by_cases hcmp : cS C x < cS C y
        · have hz1 : decide (z < 0) = true := by rw [hz]; simpa using hcmp
          have HN : Hid (∀ q, Rw g n W0 D (wr.drewN q) ∧ (a < s → nn - s < b → ltC (cS C) (D (s - 1)) (D (nn - s))) ∧ (m < nn - hh → hh < m → ltC (cS C) (D (nn - hh - 1)) (D hh))) := fun q =>
            ⟨hR.drewN q, hP, fun _ _ => by
              have e : nn - hh - 1 = ee := by have := Hee.out; omega
              rw [e, Hx.out, Hy.out]; exact ltC_lt hcmp⟩
          clear hz hcmp hR hP hQ HI
          go_wp2_with fail
          go_quiet ((go_at_call 99; exact Calls.quiet_of (hask _)))
          clear hask c1 c2
          go_wp2_with fail
          go_roundw
          case rel => exact ⟨s, hh, by omega, by omega, by omega, by omega, by omega, rfl, by go_num, HN.out _⟩
          case measure => simp [intOf] <;> omega
        · have hz1 : decide (z < 0) = false := by rw [hz]; simpa using hcmp
          have HN : Hid (∀ q, Rw g n W0 D (wr.drewN q) ∧ (a < hh + 1 → nn - (hh + 1) < b → ltC (cS C) (D (hh + 1 - 1)) (D (nn - (hh + 1)))) ∧ (m < nn - r → r < m → ltC (cS C) (D (nn - r - 1)) (D r))) := fun q =>
            ⟨hR.drewN q, fun _ _ => by
              have e : nn - (hh + 1) = ee := by have := Hee.out; omega
              rw [e, Nat.add_sub_cancel]
              exact ltC_ge (by rw [Hx.out, Hy.out]; exact hcmp) (HRUN.out hh ee (by omega) (by omega) he1 he2), hQ⟩
          have HB5 : Hid (nn ≤ b + (hh + 1)) := by show _ ≤ _; have := Hee.out; omega
          clear hz hcmp hR hP hQ HI
          go_wp2_with fail
          go_quiet ((go_at_call 99; exact Calls.quiet_of (hask _)))
          clear hask c1 c2
          go_wp2_with fail
          go_roundw
          case rel => exact ⟨hh + 1, r, by omega, by omega, by omega, by omega, HB5.out, by go_num, rfl, HN.out _⟩
          case measure => simp [intOf] <;> omega
      · obtain rfl : s = r := by omega
        obtain ⟨hR, hP, hQ⟩ := HI.out
        obtain ⟨e, He⟩ : ∃ e, Hid (nn - s = e) := ⟨_, (rfl : nn - s = _)⟩
        have hez : (nn : Int) - (s : Int) = (e : Int) := by have := He.out; omega
        have hcutd : Cut (cS C) D a m b mid s e := by
          have h1 := He.out
          have h2 := HMD.out
          rw [h1] at hP hQ
          exact ⟨by omega, ⟨by omega, by omega, by omega, by omega⟩, ⟨by omega, by omega⟩, fun k1 k2 => hP k1 k2, fun k1 k2 => hQ k1 k2⟩
        have hme : m ≤ e := hcutd.as.2.2.1
        have heb : e ≤ b := hcutd.as.2.2.2
        have HCUT := hid_st hcutd
        obtain ⟨F, HF⟩ : ∃ F, Hid (rotF D s m e = F) := ⟨_, (rfl : rotF D s m e = _)⟩
        have hprt := hcutd.parts HL.out HS.out HRUN.out
        have hfr : ∀ k, k < n → 0 ≤ F k ∧ F k < (nr : Int) := by rw [← HF.out]; exact (rot_pseg hcutd.as.2.1 hme).range (by omega) HR.out
        rw [HF.out] at hprt
        have HPRT := hid_st hprt
        have HFR := hid_st hfr
        have HRR := hid_st hR
        have HSE : Hid (s + e = mid + m) := hcutd.se
        clear hR hP hQ HI hcutd hprt hfr hlt
        go_upto_region 39 with fail
        go_cut [185] (fun s185 wx => s185 = .bool (decide (s < m) && decide (m < e)) ∧ wx = wr)
        case first =>
          as_aux_lemma =>
            by_cases hsm : s < m
            · have d4 : decide ((s : Int) < (m : Int)) = true := by simp; omega
              have d4' : decide (s < m) = true := by simpa using hsm
              by_cases hmx : m < e
              · have d5 : decide ((m : Int) < (e : Int)) = true := by simp; omega
                have d5' : decide (m < e) = true := by simpa using hmx
                clear hsm hmx
                go_wp2_with fail
                go_meet
                exact ⟨by rw [d4', d5']; rfl, rfl⟩
              · have d5 : decide ((m : Int) < (e : Int)) = false := by simp; omega
                have d5' : decide (m < e) = false := by simpa using hmx
                clear hsm hmx
                go_wp2_with fail
                go_meet
                exact ⟨by rw [d4', d5']; rfl, rfl⟩
            · have d4 : decide ((s : Int) < (m : Int)) = false := by simp; omega
              have d4' : decide (s < m) = false := by simpa using hsm
              clear hsm
              go_wp2_with fail
              go_meet
              exact ⟨by rw [d4']; rfl, rfl⟩
        case rest =>
          obtain ⟨rfl, hwc⟩ := hcut
          subst hwc
          obtain ⟨W5, rfl⟩ : ∃ W5, W5 = wc := ⟨wc, rfl⟩
          obtain ⟨B1, HB1⟩ : ∃ B1, Hid ((decide (s < m) && decide (m < e)) = B1) := ⟨_, (rfl : (decide (s < m) && decide (m < e)) = _)⟩
          rw [HB1.out]
          go_upto_if 185 with fail
          go_cut [] (fun wx => Rw g n W0 F wx)
          case first =>
            as_aux_lemma =>
              cases B1 with
              | true =>
                have hsm : s < m ∧ m < e := by have := HB1.out; simpa using this
                have HROT := hid_st (rotate_c (cc := cc) W5 D (fnV cb) s m e ⟨HRR.out.row, Only.refl _ _⟩ hsm.1 hsm.2 (by omega) hn)
                clear hsm
                go_wp2_with fail
                refine HROT.out.mono ?_
                rintro e1 X ⟨rfl, hX⟩
                have HN : Hid (Rw g n W0 F X) := by show Rw _ _ _ _ _; rw [← HF.out]; exact HRR.out.re hX
                clear hX
                go_wp2_with fail
                go_meet
                exact HN.out
              | false =>
                have hsm : ¬ (s < m ∧ m < e) := by have := HB1.out; simp at this; omega
                have HN : Hid (Rw g n W0 F W5) := by
                  show Rw _ _ _ _ _
                  rw [← HF.out]
                  by_cases he : e = m
                  · rw [he, rot_right_nil (by omega)]; exact HRR.out
                  · have e1 : s = m := by omega
                    have h2 := @rot_left_nil D m e
                    rw [e1]
                    rcases h2 with h2 | h2
                    · rw [h2]; exact HRR.out
                    · omega
                clear hsm
                go_wp2_with fail
                go_meet
                exact HN.out
          case rest =>
            obtain ⟨W6, rfl⟩ : ∃ W6, W6 = wc := ⟨wc, rfl⟩
            have HF6 := hid_st hcut
            clear hcut HRR
            go_upto_region 41 with fail
            go_cut [199] (fun s0 wx => s0 = .bool (decide (a < s) && decide (s < mid)) ∧ wx = W6)
            case first =>
              as_aux_lemma =>
                by_cases hsm : a < s
                · have d4 : decide ((a : Int) < (s : Int)) = true := by simp; omega
                  have d4' : decide (a < s) = true := by simpa using hsm
                  by_cases hmx : s < mid
                  · have d5 : decide ((s : Int) < (mid : Int)) = true := by simp; omega
                    have d5' : decide (s < mid) = true := by simpa using hmx
                    clear hsm hmx
                    go_wp2_with fail
                    go_meet
                    exact ⟨by rw [d4', d5']; rfl, rfl⟩
                  · have d5 : decide ((s : Int) < (mid : Int)) = false := by simp; omega
                    have d5' : decide (s < mid) = false := by simpa using hmx
                    clear hsm hmx
                    go_wp2_with fail
                    go_meet
                    exact ⟨by rw [d4', d5']; rfl, rfl⟩
                · have d4 : decide ((a : Int) < (s : Int)) = false := by simp; omega
                  have d4' : decide (a < s) = false := by simpa using hsm
                  clear hsm
                  go_wp2_with fail
                  go_meet
                  exact ⟨by rw [d4']; rfl, rfl⟩
            case rest =>
              obtain ⟨rfl, hwc⟩ := hcut
              subst hwc
              obtain ⟨W7, rfl⟩ : ∃ W7, W7 = wc := ⟨wc, rfl⟩
              obtain ⟨B2, HB2⟩ : ∃ B2, Hid ((decide (a < s) && decide (s < mid)) = B2) := ⟨_, (rfl : (decide (a < s) && decide (s < mid)) = _)⟩
              rw [HB2.out]
              go_upto_if 199 with fail
              go_cut [] (fun wx => ∃ D1, Rw g n W0 D1 wx ∧ SegS (cS C) D1 a mid ∧ PSeg F D1 a mid)
              case first =>
                as_aux_lemma =>
                  have hp1 := HPRT.out.1
                  cases B2 with
                  | true =>
                    have hsm : a < s ∧ s < mid := by have := HB2.out; simpa using this
                    have HSY := hid_st (HIH.out.at (cc := cc) hcb hgc (show mid - a ≤ d by have := HDD.out; have := HMD.out; omega) hsm.1 hsm.2 hmidn HF6.out HC.out HFR.out hp1.1 hp1.2.1 hp1.2.2)
                    clear hsm hp1
                    go_wp2_with fail
                    refine HSY.out.mono ?_
                    rintro e1 X ⟨rfl, hX⟩
                    have HN := hid_st hX
                    clear hX
                    go_wp2_with fail
                    go_meet
                    exact HN.out
                  | false =>
                    have hsm : ¬ (a < s ∧ s < mid) := by have := HB2.out; simp at this; omega
                    have HN : Hid (∃ D1, Rw g n W0 D1 W7 ∧ SegS (cS C) D1 a mid ∧ PSeg F D1 a mid) := by
                      refine ⟨F, HF6.out, ?_, PSeg.refl _ _ _⟩
                      by_cases e1 : a < s
                      · have e2 : SegS (cS C) F a s := hp1.1
                        exact e2.sub (Nat.le_refl _) (by omega)
                      · have e2 : SegS (cS C) F s mid := hp1.2.1
                        exact e2.sub (by omega) (Nat.le_refl _)
                    clear hsm hp1
                    go_wp2_with fail
                    go_meet
                    exact HN.out
              case rest =>
                obtain ⟨D1, hR1, hS1, hP1⟩ := hcut
                obtain ⟨W8, rfl⟩ : ∃ W8, W8 = wc := ⟨wc, rfl⟩
                have HR1 := hid_st hR1
                have HS1 := hid_st hS1
                have HP1 := hid_st hP1
                have HRG := hid_st (hP1.range hmidn HFR.out)
                have HEQ : Hid (∀ k, mid ≤ k → D1 k = F k) := fun k hk => hP1.out k (by omega)
                have HFIN : Hid (∀ X D2, Rw g n W0 D2 X → SegS (cS C) D2 mid b → PSeg D1 D2 mid b → ∃ D', Rw g n W0 D' X ∧ SegS (cS C) D' a b ∧ PSeg D D' a b) := fun X D2 h1 h2 h3 => by
                  have hP2 : PSeg (rotF D s m e) D1 a mid := by rw [HF.out]; exact HP1.out
                  have := HCUT.out.done HL.out HS.out HRUN.out ⟨HS1.out, hP2⟩ ⟨h2, h3⟩
                  exact ⟨D2, h1, this.1, this.2⟩
                clear hR1 hS1 hP1 HF6
                go_upto_region 43 with fail
                go_cut [213] (fun s0 wx => s0 = .bool (decide (mid < e) && decide (e < b)) ∧ wx = W8)
                case first =>
                  as_aux_lemma =>
                    by_cases hsm : mid < e
                    · have d4 : decide ((mid : Int) < (e : Int)) = true := by simp; omega
                      have d4' : decide (mid < e) = true := by simpa using hsm
                      by_cases hmx : e < b
                      · have d5 : decide ((e : Int) < (b : Int)) = true := by simp; omega
                        have d5' : decide (e < b) = true := by simpa using hmx
                        clear hsm hmx
                        go_wp2_with fail
                        go_meet
                        exact ⟨by rw [d4', d5']; rfl, rfl⟩
                      · have d5 : decide ((e : Int) < (b : Int)) = false := by simp; omega
                        have d5' : decide (e < b) = false := by simpa using hmx
                        clear hsm hmx
                        go_wp2_with fail
                        go_meet
                        exact ⟨by rw [d4', d5']; rfl, rfl⟩
                    · have d4 : decide ((mid : Int) < (e : Int)) = false := by simp; omega
                      have d4' : decide (mid < e) = false := by simpa using hsm
                      clear hsm
                      go_wp2_with fail
                      go_meet
                      exact ⟨by rw [d4']; rfl, rfl⟩
                case rest =>
                  obtain ⟨rfl, hwc⟩ := hcut
                  subst hwc
                  obtain ⟨W9, rfl⟩ : ∃ W9, W9 = wc := ⟨wc, rfl⟩
                  obtain ⟨B3, HB3⟩ : ∃ B3, Hid ((decide (mid < e) && decide (e < b)) = B3) := ⟨_, (rfl : (decide (mid < e) && decide (e < b)) = _)⟩
                  rw [HB3.out]
                  go_upto_if 213 with fail
                  have hp2 := HPRT.out.2.1
                  cases B3 with
                  | true =>
                    have hsm : mid < e ∧ e < b := by have := HB3.out; simpa using this
                    have HSY := hid_st (HIH.out.at (cc := cc) (D := D1) hcb hgc (show b - mid ≤ d by have := HDD.out; have := HMD.out; omega) hsm.1 hsm.2 hb HR1.out HC.out HRG.out (hp2.1.of_eq fun k k1 _ => HEQ.out k k1) (hp2.2.1.of_eq fun k k1 _ => HEQ.out k (by omega)) (fun i j i1 i2 j1 j2 => by rw [HEQ.out i i1, HEQ.out j (by omega)]; exact hp2.2.2 i j i1 i2 j1 j2))
                    clear hsm hp2
                    go_wp2_with fail
                    refine HSY.out.mono ?_
                    rintro e1 X ⟨rfl, D2, hX1, hX2, hX3⟩
                    have HN := hid_st (HFIN.out X D2 hX1 hX2 hX3)
                    clear hX1 hX2 hX3
                    go_wp2_with fail
                    go_end0
                    exact ⟨rfl, HN.out⟩
                  | false =>
                    have hsm : ¬ (mid < e ∧ e < b) := by have := HB3.out; simp at this; omega
                    have HN : Hid (∃ D', Rw g n W0 D' W9 ∧ SegS (cS C) D' a b ∧ PSeg D D' a b) := by
                      refine HFIN.out W9 D1 HR1.out ?_ (PSeg.refl _ _ _)
                      have hz : SegS (cS C) F mid b := by
                        by_cases e1 : mid < e
                        · have e2 : SegS (cS C) F mid e := hp2.1
                          exact e2.sub (Nat.le_refl _) (by omega)
                        · have e2 : SegS (cS C) F e b := hp2.2.1
                          exact e2.sub (by omega) (Nat.le_refl _)
                      exact hz.of_eq fun k k1 _ => HEQ.out k k1
                    clear hsm hp2
                    go_wp2_with fail
                    go_end0
                    exact ⟨rfl, HN.out⟩
end Go.Proofs.Ytcihobmjohpnkaa
