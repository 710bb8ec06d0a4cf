/- slices.SortStableFunc over numbers: blocks, then merges of blocks; the whole row. -/
import Derived.Test.YtcihobmjohpnkaaStR
namespace Go.Proofs.Ytcihobmjohpnkaa
open Go.RowKit

theorem sym_all {g n cc cb gc nr : Nat} {C : List Int} (hcb : cb ≠ g) (hgc : gc ≠ g) (hn : n ≤ 1000000) (d : Nat) : SymC g n cc cb gc nr C d := by
  induction d with
  | zero => intro W D a m b hd h1 h2 h3; omega
  | succ d IH =>
    intro W D a m b hd h1 h2 h3 h hc hr hl hs hrun
    by_cases e1 : m = a + 1
    · exact sym_first W D a m b h hc hcb hgc hr e1 h2 h3 hn hs hrun
    · by_cases e2 : b = m + 1
      · exact sym_last W D a m b h hc hcb hgc hr e1 h1 e2 h3 hn hl hrun
      · exact sym_rest IH W D a m b h hc hcb hgc hr hd h1 h2 e1 e2 h3 hn hl hs hrun

/-- What the sort keeps: the row, what it is, and that its numbers have costs. -/
def StW (g n nr : Nat) (W : World) (P : (Nat → Int) → Prop) (X : World) : Prop := ∃ D, Rw g n W D X ∧ P D ∧ ∀ k, k < n → 0 ≤ D k ∧ D k < (nr : Int)

set_option maxRecDepth 100000 in
set_option maxHeartbeats 16000000 in
theorem stable_c {g n cc cb gc nr : Nat} {C : List Int} (W : World) (D : Nat → Int) (h : Rw g n W D W) (hc : CsAt cb gc nr C W) (hcb : cb ≠ g) (hgc : gc ≠ g) (hD : ∀ k, k < n → D k = (k : Int)) (hnr : n ≤ nr) (hn : n ≤ 1000000) :
    Calls Try.prog 117 #[.slice (some ⟨g, 0, none⟩) n cc, .int .i64 (n : Int), fnV cb] W fun e w' => e = .returned (.tuple #[]) ∧ ∃ D', Rw g n W D' w' ∧ BlkOk (cS C) D' 0 n := by
  have H0 : Hid (StW g n nr W (fun D => Ins (cS C) D n 20 0) W) := ⟨D, h, ⟨fun p hp => by omega, fun k _ hk => hD k hk⟩, fun k hk => by rw [hD k hk]; omega⟩
  have HC := hid_st hc
  have HSY : Hid (∀ d, SymC g n cc cb gc nr C d) := sym_all hcb hgc hn
  clear h hc hD hnr
  go_enter Try.func117, Try.ntmps117
  go_wp2_with fail
  go_loopw [7, 8] (fun s7 s8 wx => ∃ q A : Nat, A ≤ n ∧ Hid (A = q * 20) ∧ s7 = .int .i64 (A : Int) ∧ s8 = .int .i64 ((A : Int) + 20) ∧ Hid (StW g n nr W (fun D => Ins (cS C) D n 20 q) wx)) (fun s7 _ _ => n - (intOf s7).toNat)
  case atStart => exact ⟨0, 0, by omega, by show _ = _; rfl, rfl, rfl, H0⟩
  case round =>
    obtain ⟨q, A, hA, HA, rfl, rfl, HI⟩ := hrel
    clear H0
    obtain ⟨D1, hR, hI, hr⟩ := HI.out
    by_cases hle : A + 20 ≤ n
    · have hz : (A : Int) + 20 ≤ (n : Int) := by omega
      have hIN := insertion_c (cc := cc) wr D1 A (A + 20) ⟨hR.row, Only.refl _ _⟩ (HC.out.keep hR.on hcb hgc) hcb hgc hr (by omega) hle hn (fun x y h1 h2 h3 => by
        rw [hI.sml x (by have := HA.out; omega) (by omega), hI.sml y (by have := HA.out; omega) (by omega)]; omega)
      rw [show ((A + 20 : Nat) : Int) = (A : Int) + 20 by omega] at hIN
      have HK : Hid (∀ X, (∃ D', Rw g n wr D' X ∧ SegS (cS C) D' A (A + 20) ∧ PSeg D1 D' A (A + 20)) → StW g n nr W (fun D => Ins (cS C) D n 20 (q + 1)) X) := fun X ⟨D', k1, k2, k3⟩ => by
        rw [HA.out] at k2 k3
        exact ⟨D', hR.re k1, hI.next (by have := HA.out; omega) k2 k3, k3.range (by have := HA.out; omega) hr⟩
      have HIN := hid_st hIN
      clear hR hI hr HI hIN
      go_wp2_with fail
      refine HIN.out.mono ?_
      rintro e X ⟨rfl, hX⟩
      have HN := hid_st (HK.out X hX)
      have HA2 : Hid (A + 20 = (q + 1) * 20) := by show _ = _; have := HA.out; omega
      clear hX HIN HK
      go_wp2_with fail
      go_roundw
      case rel => exact ⟨q + 1, A + 20, hle, HA2, by simp, by simp <;> omega, HN⟩
      case measure => simp [intOf] <;> omega
    · have hz : decide ((A : Int) + 20 ≤ (n : Int)) = false := by simp; omega
      have hIN := insertion_c (cc := cc) wr D1 A n ⟨hR.row, Only.refl _ _⟩ (HC.out.keep hR.on hcb hgc) hcb hgc hr hA (Nat.le_refl _) hn (fun x y h1 h2 h3 => by
        rw [hI.sml x (by have := HA.out; omega) (by omega), hI.sml y (by have := HA.out; omega) (by omega)]; omega)
      have HK : Hid (∀ X, (∃ D', Rw g n wr D' X ∧ SegS (cS C) D' A n ∧ PSeg D1 D' A n) → StW g n nr W (fun D => Lv (cS C) D n 20) X) := fun X ⟨D', k1, k2, k3⟩ => by
        have k4 := k3.range (Nat.le_refl _) hr
        rw [HA.out] at k2 k3
        exact ⟨D', hR.re k1, hI.last (by have := HA.out; omega) (by have := HA.out; omega) k2 k3, k4⟩
      have HIN := hid_st hIN
      clear hR hI hr HI hIN hle
      go_wp2_with fail
      refine HIN.out.mono ?_
      rintro e X ⟨rfl, hX⟩
      have HL0 := hid_st (HK.out X hX)
      clear hX HIN HK hz
      go_wp2_with fail
      go_loopw [6, 7, 8] (fun s6 s7 s8 wx => ∃ bs : Nat, 20 ≤ bs ∧ bs ≤ 2 * n + 20 ∧ s6 = .int .i64 (bs : Int) ∧ Hid (StW g n nr W (fun D => Lv (cS C) D n bs) wx)) (fun s6 _ _ _ => n - (intOf s6).toNat)
      case atStart => exact ⟨20, by omega, by omega, rfl, HL0⟩
      case round =>
        obtain ⟨bs, hb1, hb2, rfl, HB⟩ := hrel
        clear HL0
        by_cases hlt : bs < n
        · have hbz : (bs : Int) < (n : Int) := by omega
          have HM0 : Hid (StW g n nr W (fun D => Mix (cS C) D n bs 0) wr) := by
            obtain ⟨D2, k1, k2, k3⟩ := HB.out
            exact ⟨D2, k1, Lv.mix k2, k3⟩
          clear HB
          go_wp2_with fail
          go_loopw [7, 8] (fun s7 s8 wx => ∃ q A : Nat, A ≤ n ∧ Hid (A = q * (2 * bs)) ∧ s7 = .int .i64 (A : Int) ∧ s8 = .int .i64 ((A : Int) + 2 * (bs : Int)) ∧ Hid (StW g n nr W (fun D => Mix (cS C) D n bs q) wx)) (fun s7 _ _ => n - (intOf s7).toNat)
          case atStart => exact ⟨0, 0, by omega, by show _ = _; simp, rfl, by simp, HM0⟩
          case round =>
            obtain ⟨q, A, hA, HA, rfl, rfl, HI⟩ := hrel
            clear HM0
            obtain ⟨D2, hR, hI, hr⟩ := HI.out
            by_cases hle : A + 2 * bs ≤ n
            · have hz : (A : Int) + 2 * (bs : Int) ≤ (n : Int) := by omega
              have hpr := hI.pair (by rw [← HA.out]; exact hle) (by omega)
              rw [← HA.out] at hpr
              have hSY := (HSY.out (A + 2 * bs)).at (cc := cc) hcb hgc (show A + 2 * bs - A ≤ A + 2 * bs by omega) (show A < A + bs by omega) (show A + bs < A + 2 * bs by omega) hle hR HC.out hr hpr.1.1 hpr.1.2.1 hpr.1.2.2
              rw [show ((A + bs : Nat) : Int) = (A : Int) + (bs : Int) by omega, show ((A + 2 * bs : Nat) : Int) = (A : Int) + 2 * (bs : Int) by omega] at hSY
              have HK : Hid (∀ X, (∃ D', Rw g n W D' X ∧ SegS (cS C) D' A (A + 2 * bs) ∧ PSeg D2 D' A (A + 2 * bs)) → StW g n nr W (fun D => Mix (cS C) D n bs (q + 1)) X) := fun X ⟨D', k1, k2, k3⟩ => ⟨D', k1, hpr.2 D' k2 k3, k3.range hle hr⟩
              have HSO := hid_st hSY
              have HA2 : Hid (A + 2 * bs = (q + 1) * (2 * bs)) := by show _ = _; rw [succ_bs, ← HA.out]
              clear hR hI hr HI hSY hpr
              go_wp2_with fail
              refine HSO.out.mono ?_
              rintro e X ⟨rfl, hX⟩
              have HN := hid_st (HK.out X hX)
              clear hX HSO HK
              go_wp2_with fail
              go_roundw
              case rel => exact ⟨q + 1, A + 2 * bs, hle, HA2, by simp, by simp <;> omega, HN⟩
              case measure => simp [intOf] <;> omega
            · have hz : decide ((A : Int) + 2 * (bs : Int) ≤ (n : Int)) = false := by simp; omega
              have hla := hI.last (by rw [← HA.out]; omega) (by rw [← HA.out]; exact hA)
              rw [← HA.out] at hla
              by_cases hm : A + bs < n
              · have hmz : decide ((A : Int) + (bs : Int) < (n : Int)) = true := by simp; omega
                have hpr := hla.1 hm
                have hSY := (HSY.out n).at (cc := cc) hcb hgc (show n - A ≤ n by omega) (show A < A + bs by omega) hm (Nat.le_refl _) hR HC.out hr hpr.1.1 hpr.1.2.1 hpr.1.2.2
                rw [show ((A + bs : Nat) : Int) = (A : Int) + (bs : Int) by omega] at hSY
                have HK : Hid (∀ X, (∃ D', Rw g n W D' X ∧ SegS (cS C) D' A n ∧ PSeg D2 D' A n) → StW g n nr W (fun D => Lv (cS C) D n (2 * bs)) X) := fun X ⟨D', k1, k2, k3⟩ => ⟨D', k1, hpr.2 D' k2 k3, k3.range (Nat.le_refl _) hr⟩
                have HSO := hid_st hSY
                clear hR hI hr HI hSY hpr hla hle hm
                go_wp2_with fail
                refine HSO.out.mono ?_
                rintro e X ⟨rfl, hX⟩
                have HN := hid_st (HK.out X hX)
                clear hX HSO HK
                go_wp2_with fail
                go_roundw
                case rel => exact ⟨2 * bs, by omega, by omega, by simp <;> omega, HN⟩
                case measure => simp [intOf] <;> omega
              · have hmz : decide ((A : Int) + (bs : Int) < (n : Int)) = false := by simp; omega
                have HN : Hid (StW g n nr W (fun D => Lv (cS C) D n (2 * bs)) wr) := ⟨D2, hR, hla.2 (by omega), hr⟩
                clear hR hI hr HI hla hle hm
                go_wp2_with fail
                go_roundw
                case rel => exact ⟨2 * bs, by omega, by omega, by simp <;> omega, HN⟩
                case measure => simp [intOf] <;> omega
        · have hbz : decide ((bs : Int) < (n : Int)) = false := by simp; omega
          have hbz' : decide (bs < n) = false := by simpa using hlt
          have HF : Hid (∃ D', Rw g n W D' wr ∧ BlkOk (cS C) D' 0 n) := by
            obtain ⟨D2, k1, k2, k3⟩ := HB.out
            refine ⟨D2, k1, ?_⟩
            by_cases h0 : n = 0
            · subst h0
              exact ⟨SegS.small (by omega), fun k _ hk => by omega⟩
            · have := k2 0 (by omega)
              rw [Nat.zero_mul, Nat.zero_add, Nat.one_mul, Nat.min_eq_right (by omega)] at this
              exact this
          clear HB
          go_wp2_with fail
          go_end0
          exact ⟨rfl, HF.out⟩

set_option maxRecDepth 100000 in
theorem sortStable_c {g n cc cb gc nr : Nat} {C : List Int} (W : World) (D : Nat → Int) (h : Rw g n W D W) (hc : CsAt cb gc nr C W) (hcb : cb ≠ g) (hgc : gc ≠ g) (hD : ∀ k, k < n → D k = (k : Int)) (hnr : n ≤ nr) (hn : n ≤ 1000000) :
    Calls Try.prog 98 #[.slice (some ⟨g, 0, none⟩) n cc, fnV cb] W fun e w' => e = .returned (.tuple #[]) ∧ ∃ D', Rw g n W D' w' ∧ BlkOk (cS C) D' 0 n := by
  have H := hid_st (stable_c (cc := cc) W D h hc hcb hgc hD hnr hn)
  clear h hc hD hnr
  go_enter Try.func98, Try.ntmps98
  go_wp2_with fail
  refine H.out.mono ?_
  rintro e X ⟨rfl, hX⟩
  have HN := hid_st hX
  clear hX H
  go_wp2_with fail
  go_end0
  exact ⟨rfl, HN.out⟩

set_option maxRecDepth 100000 in
theorem sortStable_nil (W : World) (cb : Nat) : Calls Try.prog 98 #[.slice none 0 0, fnV cb] W fun e w' => e = .returned (.tuple #[]) ∧ w' = W := by
  have H : Hid (∀ X : World, Calls Try.prog 130 #[.slice none 0 0, .int .i64 0, .int .i64 0, fnV cb] X fun e w' => e = .returned (.tuple #[]) ∧ w' = X) := fun X => by
    go_enter Try.func130, Try.ntmps130
    go_wp2_with fail
    go_loop [8] (fun s8 => s8 = .int .i64 1) (fun _ => 0)
    case atStart => rfl
    case round =>
      obtain rfl := hrel
      go_wp2_with fail
      go_end0
      exact ⟨rfl, rfl⟩
  have H2 : Hid (Calls Try.prog 117 #[.slice none 0 0, .int .i64 0, fnV cb] W fun e w' => e = .returned (.tuple #[]) ∧ w' = W) := by
    show Calls _ _ _ _ _
    go_enter Try.func117, Try.ntmps117
    go_wp2_with fail
    go_loop [7, 8] (fun s7 s8 => s7 = .int .i64 0 ∧ s8 = .int .i64 20) (fun _ _ => 0)
    case atStart => exact ⟨rfl, rfl⟩
    case round =>
      obtain ⟨rfl, rfl⟩ := hrel
      go_wp2_with fail
      refine (H.out _).mono ?_
      rintro e X ⟨rfl, rfl⟩
      go_wp2_with fail
      go_loop [6, 7, 8] (fun s6 _ _ => s6 = .int .i64 20) (fun _ _ _ => 0)
      case atStart => rfl
      case round =>
        obtain rfl := hrel
        go_wp2_with fail
        go_end0
        exact ⟨rfl, rfl⟩
  clear H
  go_enter Try.func98, Try.ntmps98
  go_wp2_with fail
  refine H2.out.mono ?_
  rintro e X ⟨rfl, rfl⟩
  go_wp2_with fail
  go_end0
  exact ⟨rfl, rfl⟩
end Go.Proofs.Ytcihobmjohpnkaa
