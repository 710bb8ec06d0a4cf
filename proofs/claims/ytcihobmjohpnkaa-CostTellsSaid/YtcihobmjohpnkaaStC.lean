/- slices.SortStableFunc over numbers: what is asked of two of them; a block is sorted by insertion. -/
import Derived.Test.YtcihobmjohpnkaaStW
namespace Go.Proofs.Ytcihobmjohpnkaa
open Go.RowKit

def cmpI (x y : Int) : Int := if x < y then -1 else if y < x then 1 else 0
theorem cmpI_lt (x y : Int) : decide (cmpI x y < 0) = decide (x < y) := by
  unfold cmpI
  by_cases h : x < y
  · rw [if_pos h]; simp [h]
  · rw [if_neg h]
    split <;> simp [h]

set_option maxRecDepth 100000 in
theorem isNaN_c (w : World) (x : Int) : Calls Try.prog 118 #[.int .i64 x] w fun e w' => e = .returned (.bool false) ∧ w' = w := by
  have h : (x != x) = false := by simp
  go_enter Try.func118, Try.ntmps118
  go_wp2_with fail
  go_ret
  exact ⟨rfl, rfl⟩
set_option maxRecDepth 100000 in
theorem compare_c (w : World) (x y : Int) : Calls Try.prog 100 #[.int .i64 x, .int .i64 y] w fun e w' => e = .returned (.int .i64 (cmpI x y)) ∧ w' = w := by
  have H1 := hid_st (isNaN_c w x)
  have H2 := hid_st (isNaN_c w y)
  unfold cmpI
  by_cases h1 : x < y
  · have d1 : decide (x < y) = true := by simpa using h1
    rw [if_pos h1]
    clear h1
    go_enter Try.func100, Try.ntmps100
    go_wp2_with fail
    refine H1.out.mono ?_
    rintro e w' ⟨rfl, rfl⟩
    go_wp2_with fail
    refine H2.out.mono ?_
    rintro e w' ⟨rfl, rfl⟩
    go_wp2_with fail
    go_ret
    exact ⟨rfl, rfl⟩
  · have d1 : decide (x < y) = false := by simpa using h1
    rw [if_neg h1]
    by_cases h2 : y < x
    · have d2 : decide (x > y) = true := by simpa using h2
      have d2' : decide (y < x) = true := by simpa using h2
      rw [if_pos h2]
      clear h1 h2
      go_enter Try.func100, Try.ntmps100
      go_wp2_with fail
      refine H1.out.mono ?_
      rintro e w' ⟨rfl, rfl⟩
      go_wp2_with fail
      refine H2.out.mono ?_
      rintro e w' ⟨rfl, rfl⟩
      go_wp2_with fail
      go_ret
      exact ⟨rfl, rfl⟩
    · have d2 : decide (x > y) = false := by simpa using h2
      have d2' : decide (y < x) = false := by simpa using h2
      rw [if_neg h2]
      clear h1 h2
      go_enter Try.func100, Try.ntmps100
      go_wp2_with fail
      refine H1.out.mono ?_
      rintro e w' ⟨rfl, rfl⟩
      go_wp2_with fail
      refine H2.out.mono ?_
      rintro e w' ⟨rfl, rfl⟩
      go_wp2_with fail
      go_ret
      exact ⟨rfl, rfl⟩

/-- What the closure reads: the costs. -/
structure CsAt (cb gc nr : Nat) (C : List Int) (W : World) : Prop where
  box : W.cell? ⟨cb, 0, none⟩ = some (.slice (some ⟨gc, 0, none⟩) nr nr)
  row : Row W gc 3 (ints C)
  len : C.length = nr
theorem CsAt.keep {cb gc nr g : Nat} {C : List Int} {W X : World} (h : CsAt cb gc nr C W) (k : Only g W X) (h1 : cb ≠ g) (h2 : gc ≠ g) : CsAt cb gc nr C X :=
  ⟨(World.cell?_of_block (a := ⟨cb, 0, none⟩) (k.kq cb h1)).trans h.box, h.row.keep (k.kq gc h2), h.len⟩
def cS (C : List Int) (x : Int) : Int := C.getD x.toNat 0
abbrev fnV (cb : Nat) : Value := .func (.func 99) #[] #[.pointer (some ⟨cb, 0, none⟩)]

set_option maxRecDepth 100000 in
set_option maxHeartbeats 4000000 in
theorem order1_c (W : World) {cb gc nr : Nat} {C : List Int} {x y : Int} (h : CsAt cb gc nr C W) (hx : 0 ≤ x ∧ x < (nr : Int)) (hy : 0 ≤ y ∧ y < (nr : Int)) :
    Calls Try.prog 99 #[.int .i64 x, .int .i64 y, .pointer (some ⟨cb, 0, none⟩)] W fun e w' => e = .returned (.int .i64 (cmpI (cS C x) (cS C y))) ∧ ∃ q, w' = W.drewN q := by
  obtain ⟨xn, rfl⟩ : ∃ xn : Nat, x = (xn : Int) := ⟨x.toNat, by omega⟩
  obtain ⟨yn, rfl⟩ : ∃ yn : Nat, y = (yn : Int) := ⟨y.toNat, by omega⟩
  unfold cS
  simp only [Int.toNat_natCast]
  obtain ⟨u, Hu⟩ : ∃ u, Hid (C.getD xn 0 = u) := ⟨_, (rfl : C.getD xn 0 = _)⟩
  obtain ⟨v, Hv⟩ : ∃ v, Hid (C.getD yn 0 = v) := ⟨_, (rfl : C.getD yn 0 = _)⟩
  have hlen := h.len
  have cu := h.row.cell (k := xn) (v := .int .i64 u) (by
    have h1 : xn < C.length := by omega
    have h2 := Hu.out
    simp only [List.getD, List.getElem?_eq_getElem h1, Option.getD_some] at h2
    simp [ints, h1, h2])
  have cv := h.row.cell (k := yn) (v := .int .i64 v) (by
    have h1 : yn < C.length := by omega
    have h2 := Hv.out
    simp only [List.getD, List.getElem?_eq_getElem h1, Option.getD_some] at h2
    simp [ints, h1, h2])
  have cb0 := h.box
  have hcm : ∀ q, Calls Try.prog 100 #[.int .i64 u, .int .i64 v] (W.drewN q) fun e w' => e = .returned (.int .i64 (cmpI u v)) ∧ w' = W.drewN q := fun q => compare_c _ u v
  rw [Hu.out, Hv.out]
  obtain ⟨z, Hz⟩ : ∃ z, Hid (cmpI u v = z) := ⟨_, (rfl : cmpI u v = _)⟩
  rw [Hz.out] at hcm ⊢
  obtain ⟨-, hx1⟩ := hx
  obtain ⟨-, hy1⟩ := hy
  clear h hlen
  go_enter Try.func99, Try.ntmps99
  go_wp2_with fail
  go_quiet ((go_at_call 100; exact Calls.quiet_of_same (hcm _)))
  go_wp2_with fail
  go_ret
  exact ⟨rfl, _, rfl⟩

/-- What two numbers of the row are asked, in any world behind some draws. -/
theorem ask_c {g n cb gc nr : Nat} {C : List Int} {W X : World} {D D0 : Nat → Int} (h : Rw g n W D X) (hc : CsAt cb gc nr C W) (h1 : cb ≠ g) (h2 : gc ≠ g) (hr : ∀ k, k < n → 0 ≤ D0 k ∧ D0 k < (nr : Int)) {i j : Nat} (hi : i < n) (hj : j < n) {x y : Int} (hx : D0 i = x) (hy : D0 j = y) :
    ∀ q, Calls Try.prog 99 #[.int .i64 x, .int .i64 y, .pointer (some ⟨cb, 0, none⟩)] (X.drewN q) fun e w' => e = .returned (.int .i64 (cmpI (cS C x) (cS C y))) ∧ ∃ m, w' = (X.drewN q).drewN m := fun q =>
  order1_c _ (hc.keep (h.on.drewN q) h1 h2) (by rw [← hx]; exact hr i hi) (by rw [← hy]; exact hr j hj)
theorem PSeg.range {D D' : Nat → Int} {a b n : Nat} {nr : Int} (h : PSeg D D' a b) (hb : b ≤ n) (hr : ∀ k, k < n → 0 ≤ D k ∧ D k < nr) : ∀ k, k < n → 0 ≤ D' k ∧ D' k < nr := fun k hk => by
  by_cases hin : a ≤ k ∧ k < b
  · obtain ⟨j, j1, j2, e⟩ := h.src k hin.1 hin.2
    rw [e]; exact hr j (by omega)
  · rw [h.out k hin]; exact hr k hk

set_option maxRecDepth 100000 in
set_option maxHeartbeats 8000000 in
theorem insertion_c {g n cc cb gc nr : Nat} {C : List Int} (W : World) (D : Nat → Int) (a b : Nat) (h : Rw g n W D W) (hc : CsAt cb gc nr C W) (hcb : cb ≠ g) (hgc : gc ≠ g) (hr : ∀ k, k < n → 0 ≤ D k ∧ D k < (nr : Int)) (hab : a ≤ b) (hb : b ≤ n) (hn : n ≤ 1000000)
    (hrun : ∀ x y, a ≤ x → x < y → y < b → D x < D y) :
    Calls Try.prog 130 #[.slice (some ⟨g, 0, none⟩) n cc, .int .i64 (a : Int), .int .i64 (b : Int), fnV cb] W fun e w' => e = .returned (.tuple #[]) ∧ ∃ D', Rw g n W D' w' ∧ SegS (cS C) D' a b ∧ PSeg D D' a b := by
  have H0 : Hid (∃ D1, Rw g n W D1 W ∧ SegS (cS C) D1 a (a + 1) ∧ PSeg D D1 a (a + 1)) := ⟨D, h, SegS.small (by omega), PSeg.refl _ _ _⟩
  have HC := hid_st hc
  have HRUN := hid_st hrun
  have HR := hid_st hr
  clear h hc hrun hr
  go_enter Try.func130, Try.ntmps130
  go_wp2_with fail
  go_loopw [8] (fun s8 wx => ∃ i : Nat, a + 1 ≤ i ∧ (i ≤ b ∨ i = a + 1) ∧ s8 = .int .i64 i ∧ Hid (∃ D1, Rw g n W D1 wx ∧ SegS (cS C) D1 a i ∧ PSeg D D1 a i)) (fun s8 _ => b + 1 - (intOf s8).toNat)
  case atStart => exact ⟨a + 1, by omega, by omega, by simp, H0⟩
  case round =>
    obtain ⟨i, hi1, hi2, rfl, HI⟩ := hrel
    clear H0
    by_cases hit : i < b
    · obtain ⟨D1, hR1, hS1, hP1⟩ := HI.out
      have hiz : (i : Int) < (b : Int) := by omega
      have HJ0 : Hid (Rw g n W (insL D1 i i) wr ∧ ∀ k, i ≤ k → k < i → ltC (cS C) (D1 i) (D1 k)) := ⟨by rw [insL_self]; exact hR1, fun k h1 h2 => by omega⟩
      have HS1 := hid_st hS1
      have HP1 := hid_st hP1
      have HR1 := hid_st (hP1.range (by omega) HR.out)
      have HLT : Hid (∀ k, a ≤ k → k < i → D1 k < D1 i) := fun k k1 k2 => by
        obtain ⟨l, l1, l2, e⟩ := hP1.src k k1 k2
        rw [e, hP1.out i (by omega)]
        exact HRUN.out l i l1 l2 hit
      clear hR1 hS1 hP1 HI
      go_wp2_with fail
      go_loopw [9] (fun s9 wx => ∃ j : Nat, a ≤ j ∧ j ≤ i ∧ s9 = .int .i64 j ∧ Hid (Rw g n W (insL D1 i j) wx ∧ ∀ k, j ≤ k → k < i → ltC (cS C) (D1 i) (D1 k))) (fun s9 _ => (intOf s9).toNat)
      case atStart => exact ⟨i, by omega, by omega, rfl, HJ0⟩
      case round =>
        obtain ⟨j, hj1, hj2, rfl, HJ⟩ := hrel
        clear HJ0
        by_cases hja : a < j
        · obtain ⟨hRj, hlt⟩ := HJ.out
          have hin : i < n := by omega
          have hjn : j < n := by omega
          have e1 : insL D1 i j j = D1 i := by unfold insL; rw [if_pos rfl]
          have e2 : insL D1 i j (j - 1) = D1 (j - 1) := by unfold insL; rw [if_neg (by omega), if_neg (by omega)]
          obtain ⟨x, Hx⟩ : ∃ x, Hid (D1 i = x) := ⟨_, (rfl : D1 i = _)⟩
          obtain ⟨y, Hy⟩ : ∃ y, Hid (D1 (j - 1) = y) := ⟨_, (rfl : D1 (j - 1) = _)⟩
          have hask := ask_c (D0 := D1) hRj HC.out hcb hgc HR1.out hin (show j - 1 < n by omega) Hx.out Hy.out
          have c1 := hRj.cell hjn
          have c2 := hRj.cell (show j - 1 < n by omega)
          have f1 := hRj.row.frozen j
          have f2 := hRj.row.frozen (j - 1)
          rw [e1, Hx.out] at c1
          rw [e2, Hy.out] at c2
          obtain ⟨z, Hz⟩ : ∃ z, Hid (cmpI (cS C x) (cS C y) = z) := ⟨_, (rfl : cmpI (cS C x) (cS C y) = _)⟩
          have hz := cmpI_lt (cS C x) (cS C y)
          rw [Hz.out] at hask hz
          obtain ⟨jp, rfl⟩ : ∃ jp, j = jp + 1 := ⟨j - 1, by omega⟩
          simp only [Nat.add_sub_cancel] at c2 f2
          have hjz : (jp : Int) + 1 - 1 = (jp : Int) := by omega
          have hjs : ((jp + 1 : Nat) : Int) = (jp : Int) + 1 := by omega
          have hjw : (jp : Int) + 1 < (n : Int) := by omega
          have hjg : decide ((jp : Int) + 1 > (a : Int)) = true := by simp; omega
          have hjg' : decide ((a : Int) < (jp : Int) + 1) = true := by simp; omega
          rw [hjs]
          by_cases hcmp : cS C x < cS C y
          · have hz1 : decide (z < 0) = true := by rw [hz]; simpa using hcmp
            have HN : Hid (∀ q, Rw g n W (insL D1 i jp) (((wr.drewN q).setCell ⟨g, jp + 1, none⟩ (.int .i64 y)).setCell ⟨g, jp, none⟩ (.int .i64 x)) ∧ ∀ k, jp ≤ k → k < i → ltC (cS C) (D1 i) (D1 k)) := fun q => by
              have h1 := (hRj.drewN q).swap (i := jp + 1) (j := jp) (by omega) (by omega)
              rw [insL_step D1 (by omega), e1, Hx.out] at h1
              simp only [Nat.add_sub_cancel] at e2
              rw [e2] at h1
              have hyy : D1 jp = y := by have := Hy.out; simpa using this
              rw [hyy] at h1
              refine ⟨h1, fun k k1 k2 => ?_⟩
              by_cases e : k = jp
              · subst e
                rw [Hx.out, hyy]
                exact ltC_lt hcmp
              · exact hlt k (by omega) k2
            clear hz hcmp hRj hlt e1 e2 HJ
            go_wp2_with fail
            go_quiet ((go_at_call 99; exact Calls.quiet_of (hask _)))
            clear hask
            go_wp2_with fail
            go_region
            all_goals clear c1 c2 f1 f2
            all_goals go_wp2_with fail
            all_goals go_roundw
            all_goals first | exact ⟨jp, by omega, by omega, by go_num, HN.out _⟩ | (simp [intOf] <;> omega)
          · have hz1 : decide (z < 0) = false := by rw [hz]; simpa using hcmp
            have HN : Hid (∀ q, ∃ D2, Rw g n W D2 (wr.drewN q) ∧ SegS (cS C) D2 a (i + 1) ∧ PSeg D D2 a (i + 1)) := fun q => by
              have hyy : D1 jp = y := by have := Hy.out; simpa using this
              have h0 : ltC (cS C) (D1 jp) (D1 i) := ltC_ge (by rw [Hx.out, hyy]; exact hcmp) (HLT.out jp (by omega) (by omega))
              have h3 := insL_seg (m := i) (i := jp + 1) HS1.out (by omega) hj2 (fun k k1 k2 => le_seg HS1.out k1 (show k ≤ jp by omega) (by omega) h0) hlt
              exact ⟨_, hRj.drewN q, h3.1, (HP1.out.wide (Nat.le_refl _) (by omega)).trans h3.2⟩
            clear hz hcmp hRj hlt e1 e2 HJ
            go_wp2_with fail
            go_quiet ((go_at_call 99; exact Calls.quiet_of (hask _)))
            clear hask c1 c2 f1 f2
            go_wp2_with fail
            go_roundw
            case rel => exact ⟨i + 1, by omega, by omega, by go_num, HN.out _⟩
            case measure => simp [intOf]; omega
        · obtain rfl : j = a := by omega
          have HN : Hid (∀ q, ∃ D2, Rw g n W D2 (wr.drewN q) ∧ SegS (cS C) D2 j (i + 1) ∧ PSeg D D2 j (i + 1)) := fun q => by
            obtain ⟨hRj, hlt⟩ := HJ.out
            have h3 := insL_seg (m := i) (i := j) HS1.out (by omega) hj2 (fun k k1 k2 => by omega) hlt
            exact ⟨_, hRj.drewN q, h3.1, (HP1.out.wide (Nat.le_refl _) (by omega)).trans h3.2⟩
          clear HJ
          go_wp2_with fail
          go_quiet (fail)
          go_wp2_with fail
          go_roundw
          case rel => exact ⟨i + 1, by omega, by omega, by go_num, HN.out _⟩
          case measure => simp [intOf]; omega
    · have hib : b ≤ i := by omega
      have HF : Hid (∃ D', Rw g n W D' wr ∧ SegS (cS C) D' a b ∧ PSeg D D' a b) := by
        obtain ⟨D1, hR1, hS1, hP1⟩ := HI.out
        by_cases e : i = b
        · subst e; exact ⟨D1, hR1, hS1, hP1⟩
        · have hba : b = a := by omega
          subst hba
          have hi : i = b + 1 := by omega
          subst hi
          refine ⟨D1, hR1, SegS.small (by omega), fun k _ => ?_, fun k k1 k2 => by omega⟩
          by_cases hk : k = b
          · subst hk
            obtain ⟨l, l1, l2, e2⟩ := hP1.src k (Nat.le_refl _) (by omega)
            rw [e2]; congr 1; omega
          · exact hP1.out k (by omega)
      have hiz : decide ((i : Int) < (b : Int)) = false := by simp; omega
      have hiz' : decide (i < b) = false := by simp; omega
      clear HI
      go_wp2_with fail
      go_end0
      exact ⟨rfl, HF.out⟩
end Go.Proofs.Ytcihobmjohpnkaa
