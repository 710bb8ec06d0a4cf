/- 'ColorColors' walked: it returns true. -/
import Derived.Test.YtinbfnabngdemaaCwH
import Derived.Test.YtinbfnabngdemaaCwB
import Derived.Test.YtinbfnabngdemaaCrS
namespace Go.Proofs.Ytinbfnabngdemaa
open Go.RowKit

set_option maxRecDepth 100000 in
set_option maxHeartbeats 8000000 in
theorem colorColors_c (w : World) {ea ma aa la : Option Addr} {en ec mn mc n ac ln lc : Nat} {G : GD} (h : IsGr (· < w.heap.size) w ⟨ea, en, ec, ma, mn, mc, aa, n, ac, la, ln, lc⟩ G) :
    Calls Try.prog 3 #[.agg #[.slice ea en ec, .slice ma mn mc, .slice aa n ac, .slice la ln lc]] w fun e w' => e = .returned (.bool true) ∧ Below w.heap.size w w' := by
  have HG := hid_of h
  clear h
  go_enter Try.func3, Try.ntmps3
  go_upto_region 1 with fail
  refine wp_at (fun Y => Row Y w.heap.size 25 [.slice ea en ec, .slice ma mn mc, .slice aa n ac, .slice la ln lc] ∧ Below w.heap.size w Y) ⟨heap_alloc_eq _ _ _ rfl, bel_alloc (bel_refl w) _⟩ ?_
  rintro W0 ⟨ra, hY⟩
  have HBt : Hid (∀ U, BkS W0 U → Row U w.heap.size 25 [.slice ea en ec, .slice ma mn mc, .slice aa n ac, .slice la ln lc] ∧ IsGr (· < U.heap.size) U ⟨ea, en, ec, ma, mn, mc, aa, n, ac, la, ln, lc⟩ G ∧ Below w.heap.size w U) := fun U hU => by
    have hwU : Below w.heap.size w U := bel_call hY hU
    exact ⟨ra.keep (hU.block _ ra.lt), gr_keep HG.out hwU, hwU⟩
  clear ra hY
  go_wp2_with fail
  refine (alive_c W0).mono ?_
  rintro e W1 ⟨rfl, hb1⟩
  have HB1 : Hid (BkS W0 W1) := hb1
  clear hb1
  obtain ⟨ra, hg, -⟩ := HBt.out W1 HB1.out
  have a0 := ra.cell (k := 0) rfl
  have a1 := ra.cell (k := 1) rfl
  have a2 := ra.cell (k := 2) rfl
  have a3 := ra.cell (k := 3) rfl
  have HC := hid_of (big_c W1 hg)
  clear ra hg
  go_wp2_with fail
  clear a0 a1 a2 a3
  refine HC.out.mono ?_
  rintro e W2 ⟨⟨bg, rfl, hfg⟩, hb⟩
  have HB2 : Hid (BkS W0 W2) := bel_call HB1.out hb
  have HFg := hid_of hfg
  clear hb HC HB1
  clear hfg
  cases bg with
  | true =>
    go_wp2_with fail
    go_ret
    exact ⟨rfl, (HBt.out W2 HB2.out).2.2⟩
  | false =>
    have HF := hid_of (HFg.out rfl)
    by_cases hok : OkG G
    · obtain ⟨sb, Hsb⟩ : ∃ b, Hid (sureB G = b) := ⟨_, (rfl : sureB G = _)⟩
      obtain ⟨ra, hg, -⟩ := HBt.out W2 HB2.out
      have a0 := ra.cell (k := 0) rfl
      have a1 := ra.cell (k := 1) rfl
      have a2 := ra.cell (k := 2) rfl
      have a3 := ra.cell (k := 3) rfl
      have HC := hid_of (check_c W2 hg HF.out)
      rw [chk_ok hok] at HC
      clear ra hg
      go_wp2_with fail
      clear a0 a1 a2 a3
      refine HC.out.mono ?_
      rintro e W3 ⟨rfl, hb⟩
      have HB3 : Hid (BkS W0 W3) := bel_call HB2.out hb
      clear hb HC HB2
      obtain ⟨ra, hg, -⟩ := HBt.out W3 HB3.out
      have a0 := ra.cell (k := 0) rfl
      have a1 := ra.cell (k := 1) rfl
      have a2 := ra.cell (k := 2) rfl
      have a3 := ra.cell (k := 3) rfl
      have HC := hid_of (checkR_c W3 hg HF.out)
      rw [chk_ok hok] at HC
      clear ra hg
      go_wp2_with fail
      clear a0 a1 a2 a3
      refine HC.out.mono ?_
      rintro e W4 ⟨rfl, hb⟩
      have HB4 : Hid (BkS W0 W4) := bel_call HB3.out hb
      clear hb HC HB3
      obtain ⟨ra, hg, -⟩ := HBt.out W4 HB4.out
      have a0 := ra.cell (k := 0) rfl
      have a1 := ra.cell (k := 1) rfl
      have a2 := ra.cell (k := 2) rfl
      have a3 := ra.cell (k := 3) rfl
      have HC := hid_of (color_ok W4 hg hok HF.out)
      clear ra hg
      go_wp2_with fail
      clear a0 a1 a2 a3
      refine HC.out.mono ?_
      rintro e W5 ⟨kb, rfl, hkb, hcl, hkl, -, hb⟩
      have HB5 : Hid (BkS W0 W5) := bel_call HB4.out hb
      have HCL := hid_of hcl
      clear hb HC HB4
      clear hcl hkb
      obtain ⟨ra, hg, -⟩ := HBt.out W5 HB5.out
      have a0 := ra.cell (k := 0) rfl
      have a1 := ra.cell (k := 1) rfl
      have a2 := ra.cell (k := 2) rfl
      have a3 := ra.cell (k := 3) rfl
      have HC := hid_of (sureR_c W5 hg HF.out)
      rw [Hsb.out] at HC
      clear ra hg
      go_wp2_with fail
      clear a0 a1 a2 a3
      refine HC.out.mono ?_
      rintro e W6 ⟨rfl, hb⟩
      have HB6 : Hid (BkS W0 W6) := bel_call HB5.out hb
      have HCL6 := hid_of (HCL.out.keep (p' := (· < W6.heap.size)) (fun b hb2 hlt => ⟨by have := Below.size hb; rw [hb2]; omega, hb.block b hlt⟩))
      clear hb HC HB5
      clear HCL hkl
      have HNu := num_c W6 0
      go_wp2_with fail
      refine HNu.mono ?_
      rintro e U ⟨rfl, rfl⟩
      clear HNu
      have HNu := num_c U 0
      go_wp2_with fail
      refine HNu.mono ?_
      rintro e U ⟨rfl, rfl⟩
      clear HNu
      obtain ⟨ra, hg, -⟩ := HBt.out U HB6.out
      have a0 := ra.cell (k := 0) rfl
      have a1 := ra.cell (k := 1) rfl
      have a2 := ra.cell (k := 2) rfl
      have a3 := ra.cell (k := 3) rfl
      have HC := hid_of (sure_c U hg HF.out)
      rw [Hsb.out] at HC
      clear ra hg
      go_wp2_with fail
      clear a0 a1 a2 a3
      refine HC.out.mono ?_
      rintro e W7 ⟨rfl, hb⟩
      have HB7 : Hid (BkS W0 W7) := bel_call HB6.out hb
      have HCL7 := hid_of (HCL6.out.keep (p' := (· < W7.heap.size)) (fun b hb2 hlt => ⟨by have := Below.size hb; omega, hb.block b hlt⟩))
      clear hb HC HB6 HCL6
      obtain ⟨ra, hg, -⟩ := HBt.out W7 HB7.out
      have a0 := ra.cell (k := 0) rfl
      have a1 := ra.cell (k := 1) rfl
      have a2 := ra.cell (k := 2) rfl
      have a3 := ra.cell (k := 3) rfl
      have HC := hid_of (good_c W7 hg hok HF.out HCL7.out (colS_good hok))
      clear ra hg
      cases sb with
      | false =>
        go_wp2_with fail
        refine HC.out.mono ?_
        rintro e W8 ⟨rfl, hb⟩
        have HB8 : Hid (BkS W0 W8) := bel_call HB7.out hb
        clear a0 a1 a2 a3
        go_wp2_with fail
        go_ret
        exact ⟨rfl, (HBt.out W8 HB8.out).2.2⟩
      | true =>
        have hsu : sureS G = true := by have := Hsb.out; unfold sureB at this; rw [if_pos hok] at this; exact this
        have HNO : Hid (inS (colS G) (-1) = false) := by show _ = _; rw [inS_dec]; exact decide_eq_false (sure_no hok hsu)
        clear hsu
        go_wp2_with fail
        refine HC.out.mono ?_
        rintro e W8 ⟨rfl, hb⟩
        have HB8 : Hid (BkS W0 W8) := bel_call HB7.out hb
        have HIn := hid_of (in_c (n := -1) W8 (HCL7.out.keep (p' := fun _ => True) (fun b _ hlt => ⟨trivial, hb.block b hlt⟩)))
        rw [HNO.out] at HIn
        clear a0 a1 a2 a3
        go_wp2_with fail
        refine HIn.out.mono ?_
        rintro e U2 ⟨rfl, rfl⟩
        go_wp2_with fail
        go_ret
        exact ⟨rfl, (HBt.out U2 HB8.out).2.2⟩
    · have HSn : Hid (sureB G = false) := by show _ = _; unfold sureB; rw [if_neg hok]
      obtain ⟨ra, hg, -⟩ := HBt.out W2 HB2.out
      have a0 := ra.cell (k := 0) rfl
      have a1 := ra.cell (k := 1) rfl
      have a2 := ra.cell (k := 2) rfl
      have a3 := ra.cell (k := 3) rfl
      have HC := hid_of (check_c W2 hg HF.out)
      rw [chk_no hok] at HC
      clear ra hg
      go_wp2_with fail
      clear a0 a1 a2 a3
      refine HC.out.mono ?_
      rintro e W3 ⟨rfl, hb⟩
      have HB3 : Hid (BkS W0 W3) := bel_call HB2.out hb
      clear hb HC HB2
      obtain ⟨ra, hg, -⟩ := HBt.out W3 HB3.out
      have a0 := ra.cell (k := 0) rfl
      have a1 := ra.cell (k := 1) rfl
      have a2 := ra.cell (k := 2) rfl
      have a3 := ra.cell (k := 3) rfl
      have HC := hid_of (checkR_c W3 hg HF.out)
      rw [chk_no hok] at HC
      clear ra hg
      go_wp2_with fail
      clear a0 a1 a2 a3
      refine HC.out.mono ?_
      rintro e W4 ⟨rfl, hb⟩
      have HB4 : Hid (BkS W0 W4) := bel_call HB3.out hb
      clear hb HC HB3
      obtain ⟨ra, hg, -⟩ := HBt.out W4 HB4.out
      have a0 := ra.cell (k := 0) rfl
      have a1 := ra.cell (k := 1) rfl
      have a2 := ra.cell (k := 2) rfl
      have a3 := ra.cell (k := 3) rfl
      have HC := hid_of (color_c W4 hg HF.out)
      clear ra hg
      go_wp2_with fail
      clear a0 a1 a2 a3
      refine HC.out.mono ?_
      rintro e W5 ⟨hb, hc⟩
      have HB5 : Hid (BkS W0 W5) := bel_call HB4.out hb
      obtain ⟨-, rfl⟩ := hc.resolve_right (fun h => hok h.1)
      clear hb HC HB4
      obtain ⟨ra, hg, -⟩ := HBt.out W5 HB5.out
      have a0 := ra.cell (k := 0) rfl
      have a1 := ra.cell (k := 1) rfl
      have a2 := ra.cell (k := 2) rfl
      have a3 := ra.cell (k := 3) rfl
      have HC := hid_of (sureR_c W5 hg HF.out)
      rw [HSn.out] at HC
      clear ra hg
      go_wp2_with fail
      clear a0 a1 a2 a3
      refine HC.out.mono ?_
      rintro e W6 ⟨rfl, hb⟩
      have HB6 : Hid (BkS W0 W6) := bel_call HB5.out hb
      clear hb HC HB5
      have HNu := num_c W6 1
      go_wp2_with fail
      refine HNu.mono ?_
      rintro e U ⟨rfl, rfl⟩
      clear HNu
      have HNu := num_c U 1
      go_wp2_with fail
      refine HNu.mono ?_
      rintro e U ⟨rfl, rfl⟩
      clear HNu
      obtain ⟨ra, hg, -⟩ := HBt.out U HB6.out
      have a0 := ra.cell (k := 0) rfl
      have a1 := ra.cell (k := 1) rfl
      have a2 := ra.cell (k := 2) rfl
      have a3 := ra.cell (k := 3) rfl
      have HC := hid_of (sure_c U hg HF.out)
      rw [HSn.out] at HC
      clear ra hg
      go_wp2_with fail
      clear a0 a1 a2 a3
      refine HC.out.mono ?_
      rintro e W7 ⟨rfl, hb⟩
      have HB7 : Hid (BkS W0 W7) := bel_call HB6.out hb
      go_wp2_with fail
      go_ret
      exact ⟨rfl, (HBt.out W7 HB7.out).2.2⟩
end Go.Proofs.Ytinbfnabngdemaa
