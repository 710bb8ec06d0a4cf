/- 'ColorTwice' walked: it returns true. -/
import Derived.Test.YtinbfnabngdemaaCwH
import Derived.Test.YtinbfnabngdemaaCwB
import Derived.Test.YtinbfnabngdemaaCrC
namespace Go.Proofs.Ytinbfnabngdemaa
open Go.RowKit

theorem wp_appPr {ops : Array Oper} {rest : List Oper} {o : Oper} {a : Act} {Q : Exit → Act → World → Prop} {W : World} {p : Nat → Prop}
    (hgd : o.guard = none) (s x : Operand) (hop : o.op = .call { callee := .builtin .append, args := #[s, x], argTypes := #[22, 22] })
    (base : Nat) (v : Value) (zs : List (Int × Int)) (hs : a.eval s = v) (hown : W.ownsRow base 37 2 v zs.length (prs zs)) {sa : Option Addr} {yn cap : Nat} (ys : List (Int × Int)) (hyn : yn = ys.length) (hx : a.eval x = .slice sa yn cap) (hp : IsPairs p W (.slice sa yn cap) ys)
    (hl : zs.length + ys.length ≤ 1000000) (hb : base ≤ W.heap.size)
    (h : ∀ v' w', w'.ownsRow base 37 2 v' (zs ++ ys).length (prs (zs ++ ys)) → W.grownBy w' v.ownBlock → wpList Try.prog ops Q rest (a.put o.dst v') w') :
    wpList Try.prog ops Q (o :: rest) a W := by
  refine wpList_plain hgd fun K hK => ?_
  have := step_app_pairs (ops := #[]) (E := True) (K := K) (Q := Q) hgd s x hop base v zs hs hown ys hyn hx hp hl hb (fun v' w' h1 h2 => hK _ _ (h v' w' h1 h2))
  rwa [if_pos (by simp [Region.wanted, hgd])] at this

theorem run_eq_pair (w : World) (a b : Int) : (Op.equalIn 10000 37 (.agg #[.int .i64 a, .int .i64 b]) (.agg #[.int .i64 a, .int .i64 b])).run Try.prog w = .ok true w := by
  obtain ⟨i0, hi, -, -, -⟩ := info_parts infoInt
  have hc : Try.prog.cellsOf 3 = 1 := by kernel_rfl
  have hp : ∀ (xs : Array Value) (j : Nat) (v : Value), xs[j]? = some v → (part 3 xs j).run Try.prog w = .ok v w := fun xs j v h => by
    unfold part isAgg
    simp [Sem.run_bind, run_underlying Try.underlying3, Result.andThen_ok, h]
  rw [run_equalIn_array w 9999 _ _ Try.underlying37 hi, hc]
  have he : ∀ x : Int, (Op.equalIn 9999 3 (.int .i64 x) (.int .i64 x)).run Try.prog w = .ok true w := fun x => by
    rw [run_equalIn_int w 9998 3 .i64 .i64 x x Try.underlying3]; simp
  have p0 := hp #[.int .i64 a, .int .i64 b] 0 (.int .i64 a) rfl
  have p1 := hp #[.int .i64 a, .int .i64 b] 1 (.int .i64 b) rfl
  show (Op.eqItems 9999 3 1 _ _ [0, 1]).run Try.prog w = _
  simp only [Op.eqItems, Sem.run_bind, Nat.zero_mul, Nat.one_mul, p0, p1, Result.andThen_ok, he, Bool.not_true, Bool.false_eq_true, if_false, Sem.run_pure]
set_option maxRecDepth 100000 in
set_option maxHeartbeats 8000000 in
theorem colorTwice_c (w : World) {ea ma aa la ea2 ma2 aa2 la2 : Option Addr} {en ec mn mc n ac ln lc en2 ec2 mn2 mc2 n2 ac2 ln2 lc2 : Nat} {G H : GD} (h : IsGr (· < w.heap.size) w ⟨ea, en, ec, ma, mn, mc, aa, n, ac, la, ln, lc⟩ G) (h2 : IsGr (· < w.heap.size) w ⟨ea2, en2, ec2, ma2, mn2, mc2, aa2, n2, ac2, la2, ln2, lc2⟩ H) :
    Calls Try.prog 4 #[.agg #[.slice ea en ec, .slice ma mn mc, .slice aa n ac, .slice la ln lc], .agg #[.slice ea2 en2 ec2, .slice ma2 mn2 mc2, .slice aa2 n2 ac2, .slice la2 ln2 lc2]] w fun e w' => e = .returned (.bool true) ∧ Below w.heap.size w w' := by
  have HG := hid_of h
  have HH := hid_of h2
  have hec := (sl_len h.e).2.1
  dsimp only at hec
  clear h h2
  go_enter Try.func4, Try.ntmps4
  go_upto_region 1 with fail
  refine wp_at (fun Y => Row Y w.heap.size 25 [.slice ea en ec, .slice ma mn mc, .slice aa n ac, .slice la ln lc] ∧ Row Y (w.heap.size + 1) 25 [.slice ea2 en2 ec2, .slice ma2 mn2 mc2, .slice aa2 n2 ac2, .slice la2 ln2 lc2] ∧ Below w.heap.size w Y) ⟨(show Row (w.alloc (.cells #[.slice ea en ec, .slice ma mn mc, .slice aa n ac, .slice la ln lc] 25)) w.heap.size 25 [.slice ea en ec, .slice ma mn mc, .slice aa n ac, .slice la ln lc] from heap_alloc_eq _ _ _ rfl).keep (Below.heap_alloc _ _ _ (by simp)), heap_alloc_eq _ _ _ (by simp), bel_alloc (bel_alloc (bel_refl w) _) _⟩ ?_
  rintro Y ⟨ra, rb, hY⟩
  have HB0 : Hid (Row Y w.heap.size 25 [.slice ea en ec, .slice ma mn mc, .slice aa n ac, .slice la ln lc] ∧ Row Y (w.heap.size + 1) 25 [.slice ea2 en2 ec2, .slice ma2 mn2 mc2, .slice aa2 n2 ac2, .slice la2 ln2 lc2] ∧ Below w.heap.size w Y) := ⟨ra, rb, hY⟩
  have HBt : Hid (∀ U, BkS Y U → Row U w.heap.size 25 [.slice ea en ec, .slice ma mn mc, .slice aa n ac, .slice la ln lc] ∧ Row U (w.heap.size + 1) 25 [.slice ea2 en2 ec2, .slice ma2 mn2 mc2, .slice aa2 n2 ac2, .slice la2 ln2 lc2] ∧ IsGr (· < U.heap.size) U ⟨ea, en, ec, ma, mn, mc, aa, n, ac, la, ln, lc⟩ G ∧ IsGr (· < U.heap.size) U ⟨ea2, en2, ec2, ma2, mn2, mc2, aa2, n2, ac2, la2, ln2, lc2⟩ H ∧ Below w.heap.size w U) := fun U hU => by
    have hwU : Below w.heap.size w U := bel_call hY hU
    exact ⟨ra.keep (hU.block _ ra.lt), rb.keep (hU.block _ rb.lt), gr_keep HG.out hwU, gr_keep HH.out hwU, hwU⟩
  clear ra rb hY HB0
  go_wp2_with fail
  refine (alive_c Y).mono ?_
  rintro e W1 ⟨rfl, hb1⟩
  obtain ⟨ra, rb, hg1, hh1, hw1⟩ := HBt.out W1 hb1
  have a0 := ra.cell (k := 0) rfl
  have a1 := ra.cell (k := 1) rfl
  have a2 := ra.cell (k := 2) rfl
  have a3 := ra.cell (k := 3) rfl
  have HBg := hid_of (big_c W1 hg1)
  have HB1 : Hid (BkS Y W1) := hb1
  clear ra rb hg1 hh1 hw1 hb1
  go_wp2_with fail
  refine HBg.out.mono ?_
  rintro e W2 ⟨⟨bg, rfl, hfg⟩, hb2⟩
  have HFg := hid_of hfg
  have HB2 : Hid (BkS Y W2) := bel_call HB1.out hb2
  clear a0 a1 a2 a3 hb2 hfg HBg HB1
  cases bg with
  | true =>
    go_wp2_with fail
    go_ret
    exact ⟨rfl, (HBt.out W2 HB2.out).2.2.2.2⟩
  | false =>
    have hFG := HFg.out rfl
    obtain ⟨ra, rb, hg1, hh1, hw1⟩ := HBt.out W2 HB2.out
    have a0 := rb.cell (k := 0) rfl
    have a1 := rb.cell (k := 1) rfl
    have a2 := rb.cell (k := 2) rfl
    have a3 := rb.cell (k := 3) rfl
    have HBg := hid_of (big_c W2 hh1)
    have HFG := hid_of hFG
    clear ra rb hg1 hh1 hw1 HFg hFG
    go_wp2_with fail
    refine HBg.out.mono ?_
    rintro e W3 ⟨⟨bh, rfl, hfh⟩, hb3⟩
    have HFh := hid_of hfh
    have HB3 : Hid (BkS Y W3) := bel_call HB2.out hb3
    clear a0 a1 a2 a3 hb3 hfh HBg HB2
    cases bh with
    | true =>
      go_wp2_with fail
      go_ret
      exact ⟨rfl, (HBt.out W3 HB3.out).2.2.2.2⟩
    | false =>
      have HFH := hid_of (HFh.out rfl)
      obtain ⟨ra, rb, hg1, hh1, hw1⟩ := HBt.out W3 HB3.out
      have a0 := ra.cell (k := 0) rfl
      have a1 := ra.cell (k := 1) rfl
      have a2 := ra.cell (k := 2) rfl
      have a3 := ra.cell (k := 3) rfl
      have HCk := hid_of (checkR_c W3 hg1 HFG.out)
      clear ra rb hg1 hh1 hw1 HFh
      by_cases hok : OkG G
      · rw [chk_ok hok] at HCk
        have hcs := hid_of (chk_ok hok)
        go_wp2_with fail
        refine HCk.out.mono ?_
        rintro e W4 ⟨rfl, hb4⟩
        have HB4 : Hid (BkS Y W4) := bel_call HB3.out hb4
        obtain ⟨ra, rb, hg1, hh1, hw1⟩ := HBt.out W4 HB4.out
        have HL : Hid (en = G.E.length) := (sl_len hg1.e).1
        have hen15 : en ≤ 1500 := by rw [HL.out]; exact HFG.out.e
        have HPr := hid_of hg1.e
        have hle : ([] : List (Int × Int)).length + G.E.length ≤ 1000000 := by have := HFG.out.e; simp; omega
        clear a0 a1 a2 a3 hb4 HCk HB3
        have a0 := ra.cell (k := 0) rfl
        have HLE := hid_of hle
        clear ra rb hg1 hh1 hw1 hle
        go_wp2_with (at_builtin; refine stop_here ?_)
        refine stop_go (wp_appPr rfl _ _ rfl W4.heap.size (.slice none 0 0) [] rfl (World.ownsRow_nil _ _ _ _) G.E HL.out rfl HPr.out HLE.out (Nat.le_refl _) ?_)
        intro v5 W5 ho5 hg5
        rw [List.nil_append, ← HL.out] at ho5
        obtain ⟨oa, oc, rfl, hoa⟩ := owns_slice ho5
        have hoc : en ≤ oc := by
          rcases ho5.2 with ⟨e, h⟩ | ⟨g, cap', cur, e, _, _, h, _⟩
          · omega
          · simp at e; omega
        have hb5 : BkS W4 W5 := ⟨hg5.os, hg5.tape, hg5.output, hg5.size, fun b hb => hg5.block b hb (by simp [Value.ownBlock])⟩
        have HB5 : Hid (BkS Y W5) := bel_call HB4.out hb5
        obtain ⟨ra, rb, hg1, hh1, hw1⟩ := HBt.out W5 HB5.out
        clear a0
        have a0 := ra.cell (k := 0) rfl
        have a1 := ra.cell (k := 1) rfl
        have a2 := ra.cell (k := 2) rfl
        have a3 := ra.cell (k := 3) rfl
        have HO5 := hid_of ho5
        have HOA := hid_of hoa
        have HCo := hid_of (color_ok W5 hg1 hok HFG.out)
        clear ra rb hg1 hh1 hw1 ho5 hg5 hoa hb5 HPr HLE HB4
        go_wp2_with fail
        refine HCo.out.mono ?_
        rintro e W6 ⟨k1, rfl, hk1, hcl1, hkl1, hrow1, hb6⟩
        have HB6 : Hid (BkS Y W6) := bel_call HB5.out hb6
        have HO6 := hid_of (owns_below HO5.out hb6)
        have HR6 := hid_of hcl1
        obtain ⟨ra, rb, hg1, hh1, hw1⟩ := HBt.out W6 HB6.out
        clear a0 a1 a2 a3
        have a0 := rb.cell (k := 0) rfl
        have a1 := rb.cell (k := 1) rfl
        have a2 := rb.cell (k := 2) rfl
        have a3 := rb.cell (k := 3) rfl
        have HCo2 := hid_of (color_c W6 hh1 HFH.out)
        have hnH : n2 = H.A.length := (sl_len hh1.a).1
        have HNH := hid_of hnH
        have hnb : n2 ≤ 100 := by rw [hnH]; exact HFH.out.n
        clear ra rb hg1 hh1 hw1 hk1 hcl1 hrow1 hb6 HCo HO5 HB5 hnH
        go_wp2_with fail
        refine HCo2.out.mono ?_
        rintro e W7 ⟨hb7, hc7⟩
        have hS : ∃ (ba : Option Addr) (bn bc : Nat) (x : Int), e = .returned (.tuple #[.slice ba bn bc, .int .i64 x]) ∧ bn ≤ bc ∧ bn ≤ 100 ∧ (0 < bn → ∃ kb, ba = some ⟨kb, 0, none⟩ ∧ W6.heap.size ≤ kb ∧ ∃ vs : List Value, vs.length = bn ∧ Row W7 kb 3 vs) := by
          rcases hc7 with ⟨-, rfl⟩ | ⟨-, kb, hkb, rfl, hrow⟩
          · exact ⟨none, 0, 0, 1, rfl, by omega, by omega, fun h => by omega⟩
          · exact ⟨_, n2, n2, 0, rfl, Nat.le_refl _, hnb, fun _ => ⟨kb, rfl, hkb, _, by simp [ints, colS_length, HNH.out], hrow⟩⟩
        obtain ⟨ba, bn, bc, x, rfl, hbc, hb100, hbr⟩ := hS
        have HJ0 : Hid (Below W6.heap.size W6 W7 ∧ (0 < bn → ∃ kb, ba = some ⟨kb, 0, none⟩ ∧ W6.heap.size ≤ kb ∧ ∃ vs : List Value, vs.length = bn ∧ Row W7 kb 3 vs)) := ⟨hb7, hbr⟩
        clear hb7 hc7 hbr HCo2 HNH a0 a1 a2 a3
        go_wp2_with fail
        go_loopw [12] (fun s12 wx => ∃ i : Nat, i ≤ bn ∧ s12 = .int .i64 i ∧ Hid (Below W6.heap.size W6 wx ∧ (0 < bn → ∃ kb, ba = some ⟨kb, 0, none⟩ ∧ W6.heap.size ≤ kb ∧ ∃ vs : List Value, vs.length = bn ∧ Row wx kb 3 vs))) (fun s12 _ => bn - (intOf s12).toNat)
        case atStart => exact ⟨0, by omega, rfl, HJ0⟩
        case round =>
          obtain ⟨i, hi, rfl, HJ⟩ := hrel
          clear HJ0
          by_cases hlt : i < bn
          · obtain ⟨hbl, hbr⟩ := HJ.out
            obtain ⟨kb, rfl, hkb, vs, hvl, hrow⟩ := hbr (by omega)
            have hiv : i < vs.length := by omega
            obtain ⟨v0, hv0⟩ : ∃ v0, vs[i] = v0 := ⟨_, rfl⟩
            have ck : wr.cell? ⟨kb, i, none⟩ = some v0 := hrow.cell (by rw [← hv0]; simp [hiv])
            have fk := hrow.frozen i
            have HJ2 : Hid (Below W6.heap.size W6 (wr.setCell ⟨kb, i, none⟩ (.int .i64 (-7))) ∧ (0 < bn → ∃ kb', (some ⟨kb, 0, none⟩ : Option Addr) = some ⟨kb', 0, none⟩ ∧ W6.heap.size ≤ kb' ∧ ∃ vs : List Value, vs.length = bn ∧ Row (wr.setCell ⟨kb, i, none⟩ (.int .i64 (-7))) kb' 3 vs)) :=
              ⟨hbl.setCell hkb _, fun _ => ⟨kb, rfl, hkb, _, by simpa using hvl, hrow.set i (.int .i64 (-7))⟩⟩
            have hiz : (i : Int) < (bn : Int) := by omega
            clear hbl hbr hv0 hrow HJ hiv
            go_wp2_with fail
            go_roundw
            case rel => exact ⟨i + 1, by omega, by go_num, HJ2⟩
            case measure => simp [intOf]; omega
          · obtain rfl : bn = i := by omega
            have hb8 := HJ.out.1
            have HB8 : Hid (BkS Y wr) := bel_call HB6.out hb8
            have HO8 := hid_of (owns_below HO6.out hb8)
            have HR8 := hid_of (HR6.out.keep (p' := (· < wr.heap.size)) (fun b hb hlt => ⟨by have := hb8.size; rw [hb]; omega, hb8.block b hlt⟩))
            obtain ⟨ra, rb, hg1, hh1, hw1⟩ := HBt.out wr HB8.out
            have a0 := ra.cell (k := 0) rfl
            have a1 := ra.cell (k := 1) rfl
            have a2 := ra.cell (k := 2) rfl
            have a3 := ra.cell (k := 3) rfl
            have HCo := hid_of (color_ok wr hg1 hok HFG.out)
            clear ra rb hg1 hh1 hw1 hb8 HJ HO6 HR6 HB6
            go_wp2_with fail
            refine HCo.out.mono ?_
            rintro e W9 ⟨k3, rfl, hk3, hcl3, hkl3, hrow3, hb9⟩
            have HB9 : Hid (BkS Y W9) := bel_call HB8.out hb9
            have HO9 := hid_of (owns_below HO8.out hb9)
            have HR9 := hid_of (HR8.out.keep (p' := fun _ => True) (fun b hb hlt => ⟨trivial, hb9.block b hlt⟩))
            have HR3 := hid_of hcl3
            obtain ⟨ra, rb, hg1, hh1, hw1⟩ := HBt.out W9 HB9.out
            clear a0 a1 a2 a3
            have a0 := ra.cell (k := 0) rfl
            have a1 := ra.cell (k := 1) rfl
            have a2 := ra.cell (k := 2) rfl
            have a3 := ra.cell (k := 3) rfl
            have HGE := hid_of hg1.e
            clear ra rb hg1 hh1 hw1 hb9 hk3 hcl3 hrow3 HCo HO8 HR8 HB8
            go_wp2_with fail
            go_loopw [15] (fun s15 wx => ∃ i : Nat, i ≤ en ∧ s15 = .int .i64 i ∧ ∃ q, wx = W9.drewN q) (fun s15 _ => en - (intOf s15).toNat)
            case atStart => exact ⟨0, by omega, rfl, 0, rfl⟩
            case round =>
              obtain ⟨i, hi, rfl, hq⟩ := hrel
              have hwr : ∀ a, wr.cell? a = W9.cell? a := by obtain ⟨q, rfl⟩ := hq; exact fun _ => rfl
              have HQ := hid_of hq
              by_cases hlt : i < en
              · have hiE : i < G.E.length := by rw [← HL.out]; exact hlt
                obtain ⟨og, rfl⟩ := HOA.out (by omega)
                obtain ⟨o1, o2⟩ := prs_cells HO9.out HL.out hiE
                obtain ⟨eb, eo, rfl, -, hcc⟩ := sl_at HGE.out (by omega)
                obtain ⟨c1, c2⟩ := hcc i hiE
                obtain ⟨x, Hx⟩ : ∃ x, Hid (G.E[i].1 = x) := ⟨_, (rfl : G.E[i].1 = _)⟩
                obtain ⟨y, Hy⟩ : ∃ x, Hid (G.E[i].2 = x) := ⟨_, (rfl : G.E[i].2 = _)⟩
                rw [Hx.out] at c1 o1
                rw [Hy.out] at c2 o2
                have c1 := (hwr _).trans c1
                have c2 := (hwr _).trans c2
                have o1 := (hwr _).trans o1
                have o2 := (hwr _).trans o2
                have b0 := (hwr _).trans a0
                have hiz : (i : Int) < (en : Int) := by omega
                have heq := fun W => run_eq_pair W x y
                clear hcc hwr hq Hx Hy hiE
                go_wp2_with fail
                go_quiet (fail)
                all_goals
                  go_wp2_with fail
                  go_roundw
                all_goals first | exact ⟨i + 1, by omega, by go_num, by obtain ⟨q, rfl⟩ := HQ.out; exact ⟨_, World.drewN_drewN _ _ _⟩⟩ | (simp [intOf]; omega)
              · obtain rfl : en = i := by omega
                have hBw : BkS Y wr := by obtain ⟨q, rfl⟩ := hq; exact bel_drewN HB9.out q
                have hk1 : IsInts (fun _ => True) wr (.slice (some ⟨k1, 0, none⟩) n n) (colS G) := by obtain ⟨q, rfl⟩ := hq; exact HR9.out.keep (fun _ _ _ => ⟨trivial, rfl⟩)
                have hk3 : IsInts (fun _ => True) wr (.slice (some ⟨k3, 0, none⟩) n n) (colS G) := by obtain ⟨q, rfl⟩ := hq; exact HR3.out.keep (fun _ _ _ => ⟨trivial, rfl⟩)
                have HSm := hid_of (sameInts_c wr hk1 hk3)
                rw [show sameS (colS G) (colS G) = true by simp [sameS]] at HSm
                have HBw := hid_of hBw
                clear hk1 hk3 hBw hq hwr a0 a1 a2 a3
                go_wp2_with fail
                refine HSm.out.mono ?_
                rintro e W10 ⟨rfl, q, rfl⟩
                have HB10 : Hid (BkS Y (wr.drewN q)) := bel_drewN HBw.out q
                obtain ⟨ra, rb, hg1, hh1, hw1⟩ := HBt.out _ HB10.out
                have a0 := ra.cell (k := 0) rfl
                have a1 := ra.cell (k := 1) rfl
                have a2 := ra.cell (k := 2) rfl
                have a3 := ra.cell (k := 3) rfl
                have HCk := hid_of (checkR_c _ hg1 HFG.out)
                rw [hcs.out] at HCk
                clear ra rb hg1 hh1 hw1 HSm
                go_wp2_with fail
                refine HCk.out.mono ?_
                rintro e W11 ⟨rfl, hb11⟩
                have HB11 : Hid (BkS Y W11) := bel_call HB10.out hb11
                clear hb11
                go_wp2_with fail
                go_ret
                exact ⟨rfl, (HBt.out W11 HB11.out).2.2.2.2⟩
      · rw [chk_no hok] at HCk
        go_wp2_with fail
        refine HCk.out.mono ?_
        rintro e W4 ⟨rfl, hb4⟩
        have HB4 : Hid (BkS Y W4) := bel_call HB3.out hb4
        go_wp2_with fail
        go_ret
        exact ⟨rfl, (HBt.out W4 HB4.out).2.2.2.2⟩
end Go.Proofs.Ytinbfnabngdemaa
