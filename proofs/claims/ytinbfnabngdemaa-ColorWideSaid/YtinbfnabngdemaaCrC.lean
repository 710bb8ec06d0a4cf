/- The reference's 'Check'. -/
import Derived.Test.YtinbfnabngdemaaCrA
import Derived.Test.YtinbfnabngdemaaCrP
import Derived.Test.YtinbfnabngdemaaCnD
import Derived.Deep.RegionLaw
namespace Go.Proofs.Ytinbfnabngdemaa
open Go.RowKit

def okP (G : GD) (i : Nat) : Prop := ∀ q ∈ (G.E ++ G.M).take i, EndP q G.A.length
theorem okP_step {G : GD} {i : Nat} (h : i < (G.E ++ G.M).length) : okP G (i + 1) ↔ okP G i ∧ EndP (G.E ++ G.M)[i] G.A.length := by
  unfold okP
  rw [List.take_succ_eq_append_getElem h]
  constructor
  · intro hh
    exact ⟨fun q hq => hh q (List.mem_append_left _ hq), hh _ (List.mem_append_right _ (List.mem_singleton.2 rfl))⟩
  · rintro ⟨h1, h2⟩ q hq
    rcases List.mem_append.1 hq with hq | hq
    · exact h1 q hq
    · rw [List.mem_singleton.1 hq]; exact h2
theorem okP_all (G : GD) : okP G (G.E ++ G.M).length → okE G := fun h => by
  unfold okP at h
  rw [List.take_length] at h
  exact ⟨fun q hq => h q (List.mem_append_left _ hq), fun q hq => h q (List.mem_append_right _ hq)⟩
theorem okP_of {G : GD} (h : OkG G) (i : Nat) : okP G i := fun q hq => by
  rcases List.mem_append.1 (List.mem_of_mem_take hq) with hq | hq
  · exact h.e q hq
  · exact h.m q hq
theorem okP_no {G : GD} {i : Nat} (h : i < (G.E ++ G.M).length) (hn : ¬ EndP (G.E ++ G.M)[i] G.A.length) : chkS G = 1 := chk_no fun ho => hn ((okP_step h).1 (okP_of ho (i + 1))).2
theorem okA_step' {G : GD} {k : Nat} (h : k < G.A.length) : okA G (k + 1) ↔ okA G k ∧ RisP G.A[k] G.Lp.length := by
  unfold okA
  rw [List.take_succ_eq_append_getElem h]
  constructor
  · rintro ⟨h1, h2⟩
    exact ⟨⟨h1, fun l hl => h2 l (List.mem_append_left _ hl)⟩, h2 _ (List.mem_append_right _ (List.mem_singleton.2 rfl))⟩
  · rintro ⟨⟨h1, h2⟩, h3⟩
    refine ⟨h1, fun l hl => ?_⟩
    rcases List.mem_append.1 hl with hl | hl
    · exact h2 l hl
    · rw [List.mem_singleton.1 hl]; exact h3

set_option maxRecDepth 100000 in
set_option maxHeartbeats 8000000 in
theorem checkR_c (w : World) {ea ma aa la : Option Addr} {en ec mn mc an ac ln lc : Nat} {G : GD} (h : IsGr (· < w.heap.size) w ⟨ea, en, ec, ma, mn, mc, aa, an, ac, la, ln, lc⟩ G) (hF : Few G) :
    Calls Try.prog 13 #[.agg #[.slice ea en ec, .slice ma mn mc, .slice aa an ac, .slice la ln lc]] w fun e w' => e = .returned (.int .i64 (chkS G)) ∧ Below w.heap.size w w' := by
  obtain ⟨he, hm, ha, hl⟩ := h.lens
  dsimp only at he hm ha hl
  have hac := (sl_len h.a).2.1
  have hlc := (sl_len h.l).2.1
  have hec := (sl_len h.e).2.1
  have hmc := (sl_len h.m).2.1
  dsimp only at hac hlc hec hmc
  have hen : en ≤ 1500 := by rw [he]; exact hF.e
  have hmn : mn ≤ 1500 := by rw [hm]; exact hF.m
  have han : an ≤ 100 := by rw [ha]; exact hF.n
  have hln : ln ≤ 60 := by rw [hl]; exact hF.k
  have HH := hid_of h
  have HL := hid_of (And.intro he (And.intro hm (And.intro ha hl)))
  clear he hm ha hl h
  go_enter Try.func13, Try.ntmps13
  have d1 : decide ((an : Int) > 2000) = false := by simp; omega
  have d1' : decide (2000 < (an : Int)) = false := by simp; omega
  have d2 : decide ((ln : Int) > 300) = false := by simp; omega
  have d2' : decide (300 < (ln : Int)) = false := by simp; omega
  have d3 : decide ((en : Int) > 100000) = false := by simp; omega
  have d3' : decide (100000 < (en : Int)) = false := by simp; omega
  have d4 : decide ((mn : Int) > 10000) = false := by simp; omega
  have d4' : decide (10000 < (mn : Int)) = false := by simp; omega
  go_upto_region 5 with fail
  refine wp_at (fun X => Row X w.heap.size 25 [.slice ea en ec, .slice ma mn mc, .slice aa an ac, .slice la ln lc] ∧ Below w.heap.size w X) ⟨heap_alloc_eq _ _ _ rfl, bel_alloc (bel_refl w) _⟩ ?_
  rintro X ⟨r0, hX⟩
  clear d1 d1' d2 d2' d3 d3' d4 d4'
  have c0 := r0.cell (k := 0) rfl
  have c1 := r0.cell (k := 1) rfl
  have hlt0 := r0.lt
  have hcM : ∀ Y, BkS X.drew Y → Y.cell? ⟨w.heap.size, 1, none⟩ = some (.slice ma mn mc) := fun Y hY => (cell_of_block (hY.block _ hlt0) 1).trans c1
  have hpE : IsPairs (· < w.heap.size) X.drew (.slice ea en ec) G.E := HH.out.e.keep (fun b hb hlt => ⟨hb, hX.block b hlt⟩)
  have hpM : ∀ Y, BkS X.drew Y → IsPairs (· < w.heap.size) Y (.slice ma mn mc) G.M := fun Y hY => (HH.out.m.keep (p' := (· < w.heap.size)) (w' := Y) (fun b hb hlt => ⟨hb, (hY.block b (by have := hX.size; show b < X.heap.size; omega)).trans (hX.block b hlt)⟩))
  obtain ⟨N, HNN⟩ : ∃ N, Hid (en + mn = N) := ⟨_, (rfl : en + mn = _)⟩
  have hNl : N ≤ 3000 := by rw [← HNN.out]; omega
  go_cut [5] (fun s5 wx => ∃ va vc, s5 = .slice va N vc ∧ Hid (wx.ownsRow X.heap.size 37 2 (.slice va N vc) N (prs (G.E ++ G.M)) ∧ Row wx w.heap.size 25 [.slice ea en ec, .slice ma mn mc, .slice aa an ac, .slice la ln lc] ∧ Below w.heap.size w wx))
  case first =>
    have hfin : ∀ v1 w1 v2 w2, w1.ownsRow X.heap.size 37 2 v1 ([] ++ G.E).length (prs ([] ++ G.E)) → X.drew.grownBy w1 (Value.slice none 0 0).ownBlock → w2.ownsRow X.heap.size 37 2 v2 ([] ++ G.E ++ G.M).length (prs ([] ++ G.E ++ G.M)) → w1.grownBy w2 v1.ownBlock →
        ∃ va vc, v2 = .slice va N vc ∧ Hid (w2.ownsRow X.heap.size 37 2 (.slice va N vc) N (prs (G.E ++ G.M)) ∧ Row w2 w.heap.size 25 [.slice ea en ec, .slice ma mn mc, .slice aa an ac, .slice la ln lc] ∧ Below w.heap.size w w2) := fun v1 w1 v2 w2 h1 g1 h2 g2 => by
      have hl2 : ([] ++ G.E ++ G.M).length = N := by have h1 := HL.out.1; have h2 := HL.out.2.1; have h3 := HNN.out; simp; omega
      rw [hl2] at h2
      obtain ⟨va, vc, rfl, -⟩ := owns_slice h2
      have hb1 : BkS X.drew w1 := ⟨g1.os, g1.tape, g1.output, g1.size, fun b hb => g1.block b hb (by simp [Value.ownBlock])⟩
      have hb2 : BkS X.drew w2 := (show Below X.drew.heap.size X.drew w1 from hb1).grown g2 hb1.size (fun k e => by have := (h1.lt k e).1; exact this)
      have hb3 : BkS X w2 := bel_call (bk_drew (bk_refl X)) hb2
      exact ⟨va, vc, rfl, h2, r0.keep (hb3.block _ hlt0), bel_call hX hb3⟩
    have hle1 : ([] : List (Int × Int)).length + G.E.length ≤ 1000000 := by rw [← HL.out.1]; simp; omega
    have hle2 : ([] ++ G.E).length + G.M.length ≤ 1000000 := by rw [← HL.out.2.1, List.nil_append, ← HL.out.1]; omega
    go_region_law (first
      | (refine step_app_pairs (by rfl) _ _ (by rfl) X.heap.size (.slice none 0 0) [] (by rfl) (World.ownsRow_nil _ _ _ _) G.E HL.out.1 (by rfl) hpE hle1 (Nat.le_refl _) ?_; intro v1 w1 ho1 hg1; have hbw : BkS X.drew w1 := ⟨hg1.os, hg1.tape, hg1.output, hg1.size, fun b hb => hg1.block b hb (by simp [Value.ownBlock])⟩; have c1' := hcM w1 hbw)
      | (refine step_app_pairs (by rfl) _ _ (by rfl) X.heap.size v1 ([] ++ G.E) (by rfl) ho1 G.M HL.out.2.1 (by rfl) (hpM _ hbw) hle2 (by have := hbw.size; exact this) ?_; intro v2 w2 ho2 hg2))
    all_goals (try go_wp2_with fail)
    all_goals go_meet
    all_goals exact hfin _ _ _ _ ho1 hg1 ho2 hg2
  case rest =>
    obtain ⟨va, vc, rfl, HA⟩ := hcut
    have HN : Hid ((G.E ++ G.M).length = N) := by show _ = _; rw [List.length_append, ← HL.out.1, ← HL.out.2.1]; exact HNN.out
    have hvc : N ≤ vc := by
      rcases HA.out.1.2 with ⟨e, h⟩ | ⟨g, cap', cur, e, _, _, h, _⟩
      · omega
      · simp at e; omega
    have HP0 : Hid (okP G 0) := fun q hq => by simp at hq
    have HR : Hid (Row wc w.heap.size 25 [.slice ea en ec, .slice ma mn mc, .slice aa an ac, .slice la ln lc] ∧ Below w.heap.size w wc) := HA.out.2
    clear c0 c1 hlt0 hcM hpE hpM r0 hX
    go_wp2_with fail
    go_loopw [6] (fun s6 wx => ∃ i : Nat, i ≤ N ∧ s6 = .int .i64 i ∧ wx = wc ∧ Hid (okP G i)) (fun s6 _ => N - (intOf s6).toNat)
    case atStart => exact ⟨0, by omega, rfl, rfl, HP0⟩
    case round =>
      obtain ⟨i, hi, rfl, rfl, HP⟩ := hrel
      clear HP0
      by_cases hlt : i < N
      ·
        have hil : i < (G.E ++ G.M).length := by rw [HN.out]; exact hlt
        obtain ⟨va', vc', hve, hvg⟩ := owns_slice HA.out.1
        obtain ⟨g, rfl⟩ := hvg (by omega)
        simp only [Value.slice.injEq, true_and] at hve
        obtain ⟨rfl, -⟩ := hve
        obtain ⟨c1, c2⟩ := prs_cells HA.out.1 HN.out.symm hil
        have hno := fun h => okP_no hil h
        have hst := (okP_step hil).2
        obtain ⟨x, Hx⟩ : ∃ x, Hid ((G.E ++ G.M)[i].1 = x) := ⟨_, (rfl : (G.E ++ G.M)[i].1 = _)⟩
        obtain ⟨y, Hy⟩ : ∃ x, Hid ((G.E ++ G.M)[i].2 = x) := ⟨_, (rfl : (G.E ++ G.M)[i].2 = _)⟩
        rw [Hx.out] at c1
        rw [Hy.out] at c2
        have hep : EndP (G.E ++ G.M)[i] G.A.length ↔ (0 ≤ x ∧ 0 ≤ y ∧ x < (an : Int) ∧ y < (an : Int) ∧ x ≠ y) := by unfold EndP; rw [Hx.out, Hy.out, HL.out.2.2.1]
        have HNo : Hid (¬ (0 ≤ x ∧ 0 ≤ y ∧ x < (an : Int) ∧ y < (an : Int) ∧ x ≠ y) → chkS G = 1) := fun h => hno (fun he => h (hep.1 he))
        have HYe : Hid ((0 ≤ x ∧ 0 ≤ y ∧ x < (an : Int) ∧ y < (an : Int) ∧ x ≠ y) → okP G (i + 1)) := fun h => hst ⟨HP.out, hep.2 h⟩
        have hiz : (i : Int) < (N : Int) := by omega
        clear hno hst hep HP Hx Hy hil
        by_cases h1 : x < 0
        · have e1 : decide (x < 0) = true := by simpa using h1
          have HF := hid_of (HNo.out (by omega))
          clear h1
          go_wp2_with fail
          go_ret
          exact ⟨by rw [HF.out]; rfl, HR.out.2⟩
        have e1 : decide (x < 0) = false := by simpa using h1
        by_cases h2 : y < 0
        · have e2 : decide (y < 0) = true := by simpa using h2
          have HF := hid_of (HNo.out (by omega))
          clear h1 h2
          go_wp2_with fail
          go_ret
          exact ⟨by rw [HF.out]; rfl, HR.out.2⟩
        have e2 : decide (y < 0) = false := by simpa using h2
        by_cases h3 : (an : Int) ≤ x
        · have e3 : decide ((an : Int) ≤ x) = true := by simpa using h3
          have e3' : decide (x ≥ (an : Int)) = true := by simpa using h3
          have HF := hid_of (HNo.out (by omega))
          clear h1 h2 h3
          go_wp2_with fail
          go_ret
          exact ⟨by rw [HF.out]; rfl, HR.out.2⟩
        have e3 : decide ((an : Int) ≤ x) = false := by simpa using h3
        have e3' : decide (x ≥ (an : Int)) = false := by simpa using h3
        by_cases h4 : (an : Int) ≤ y
        · have e4 : decide ((an : Int) ≤ y) = true := by simpa using h4
          have e4' : decide (y ≥ (an : Int)) = true := by simpa using h4
          have HF := hid_of (HNo.out (by omega))
          clear h1 h2 h3 h4
          go_wp2_with fail
          go_ret
          exact ⟨by rw [HF.out]; rfl, HR.out.2⟩
        have e4 : decide ((an : Int) ≤ y) = false := by simpa using h4
        have e4' : decide (y ≥ (an : Int)) = false := by simpa using h4
        by_cases h5 : x = y
        · subst h5
          have HF := hid_of (HNo.out (by omega))
          clear h1 h2 h3 h4
          go_wp2_with fail
          go_ret
          exact ⟨by rw [HF.out]; rfl, HR.out.2⟩
        · have e5 : (x == y) = false := beq_eq_false_iff_ne.2 h5
          have HF := hid_of (HYe.out (by omega))
          clear h1 h2 h3 h4
          go_wp2_with fail
          go_roundw
          case rel => exact ⟨i + 1, by omega, by go_num, trivial, HF⟩
          case measure => simp [intOf]; omega
      · obtain rfl : i = N := by omega
        have HK0 : Hid (okA G 0 ∧ Row wr w.heap.size 25 [.slice ea en ec, .slice ma mn mc, .slice aa an ac, .slice la ln lc] ∧ Below w.heap.size w wr) := ⟨⟨okP_all G (by rw [HN.out]; exact HP.out), fun l hl => by simp at hl⟩, HR.out⟩
        clear HP HA HR HN hvc
        go_wp2_with fail
        go_loopw [9] (fun s9 wx => ∃ k : Nat, k ≤ an ∧ s9 = .int .i64 k ∧ Hid (okA G k ∧ Row wx w.heap.size 25 [.slice ea en ec, .slice ma mn mc, .slice aa an ac, .slice la ln lc] ∧ Below w.heap.size w wx)) (fun s9 _ => an - (intOf s9).toNat)
        case atStart => exact ⟨0, by omega, rfl, HK0⟩
        case round =>
          obtain ⟨k, hk, rfl, HK⟩ := hrel
          clear HK0
          by_cases hlt : k < an
          · have hkA : k < G.A.length := by rw [← HL.out.2.2.1]; exact hlt
            obtain ⟨hok, hrw, hbl⟩ := HK.out
            obtain ⟨ab, ao, rfl, hab, hcc⟩ := sl_at HH.out.a (by omega)
            obtain ⟨u, c1, hu⟩ := hcc k hkA
            rw [Nat.mul_one] at c1
            have c1 := (hbl.cell (p := ⟨ab, ao + k, none⟩) hab).trans c1
            have hu2 := hu.keep (p' := (· < w.heap.size)) (fun b hb hlt => ⟨hb, hbl.block b hlt⟩)
            obtain ⟨ra, rc, rfl, -⟩ := id hu2
            have q2 := hrw.cell (k := 2) rfl
            have HRi := hid_of (risingR_c wr G.Lp.length hu2)
            obtain ⟨m, Hm⟩ : ∃ m, Hid (G.A[k].length = m) := ⟨_, (rfl : G.A[k].length = _)⟩
            obtain ⟨r, Hr⟩ : ∃ r, Hid (decide (RisP G.A[k] G.Lp.length) = r) := ⟨_, (rfl : decide (RisP G.A[k] G.Lp.length) = _)⟩
            rw [Hr.out, Hm.out, ← HL.out.2.2.2] at HRi
            rw [Hm.out] at c1
            have HNo : Hid (r = false → chkS G = 1) := fun h => chk_no fun ho => by
              rw [h] at Hr
              exact of_decide_eq_false Hr.out (ho.a _ (List.getElem_mem hkA))
            have HYe : Hid (r = true → okA G (k + 1)) := fun h => by
              rw [h] at Hr
              exact (okA_step' hkA).2 ⟨hok, of_decide_eq_true Hr.out⟩
            have HRW := hid_of (And.intro hrw hbl)
            have hkz : (k : Int) < (an : Int) := by omega
            clear hok hrw hbl HK hcc hu hu2 Hm Hr hab
            go_wp2_with fail
            refine HRi.out.mono ?_
            rintro e W2 ⟨rfl, q, rfl⟩
            have HRW2 := hid_of (And.intro (HRW.out.1.keep (W' := wr.drewN q) rfl) (bel_drewN HRW.out.2 q))
            cases r with
            | false =>
              have HF := hid_of (HNo.out rfl)
              go_wp2_with fail
              go_ret
              exact ⟨by rw [HF.out]; rfl, HRW2.out.2⟩
            | true =>
              have HF := hid_of (HYe.out rfl)
              go_wp2_with fail
              go_roundw
              case rel => exact ⟨k + 1, by omega, by go_num, HF.out, HRW2.out⟩
              case measure => simp [intOf]; omega
          · obtain rfl : an = k := by omega
            have HM0 : Hid (okL G 0 ∧ Row wr w.heap.size 25 [.slice ea en ec, .slice ma mn mc, .slice aa an ac, .slice la ln lc] ∧ Below w.heap.size w wr) := ⟨⟨by rw [← HL.out.2.2.1]; exact HK.out.1, fun c _ h => by omega⟩, HK.out.2⟩
            clear HK
            go_wp2_with fail
            go_loopw [11] (fun s11 wx => ∃ k : Nat, k ≤ ln ∧ s11 = .int .i64 k ∧ Hid (okL G k ∧ Row wx w.heap.size 25 [.slice ea en ec, .slice ma mn mc, .slice aa an ac, .slice la ln lc] ∧ Below w.heap.size w wx)) (fun s11 _ => ln - (intOf s11).toNat)
            case atStart => exact ⟨0, by omega, rfl, HM0⟩
            case round =>
              obtain ⟨k, hk, rfl, HK⟩ := hrel
              clear HM0
              by_cases hlt : k < ln
              · have hkL : k < G.Lp.length := by rw [← HL.out.2.2.2]; exact hlt
                obtain ⟨hok, hrw, hbl⟩ := HK.out
                obtain ⟨lb, lo, rfl, hab, hcc⟩ := sl_at HH.out.l (by omega)
                obtain ⟨u, c1, hu⟩ := hcc k hkL
                rw [Nat.mul_one] at c1
                have c1 := (hbl.cell (p := ⟨lb, lo + k, none⟩) hab).trans c1
                have hu2 := hu.keep (p' := (· < w.heap.size)) (fun b hb hlt => ⟨hb, hbl.block b hlt⟩)
                obtain ⟨ra, rc, rfl, -⟩ := id hu2
                have q3 := hrw.cell (k := 3) rfl
                have HRi := hid_of (risingR_c wr G.Lp.length hu2)
                have HIn := hid_of (fun q => in_c (n := (k : Int)) (wr.drewN q) (hu2.keep (w' := wr.drewN q) (p' := fun _ => True) (fun b _ _ => ⟨trivial, rfl⟩)))
                obtain ⟨m, Hm⟩ : ∃ m, Hid (G.Lp[k].length = m) := ⟨_, (rfl : G.Lp[k].length = _)⟩
                obtain ⟨r, Hr⟩ : ∃ r, Hid (decide (RisP G.Lp[k] G.Lp.length) = r) := ⟨_, (rfl : decide (RisP G.Lp[k] G.Lp.length) = _)⟩
                obtain ⟨s, Hs⟩ : ∃ s, Hid (inS G.Lp[k] (k : Int) = s) := ⟨_, (rfl : inS G.Lp[k] (k : Int) = _)⟩
                rw [Hr.out, Hm.out, ← HL.out.2.2.2] at HRi
                rw [Hm.out] at HIn c1
                have HIn : Hid (∀ q, Calls Try.prog 19 #[.slice ra m rc, .int .i64 (k : Int)] (wr.drewN q) fun e w' => e = .returned (.bool s) ∧ w' = wr.drewN q) := fun q => by
                  have := HIn.out q
                  rw [Hs.out] at this
                  exact this
                have HNo : Hid ((r && s) = false → chkS G = 1) := fun h => chk_no fun ho => by
                  have h2 := ho.l k hkL
                  have h3 : r = true := by rw [← Hr.out]; exact decide_eq_true h2.1
                  have h4 : s = true := by rw [← Hs.out, inS_dec]; exact decide_eq_true h2.2
                  rw [h3, h4] at h
                  cases h
                have HYe : Hid (r = true → s = true → okL G (k + 1)) := fun h h' => by
                  rw [h] at Hr
                  rw [h', inS_dec] at Hs
                  exact (okL_step hkL).2 ⟨hok, of_decide_eq_true Hr.out, of_decide_eq_true Hs.out⟩
                have HRW := hid_of (And.intro hrw hbl)
                have hkz : (k : Int) < (ln : Int) := by omega
                clear hok hrw hbl HK hcc hu hu2 Hm Hr Hs hab
                go_wp2_with fail
                refine HRi.out.mono ?_
                rintro e W2 ⟨rfl, q, rfl⟩
                have HRW2 := hid_of (And.intro (HRW.out.1.keep (W' := wr.drewN q) rfl) (bel_drewN HRW.out.2 q))
                have q3' := HRW2.out.1.cell (k := 3) rfl
                have c1' : (wr.drewN q).cell? ⟨lb, lo + k, none⟩ = some (.slice ra m rc) := c1
                go_wp2_with fail
                refine (HIn.out q).mono ?_
                rintro e W2 ⟨rfl, rfl⟩
                cases r with
                | false =>
                  have HF := hid_of (HNo.out rfl)
                  go_wp2_with fail
                  go_ret
                  exact ⟨by rw [HF.out]; rfl, HRW2.out.2⟩
                | true =>
                  cases s with
                  | false =>
                    have HF := hid_of (HNo.out rfl)
                    go_wp2_with fail
                    go_ret
                    exact ⟨by rw [HF.out]; rfl, HRW2.out.2⟩
                  | true =>
                    have HF := hid_of (HYe.out rfl rfl)
                    go_wp2_with fail
                    go_roundw
                    case rel => exact ⟨k + 1, by omega, by go_num, HF.out, HRW2.out⟩
                    case measure => simp [intOf]; omega
              · obtain rfl : ln = k := by omega
                have HS0 : Hid (okS G 0 ∧ Row wr w.heap.size 25 [.slice ea en ec, .slice ma mn mc, .slice aa an ac, .slice la ln lc] ∧ Below w.heap.size w wr) := ⟨⟨by rw [← HL.out.2.2.2]; exact HK.out.1, fun c _ h => by omega⟩, HK.out.2⟩
                clear HK
                go_wp2_with fail
                go_loopw [14] (fun s14 wx => ∃ k : Nat, k ≤ ln ∧ s14 = .int .i64 k ∧ Hid (okS G k ∧ Row wx w.heap.size 25 [.slice ea en ec, .slice ma mn mc, .slice aa an ac, .slice la ln lc] ∧ Below w.heap.size w wx)) (fun s14 _ => ln - (intOf s14).toNat)
                case atStart => exact ⟨0, by omega, rfl, HS0⟩
                case round =>
                  obtain ⟨c, hc, rfl, HK⟩ := hrel
                  clear HS0
                  by_cases hlt : c < ln
                  · have hcL : c < G.Lp.length := by rw [← HL.out.2.2.2]; exact hlt
                    obtain ⟨hok, hrw, hbl⟩ := HK.out
                    obtain ⟨lb, lo, rfl, hab, hcc⟩ := sl_at HH.out.l (by omega)
                    obtain ⟨u, c1, hu⟩ := hcc c hcL
                    rw [Nat.mul_one] at c1
                    obtain ⟨ra, rc, rfl, -⟩ := id hu
                    have HCC := hid_of hcc
                    have HAB := hid_of hab
                    obtain ⟨l, Hl⟩ : ∃ l, Hid (G.Lp[c] = l) := ⟨_, (rfl : G.Lp[c] = _)⟩
                    have HSt := hid_of (okS_step hcL)
                    have HRis : Hid (RisP l G.Lp.length) := by rw [← Hl.out]; exact (hok.1.2 c hcL hcL).1
                    rw [Hl.out] at c1 hu HSt
                    obtain ⟨m, Hm⟩ : ∃ m, Hid (l.length = m) := ⟨_, (rfl : l.length = _)⟩
                    rw [Hm.out] at c1 hu
                    have HU := hid_of hu
                    have HC1 := hid_of c1
                    have hmc2 : m ≤ 5000 := by rw [← Hm.out, ← Hl.out]; exact hF.l _ (List.getElem_mem hcL)
                    have HJ0 : Hid ((okS G c ∧ ∀ i (h : i < l.length), i < 0 → (c : Int) ∈ lpS G l[i]) ∧ Row wr w.heap.size 25 [.slice ea en ec, .slice ma mn mc, .slice aa an ac, .slice (some ⟨lb, lo, none⟩) ln lc] ∧ Below w.heap.size w wr) := ⟨⟨hok, fun i _ h => by omega⟩, hrw, hbl⟩
                    have hcz : (c : Int) < (ln : Int) := by omega
                    clear hok hrw hbl HK hcc hu hab c1
                    go_wp2_with fail
                    go_loopw [15] (fun s15 wx => ∃ j : Nat, j ≤ m ∧ s15 = .int .i64 j ∧ Hid ((okS G c ∧ ∀ i (h : i < l.length), i < j → (c : Int) ∈ lpS G l[i]) ∧ Row wx w.heap.size 25 [.slice ea en ec, .slice ma mn mc, .slice aa an ac, .slice (some ⟨lb, lo, none⟩) ln lc] ∧ Below w.heap.size w wx)) (fun s15 _ => m - (intOf s15).toNat)
                    case atStart => exact ⟨0, by omega, rfl, HJ0⟩
                    case round =>
                      obtain ⟨j, hj, rfl, HJ⟩ := hrel
                      clear HJ0
                      obtain ⟨hp, hrw, hbl⟩ := HJ.out
                      have q3 := hrw.cell (k := 3) rfl
                      have c1 := (hbl.cell (p := ⟨lb, lo + c, none⟩) HAB.out).trans HC1.out
                      by_cases hjm : j < m
                      · have hjl : j < l.length := by rw [Hm.out]; exact hjm
                        obtain ⟨xb, xo, rfl, hxb, t1⟩ := ints_cell HU.out hjl
                        have t1 := (hbl.cell (p := ⟨xb, xo + j, none⟩) hxb).trans t1
                        have hmem : l[j] ∈ l := List.getElem_mem hjl
                        obtain ⟨x, Hx⟩ : ∃ x, Hid (l[j] = x) := ⟨_, (rfl : l[j] = _)⟩
                        rw [Hx.out] at t1 hmem
                        have hxr := HRis.out.2 x hmem
                        obtain ⟨x, rfl⟩ : ∃ y : Nat, x = (y : Int) := ⟨x.toNat, by omega⟩
                        have hxL : x < G.Lp.length := by omega
                        obtain ⟨u, c2, hu⟩ := HCC.out x hxL
                        rw [Nat.mul_one] at c2
                        have c2 := (hbl.cell (p := ⟨lb, lo + x, none⟩) HAB.out).trans c2
                        obtain ⟨sa, sc, rfl, -⟩ := id hu
                        obtain ⟨r, Hr⟩ : ∃ r, Hid (decide ((c : Int) ∈ lpS G (x : Int)) = r) := ⟨_, (rfl : decide ((c : Int) ∈ lpS G (x : Int)) = _)⟩
                        have hin : ∀ q, Calls Try.prog 19 #[.slice sa G.Lp[x].length sc, .int .i64 (c : Int)] (wr.drewN q) fun e w' => e = .returned (.bool r) ∧ ∃ m, w' = (wr.drewN q).drewN m := fun q => by
                          have := in_c (n := (c : Int)) (wr.drewN q) (hu.keep (w' := wr.drewN q) (p' := fun _ => True) (fun b hb hlt => ⟨trivial, hbl.block b hlt⟩))
                          rw [inS_dec, ← lpS_nat G hxL, Hr.out] at this
                          rw [← lpS_nat G hxL]
                          exact this.mono (by rintro e w' ⟨rfl, rfl⟩; exact ⟨rfl, 0, rfl⟩)
                        obtain ⟨sn, Hsn⟩ : ∃ m, Hid (G.Lp[x].length = m) := ⟨_, (rfl : G.Lp[x].length = _)⟩
                        rw [Hsn.out] at hin c2
                        have HNo : Hid (r = false → chkS G = 1) := fun h => chk_no fun ho => by
                          rw [h] at Hr
                          refine of_decide_eq_false Hr.out ?_
                          have := ho.s c hcL _ (by rw [Hl.out]; exact hmem)
                          exact this
                        have HYe : Hid (r = true → okS G c ∧ ∀ i (h : i < l.length), i < j + 1 → (c : Int) ∈ lpS G l[i]) := fun h => by
                          rw [h] at Hr
                          refine ⟨hp.1, fun i hi hij => ?_⟩
                          by_cases e : i = j
                          · subst e; rw [Hx.out]; exact of_decide_eq_true Hr.out
                          · exact hp.2 i hi (by omega)
                        have HRW := hid_of (And.intro hrw hbl)
                        have hjz : (j : Int) < (m : Int) := by omega
                        have hxz : (x : Int) < (ln : Int) := by have := HL.out.2.2.2; omega
                        clear hp hrw hbl HJ hu hmem Hx Hr hxr hxb Hsn
                        go_wp2_with fail
                        go_quiet ((go_at_call 19; exact Calls.quiet_of (hin _)))
                        all_goals
                          cases r
                        all_goals first
                          | (have HF := hid_of (HNo.out rfl)
                             go_wp2_with fail
                             go_ret
                             exact ⟨by rw [HF.out]; rfl, bel_drewN HRW.out.2 _⟩)
                          | (have HF := hid_of (HYe.out rfl)
                             go_wp2_with fail
                             go_roundw
                             · exact ⟨j + 1, by omega, by go_num, HF.out, HRW.out.1.keep rfl, bel_drewN HRW.out.2 _⟩
                             · simp [intOf]; omega)
                      · obtain rfl : m = j := by omega
                        have HN2 : Hid (okS G (c + 1) ∧ Row wr w.heap.size 25 [.slice ea en ec, .slice ma mn mc, .slice aa an ac, .slice (some ⟨lb, lo, none⟩) ln lc] ∧ Below w.heap.size w wr) := by
                          refine ⟨HSt.out.2 ⟨hp.1, fun d hd => ?_⟩, hrw, hbl⟩
                          obtain ⟨i, hi, rfl⟩ := List.getElem_of_mem hd
                          exact hp.2 i hi (by rw [← Hm.out]; exact hi)
                        clear hp hrw hbl HJ
                        go_wp2_with fail
                        go_roundw
                        case rel => exact ⟨c + 1, by omega, by go_num, HN2⟩
                        case measure => simp [intOf]; omega
                  · obtain rfl : ln = c := by omega
                    have HF : Hid (chkS G = 0) := chk_ok ((okS_iff G).2 (by rw [← HL.out.2.2.2]; exact HK.out.1))
                    have HB := hid_of HK.out.2.2
                    clear HK
                    go_wp2_with fail
                    go_ret
                    exact ⟨by rw [HF.out]; rfl, HB.out⟩
end Go.Proofs.Ytinbfnabngdemaa
