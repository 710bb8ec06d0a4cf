/- 'Check' of a graph that is not too much. -/
import Derived.Test.YtinbfnabngdemaaCnL
import Derived.Test.YtinbfnabngdemaaCkA
import Derived.Deep.DeepCutAuto
import Derived.Deep.CutBlock
namespace Go.Proofs.Ytinbfnabngdemaa
open Go.RowKit

open Classical in
noncomputable def chkS (G : GD) : Int := if OkG G then 0 else 1
theorem chk_ok {G : GD} (h : OkG G) : chkS G = 0 := by unfold chkS; rw [if_pos h]
theorem chk_no {G : GD} (h : ¬ OkG G) : chkS G = 1 := by unfold chkS; rw [if_neg h]
def okE (G : GD) : Prop := (∀ q ∈ G.E, EndP q G.A.length) ∧ ∀ q ∈ G.M, EndP q G.A.length
def okA (G : GD) (k : Nat) : Prop := okE G ∧ ∀ l ∈ G.A.take k, RisP l G.Lp.length
def okL (G : GD) (k : Nat) : Prop := okA G G.A.length ∧ ∀ c (h : c < G.Lp.length), c < k → RisP G.Lp[c] G.Lp.length ∧ (c : Int) ∈ G.Lp[c]
def okS (G : GD) (k : Nat) : Prop := okL G G.Lp.length ∧ ∀ c (h : c < G.Lp.length), c < k → ∀ d ∈ G.Lp[c], (c : Int) ∈ lpS G d
theorem okS_iff (G : GD) : OkG G ↔ okS G G.Lp.length := by
  constructor
  · intro h
    exact ⟨⟨⟨⟨h.e, h.m⟩, fun l hl => h.a l (List.mem_of_mem_take hl)⟩, fun c hc _ => h.l c hc⟩, fun c hc _ => h.s c hc⟩
  · rintro ⟨⟨⟨⟨h1, h2⟩, h3⟩, h4⟩, h5⟩
    exact ⟨h1, h2, fun l hl => h3 l (by rw [List.take_length]; exact hl), fun c hc => h4 c hc hc, fun c hc => h5 c hc hc⟩
/-- What the flag tells: p so far, or else the graph is none. -/
def Flg (G : GD) (b : Bool) (p : Prop) : Prop := (b = true → p) ∧ (b = false → ¬ OkG G)
theorem Flg.and {G : GD} {b c : Bool} {p r : Prop} (h : Flg G b p) (h1 : p → c = true → r) (h2 : p → c = false → ¬ OkG G) : Flg G (b && c) r := by
  refine ⟨fun e => ?_, fun e => ?_⟩
  · cases b <;> cases c <;> simp at e; exact h1 (h.1 rfl) rfl
  · cases b with
    | false => exact h.2 rfl
    | true => cases c with
      | false => exact h2 (h.1 rfl) rfl
      | true => simp at e

theorem okA_step {G : GD} {k : Nat} (h : k < G.A.length) : okA G (k + 1) ↔ okA G k ∧ RisP G.A[k] G.Lp.length := by
  unfold okA
  rw [List.take_succ_eq_append_getElem h]
  constructor
  · rintro ⟨h1, h2⟩
    exact ⟨⟨h1, fun l hl => h2 l (List.mem_append_left _ hl)⟩, h2 _ (List.mem_append_right _ (List.mem_singleton_self _))⟩
  · rintro ⟨⟨h1, h2⟩, h3⟩
    refine ⟨h1, fun l hl => ?_⟩
    rcases List.mem_append.1 hl with hl | hl
    · exact h2 l hl
    · rw [List.mem_singleton.1 hl]; exact h3
theorem okL_step {G : GD} {k : Nat} (h : k < G.Lp.length) : okL G (k + 1) ↔ okL G k ∧ RisP G.Lp[k] G.Lp.length ∧ (k : Int) ∈ G.Lp[k] := by
  unfold okL
  constructor
  · rintro ⟨h1, h2⟩
    exact ⟨⟨h1, fun c hc hk => h2 c hc (by omega)⟩, h2 k h (by omega)⟩
  · rintro ⟨⟨h1, h2⟩, h3⟩
    refine ⟨h1, fun c hc hk => ?_⟩
    by_cases e : c = k
    · subst e; exact h3
    · exact h2 c hc (by omega)
theorem okS_step {G : GD} {k : Nat} (h : k < G.Lp.length) : okS G (k + 1) ↔ okS G k ∧ ∀ d ∈ G.Lp[k], (k : Int) ∈ lpS G d := by
  unfold okS
  constructor
  · rintro ⟨h1, h2⟩
    exact ⟨⟨h1, fun c hc hk => h2 c hc (by omega)⟩, h2 k h (by omega)⟩
  · rintro ⟨⟨h1, h2⟩, h3⟩
    refine ⟨h1, fun c hc hk => ?_⟩
    by_cases e : c = k
    · subst e; exact h3
    · exact h2 c hc (by omega)
theorem has_ofW (l : List Int) {n : Nat} (hn : n ≤ 65535) : hasI (Bit.ofW l) (n : Int) = decide ((n : Int) ∈ l) := by
  unfold hasI
  rw [Bool.eq_iff_iff, decide_eq_true_iff]
  have := Bit.has_of l n
  simp [hn] at this
  simp [this]
abbrev grC (ea ma aa la : Option Addr) (en ec mn mc an ac ln lc : Nat) : List Value := [.slice ea en ec, .slice ma mn mc, .slice aa an ac, .slice la ln lc]

set_option maxRecDepth 100000 in
set_option maxHeartbeats 8000000 in
theorem check_c (w : World) {ea ma aa la : Option Addr} {en ec mn mc an ac ln lc : Nat} {G : GD} (h : IsGr (· < w.heap.size) w ⟨ea, en, ec, ma, mn, mc, aa, an, ac, la, ln, lc⟩ G) (hF : Few G) :
    Calls Try.prog 12 #[.agg #[.slice ea en ec, .slice ma mn mc, .slice aa an ac, .slice la ln lc]] w fun e w' => e = .returned (.int .i64 (chkS G)) ∧ Below w.heap.size w w' := by
  obtain ⟨he, hm, ha, hl⟩ := h.lens
  dsimp only at he hm ha hl
  have hac := (sl_len h.a).2.1
  have hlc := (sl_len h.l).2.1
  dsimp only at hac hlc
  have f1 := hF.n
  have f2 := hF.k
  have f3 := hF.e
  have f4 := hF.m
  rw [← ha] at f1
  rw [← hl] at f2
  rw [← he] at f3
  rw [← hm] at f4
  have HH := hid_of h
  have HF := hid_of hF
  have HL := hid_of (And.intro he (And.intro hm (And.intro ha hl)))
  have hB0 := bel_alloc (bel_refl w) (.cells #[.slice ea en ec, .slice ma mn mc, .slice aa an ac, .slice la ln lc] 25)
  have hr0 : Row (w.alloc (.cells #[.slice ea en ec, .slice ma mn mc, .slice aa an ac, .slice la ln lc] 25)) w.heap.size 25 [.slice ea en ec, .slice ma mn mc, .slice aa an ac, .slice la ln lc] := heap_alloc_eq _ _ _ rfl
  have d1 : decide ((an : Int) > 2000) = false := by simp; omega
  have d2 : decide ((ln : Int) > 300) = false := by simp; omega
  have d3 : decide ((en : Int) > 100000) = false := by simp; omega
  have d4 : decide ((mn : Int) > 10000) = false := by simp; omega
  have d1' : decide (2000 < an) = false := by simp; omega
  have d2' : decide (300 < ln) = false := by simp; omega
  have d3' : decide (100000 < en) = false := by simp; omega
  have d4' : decide (10000 < mn) = false := by simp; omega
  have d1'' : decide ((2000 : Int) < an) = false := by simp; omega
  have d2'' : decide ((300 : Int) < ln) = false := by simp; omega
  have d3'' : decide ((100000 : Int) < en) = false := by simp; omega
  have d4'' : decide ((10000 : Int) < mn) = false := by simp; omega
  clear he hm ha hl h
  go_enter Try.func12, Try.ntmps12
  go_upto_region 3 with fail
  go_cut [3] (fun s3 wx => ∃ b : Bool, s3 = .bool b ∧ Hid (Flg G b (okE G) ∧ Row wx w.heap.size 25 [.slice ea en ec, .slice ma mn mc, .slice aa an ac, .slice la ln lc] ∧ Below w.heap.size w wx))
  case first =>
    have hk : ∀ X, Below w.heap.size w X → Keep (· < w.heap.size) (· < w.heap.size) w X := fun X hX b hb hlt => ⟨hb, hX.block b hlt⟩
    have HE := hid_of (ends_c (p := (· < w.heap.size)) _ an (HH.out.e.keep (hk _ hB0)) (fun b hb => by have := hB0.size; omega))
    have HM := hid_of (fun X (hX : Below w.heap.size w X) => ends_c (p := (· < w.heap.size)) X an (HH.out.m.keep (hk _ hX)) (fun b hb => by have := hX.size; omega))
    obtain ⟨b1, Hb1⟩ : ∃ b, Hid (decide (∀ q ∈ G.E, EndP q an) = b) := ⟨_, (rfl : decide (∀ q ∈ G.E, EndP q an) = _)⟩
    obtain ⟨b2, Hb2⟩ : ∃ b, Hid (decide (∀ q ∈ G.M, EndP q an) = b) := ⟨_, (rfl : decide (∀ q ∈ G.M, EndP q an) = _)⟩
    rw [Hb1.out] at HE
    rw [Hb2.out] at HM
    have HR0 := hid_of hr0
    have HB0 := hid_of hB0
    have HFl : Hid (Flg G (b1 && b2) (okE G)) := by
      have e := HL.out.2.2.1
      refine ⟨fun hb => ?_, fun hb ho => ?_⟩
      · simp only [Bool.and_eq_true] at hb
        rw [← Hb1.out, ← Hb2.out, decide_eq_true_iff, decide_eq_true_iff, e] at hb
        exact hb
      · have h1 : b1 = true := by rw [← Hb1.out, decide_eq_true_iff, e]; exact ho.e
        have h2 : b2 = true := by rw [← Hb2.out, decide_eq_true_iff, e]; exact ho.m
        rw [h1, h2] at hb
        cases hb
    clear hr0 hB0 hk
    go_wp2_with fail
    refine HE.out.mono ?_
    rintro e W1 ⟨rfl, hb1⟩
    have hbb := bel_call HB0.out hb1
    have HR1 := hid_of (HR0.out.keep (hb1.block _ HR0.out.lt))
    have HM1 := hid_of (HM.out W1 hbb)
    have HBB := hid_of hbb
    have q1 := HR1.out.cell (k := 1) rfl
    have q2 := HR1.out.cell (k := 2) rfl
    clear hb1 hbb HM HE HR0 HB0
    cases b1 with
    | false =>
      go_wp2_with fail
      go_meet
      exact ⟨_, rfl, HFl.out, HR1.out, HBB.out⟩
    | true =>
      go_wp2_with fail
      refine HM1.out.mono ?_
      rintro e W2 ⟨rfl, hb2⟩
      have HF2 : Hid (Flg G (true && b2) (okE G) ∧ Row W2 w.heap.size 25 [.slice ea en ec, .slice ma mn mc, .slice aa an ac, .slice la ln lc] ∧ Below w.heap.size w W2) := ⟨HFl.out, HR1.out.keep (hb2.block _ HR1.out.lt), bel_call HBB.out hb2⟩
      clear hb2
      go_wp2_with fail
      go_meet
      exact ⟨_, rfl, HF2.out⟩
  case rest =>
    obtain ⟨b, rfl, HB⟩ := hcut
    clear d1 d2 d3 d4 d1' d2' d3' d4' d1'' d2'' d3'' d4'' hr0 hB0
    have q2 := HB.out.2.1.cell (k := 2) rfl
    have HB2 : Hid (Flg G b (okA G 0) ∧ Row wc w.heap.size 25 [.slice ea en ec, .slice ma mn mc, .slice aa an ac, .slice la ln lc] ∧ Below w.heap.size w wc) := ⟨⟨fun e => ⟨HB.out.1.1 e, by simp⟩, HB.out.1.2⟩, HB.out.2⟩
    clear HB
    go_wp2_with fail
    go_loopw [3, 52] (fun s3 s52 wx => ∃ (k : Nat) (b : Bool), k ≤ an ∧ s52 = .int .i64 k ∧ s3 = .bool b ∧ Hid (Flg G b (okA G k) ∧ Row wx w.heap.size 25 [.slice ea en ec, .slice ma mn mc, .slice aa an ac, .slice la ln lc] ∧ Below w.heap.size w wx)) (fun _ s52 _ => an - (intOf s52).toNat)
    case atStart => exact ⟨0, b, by omega, rfl, rfl, HB2⟩
    case round =>
      obtain ⟨k, b, hk, rfl, rfl, HK⟩ := hrel
      clear HB2 q2
      by_cases hlt : k < an
      · have hkA : k < G.A.length := by rw [← HL.out.2.2.1]; exact hlt
        obtain ⟨hfl, hrw, hbl⟩ := HK.out
        obtain ⟨ab, ao, rfl, hab, hcc⟩ := sl_at HH.out.a (by omega)
        obtain ⟨u, c1, hu⟩ := hcc k hkA
        rw [Nat.mul_one] at c1
        have c1 := (hbl.cell (p := ⟨ab, ao + k, none⟩) hab).trans c1
        have hu2 := hu.keep (p' := (· < w.heap.size)) (fun b hb hlt => ⟨hb, hbl.block b hlt⟩)
        obtain ⟨ra, rc, rfl, -⟩ := id hu2
        have HRi := hid_of (rising_c wr G.Lp.length hu2)
        have q3 := hrw.cell (k := 3) rfl
        rw [HL.out.2.2.2] at q3
        obtain ⟨r, Hr⟩ : ∃ r, Hid (decide (RisP G.A[k] G.Lp.length) = r) := ⟨_, (rfl : decide (RisP G.A[k] G.Lp.length) = _)⟩
        rw [Hr.out] at HRi
        obtain ⟨m, Hm⟩ : ∃ m, Hid (G.A[k].length = m) := ⟨_, (rfl : G.A[k].length = _)⟩
        rw [Hm.out] at HRi c1
        obtain ⟨ln2, Hln⟩ : ∃ m, Hid (G.Lp.length = m) := ⟨_, (rfl : G.Lp.length = _)⟩
        rw [Hln.out] at HRi q3
        have hkz : (k : Int) < (an : Int) := by omega
        have HN : Hid (Flg G (b && r) (okA G (k + 1)) ∧ Row wr w.heap.size 25 [.slice ea en ec, .slice ma mn mc, .slice (some ⟨ab, ao, none⟩) an ac, .slice la ln lc] ∧ Below w.heap.size w wr) := by
          refine ⟨hfl.and (fun hp hr => (okA_step hkA).2 ⟨hp, ?_⟩) (fun hp hr ho => ?_), hrw, hbl⟩
          · rw [hr] at Hr; exact of_decide_eq_true Hr.out
          · rw [hr] at Hr; exact of_decide_eq_false Hr.out (ho.a _ (List.getElem_mem hkA))
        clear hu hu2 hcc hfl hrw hbl HK
        cases b with
        | false =>
          go_wp2_with fail
          go_roundw
          case rel => exact ⟨k + 1, _, by omega, by go_num, rfl, HN⟩
          case measure => simp [intOf]; omega
        | true =>
          go_wp2_with fail
          refine HRi.out.mono ?_
          rintro e W2 ⟨rfl, rfl⟩
          go_wp2_with fail
          go_roundw
          case rel => exact ⟨k + 1, _, by omega, by go_num, rfl, HN⟩
          case measure => simp [intOf]; omega
      · obtain rfl : an = k := by omega
        have q3 := HK.out.2.1.cell (k := 3) rfl
        have HK2 : Hid (Flg G b (okL G 0) ∧ SetOwn (w.heap.size + 1) (.slice none 0 0) ((G.Lp.take 0).map Bit.ofW) wr ∧ Row wr w.heap.size 25 [.slice ea en ec, .slice ma mn mc, .slice aa an ac, .slice la ln lc] ∧ Below w.heap.size w wr) := ⟨⟨fun e => ⟨by rw [← HL.out.2.2.1]; exact HK.out.1.1 e, fun c _ h => by omega⟩, HK.out.1.2⟩, SetOwn.nil _ _, HK.out.2⟩
        clear HK
        go_wp2_with fail
        go_loopw [3, 6, 68] (fun s3 s6 s68 wx => ∃ (k : Nat) (b : Bool) (ra : Option Addr) (rc : Nat), k ≤ ln ∧ s68 = .int .i64 k ∧ s3 = .bool b ∧ s6 = .slice ra k rc ∧ Hid (Flg G b (okL G k) ∧ SetOwn (w.heap.size + 1) (.slice ra k rc) ((G.Lp.take k).map Bit.ofW) wx ∧ Row wx w.heap.size 25 [.slice ea en ec, .slice ma mn mc, .slice aa an ac, .slice la ln lc] ∧ Below w.heap.size w wx)) (fun _ _ s68 _ => ln - (intOf s68).toNat)
        case atStart => exact ⟨0, b, none, 0, by omega, rfl, rfl, rfl, HK2⟩
        case round =>
          obtain ⟨k, b, oa, oc, hk, rfl, rfl, rfl, HK⟩ := hrel
          clear HK2 q3
          by_cases hlt : k < ln
          · have hkL : k < G.Lp.length := by rw [← HL.out.2.2.2]; exact hlt
            obtain ⟨hfl, hso, hrw, hbl⟩ := HK.out
            obtain ⟨lb, lo, rfl, hab, hcc⟩ := sl_at HH.out.l (by omega)
            obtain ⟨u, c1, hu⟩ := hcc k hkL
            rw [Nat.mul_one] at c1
            have c1 := (hbl.cell (p := ⟨lb, lo + k, none⟩) hab).trans c1
            have hu2 := hu.keep (p' := (· < w.heap.size)) (fun b hb hlt => ⟨hb, hbl.block b hlt⟩)
            obtain ⟨ra, rc, rfl, -⟩ := id hu2
            have HRi := hid_of (rising_c wr G.Lp.length hu2)
            have HCo := hid_of (contains_c wr (k : Int) hu2)
            have HOf := hid_of (fun (X : World) (hX : Below wr.heap.size wr X) => of_c X (hu2.keep (p' := (· < w.heap.size)) (fun b hb hlt => ⟨hb, hX.block b hlt⟩)))
            have q3 := hrw.cell (k := 3) rfl
            rw [HL.out.2.2.2] at q3
            obtain ⟨r, Hr⟩ : ∃ r, Hid (decide (RisP G.Lp[k] G.Lp.length) = r) := ⟨_, (rfl : decide (RisP G.Lp[k] G.Lp.length) = _)⟩
            obtain ⟨s, Hs⟩ : ∃ r, Hid (decide ((k : Int) ∈ G.Lp[k]) = r) := ⟨_, (rfl : decide ((k : Int) ∈ G.Lp[k]) = _)⟩
            rw [Hr.out] at HRi
            rw [Hs.out] at HCo
            obtain ⟨m, Hm⟩ : ∃ m, Hid (G.Lp[k].length = m) := ⟨_, (rfl : G.Lp[k].length = _)⟩
            rw [Hm.out] at HRi HCo HOf c1
            obtain ⟨ln2, Hln⟩ : ∃ m, Hid (G.Lp.length = m) := ⟨_, (rfl : G.Lp.length = _)⟩
            rw [Hln.out] at HRi q3
            have hkz : (k : Int) < (ln : Int) := by omega
            have HN : Hid (Flg G (b && r && s) (okL G (k + 1)) ∧ SetOwn (w.heap.size + 1) (.slice oa k oc) ((G.Lp.take k).map Bit.ofW) wr ∧ Row wr w.heap.size 25 [.slice ea en ec, .slice ma mn mc, .slice aa an ac, .slice (some ⟨lb, lo, none⟩) ln lc] ∧ Below w.heap.size w wr) := by
              refine ⟨?_, hso, hrw, hbl⟩
              rw [Bool.and_assoc]
              refine hfl.and (fun hp hr => (okL_step hkL).2 ⟨hp, ?_⟩) (fun hp hr ho => ?_)
              · simp only [Bool.and_eq_true] at hr
                rw [hr.1] at Hr
                rw [hr.2] at Hs
                exact ⟨of_decide_eq_true Hr.out, of_decide_eq_true Hs.out⟩
              · have h1 := ho.l k hkL
                rw [decide_eq_true h1.1] at Hr
                rw [decide_eq_true h1.2] at Hs
                rw [← Hr.out, ← Hs.out] at hr
                cases hr
            have HTS : Hid ((G.Lp.take (k + 1)).map Bit.ofW = (G.Lp.take k).map Bit.ofW ++ [Bit.ofW G.Lp[k]]) := by show _ = _; rw [List.take_succ_eq_append_getElem hkL, List.map_append]; rfl
            have hlk : ((G.Lp.take k).map Bit.ofW).length = k := by rw [List.length_map, List.length_take]; omega
            have HLK := hid_of hlk
            clear hu hu2 hcc hfl hso hrw hbl HK hlk
            go_upto_region 13 with fail
            go_cut [3] (fun s3 wx => s3 = .bool (b && r && s) ∧ wx = wr)
            case first =>
              cases b with
              | false =>
                go_wp2_with fail
                go_meet
                exact ⟨rfl, rfl⟩
              | true =>
                go_wp2_with fail
                refine HRi.out.mono ?_
                rintro e W2 ⟨rfl, rfl⟩
                cases r with
                | false =>
                  go_wp2_with fail
                  go_meet
                  exact ⟨rfl, rfl⟩
                | true =>
                  go_wp2_with fail
                  refine HCo.out.mono ?_
                  rintro e W3 ⟨rfl, rfl⟩
                  go_wp2_with fail
                  go_meet
                  exact ⟨by cases s <;> rfl, rfl⟩
            case rest =>
              obtain ⟨rfl, rfl⟩ := hcut
              go_wp2_with fail
              refine (HOf.out _ (bel_refl _)).mono ?_
              rintro e W4 ⟨z, rfl, hz, hb4⟩
              obtain ⟨za, zn, zc, rfl⟩ := words_slice hz
              have hso4 := HN.out.2.1.below hb4
              have hsz := HN.out.2.2.1.lt
              have hb44 := hb4.size
              have hba := bel_alloc (bel_refl W4) (.cells #[.slice za zn zc] 49)
              have hz4 : IsWords (fun b => w.heap.size + 1 ≤ b ∧ b < W4.heap.size ∧ (Value.slice oa k oc).ownBlock ≠ some b) W4 (.slice za zn zc) (Bit.ofW G.Lp[k]) := hz.keep (fun b hb hlt => ⟨⟨by omega, hlt, fun e => by have := (HN.out.2.1.lt b e).2; omega⟩, rfl⟩)
              go_wp2_with (at_builtin; refine stop_here ?_)
              refine stop_go (app_set rfl _ _ rfl (w.heap.size + 1) (.slice oa k oc) ((G.Lp.take k).map Bit.ofW) rfl (hso4.below hba) _ (.slice za zn zc) (Bit.ofW G.Lp[k]) rfl (hz4.keep (fun b hb hlt => ⟨⟨hb.1, by have := hb.2.1; simp; omega, hb.2.2⟩, hba.block b hlt⟩)) (heap_alloc_eq _ _ _ rfl) (by rw [HLK.out]; omega) (by simp; omega) ?_)
              intro v5 w5 hs5 hg5
              rw [← HTS.out] at hs5
              have hl5 : ((G.Lp.take (k + 1)).map Bit.ofW).length = k + 1 := by rw [List.length_map, List.length_take]; omega
              obtain ⟨va, vc, e5⟩ := hs5.sl
              rw [hl5] at e5
              subst e5
              have hne : ∀ q, (Value.slice oa k oc).ownBlock = some q → w.heap.size + 1 ≤ q := fun q hq => (HN.out.2.1.lt q hq).1
              have hb5 : Below w.heap.size w w5 := bel_grown (bel_call HN.out.2.2.2 (bel_call hb4 hba)) hg5 (fun q hq => by have := hne q hq; omega)
              have hr5 : Row w5 w.heap.size 25 [.slice ea en ec, .slice ma mn mc, .slice aa an ac, .slice (some ⟨lb, lo, none⟩) ln lc] := ((HN.out.2.2.1.keep (hb4.block _ hsz)).keep (hba.block _ (by omega))).keep (hg5.block _ (by simp; omega) (fun e => by have := hne _ e.symm; omega))
              have HF5 : Hid (Flg G (b && r && s) (okL G (k + 1)) ∧ SetOwn (w.heap.size + 1) (.slice va (k + 1) vc) ((G.Lp.take (k + 1)).map Bit.ofW) w5 ∧ Row w5 w.heap.size 25 [.slice ea en ec, .slice ma mn mc, .slice aa an ac, .slice (some ⟨lb, lo, none⟩) ln lc] ∧ Below w.heap.size w w5) := ⟨HN.out.1, hs5, hr5, hb5⟩
              clear hs5 hg5 hb5 hr5 hne hz4 hba hso4 hz hb4 hl5 c1 q3 HRi HCo HOf
              go_wp2_with fail
              go_roundw
              case rel => exact ⟨k + 1, _, va, vc, by omega, by go_num, rfl, rfl, HF5⟩
              case measure => simp [intOf]; omega
          · obtain rfl : ln = k := by omega
            have q3 := HK.out.2.2.1.cell (k := 3) rfl
            have HK2 : Hid (Flg G b (okS G 0) ∧ SetOwn (w.heap.size + 1) (.slice oa ln oc) (G.Lp.map Bit.ofW) wr ∧ Row wr w.heap.size 25 [.slice ea en ec, .slice ma mn mc, .slice aa an ac, .slice la ln lc] ∧ Below w.heap.size w wr) := by
              refine ⟨⟨fun e => ⟨by rw [← HL.out.2.2.2]; exact HK.out.1.1 e, fun c _ h => by omega⟩, HK.out.1.2⟩, ?_, HK.out.2.2⟩
              have := HK.out.2.1
              rwa [HL.out.2.2.2, List.take_length, ← HL.out.2.2.2] at this
            clear HK
            go_wp2_with fail
            go_loopw [3, 95] (fun s3 s95 wx => ∃ (c : Nat) (b : Bool), c ≤ ln ∧ s95 = .int .i64 c ∧ s3 = .bool b ∧ Hid (Flg G b (okS G c) ∧ SetOwn (w.heap.size + 1) (.slice oa ln oc) (G.Lp.map Bit.ofW) wx ∧ Row wx w.heap.size 25 [.slice ea en ec, .slice ma mn mc, .slice aa an ac, .slice la ln lc] ∧ Below w.heap.size w wx)) (fun _ s95 _ => ln - (intOf s95).toNat)
            case atStart => exact ⟨0, b, by omega, rfl, rfl, HK2⟩
            case round =>
              obtain ⟨c, b, hc, rfl, rfl, HK⟩ := hrel
              clear HK2 q3
              by_cases hlt : c < ln
              · have hcL : c < G.Lp.length := by rw [← HL.out.2.2.2]; exact hlt
                obtain ⟨hfl, hso, hrw, hbl⟩ := HK.out
                obtain ⟨lb, lo, rfl, hab, hcc⟩ := sl_at HH.out.l (by omega)
                obtain ⟨u, c1, hu⟩ := hcc c hcL
                rw [Nat.mul_one] at c1
                have c1 := (hbl.cell (p := ⟨lb, lo + c, none⟩) hab).trans c1
                obtain ⟨ra, rc, rfl, -⟩ := id hu
                have HU := hid_of hu
                have hrc := (sl_len hu).2.1
                have hcz : (c : Int) < (ln : Int) := by omega
                have HS := hid_of (And.intro (okS_step hcL).2 (And.intro (fun (h : okS G c) => (h.1.2 c hcL hcL).1.2) (fun (h : OkG G) => h.s c hcL)))
                obtain ⟨l, Hl⟩ : ∃ l, Hid (G.Lp[c] = l) := ⟨_, (rfl : G.Lp[c] = _)⟩
                rw [Hl.out] at HU c1 hrc HS
                obtain ⟨m, Hm⟩ : ∃ m, Hid (l.length = m) := ⟨_, (rfl : l.length = _)⟩
                rw [Hm.out] at HU c1 hrc
                have hm5 : m ≤ 5000 := by rw [← Hm.out, ← Hl.out]; exact HF.out.l _ (List.getElem_mem hcL)
                have HJ0 : Hid (Flg G b (okS G c ∧ ∀ i (h : i < l.length), i < 0 → (c : Int) ∈ lpS G l[i]) ∧ SetOwn (w.heap.size + 1) (.slice oa ln oc) (G.Lp.map Bit.ofW) wr ∧ Row wr w.heap.size 25 [.slice ea en ec, .slice ma mn mc, .slice aa an ac, .slice (some ⟨lb, lo, none⟩) ln lc] ∧ Below w.heap.size w wr) := ⟨⟨fun e => ⟨hfl.1 e, fun i _ h => by omega⟩, hfl.2⟩, hso, hrw, hbl⟩
                clear hu hcc hfl hso hrw hbl HK
                go_wp2_with fail
                go_loopw [3, 102] (fun s3 s102 wx => ∃ (j : Nat) (b : Bool), j ≤ m ∧ s102 = .int .i64 j ∧ s3 = .bool b ∧ Hid (Flg G b (okS G c ∧ ∀ i (h : i < l.length), i < j → (c : Int) ∈ lpS G l[i]) ∧ SetOwn (w.heap.size + 1) (.slice oa ln oc) (G.Lp.map Bit.ofW) wx ∧ Row wx w.heap.size 25 [.slice ea en ec, .slice ma mn mc, .slice aa an ac, .slice (some ⟨lb, lo, none⟩) ln lc] ∧ Below w.heap.size w wx)) (fun _ s102 _ => m - (intOf s102).toNat)
                case atStart => exact ⟨0, b, by omega, rfl, rfl, HJ0⟩
                case round =>
                  obtain ⟨j, b, hj, rfl, rfl, HJ⟩ := hrel
                  clear HJ0 c1
                  by_cases hjm : j < m
                  · have hjl : j < l.length := by rw [Hm.out]; exact hjm
                    obtain ⟨hfl, hso, hrw, hbl⟩ := HJ.out
                    obtain ⟨xb, xo, rfl, hxb, t1⟩ := ints_cell HU.out hjl
                    have t1 := (hbl.cell (p := ⟨xb, xo + j, none⟩) hxb).trans t1
                    have hmem : l[j] ∈ l := List.getElem_mem hjl
                    have hjz : (j : Int) < (m : Int) := by omega
                    obtain ⟨x, Hx⟩ : ∃ x, Hid (l[j] = x) := ⟨_, (rfl : l[j] = _)⟩
                    rw [Hx.out] at t1 hmem
                    cases b with
                    | false =>
                      have HNo := hid_of (chk_no (hfl.2 rfl))
                      have HB := hid_of hbl
                      clear hfl hso hrw hbl HJ hxb
                      go_wp2_with fail
                      go_ret
                      exact ⟨by rw [HNo.out]; rfl, HB.out⟩
                    | true =>
                      have hp := hfl.1 rfl
                      have hxr := HS.out.2.1 hp.1 x hmem
                      obtain ⟨x, rfl⟩ : ∃ y : Nat, x = (y : Int) := ⟨x.toNat, by omega⟩
                      have hxL : x < G.Lp.length := by omega
                      obtain ⟨g, sc2, sa, sn, sc, e6, hlc6, cs, hws⟩ := hso.at (j := x) (by rw [List.length_map]; exact hxL)
                      rw [List.length_map, ← HL.out.2.2.2] at e6
                      rw [List.length_map, ← HL.out.2.2.2] at hlc6
                      simp only [Value.slice.injEq, true_and] at e6
                      obtain ⟨rfl, rfl⟩ := e6
                      have hget : (G.Lp.map Bit.ofW).getD x [] = Bit.ofW (lpS G (x : Int)) := by rw [lpS_nat G hxL]; simp [List.getD, hxL]
                      rw [hget] at hws
                      have HHas := hid_of (has_c wr (c : Int) hws (Bit.of_can _).1 (by omega))
                      rw [has_ofW _ (by omega)] at HHas
                      obtain ⟨r, Hr⟩ : ∃ r, Hid (decide ((c : Int) ∈ lpS G (x : Int)) = r) := ⟨_, (rfl : decide ((c : Int) ∈ lpS G (x : Int)) = _)⟩
                      rw [Hr.out] at HHas
                      have HN : Hid (Flg G (true && r) (okS G c ∧ ∀ i (h : i < l.length), i < j + 1 → (c : Int) ∈ lpS G l[i])) := by
                        refine hfl.and (fun hp hr => ⟨hp.1, fun i hi hij => ?_⟩) (fun hp hr ho => ?_)
                        · by_cases e : i = j
                          · subst e; rw [Hx.out]; rw [hr] at Hr; exact of_decide_eq_true Hr.out
                          · exact hp.2 i hi (by omega)
                        · rw [hr] at Hr; exact of_decide_eq_false Hr.out (HS.out.2.2 ho _ hmem)
                      have hxz : (x : Int) < (ln : Int) := by have := HL.out.2.2.2; omega
                      have HSO := hid_of (And.intro hso (And.intro hrw hbl))
                      clear hfl hso hrw hbl HJ hp hget hws hmem hxr hxb
                      go_wp2_with fail
                      refine HHas.out.mono ?_
                      rintro e W2 ⟨rfl, hb2⟩
                      have HN2 : Hid (Flg G (true && r) (okS G c ∧ ∀ i (h : i < l.length), i < j + 1 → (c : Int) ∈ lpS G l[i]) ∧ SetOwn (w.heap.size + 1) (.slice (some ⟨g, 0, none⟩) ln oc) (G.Lp.map Bit.ofW) W2 ∧ Row W2 w.heap.size 25 [.slice ea en ec, .slice ma mn mc, .slice aa an ac, .slice (some ⟨lb, lo, none⟩) ln lc] ∧ Below w.heap.size w W2) := ⟨HN.out, HSO.out.1.below hb2, HSO.out.2.1.keep (hb2.block _ HSO.out.2.1.lt), bel_call HSO.out.2.2 hb2⟩
                      clear hb2 HHas HN
                      cases r with
                      | false =>
                        have HNo := hid_of (chk_no (HN2.out.1.2 rfl))
                        go_wp2_with fail
                        go_ret
                        exact ⟨by rw [HNo.out]; rfl, HN2.out.2.2.2⟩
                      | true =>
                        go_wp2_with fail
                        go_roundw
                        case rel => exact ⟨j + 1, _, by omega, by go_num, rfl, HN2⟩
                        case measure => simp [intOf]; omega
                  · obtain rfl : m = j := by omega
                    have HN : Hid (Flg G b (okS G (c + 1)) ∧ SetOwn (w.heap.size + 1) (.slice oa ln oc) (G.Lp.map Bit.ofW) wr ∧ Row wr w.heap.size 25 [.slice ea en ec, .slice ma mn mc, .slice aa an ac, .slice (some ⟨lb, lo, none⟩) ln lc] ∧ Below w.heap.size w wr) := by
                      refine ⟨⟨fun e => HS.out.1 ⟨(HJ.out.1.1 e).1, fun d hd => ?_⟩, HJ.out.1.2⟩, HJ.out.2⟩
                      obtain ⟨i, hi, rfl⟩ := List.getElem_of_mem hd
                      exact (HJ.out.1.1 e).2 i hi (by rw [← Hm.out]; exact hi)
                    clear HJ
                    go_wp2_with fail
                    go_roundw
                    case rel => exact ⟨c + 1, _, by omega, by go_num, rfl, HN⟩
                    case measure => simp [intOf]; omega
              · obtain rfl : ln = c := by omega
                have HB := hid_of HK.out.2.2.2
                have HFl := hid_of HK.out.1
                clear HK
                cases b with
                | false =>
                  have HNo := hid_of (chk_no (HFl.out.2 rfl))
                  go_wp2_with fail
                  go_ret
                  exact ⟨by rw [HNo.out]; rfl, HB.out⟩
                | true =>
                  have HYe := hid_of (chk_ok ((okS_iff G).2 (by rw [← HL.out.2.2.2]; exact HFl.out.1 rfl)))
                  go_wp2_with fail
                  go_ret
                  exact ⟨by rw [HYe.out]; rfl, HB.out⟩
end Go.Proofs.Ytinbfnabngdemaa
