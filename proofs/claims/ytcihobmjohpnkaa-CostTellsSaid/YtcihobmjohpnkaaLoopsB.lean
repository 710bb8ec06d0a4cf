/- 'loops.body': the set of a head's body; the walk. -/
import Derived.Test.YtcihobmjohpnkaaLoopsW
namespace Go.Proofs.Ytcihobmjohpnkaa
open Go.RowKit Go.Sort

/-- What a round of 'body' has in memory: the result's box, the set's box, the list. -/
structure BdSt (w : World) (L : List (List InsD)) (h : Int) (S : List Nat) (T : List Int) (sv v : Value) (W : World) : Prop where
  own : W.ownsRow (w.heap.size + 2) 3 1 v T.length (ints T)
  r6 : Row W w.heap.size 96 [.slice none 0 0]
  r7 : Row W (w.heap.size + 1) 96 [sv]
  ws : IsWords (fun b => w.heap.size + 2 ≤ b ∧ some b ≠ v.ownBlock) W sv S
  bo : BoAt L h S T
  bel : Below w.heap.size w W
theorem BdSt.sz {w : World} {L : List (List InsD)} {h : Int} {S : List Nat} {T : List Int} {sv v : Value} {W : World} (hI : BdSt w L h S T sv v W) : w.heap.size + 2 ≤ W.heap.size := by have := hI.r7.lt; omega
theorem BdSt.below {w : World} {L : List (List InsD)} {h : Int} {S : List Nat} {T : List Int} {sv v : Value} {W W' : World} (hI : BdSt w L h S T sv v W) (hb : Below W.heap.size W W') : BdSt w L h S T sv v W' :=
  ⟨owns_below hI.own hb, hI.r6.keep (hb.block _ hI.r6.lt), hI.r7.keep (hb.block _ hI.r7.lt), hI.ws.keep (Keep.below hb), hI.bo, bel_call hI.bel hb⟩

section
variable {B t : Nat} {L : List (List InsD)} {R : List (List Int)} {D : List (List Nat)}
set_option maxRecDepth 100000 in
set_option maxHeartbeats 8000000 in
theorem body_c (w : World) {a : Option Addr} {n cap : Nat} (hL : IsBlocks (· < w.heap.size) w (.slice a n cap) L) (h : TreeAt B t L R D w) (hl : n ≤ 1000) {hd : Nat} (hhd : hd < n) :
    Calls Try.prog 95 #[.slice a n cap, .pointer (some ⟨t, 0, none⟩), .int .i64 hd] w fun e w' => ∃ z S, e = .returned (.agg #[z]) ∧ IsWords (w.heap.size ≤ ·) w' z S ∧ Good1 S ∧ listI S = bodyS L hd ∧ Below w.heap.size w w' := by
  have hnL : n = L.length := by obtain ⟨_, _, hv0, hl0, hx⟩ := id hL; simp only [Value.slice.injEq] at hv0; exact hv0.2.1
  have HNL := hid_of hnL
  have hb0 : Below w.heap.size w ((w.alloc (.cells #[.slice none 0 0] 96)).alloc (.cells #[.slice none 0 0] 96)) := bel_alloc (bel_alloc (bel_refl w) _) _
  have hQ : Row ((w.alloc (.cells #[.slice none 0 0] 96)).alloc (.cells #[.slice none 0 0] 96)) w.heap.size 96 [.slice none 0 0] ∧ Row ((w.alloc (.cells #[.slice none 0 0] 96)).alloc (.cells #[.slice none 0 0] 96)) (w.heap.size + 1) 96 [.slice none 0 0] ∧ Below w.heap.size w ((w.alloc (.cells #[.slice none 0 0] 96)).alloc (.cells #[.slice none 0 0] 96)) ∧ ((w.alloc (.cells #[.slice none 0 0] 96)).alloc (.cells #[.slice none 0 0] 96)).heap.size = w.heap.size + 2 :=
    ⟨heap_alloc_ne _ _ _ _ (heap_alloc_eq _ _ _ rfl), heap_alloc_eq _ _ _ (by simp), hb0, by simp⟩
  have HQ := hid_of hQ
  have HKP : Hid (∀ W, Below w.heap.size w W → IsBlocks (· < W.heap.size) W (.slice a n cap) L) := fun W hW => hL.keep (fun b hb hlt => ⟨Nat.lt_of_lt_of_le hb hW.size, hW.block b hlt⟩)
  have HT := hid_of (fun W (hW : Below w.heap.size w W) => tails_c W (h.below hW) (by omega) (b := hd) (by omega))
  have HTM : Hid (∀ p, p ∈ tailR L R hd ↔ tailB L hd p = true) := tailR_mem h.pr (by omega)
  have HTN : Hid ((tailR L R hd).length = 0 ↔ headB L hd = false) := tailR_none h.pr (by omega)
  have hsm : (tailR L R hd).length ≤ 3000 := Nat.le_trans (tailL_length L R hd _) (h.sm hd)
  clear hnL hb0 hQ hL h
  go_enter Try.func95, Try.ntmps95
  go_wp2_with fail
  refine calls_at (fun W => Row W w.heap.size 96 [.slice none 0 0] ∧ Row W (w.heap.size + 1) 96 [.slice none 0 0] ∧ Below w.heap.size w W ∧ W.heap.size = w.heap.size + 2) HQ.out ?_
  rintro W0 ⟨h6, h7, hb0, hz0⟩
  refine (HT.out W0 hb0).mono ?_
  rintro e W1 ⟨z, rfl, ho, hb1⟩
  obtain ⟨T, HTT⟩ : ∃ T, Hid (tailR L R hd = T) := ⟨_, (rfl : tailR L R hd = _)⟩
  rw [HTT.out] at ho hsm HTM HTN
  obtain ⟨ta, tc, rfl, -⟩ := owns_slice ho
  have hO1 : W1.ownsRow (w.heap.size + 2) 3 1 (.slice ta T.length tc) T.length (ints T) := by rw [← hz0]; exact ho
  have h61 := h6.keep (hb1.block _ h6.lt)
  have h71 := h7.keep (hb1.block _ h7.lt)
  have hb01 := bel_call hb0 hb1
  obtain ⟨tl, Htl⟩ : ∃ tl, Hid (T.length = tl) := ⟨_, (rfl : T.length = _)⟩
  have HO1 := hid_of hO1
  have H61 := hid_of h61
  have H71 := hid_of h71
  have Hb1 := hid_of hb01
  have hl6 := h61.lt
  have hl7 := h71.lt
  have HTN2 := HTN
  rw [Htl.out] at HTN2 hsm ⊢
  have q7 := h71.cell (k := 0) (v := .slice none 0 0) rfl
  have f6 := h61.frozen 0
  have q6 := h61.cell (k := 0) (v := .slice none 0 0) rfl
  have f7 := h71.frozen 0
  clear HQ HT ho h6 h7 hb0 hb1 hO1 h61 h71 hb01 hz0 HTN
  by_cases ht0 : tl = 0
  · have d1 : ((tl : Int) == 0) = true := by simp [ht0]
    have hS : listI [] = bodyS L hd := by
      have hh := HTN2.out.1 ht0
      have : bodyS L hd = [] := by
        unfold bodyS bodyP
        rw [List.filter_eq_nil_iff]
        intro x hx
        unfold bodyB
        rw [hh]; simp
      rw [this]; rfl
    have HS := hid_of hS
    have hbF := Hb1.out.setCell (p := ⟨w.heap.size, 0, none⟩) (Nat.le_refl _) (.slice none 0 0)
    have HBF := hid_of hbF
    have hcF : (W1.setCell ⟨w.heap.size, 0, none⟩ (.slice none 0 0)).cell? ⟨w.heap.size, 0, none⟩ = some (.slice none 0 0) := World.cell?_setCell_same' _ _ _ (by rw [q6]; rfl)
    clear ht0 hS hbF
    go_wp2_with fail
    refine bodyPost_ret (v := .agg #[.slice none 0 0]) (by simp [results, Try.results95, go_sem, hcF]) rfl ⟨_, [], rfl, words_nil _ _, good_nil, HS.out, HBF.out⟩
  · have d1 : ((tl : Int) == 0) = false := beq_eq_false_iff_ne.2 (by omega)
    have hhB : headB L hd = true := by
      cases e : headB L hd with
      | false => exact absurd (HTN2.out.2 e) ht0
      | true => rfl
    have HHB := hid_of hhB
    have HBO := hid_of (BoAt.start (by rw [← HNL.out]; exact hl) hhB HTM.out)
    have HW := hid_of (with_c W1 hd (words_nil (fun _ => True) W1) (fun x hx => by simp at hx) (by simp))
    clear ht0 hhB q6
    go_wp2_with fail
    refine HW.out.mono ?_
    rintro e W2 ⟨zz, rfl, hz, hb2⟩
    obtain ⟨za, zn, zc, rfl⟩ := words_slice hz
    have h72 := H71.out.keep (hb2.block _ H71.out.lt)
    have q72 := h72.cell (k := 0) (v := .slice none 0 0) rfl
    have f72 := h72.frozen 0
    have hl72 := h72.lt
    have HI : Hid (BdSt w L hd (Bit.orW [] (Bit.ofW [(hd : Int)])) T (.slice za zn zc) (.slice ta tl tc) (W2.setCell ⟨w.heap.size + 1, 0, none⟩ (.slice za zn zc))) := by
      have ho2 := owns_below HO1.out hb2
      have hs1 := hb2.size
      rw [Htl.out] at ho2
      refine ⟨?_, (H61.out.keep (hb2.block _ H61.out.lt)).other (by show w.heap.size ≠ w.heap.size + 1; omega) _, ?_, hz.keep (Keep.setCell fun b hb _ => ⟨⟨by omega, fun e => by have := (HO1.out.lt b (by rw [Htl.out]; exact e.symm)).2; omega⟩, by show b ≠ w.heap.size + 1; omega⟩), HBO.out, (bel_call Hb1.out hb2).setCell (by show w.heap.size ≤ w.heap.size + 1; omega) _⟩
      · rw [Htl.out]
        refine ho2.kept (World.ownsRow.kept_set _ _) ?_
        cases hob : (Value.slice ta tl tc).ownBlock with
        | none => exact .inl rfl
        | some b => exact .inr fun e => by have := (ho2.lt b hob).1; simp at e; omega
      · exact h72.set 0 _
    clear HW hz hb2 h72 HO1 H61 H71 Hb1 HBO q7 f6 f7
    go_wp2_with fail
    go_loopg [8, 9] (5000 * n + 5000) (fun g s8 s9 wx => ∃ (S : List Nat) (T : List Int) (a8 : Option Addr) (c8 : Nat) (za : Option Addr) (zn zc : Nat), s8 = .slice a8 T.length c8 ∧ Hid (BdSt w L hd S T (.slice za zn zc) (.slice a8 T.length c8) wx) ∧ Hid (T.length ≤ 3000 + 1000 * cntS n S) ∧ Hid (T.length + 2000 * (n - cntS n S) ≤ g))
    case atStart =>
      refine ⟨_, T, ta, tc, za, zn, zc, by rw [Htl.out], by rw [Htl.out]; exact HI, ?_, ?_⟩
      · show _ ≤ _; rw [Htl.out]; omega
      · show _ ≤ _; rw [Htl.out]; omega
    case round =>
      obtain ⟨S, T, a8, c8, xa, xn, xc, rfl, HS, Hg1, Hg2⟩ := hrel
      clear HI
      have q7 := HS.out.r7.cell (k := 0) (v := .slice xa xn xc) rfl
      have f7 := HS.out.r7.frozen 0
      have q6 := HS.out.r6.cell (k := 0) (v := .slice none 0 0) rfl
      have f6 := HS.out.r6.frozen 0
      have hl6 := HS.out.r6.lt
      have hl7 := HS.out.r7.lt
      rcases List.eq_nil_or_concat T with rfl | ⟨T', x, rfl⟩
      · have hcF : (wr.setCell ⟨w.heap.size, 0, none⟩ (.slice xa xn xc)).cell? ⟨w.heap.size, 0, none⟩ = some (.slice xa xn xc) := World.cell?_setCell_same' _ _ _ (by rw [q6]; rfl)
        have HF : Hid (IsWords (w.heap.size ≤ ·) (wr.setCell ⟨w.heap.size, 0, none⟩ (.slice xa xn xc)) (.slice xa xn xc) S) := HS.out.ws.keep (Keep.setCell fun b hb _ => ⟨by have := hb.1; omega, by have := hb.1; show b ≠ w.heap.size; omega⟩)
        have HBF := hid_of (HS.out.bel.setCell (p := ⟨w.heap.size, 0, none⟩) (Nat.le_refl _) (.slice xa xn xc))
        have HLI := hid_of (body_list HS.out.bo.rg (fun b hb => HS.out.bo.done HHB.out hb))
        have HGd := hid_of HS.out.bo.good
        clear HS
        simp only [List.length_nil]
        go_wp2_with fail
        refine bodyPost_ret (v := .agg #[.slice xa xn xc]) (by simp [results, Try.results95, go_sem, hcF]) rfl ⟨_, S, rfl, HF.out, HGd.out, HLI.out, HBF.out⟩
      · rw [List.concat_eq_append] at HS Hg1 Hg2 ⊢
        have hlen : (T' ++ [x]).length = T'.length + 1 := by simp
        have HLen := hid_of hlen
        rw [hlen] at HS Hg1 Hg2 ⊢
        have hcn := cntS_le n S
        obtain ⟨cn, Hcn⟩ : ∃ cn, Hid (cntS n S = cn) := ⟨_, (rfl : cntS n S = _)⟩
        rw [Hcn.out] at Hg1 Hg2 hcn
        have hg1 : T'.length + 1 ≤ 3000 + 1000 * cn := Hg1.out
        have hg2 : T'.length + 1 + 2000 * (n - cn) ≤ gk := Hg2.out
        have ho := HS.out.own
        rw [hlen] at ho
        obtain ⟨g8, rfl⟩ : ∃ g8, a8 = some ⟨g8, 0, none⟩ := by
          rcases owns_nilcase ho with ⟨_, h0, _⟩ | ⟨g, c, h⟩
          · omega
          · simp at h; exact ⟨g, h.1⟩
        have hlen0 : ((T'.length + 1 : Nat) : Int) > 0 := by omega
        obtain ⟨hx0, hxn⟩ := HS.out.bo.trg x (by simp)
        rw [← HNL.out] at hxn
        obtain ⟨xN, rfl⟩ : ∃ xN : Nat, x = xN := ⟨x.toNat, by omega⟩
        have c1 : wr.cell? ⟨g8, T'.length, none⟩ = some (.int .i64 xN) := by
          have := ho.cellAt T'.length (by omega)
          rw [this]; simp [ints]
        have ho1 := owns_shrink ho T'.length (by omega)
        have et : (ints (T' ++ [(xN : Int)])).take (T'.length * 1) = ints T' := by simp [ints]
        rw [et] at ho1
        obtain ⟨_, hcap, -⟩ : ∃ z : Nat, T'.length + 1 ≤ c8 ∧ z = z := by
          obtain ⟨cur, _, _, hcn, _⟩ := owns_block ho
          exact ⟨0, hcn, rfl⟩
        have hlt8 := (ho.lt g8 rfl).2
        have hgd := HS.out.bo.good
        have HHas := hid_of (has_c wr (xN : Int) HS.out.ws hgd.1.1 (by omega))
        have HO1 := hid_of ho1
        obtain ⟨hb, Hhb⟩ : ∃ hb, Hid (hasI S (xN : Int) = hb) := ⟨_, (rfl : hasI S (xN : Int) = _)⟩
        rw [Hhb.out] at HHas
        have htl : T'.length ≤ 1100000 := by omega
        clear ho ho1 et hlen
        go_wp2_with fail
        refine HHas.out.mono ?_
        rintro e W3 ⟨rfl, hb3⟩
        have HS3 := hid_of (HS.out.below hb3)
        have HO3 := hid_of (owns_below HO1.out hb3)
        clear HHas HS HO1 q7 f7 q6 f6 c1
        cases hb with
        | true =>
          have hBo : BoAt L hd S T' := HS3.out.bo.skip Hhb.out
          have HS4 : Hid (BdSt w L hd S T' (.slice xa xn xc) (.slice (some ⟨g8, 0, none⟩) T'.length c8) W3) := ⟨HO3.out, HS3.out.r6, HS3.out.r7, HS3.out.ws, hBo, HS3.out.bel⟩
          clear hBo HS3 HO3 hb3
          go_wp2_with fail
          go_roundg (gk - 1)
          case rel => exact ⟨S, T', _, _, _, _, _, rfl, HS4, by show _ ≤ _; rw [Hcn.out]; omega, by show _ ≤ _; rw [Hcn.out]; omega⟩
          case measure => omega
        | false =>
          have hBo := HS3.out.bo.take (by rw [← HNL.out]; exact hl) Hhb.out
          have hcw := cntS_with (n := n) (S := S) (b := xN) (by omega) (by omega) (by have := Hhb.out; unfold hasI at this; simpa using this)
          rw [Hcn.out] at hcw
          have HCW := hid_of hcw
          have hcn2 : cn + 1 ≤ n := by rw [← hcw]; exact cntS_le _ _
          have HBo := hid_of hBo
          have q7 := HS3.out.r7.cell (k := 0) (v := .slice xa xn xc) rfl
          have f7 := HS3.out.r7.frozen 0
          have HWt := hid_of (with_c W3 (xN : Int) HS3.out.ws hgd.1.1 (by have := hgd.2; omega))
          clear hBo hcw hb3
          go_wp2_with fail
          refine HWt.out.mono ?_
          rintro e W4 ⟨zz, rfl, hz4, hb4⟩
          obtain ⟨ya, yn, yc, rfl⟩ := words_slice hz4
          have h74 := HS3.out.r7.keep (hb4.block _ HS3.out.r7.lt)
          have q74 := h74.cell (k := 0) (v := .slice xa xn xc) rfl
          have f74 := h74.frozen 0
          have hl74 := h74.lt
          have hs3 := HS3.out.sz
          have hs4 := hb4.size
          have ho4 := owns_below HO3.out hb4
          have ho5 : (W4.setCell ⟨w.heap.size + 1, 0, none⟩ (.slice ya yn yc)).ownsRow (w.heap.size + 2) 3 1 (.slice (some ⟨g8, 0, none⟩) T'.length c8) T'.length (ints T') := by
            refine ho4.kept (World.ownsRow.kept_set _ _) (.inr fun e => ?_)
            have := (ho4.lt g8 rfl).1
            simp [Value.ownBlock] at e; omega
          have HO5 := hid_of ho5
          have H65 := hid_of ((HS3.out.r6.keep (hb4.block _ HS3.out.r6.lt)).other (a := ⟨w.heap.size + 1, 0, none⟩) (by show w.heap.size ≠ w.heap.size + 1; omega) (.slice ya yn yc))
          have H75 := hid_of (h74.set 0 (.slice ya yn yc))
          have hlt83 := (HO3.out.lt g8 rfl).2
          have HW5 : Hid (IsWords (fun b => w.heap.size + 2 ≤ b ∧ b ≠ g8) (W4.setCell ⟨w.heap.size + 1, 0, none⟩ (.slice ya yn yc)) (.slice ya yn yc) _) := hz4.keep (Keep.setCell fun b hb _ => ⟨⟨by omega, by omega⟩, by show b ≠ w.heap.size + 1; omega⟩)
          have hb5 := (bel_call HS3.out.bel hb4).setCell (p := ⟨w.heap.size + 1, 0, none⟩) (by show w.heap.size ≤ w.heap.size + 1; omega) (.slice ya yn yc)
          have HB5 := hid_of hb5
          have HPr := hid_of (preds_c _ (xN : Int) (HKP.out _ hb5) (by rw [← HNL.out]; exact hl))
          have hpl : (predS L (xN : Int)).length ≤ n := by rw [HNL.out]; exact predK_length L (xN : Int) L.length
          clear HWt hz4 hb4 h74 ho4 ho5 hb5 HS3 HO3 q7 f7
          go_wp2_with fail
          refine HPr.out.mono ?_
          rintro e W6 ⟨pu, rfl, hpo, hb6⟩
          have hpi : IsInts (fun _ => True) W6 pu (predS L (xN : Int)) := ints_of_owns hpo (by omega) (fun _ _ _ _ => trivial)
          obtain ⟨pa, pc, rfl, -, -⟩ := id hpi
          obtain ⟨P, HP⟩ : ∃ P, Hid (predS L (xN : Int) = P) := ⟨_, (rfl : predS L (xN : Int) = _)⟩
          rw [HP.out] at hpi hpl HBo ⊢
          have HPI := hid_of hpi
          have HO6 := hid_of (owns_below HO5.out hb6)
          have H66 := hid_of (H65.out.keep (hb6.block _ H65.out.lt))
          have H76 := hid_of (H75.out.keep (hb6.block _ H75.out.lt))
          have HW6 := hid_of (HW5.out.keep (p' := fun b => w.heap.size + 2 ≤ b ∧ b ≠ g8) (Keep.below hb6))
          have HB6 := hid_of (bel_call HB5.out hb6)
          have hs6 : w.heap.size + 2 ≤ W6.heap.size := by have := H76.out.lt; omega
          clear HPr hpo hpi hb6 HO5 H65 H75 HW5 HB5 q74 f74
          go_wp2_with (at_builtin; refine stop_here ?_)
          refine stop_go (wp_appI rfl _ _ rfl (w.heap.size + 2) (.slice (some ⟨g8, 0, none⟩) T'.length c8) T' rfl HO6.out P rfl HPI.out (by omega) hs6 ?_)
          intro v' w' ho' hg hv'
          obtain ⟨va, vc, rfl, -⟩ := owns_slice ho'
          have hgb : ∀ b, b < W6.heap.size → b ≠ g8 → w'.heap[b]? = W6.heap[b]? := fun b h1 h2 => hg.block b h1 (fun e => by simp [Value.ownBlock] at e; exact h2 e)
          have hg8 := (HO6.out.lt g8 rfl).1
          have HS7 : Hid (BdSt w L hd (Bit.orW S (Bit.ofW [(xN : Int)])) (T' ++ P) (.slice ya yn yc) (.slice va (T' ++ P).length vc) w') := by
            refine ⟨ho', H66.out.keep (hgb _ H66.out.lt (by omega)), H76.out.keep (hgb _ H76.out.lt (by omega)), HW6.out.keep (fun b hb hlt => ⟨⟨hb.1, fun e => ?_⟩, hgb b hlt hb.2⟩), HBo.out, bel_grown HB6.out hg (fun b e => by have := (HO6.out.lt b e).1; omega)⟩
            rcases hv' with e2 | e2
            · rw [e2] at e; simp [Value.ownBlock] at e; exact hb.2 e
            · rw [e2] at e; simp at e; omega
          have hlP : (T' ++ P).length = T'.length + P.length := List.length_append
          have HG1 : Hid ((T' ++ P).length ≤ 3000 + 1000 * cntS n (Bit.orW S (Bit.ofW [(xN : Int)]))) := by show _ ≤ _; rw [HCW.out, hlP]; omega
          have HG2 : Hid ((T' ++ P).length + 2000 * (n - cntS n (Bit.orW S (Bit.ofW [(xN : Int)]))) ≤ gk - 1) := by show _ ≤ _; rw [HCW.out, hlP]; omega
          have hgk : 0 < gk := by omega
          clear ho' hg hv' hgb hlP
          go_wp2_with fail
          go_roundg (gk - 1)
          case rel => exact ⟨_, T' ++ P, _, _, _, _, _, by rw [List.length_append], HS7, HG1, HG2⟩
          case measure => omega
end
end Go.Proofs.Ytcihobmjohpnkaa
