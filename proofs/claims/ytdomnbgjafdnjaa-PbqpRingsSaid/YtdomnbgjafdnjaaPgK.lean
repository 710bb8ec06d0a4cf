/- An edge is laid between two nodes: 'join', wherever. -/
import Derived.Test.YtdomnbgjafdnjaaPgY
import Derived.Test.YtdomnbgjafdnjaaPgJ
namespace Go.Proofs.Ytdomnbgjafdnjaa
open Go.RowKit Go.Maps Go.ChangeMaps

theorem IsMv.tight {W : World} {b nn : Nat} {f : MF} (h : IsMv W b nn f) {m : Nat} (hm : m ≤ 1000000) (hd : ∀ x, f x ≠ none → 0 ≤ x ∧ x < m) : IsMv W b m f := by
  obtain ⟨es0, c0, hb0, hs⟩ := h.size hm hd
  obtain ⟨D, ⟨es, c, hb, F, h1, h2⟩, h3⟩ := h
  have he : es0 = es := by
    have e := hb0.symm.trans hb
    simp at e
    exact e.1
  refine ⟨D, ⟨es, c, hb, F, ?_, h2⟩, h3⟩
  rw [← he, hs]
  exact Nat.le_trans (List.length_filter_le _ _) (by simp)
theorem OkM.turn {M : List (List Int)} {n m : Nat} (h : OkM M n m) : OkM (turnS M m) m n := by
  refine ⟨turnS_length M m, fun r hr => by rw [turnS_get hr, colS_length, h.rows], fun r => ?_⟩
  by_cases hr : r < m
  · rw [turnS_get hr]; exact h.col r
  · have : (turnS M m).getD r [] = [] := by
      rw [List.getD_eq_getElem?_getD, List.getElem?_eq_none (by rw [turnS_length]; omega)]; rfl
    rw [this]
    intro k; simp
/-- The costs of a pair turn. -/
def PS.edge (S : PS) (a b cm : Nat) (M : List (List Int)) : PS := { S with near := fun x y => if x = a ∧ y = b then some M else if x = b ∧ y = a then some (turnS M cm) else S.near x y }
def owJ (ow : Nat → Tg) (z0 z1 z2 a b : Nat) (x : Nat) : Tg := if x < z0 then ow x else if x < z1 then .mat a b else if x < z2 then .mat b a else .old
theorem updF_same {f : MF} {x : Int} {v : Value} (h : f x = some v) : updF f x v = f := by
  funext y
  unfold updF
  by_cases e : y = x
  · rw [if_pos e, e, h]
  · rw [if_neg e]
section
variable {w W W' Wm : World} {L : Pl} {ow : Nat → Tg} {n : Nat} {S : PS} {us : List (Nat × List Int)} {uv : Value} {uvs : List Value}
theorem SS.edged (h : SS w L ow n S us uv uvs W) {a b z ca cb oa ob : Nat} {rbA rcA rbB rcB : Nat → Nat} {M : List (List Int)} {fa fb : MF} (ha : a < n) (hb : b < n) (hab : a ≠ b) (hn : n ≤ 300)
    (hz : W.heap.size ≤ z ∧ z ≤ W'.heap.size) (kt : KT ow (fun t => t = .map a ∨ t = .map b ∨ t = .mat a b) W W') (hfa : MapAt L ow n S a fa W) (hfb : MapAt L ow n S b fb W) (hO : OkM M (L.cs a) (L.cs b))
    (hRA : MxAt (fun x => owJ ow W.heap.size z W'.heap.size a b x = .mat a b) W' oa (L.cs a) ca rbA rcA M) (hRB : MxAt (fun x => owJ ow W.heap.size z W'.heap.size a b x = .mat b a) W' ob (L.cs b) cb rbB rcB (turnS M (L.cs b)))
    (hA : IsMv W' (L.pb a) (n + 1) (updF fa (b : Int) (.slice (some ⟨oa, 0, none⟩) (L.cs a) ca))) (hB : IsMv W' (L.pb b) (n + 1) (updF fb (a : Int) (.slice (some ⟨ob, 0, none⟩) (L.cs b) cb))) (hbel : Below w.heap.size w W') :
    SS w L (owJ ow W.heap.size z W'.heap.size a b) n (S.edge a b (L.cs b) M) us uv uvs W' := by
  have ko : ∀ x, x < W.heap.size → owJ ow W.heap.size z W'.heap.size a b x = ow x := fun x hx => if_pos hx
  have hdom : ∀ (f : MF) (y : Nat) (v : Value), (∀ x, f x ≠ none → 0 ≤ x ∧ x < n) → y < n → ∀ x, updF f (y : Int) v x ≠ none → 0 ≤ x ∧ x < n := fun f y v hf hy x hx => by
    unfold updF at hx
    by_cases e : x = (y : Int)
    · omega
    · rw [if_neg e] at hx; exact hf x hx
  have hpl : ∀ k, k < n → L.pb k < W.heap.size := fun k hk => by obtain ⟨f, hf⟩ := h.pr k hk; exact hf.mv.lt
  have hmat : ∀ k j o m c rb rc (N : List (List Int)), ¬ (k = a ∧ j = b) → MxAt (fun x => ow x = .mat k j) W o m c rb rc N → MxAt (fun x => owJ ow W.heap.size z W'.heap.size a b x = .mat k j) W' o m c rb rc N := fun k j o m c rb rc N hne hi =>
    hi.keep (fun x hx hlt => ⟨(ko x hlt).trans hx, kt x hlt (by rw [hx]; simp; exact fun e1 e2 => hne ⟨e1, e2⟩)⟩)
  refine ⟨h.sv.keep (h.svK kt (by simp)), h.lr.keep (h.lrK kt (by simp)), h.ll, h.gr.keep (h.grK kt (by simp)), h.xrK kt (by simp), h.mrK kt (by simp), fun j hj => ?_, fun j hj => ?_, h.unK kt (by simp), h.ul, fun j hj => ?_, ?_, fun j hj => ?_, fun x hx => ?_, fun x hx => ?_, fun x k j hx => ?_, h.lo, hbel⟩
  · have := h.vrK kt hj (by simp)
    exact ⟨this.row, this.len, this.cap, this.ok⟩
  · by_cases ea : j = a
    · subst ea
      refine ⟨_, hA.tight (by omega) (hdom fa b _ hfa.dom hb), hdom fa b _ hfa.dom hb, fun i hi hi2 => ?_, fun i hi N hN => ?_⟩
      · have e2 : i ≠ b := fun e => by subst e; simp [PS.edge] at hi2
        have e3 : ¬ (i : Int) = (b : Int) := by omega
        unfold updF; rw [if_neg e3]
        refine hfa.no i hi ?_
        simpa [PS.edge, e2, hab] using hi2
      · by_cases e2 : i = b
        · subst e2
          have : M = N := by simpa [PS.edge] using hN
          subst this
          exact ⟨oa, ca, rbA, rcA, by unfold updF; rw [if_pos rfl], hRA, hO⟩
        · have e3 : ¬ (i : Int) = (b : Int) := by omega
          obtain ⟨m1, m2, r1, r2, f1, f2, f3⟩ := hfa.yes i hi N (by simpa [PS.edge, e2, hab] using hN)
          exact ⟨m1, m2, r1, r2, by unfold updF; rw [if_neg e3]; exact f1, hmat _ _ _ _ _ _ _ _ (fun e => e2 e.2) f2, f3⟩
    · by_cases eb : j = b
      · subst eb
        refine ⟨_, hB.tight (by omega) (hdom fb a _ hfb.dom ha), hdom fb a _ hfb.dom ha, fun i hi hi2 => ?_, fun i hi N hN => ?_⟩
        · have e2 : i ≠ a := fun e => by subst e; simp [PS.edge, ea] at hi2
          have e3 : ¬ (i : Int) = (a : Int) := by omega
          unfold updF; rw [if_neg e3]
          refine hfb.no i hi ?_
          simpa [PS.edge, e2, ea] using hi2
        · by_cases e2 : i = a
          · subst e2
            have : turnS M (L.cs j) = N := by simpa [PS.edge, ea] using hN
            subst this
            exact ⟨ob, cb, rbB, rcB, by unfold updF; rw [if_pos rfl], hRB, hO.turn⟩
          · have e3 : ¬ (i : Int) = (a : Int) := by omega
            obtain ⟨m1, m2, r1, r2, f1, f2, f3⟩ := hfb.yes i hi N (by simpa [PS.edge, e2, ea] using hN)
            exact ⟨m1, m2, r1, r2, by unfold updF; rw [if_neg e3]; exact f1, hmat _ _ _ _ _ _ _ _ (fun e => ea e.1) f2, f3⟩
      · obtain ⟨f, hf⟩ := h.pr j hj
        refine ⟨f, ?_⟩
        have h1 : MapAt L (owJ ow W.heap.size z W'.heap.size a b) n S j f W' :=
          hf.keep2 (kt _ hf.mv.lt (by rw [(h.tv j hj).2]; simp [ea, eb])) (fun x i hx hxo => ⟨(ko x hx).trans hxo, kt x hx (by rw [hxo]; simp; exact fun e => absurd e ea)⟩)
        exact h1.of_near (fun i => by simp [PS.edge, ea, eb])
  · exact (h.cl j hj).keep2 (fun x hx hxo => ⟨(ko x hx).trans hxo, kt x hx (by rw [hxo]; simp)⟩)
  · obtain ⟨a1, a2, a3, a4, a5⟩ := h.ts
    obtain ⟨xs, x1, -⟩ := h.xr
    obtain ⟨ms, m1, -⟩ := h.mr
    exact ⟨(ko _ h.sv.lt).trans a1, (ko _ h.lr.lt).trans a2, (ko _ h.gr.lt).trans a3, (ko _ x1.lt).trans a4, (ko _ m1.lt).trans a5⟩
  · obtain ⟨a1, a2⟩ := h.tv j hj
    exact ⟨(ko _ (h.vr j hj).row.lt).trans a1, (ko _ (hpl j hj)).trans a2⟩
  · exact (ko x (h.un.lt x hx).2).trans (h.tu x hx)
  · show (if x < W.heap.size then ow x else if x < z then Tg.mat a b else if x < W'.heap.size then Tg.mat b a else Tg.old) = _
    rw [if_neg (by omega), if_neg (by omega), if_neg (by omega)]
  · by_cases e : x < W.heap.size
    · rw [ko x e] at hx
      exact h.tl x _ _ hx
    · have := h.bel.size; omega
/-- What the pair costs behind it. -/
def sumJ (S : PS) (a b ca : Nat) (M : List (List Int)) : List (List Int) := match S.near a b with
  | some O => addMS O M ca
  | none => M
theorem SS.join {W0 : World} (h : SS w L ow n S us uv uvs W0) (hm : Below W0.heap.size W0 W) {a b ob mc : Nat} {rb rc : Nat → Nat} {M : List (List Int)} (ha : a < n) (hb : b < n) (hab : a ≠ b) (hn : n ≤ 300) (hga : S.gone a = false) (hgb : S.gone b = false)
    (hsy : S.near a b = none → S.near b a = none) (hO : OkM M (L.cs a) (L.cs b)) (hR : MxAt (fun x => W0.heap.size ≤ x ∧ x < W.heap.size) W ob (L.cs a) mc rb rc M) :
    Calls Try.prog 35 #[.pointer (some ⟨L.sb, 0, none⟩), .int .i64 (a : Int), .int .i64 (b : Int), .slice (some ⟨ob, 0, none⟩) (L.cs a) mc] W fun e w' => e = .returned (.tuple #[]) ∧
      (∃ ow', SS w L ow' n (S.edge a b (L.cs b) (sumJ S a b (L.cs a) M)) us uv uvs w') ∧ KT ow (fun t => t = .map a ∨ t = .map b ∨ t = .mat a b) W0 w' := by
  have hw := h.below hm
  have hms := hm.size
  obtain ⟨fa, hfa⟩ := h.pr a ha
  obtain ⟨fb, hfb⟩ := h.pr b hb
  have hfa' : MapAt L ow n S a fa W := hfa.keep (t := fun _ => False) (hm.block _ hfa.mv.lt) (KT.below hm) (fun _ => id)
  have hfb' : MapAt L ow n S b fb W := hfb.keep (t := fun _ => False) (hm.block _ hfb.mv.lt) (KT.below hm) (fun _ => id)
  obtain ⟨ms, hmr, -, hmp⟩ := hw.mr
  have hca := (h.vr a ha).cap
  have hcb := (h.vr b hb).cap
  have hpa : L.pb a < W0.heap.size := hfa.mv.lt
  have hpb : L.pb b < W0.heap.size := hfb.mv.lt
  have hpab : L.pb a ≠ L.pb b := fun e => by
    have h1 := (h.tv a ha).2
    rw [e, (h.tv b hb).2] at h1
    simp at h1
    exact hab h1.symm
  have hlo := h.lo.2.2.2.2
  have q1 := hw.sv.cell (k := 1) rfl
  have c1 := hmr.cell (hmp a ha hga)
  have c2 := hmr.cell (hmp b hb hgb)
  have hOT : ∀ j, j < L.cs b → ((turnS M (L.cs b)).getD j []).length = L.cs a := fun j hj => by rw [turnS_get hj, colS_length, hO.rows]
  cases hab2 : S.near a b with
  | none =>
    refine (join_new (p := fun x => W0.heap.size ≤ x ∧ x < W.heap.size) W (fun x hx => hx.2) q1 c1 c2 ha hb hn (hfa'.mv) (hfb'.mv) hpab (by omega) (by omega) (hfa.no b hb hab2) (hfb.no a ha (hsy hab2)) hR.rows hO hca.2.1 (by omega) (by omega)).mono ?_
    rintro e w' ⟨rfl, ob', own, vals, g1, g2, g3, g4, g5, g6, g7⟩
    have kt : KT ow (fun t => t = .map a ∨ t = .map b ∨ t = .mat a b) W0 w' := fun x hx hne => (g5 x (by omega) (fun e => hne (.inl (by rw [e]; exact (h.tv a ha).2))) (fun e => hne (.inr (.inl (by rw [e]; exact (h.tv b hb).2))))).trans (hm.block x hx)
    obtain ⟨rb', rc', hRB⟩ := g2.mx (n := L.cs b) g1 (turnS_length _ _) hcb.2.1 (by omega) (fun j hj => by rw [hOT j hj]; omega)
    refine ⟨rfl, ⟨owJ ow W0.heap.size W.heap.size w'.heap.size a b, ?_⟩, kt⟩
    have e1 : sumJ S a b (L.cs a) M = M := by unfold sumJ; rw [hab2]
    rw [e1]
    refine h.edged (z := W.heap.size) ha hb hab hn ⟨hms, g6⟩ kt hfa hfb hO (hR.keep (fun x hx _ => ⟨?_, g5 x hx.2 (by omega) (by omega)⟩)) (hRB.keep (fun x hx _ => ⟨?_, rfl⟩)) g3 g4 (g7 _ _ hw.bel (hlo a ha).2 (hlo b hb).2)
    · show (if x < W0.heap.size then ow x else if x < W.heap.size then Tg.mat a b else _) = _
      rw [if_neg (by omega), if_pos hx.2]
    · show (if x < W0.heap.size then ow x else if x < W.heap.size then Tg.mat a b else if x < w'.heap.size then Tg.mat b a else _) = _
      rw [if_neg (by omega), if_neg (by omega), if_pos hx.2]
  | some O =>
    obtain ⟨oo, oc, rb0, rc0, hfo, hMO, hOO⟩ := hfa'.yes b hb O hab2
    have hob2 : OkM (addMS O M (L.cs a)) (L.cs a) (L.cs b) := hOO.addM hO _
    have hOT2 : ∀ j, j < L.cs b → ((turnS (addMS O M (L.cs a)) (L.cs b)).getD j []).length = L.cs a := fun j hj => by rw [turnS_get hj, colS_length, hob2.rows]
    have hnt : ∀ x, x < W0.heap.size → ow x = .mat a b → x ≠ L.sb ∧ x ≠ L.mb ∧ x ≠ L.pb a ∧ x ≠ L.pb b := fun x _ hx => ⟨fun e => by rw [e, h.ts.1] at hx; simp at hx, fun e => by rw [e, h.ts.2.2.2.2] at hx; simp at hx, fun e => by rw [e, (h.tv a ha).2] at hx; simp at hx, fun e => by rw [e, (h.tv b hb).2] at hx; simp at hx⟩
    obtain ⟨oo0, oc0, rb1, rc1, hfo0, hMO0, -⟩ := hfa.yes b hb O hab2
    obtain ⟨rfl, rfl⟩ : oo0 = oo ∧ oc0 = oc := by
      rw [hfo] at hfo0
      simp at hfo0
      exact ⟨hfo0.1.symm, hfo0.2.symm⟩
    have hMO2 : MxAt (fun x => ow x = .mat a b ∧ x < W0.heap.size) W oo0 (L.cs a) oc0 rb1 rc1 O := hMO0.keep (fun x hx hlt => ⟨⟨hx, hlt⟩, hm.block x hlt⟩)
    refine (join_old (p := fun x => ow x = .mat a b ∧ x < W0.heap.size) (q := fun x => W0.heap.size ≤ x ∧ x < W.heap.size) W (fun x hx => ⟨by omega, hnt x hx.2 hx.1⟩) q1 c1 c2 ha hb hn hfa'.mv hfb'.mv (by omega) hfo hMO2 hR.rows (fun x h1 h2 => by omega) hOO hO (by omega)).mono ?_
    rintro e w' ⟨rfl, ob', own, vals, g1, g2, g3, g4, g5, g6, g7⟩
    have kt : KT ow (fun t => t = .map a ∨ t = .map b ∨ t = .mat a b) W0 w' := fun x hx hne => (g5 x (by omega) (fun e => hne (.inr (.inl (by rw [e]; exact (h.tv b hb).2)))) (fun e => hne (.inr (.inr e.1)))).trans (hm.block x hx)
    obtain ⟨rb', rc', hRB⟩ := g2.mx (n := L.cs b) g1 (turnS_length _ _) hcb.2.1 (by omega) (fun j hj => by rw [hOT2 j hj]; omega)
    refine ⟨rfl, ⟨owJ ow W0.heap.size W.heap.size w'.heap.size a b, ?_⟩, kt⟩
    have e1 : sumJ S a b (L.cs a) M = addMS O M (L.cs a) := by unfold sumJ; rw [hab2]
    rw [e1]
    have hA2 : IsMv w' (L.pb a) (n + 1) (updF fa (b : Int) (.slice (some ⟨oo0, 0, none⟩) (L.cs a) oc0)) := by
      rw [updF_same hfo]
      exact (hfa'.mv.keep (g5 _ (by omega) hpab (fun e => (hnt _ e.2 e.1).2.2.1 rfl))).mono (by omega)
    refine h.edged (z := W.heap.size) ha hb hab hn ⟨hms, g6⟩ kt hfa hfb hob2 (g4.keep (fun x hx _ => ⟨?_, rfl⟩)) (hRB.keep (fun x hx _ => ⟨?_, rfl⟩)) hA2 g3 (g7 _ _ hw.bel (hlo b hb).2 (fun x hx => ?_))
    · show (if x < W0.heap.size then ow x else _) = _
      rw [if_pos hx.2]; exact hx.1
    · show (if x < W0.heap.size then ow x else if x < W.heap.size then Tg.mat a b else if x < w'.heap.size then Tg.mat b a else _) = _
      rw [if_neg (by omega), if_neg (by omega), if_pos hx.2]
    · exact h.tl x _ _ hx.1
end
end Go.Proofs.Ytdomnbgjafdnjaa
