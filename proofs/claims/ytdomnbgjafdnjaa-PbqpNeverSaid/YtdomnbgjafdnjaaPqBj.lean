/- The general solver is begun: a matrix of cloned rows; an edge more. -/
import Derived.Test.YtdomnbgjafdnjaaPqBs
namespace Go.Proofs.Ytdomnbgjafdnjaa
open Go.RowKit Go.Maps Go.ChangeMaps

/-- Of a matrix its first rows have been laid. -/
structure MtS (B : Nat) (M : List (List Int)) (mv : Value) (vs : List Value) (W : World) : Prop where
  ow : W.ownsRow B 71 1 mv vs.length vs
  el : ∀ j (_ : j < vs.length), ∃ a c, vs[j] = .slice a (M.getD j []).length c ∧ IsInts (pFl B mv) W (.slice a (M.getD j []).length c) (M.getD j [])
theorem MtS.nil (B : Nat) (M : List (List Int)) (W : World) : MtS B M (.slice none 0 0) [] W := ⟨World.ownsRow_nil _ _ _ _, fun j hj => by simp at hj⟩
theorem MtS.push {B : Nat} {M : List (List Int)} {mv v' u : Value} {vs : List Value} {W Y w1 : World} (h : MtS B M mv vs W) (hY : Below W.heap.size W Y) (hB : B ≤ W.heap.size) {ua : Option Addr} {uc : Nat} (hu : u = .slice ua (M.getD vs.length []).length uc)
    (hi : IsInts (fun b => W.heap.size ≤ b ∧ b < Y.heap.size) Y u (M.getD vs.length [])) (ho : w1.ownsRow B 71 1 v' (vs ++ [u]).length (vs ++ [u])) (hg : Y.grownBy w1 mv.ownBlock) (hat : v'.ownBlock = mv.ownBlock ∨ ∃ g, v'.ownBlock = some g ∧ Y.heap.size ≤ g) : MtS B M v' (vs ++ [u]) w1 := by
  have hub : ∀ b, mv.ownBlock = some b → B ≤ b ∧ b < W.heap.size := fun b hb => h.ow.lt b hb
  have hys := hY.size
  refine ⟨ho, fun j hj => ?_⟩
  by_cases hjl : j < vs.length
  · rw [List.getElem_append_left hjl]
    obtain ⟨a, c, e1, e2⟩ := h.el j hjl
    refine ⟨a, c, e1, e2.keep (fun b hb hlt => ⟨⟨hb.1, fun e => ?_⟩, (hg.block b (by omega) hb.2).trans (hY.block b hlt)⟩)⟩
    rcases hat with e4 | ⟨g, e4, e5⟩
    · exact hb.2 (by rw [e, e4])
    · rw [e4] at e
      have : b = g := by simpa using e
      omega
  · have hje : j = vs.length := by simp at hj; omega
    subst hje
    rw [List.getElem_append_right (Nat.le_refl _)]
    simp only [Nat.sub_self, List.getElem_cons_zero]
    refine ⟨ua, uc, hu, ?_⟩
    rw [← hu]
    refine hi.keep (fun b hb hlt => ⟨⟨by omega, fun e => ?_⟩, hg.block b hlt (fun e => by have := (hub b e.symm).2; omega)⟩)
    rcases hat with e4 | ⟨g, e4, e5⟩
    · rw [e4] at e
      have := (hub b e.symm).2; omega
    · rw [e4] at e
      have : b = g := by simpa using e
      omega
theorem owns_sl {W : World} {B n : Nat} {e : TypeId} {v : Value} {vs : List Value} (h : W.ownsRow B e 1 v n vs) (hn : n ≤ 140737488351232) : ∃ a c, v = .slice a n c ∧ n ≤ c ∧ vs.length = n ∧ (n = 0 ∨ ∃ g, a = some ⟨g, 0, none⟩ ∧ B ≤ g ∧ g < W.heap.size ∧ ∀ j (hj : j < vs.length), W.cell? ⟨g, j, none⟩ = some vs[j]) := by
  rcases owns_nilcase h with ⟨rfl, rfl, rfl⟩ | ⟨g, cap, rfl⟩
  · exact ⟨none, 0, rfl, Nat.le_refl _, rfl, .inl rfl⟩
  · obtain ⟨cur, h1, h2, h3, -, -, h5, h6, h7⟩ := owns_block h
    rw [Nat.mul_one] at h6
    refine ⟨_, cap, rfl, h3, h6, .inr ⟨g, rfl, h1, h7, fun j hj => ?_⟩⟩
    have := (RowP.of_owns h).cell (k := j) (v := vs[j]) (by simp [hj])
    exact this
theorem MtS.rows {B : Nat} {M : List (List Int)} {mv : Value} {vs : List Value} {W : World} (h : MtS B M mv vs W) (hl : vs.length = M.length) (hm : M.length ≤ 1000000) : ∃ ma mc, mv = .slice ma M.length mc ∧ IsRows (fun b => B ≤ b ∧ b < W.heap.size) W (.slice ma M.length mc) M := by
  obtain ⟨a, c, e1, e2, -, e3⟩ := owns_sl h.ow (by omega)
  rw [hl] at e1 e2
  refine ⟨a, c, e1, a, c, rfl, ⟨e2, by omega⟩, ?_⟩
  rcases e3 with e3 | ⟨g, rfl, e4, e5, e6⟩
  · exact .inl (List.length_eq_zero_iff.1 (by omega))
  · refine .inr ⟨g, 0, rfl, ⟨e4, e5⟩, fun j hj => ?_⟩
    have hj2 : j < vs.length := by omega
    obtain ⟨ua, uc, f1, f2⟩ := h.el j hj2
    refine ⟨vs[j], by rw [Nat.zero_add, Nat.mul_one]; exact e6 j hj2, ?_⟩
    rw [f1]
    have : M.getD j [] = M[j] := by simp [List.getD, hj]
    rw [← this]
    exact f2.keep (Keep.refl W fun b hb hlt => ⟨hb.1, hlt⟩)
theorem MatO.rows {B ob : Nat} {own : Nat → Nat} {Ls : List (List Int)} {vals : List Value} {W : World} (h : MatO B own ob Ls vals W) (hB : B ≤ ob) (hm : Ls.length ≤ 1000000) (hl : ∀ j, (Ls.getD j []).length ≤ 1000000) : IsRows (fun b => B ≤ b ∧ b < W.heap.size) W (.slice (some ⟨ob, 0, none⟩) Ls.length Ls.length) Ls := by
  refine ⟨_, _, rfl, ⟨Nat.le_refl _, by omega⟩, .inr ⟨ob, 0, rfl, ⟨hB, h.row.lt⟩, fun j hj => ?_⟩⟩
  have hj2 : j < vals.length := by have := h.len; omega
  have hel := h.el j hj2
  refine ⟨vals[j], h.row.cell (by rw [Nat.zero_add, Nat.mul_one]; simp [hj2]), ?_⟩
  have : Ls.getD j [] = Ls[j] := by simp [List.getD, hj]
  rw [← this]
  exact ints_of_owns hel (by have := hl j; omega) (fun b _ h1 h2 => ⟨h1, h2⟩)

theorem IsMv.tight {W : World} {b nn : Nat} {f : MF} (h : IsMv W b nn f) {m : Nat} (hm : m ≤ 1000000) (hd : ∀ x, f x ≠ none → 0 ≤ x ∧ x < m) : IsMv W b m f := by
  obtain ⟨es0, c0, hb0, hs⟩ := h.size hm hd
  obtain ⟨D, ⟨es, c, hb, F, h1, h2⟩, h3⟩ := h
  have he : es0 = es := by
    have e := hb0.symm.trans hb
    simp at e
    exact e.1
  refine ⟨D, ⟨es, c, hb, F, ?_, h2⟩, h3⟩
  rw [← he, hs]
  exact Nat.le_trans (List.length_filter_le _ _) (by simp)
theorem OkM.turn {M : List (List Int)} {n m : Nat} (h : OkM M n m) : OkM (turnS M m) m n := by
  refine ⟨turnS_length M m, fun r hr => by rw [turnS_get hr, colS_length, h.rows], fun r => ?_⟩
  by_cases hr : r < m
  · rw [turnS_get hr]; exact h.col r
  · have : (turnS M m).getD r [] = [] := by
      rw [List.getD_eq_getElem?_getD, List.getElem?_eq_none (by rw [turnS_length]; omega)]; rfl
    rw [this]
    intro k; simp
/-- One more edge. -/
def PS.edge (S : PS) (a b cm : Nat) (M : List (List Int)) : PS := { S with near := fun x y => if x = a ∧ y = b then some M else if x = b ∧ y = a then some (turnS M cm) else S.near x y }
section
variable {w W W' Wm : World} {L : Pl} {ow : Nat → Tg} {n : Nat} {S : PS} {us : List (Nat × List Int)} {uv : Value} {uvs : List Value}
theorem SS.join (h : SS w L ow n S us uv uvs W) (hm : Below W.heap.size W Wm) {a b mc ob : Nat} {maA : Option Addr} {own : Nat → Nat} {vals : List Value} {M : List (List Int)} {fa fb : MF} (ha : a < n) (hb : b < n) (hab : a ≠ b) (hn : n ≤ 300) (hsa : S.near a b = none) (hsb : S.near b a = none)
    (hfa : MapAt L ow n S a fa W) (hfb : MapAt L ow n S b fb W) (hO : OkM M (L.cs a) (L.cs b)) (hR : IsRows (fun x => W.heap.size ≤ x ∧ x < Wm.heap.size) Wm (.slice maA (L.cs a) mc) M)
    (hob : Wm.heap.size ≤ ob) (hMO : MatO Wm.heap.size own ob (turnS M (L.cs b)) vals W') (hA : IsMv W' (L.pb a) (n + 1) (updF fa (b : Int) (.slice maA (L.cs a) mc))) (hB : IsMv W' (L.pb b) (n + 1) (updF fb (a : Int) (.slice (some ⟨ob, 0, none⟩) (L.cs b) (L.cs b))))
    (hk : ∀ x, x < Wm.heap.size → x ≠ L.pb a → x ≠ L.pb b → W'.heap[x]? = Wm.heap[x]?) (hsz : Wm.heap.size ≤ W'.heap.size) (hbel : Below w.heap.size w W') (hca : L.cs a ≤ 300) (hcb : L.cs b ≤ 300) :
    SS w L (fun x => if x < W.heap.size then ow x else if x < Wm.heap.size then .mat a b else if x < W'.heap.size then .mat b a else .old) n (S.edge a b (L.cs b) M) us uv uvs W' := by
  have hms := hm.size
  have hlt : ∀ {x : Nat} {o : Obj}, W.heap[x]? = some o → x < W.heap.size := fun h => lt_of_block h
  have hta := h.tv a ha
  have htb := h.tv b hb
  have kt : KT ow (fun t => t = .map a ∨ t = .map b) W W' := fun x hx hne => (hk x (by omega) (fun e => hne (.inl (by rw [e]; exact hta.2))) (fun e => hne (.inr (by rw [e]; exact htb.2)))).trans (hm.block x hx)
  have ko : ∀ x, x < W.heap.size → (if x < W.heap.size then ow x else if x < Wm.heap.size then Tg.mat a b else if x < W'.heap.size then Tg.mat b a else Tg.old) = ow x := fun x hx => if_pos hx
  have hdom : ∀ (f : MF) (y : Nat) (v : Value), (∀ x, f x ≠ none → 0 ≤ x ∧ x < n) → y < n → ∀ x, updF f (y : Int) v x ≠ none → 0 ≤ x ∧ x < n := fun f y v hf hy x hx => by
    unfold updF at hx
    by_cases e : x = (y : Int)
    · omega
    · rw [if_neg e] at hx; exact hf x hx
  have hpl : ∀ k, k < n → L.pb k < W.heap.size := fun k hk => by obtain ⟨f, hf⟩ := h.pr k hk; exact hf.mv.lt
  have hmat : ∀ k j (v : Value) (N : List (List Int)), IsRows (fun x => ow x = .mat k j) W v N → IsRows (fun x => (if x < W.heap.size then ow x else if x < Wm.heap.size then Tg.mat a b else if x < W'.heap.size then Tg.mat b a else Tg.old) = .mat k j) W' v N := fun k j v N hi =>
    hi.keep (fun x hx hlt => ⟨(ko x hlt).trans hx, kt x hlt (by rw [hx]; simp)⟩)
  refine ⟨h.sv.keep (h.svK kt (by simp)), h.lr.keep (h.lrK kt (by simp)), h.gr.keep (h.grK kt (by simp)), h.xrK kt (by simp), h.mrK kt (by simp), fun j hj => ?_, fun j hj => ?_, h.unK kt (by simp), h.ul, fun j hj => ?_, ?_, fun j hj => ?_, fun x hx => ?_, fun x hx => ?_, h.lo, hbel⟩
  · have := h.vrK kt hj (by simp)
    exact ⟨this.row, this.len, this.cap, this.ok⟩
  · by_cases ea : j = a
    · subst ea
      refine ⟨_, hA.tight (by omega) (hdom fa b _ hfa.dom hb), hdom fa b _ hfa.dom hb, fun i hi hi2 => ?_, fun i hi N hN => ?_⟩
      · have e2 : i ≠ b := fun e => by subst e; simp [PS.edge] at hi2
        have e3 : ¬ (i : Int) = (b : Int) := by omega
        unfold updF; rw [if_neg e3]
        refine hfa.no i hi ?_
        simpa [PS.edge, e2, hab] using hi2
      · by_cases e2 : i = b
        · subst e2
          have : M = N := by simpa [PS.edge] using hN
          subst this
          refine ⟨maA, mc, by unfold updF; rw [if_pos rfl], hR.keep (fun x hx hlt => ⟨?_, hk x hx.2 (by have := hpl j ha; omega) (by have := hpl i hb; omega)⟩), hO⟩
          show (if x < W.heap.size then ow x else if x < Wm.heap.size then Tg.mat j i else if x < W'.heap.size then Tg.mat i j else Tg.old) = _
          rw [if_neg (by omega), if_pos hx.2]
        · have e3 : ¬ (i : Int) = (b : Int) := by omega
          obtain ⟨m1, m2, f1, f2, f3⟩ := hfa.yes i hi N (by simpa [PS.edge, e2, hab] using hN)
          exact ⟨m1, m2, by unfold updF; rw [if_neg e3]; exact f1, hmat _ _ _ _ f2, f3⟩
    · by_cases eb : j = b
      · subst eb
        refine ⟨_, hB.tight (by omega) (hdom fb a _ hfb.dom ha), hdom fb a _ hfb.dom ha, fun i hi hi2 => ?_, fun i hi N hN => ?_⟩
        · have e2 : i ≠ a := fun e => by subst e; simp [PS.edge, ea] at hi2
          have e3 : ¬ (i : Int) = (a : Int) := by omega
          unfold updF; rw [if_neg e3]
          refine hfb.no i hi ?_
          simpa [PS.edge, e2, ea] using hi2
        · by_cases e2 : i = a
          · subst e2
            have : turnS M (L.cs j) = N := by simpa [PS.edge, ea] using hN
            subst this
            have hrw := hMO.rows hob (by rw [turnS_length]; omega) (fun r => by
              by_cases hr : r < L.cs j
              · rw [turnS_get hr, colS_length, hO.rows]; omega
              · have : (turnS M (L.cs j)).getD r [] = [] := by
                  rw [List.getD_eq_getElem?_getD, List.getElem?_eq_none (by rw [turnS_length]; omega)]; rfl
                rw [this]; simp)
            rw [turnS_length] at hrw
            refine ⟨_, _, by unfold updF; rw [if_pos rfl], hrw.keep (fun x hx hlt => ⟨?_, rfl⟩), hO.turn⟩
            show (if x < W.heap.size then ow x else if x < Wm.heap.size then Tg.mat i j else if x < W'.heap.size then Tg.mat j i else Tg.old) = _
            rw [if_neg (by omega), if_neg (by omega), if_pos hx.2]
          · have e3 : ¬ (i : Int) = (a : Int) := by omega
            obtain ⟨m1, m2, f1, f2, f3⟩ := hfb.yes i hi N (by simpa [PS.edge, e2, ea] using hN)
            exact ⟨m1, m2, by unfold updF; rw [if_neg e3]; exact f1, hmat _ _ _ _ f2, f3⟩
      · obtain ⟨f, hf⟩ := h.pr j hj
        refine ⟨f, ?_⟩
        have h1 : MapAt L (fun x => if x < W.heap.size then ow x else if x < Wm.heap.size then Tg.mat a b else if x < W'.heap.size then Tg.mat b a else Tg.old) n S j f W' :=
          hf.keep2 (kt _ hf.mv.lt (by rw [(h.tv j hj).2]; simp [ea, eb])) (fun x i hx hxo => ⟨(ko x hx).trans hxo, kt x hx (by rw [hxo]; simp)⟩)
        exact h1.of_near (fun i => by simp [PS.edge, ea, eb])
  · exact (h.cl j hj).keep2 (fun x hx hxo => ⟨(ko x hx).trans hxo, kt x hx (by rw [hxo]; simp)⟩)
  · obtain ⟨a1, a2, a3, a4, a5⟩ := h.ts
    obtain ⟨xs, x1, -⟩ := h.xr
    obtain ⟨ms, m1, -⟩ := h.mr
    exact ⟨(ko _ h.sv.lt).trans a1, (ko _ h.lr.lt).trans a2, (ko _ h.gr.lt).trans a3, (ko _ x1.lt).trans a4, (ko _ m1.lt).trans a5⟩
  · obtain ⟨a1, a2⟩ := h.tv j hj
    exact ⟨(ko _ (h.vr j hj).row.lt).trans a1, (ko _ (hpl j hj)).trans a2⟩
  · exact (ko x (h.un.lt x hx).2).trans (h.tu x hx)
  · show (if x < W.heap.size then ow x else if x < Wm.heap.size then Tg.mat a b else if x < W'.heap.size then Tg.mat b a else Tg.old) = _
    rw [if_neg (by omega), if_neg (by omega), if_neg (by omega)]
end
end Go.Proofs.Ytdomnbgjafdnjaa
