/- Rows of rows of numbers, appended. -/
import Derived.Test.YtdomnbgjafdnjaaPqB
import Derived.Test.YtdomnbgjafdnjaaPqE
namespace Go.Proofs.Ytdomnbgjafdnjaa
open Go.RowKit Go.Maps Go.ChangeMaps

/-- Of a matrix its first rows have been laid. -/
structure MtS (B : Nat) (M : List (List Int)) (mv : Value) (vs : List Value) (W : World) : Prop where
  ow : W.ownsRow B 71 1 mv vs.length vs
  el : ∀ j (_ : j < vs.length), ∃ a c, vs[j] = .slice a (M.getD j []).length c ∧ IsInts (pFl B mv) W (.slice a (M.getD j []).length c) (M.getD j [])
theorem MtS.nil (B : Nat) (M : List (List Int)) (W : World) : MtS B M (.slice none 0 0) [] W := ⟨World.ownsRow_nil _ _ _ _, fun j hj => by simp at hj⟩
theorem MtS.push {B : Nat} {M : List (List Int)} {mv v' u : Value} {vs : List Value} {W Y w1 : World} (h : MtS B M mv vs W) (hY : Below W.heap.size W Y) (hB : B ≤ W.heap.size) {ua : Option Addr} {uc : Nat} (hu : u = .slice ua (M.getD vs.length []).length uc)
    (hi : IsInts (fun b => W.heap.size ≤ b ∧ b < Y.heap.size) Y u (M.getD vs.length [])) (ho : w1.ownsRow B 71 1 v' (vs ++ [u]).length (vs ++ [u])) (hg : Y.grownBy w1 mv.ownBlock) (hat : v'.ownBlock = mv.ownBlock ∨ ∃ g, v'.ownBlock = some g ∧ Y.heap.size ≤ g) : MtS B M v' (vs ++ [u]) w1 := by
  have hub : ∀ b, mv.ownBlock = some b → B ≤ b ∧ b < W.heap.size := fun b hb => h.ow.lt b hb
  have hys := hY.size
  refine ⟨ho, fun j hj => ?_⟩
  by_cases hjl : j < vs.length
  · rw [List.getElem_append_left hjl]
    obtain ⟨a, c, e1, e2⟩ := h.el j hjl
    refine ⟨a, c, e1, e2.keep (fun b hb hlt => ⟨⟨hb.1, fun e => ?_⟩, (hg.block b (by omega) hb.2).trans (hY.block b hlt)⟩)⟩
    rcases hat with e4 | ⟨g, e4, e5⟩
    · exact hb.2 (by rw [e, e4])
    · rw [e4] at e
      have : b = g := by simpa using e
      omega
  · have hje : j = vs.length := by simp at hj; omega
    subst hje
    rw [List.getElem_append_right (Nat.le_refl _)]
    simp only [Nat.sub_self, List.getElem_cons_zero]
    refine ⟨ua, uc, hu, ?_⟩
    rw [← hu]
    refine hi.keep (fun b hb hlt => ⟨⟨by omega, fun e => ?_⟩, hg.block b hlt (fun e => by have := (hub b e.symm).2; omega)⟩)
    rcases hat with e4 | ⟨g, e4, e5⟩
    · rw [e4] at e
      have := (hub b e.symm).2; omega
    · rw [e4] at e
      have : b = g := by simpa using e
      omega
theorem owns_sl {W : World} {B n : Nat} {e : TypeId} {v : Value} {vs : List Value} (h : W.ownsRow B e 1 v n vs) (hn : n ≤ 140737488351232) : ∃ a c, v = .slice a n c ∧ n ≤ c ∧ vs.length = n ∧ (n = 0 ∨ ∃ g, a = some ⟨g, 0, none⟩ ∧ B ≤ g ∧ g < W.heap.size ∧ ∀ j (hj : j < vs.length), W.cell? ⟨g, j, none⟩ = some vs[j]) := by
  rcases owns_nilcase h with ⟨rfl, rfl, rfl⟩ | ⟨g, cap, rfl⟩
  · exact ⟨none, 0, rfl, Nat.le_refl _, rfl, .inl rfl⟩
  · obtain ⟨cur, h1, h2, h3, -, -, h5, h6, h7⟩ := owns_block h
    rw [Nat.mul_one] at h6
    refine ⟨_, cap, rfl, h3, h6, .inr ⟨g, rfl, h1, h7, fun j hj => ?_⟩⟩
    have := (RowP.of_owns h).cell (k := j) (v := vs[j]) (by simp [hj])
    exact this
theorem MtS.rows {B : Nat} {M : List (List Int)} {mv : Value} {vs : List Value} {W : World} (h : MtS B M mv vs W) (hl : vs.length = M.length) (hm : M.length ≤ 1000000) : ∃ ma mc, mv = .slice ma M.length mc ∧ IsRows (fun b => B ≤ b ∧ b < W.heap.size) W (.slice ma M.length mc) M := by
  obtain ⟨a, c, e1, e2, -, e3⟩ := owns_sl h.ow (by omega)
  rw [hl] at e1 e2
  refine ⟨a, c, e1, a, c, rfl, ⟨e2, by omega⟩, ?_⟩
  rcases e3 with e3 | ⟨g, rfl, e4, e5, e6⟩
  · exact .inl (List.length_eq_zero_iff.1 (by omega))
  · refine .inr ⟨g, 0, rfl, ⟨e4, e5⟩, fun j hj => ?_⟩
    have hj2 : j < vs.length := by omega
    obtain ⟨ua, uc, f1, f2⟩ := h.el j hj2
    refine ⟨vs[j], by rw [Nat.zero_add, Nat.mul_one]; exact e6 j hj2, ?_⟩
    rw [f1]
    have : M.getD j [] = M[j] := by simp [List.getD, hj]
    rw [← this]
    exact f2.keep (Keep.refl W fun b hb hlt => ⟨hb.1, hlt⟩)
theorem MatO.rows {B ob : Nat} {own : Nat → Nat} {Ls : List (List Int)} {vals : List Value} {W : World} (h : MatO B own ob Ls vals W) (hB : B ≤ ob) (hm : Ls.length ≤ 1000000) (hl : ∀ j, (Ls.getD j []).length ≤ 1000000) : IsRows (fun b => B ≤ b ∧ b < W.heap.size) W (.slice (some ⟨ob, 0, none⟩) Ls.length Ls.length) Ls := by
  refine ⟨_, _, rfl, ⟨Nat.le_refl _, by omega⟩, .inr ⟨ob, 0, rfl, ⟨hB, h.row.lt⟩, fun j hj => ?_⟩⟩
  have hj2 : j < vals.length := by have := h.len; omega
  have hel := h.el j hj2
  refine ⟨vals[j], h.row.cell (by rw [Nat.zero_add, Nat.mul_one]; simp [hj2]), ?_⟩
  have : Ls.getD j [] = Ls[j] := by simp [List.getD, hj]
  rw [← this]
  exact ints_of_owns hel (by have := hl j; omega) (fun b _ h1 h2 => ⟨h1, h2⟩)

theorem owns_keepZ {W W' : World} {B n size : Nat} {e : TypeId} {v : Value} {xs : List Value} {Z : Nat → Prop} (h : W.ownsRow B e size v n xs) (hz : ∀ b, v.ownBlock = some b → Z b) (hk : ∀ b, Z b → b < W.heap.size → W'.heap[b]? = W.heap[b]?) : W'.ownsRow B e size v n xs := by
  have hlt := h.lt
  obtain ⟨h1, h2⟩ := h
  refine ⟨h1, ?_⟩
  rcases h2 with h2 | ⟨g, cap, cur, hv, hg, hh, r⟩
  · exact .inl h2
  · have hb : v.ownBlock = some g := by rw [hv]; rfl
    exact .inr ⟨g, cap, cur, hv, hg, (hk g (hz g hb) (hlt g hb).2).trans hh, r⟩
/-- A row of rows of numbers, the first of M, in blocks of Z. -/
structure RwS (e : TypeId) (B : Nat) (Z : Nat → Prop) (M : List (List Int)) (mv : Value) (vs : List Value) (W : World) : Prop where
  ow : W.ownsRow B e 1 mv vs.length vs
  oz : ∀ b, mv.ownBlock = some b → Z b
  el : ∀ j (_ : j < vs.length), ∃ a c, vs[j] = .slice a (M.getD j []).length c ∧ IsInts (fun b => Z b ∧ some b ≠ mv.ownBlock) W (.slice a (M.getD j []).length c) (M.getD j [])
theorem RwS.nil (e : TypeId) (B : Nat) (Z : Nat → Prop) (M : List (List Int)) (W : World) : RwS e B Z M (.slice none 0 0) [] W := ⟨World.ownsRow_nil _ _ _ _, fun b hb => by simp [Value.ownBlock] at hb, fun j hj => by simp at hj⟩
theorem RwS.keep {e : TypeId} {B : Nat} {Z : Nat → Prop} {M : List (List Int)} {mv : Value} {vs : List Value} {W W' : World} (h : RwS e B Z M mv vs W) (hk : ∀ b, Z b → b < W.heap.size → W'.heap[b]? = W.heap[b]?) : RwS e B Z M mv vs W' :=
  ⟨owns_keepZ h.ow h.oz hk, h.oz, fun j hj => by
    obtain ⟨a, c, e1, e2⟩ := h.el j hj
    exact ⟨a, c, e1, e2.keep (fun b hb hlt => ⟨hb, hk b hb.1 hlt⟩)⟩⟩
theorem RwS.push {e : TypeId} {B : Nat} {Z : Nat → Prop} {M : List (List Int)} {mv v' u : Value} {vs : List Value} {W Y w1 : World} (h : RwS e B Z M mv vs W) (_hZ : ∀ b, Z b → b < W.heap.size) (hY : Below W.heap.size W Y) {ua : Option Addr} {uc : Nat} (hu : u = .slice ua (M.getD vs.length []).length uc)
    (hi : IsInts (fun b => W.heap.size ≤ b ∧ b < Y.heap.size) Y u (M.getD vs.length [])) (ho : w1.ownsRow B e 1 v' (vs ++ [u]).length (vs ++ [u])) (hg : Y.grownBy w1 mv.ownBlock) (hat : v'.ownBlock = mv.ownBlock ∨ ∃ g, v'.ownBlock = some g ∧ Y.heap.size ≤ g) : RwS e B (fun b => Z b ∨ (W.heap.size ≤ b ∧ b < w1.heap.size)) M v' (vs ++ [u]) w1 := by
  have hub : ∀ b, mv.ownBlock = some b → b < W.heap.size := fun b hb => (h.ow.lt b hb).2
  have hys := hY.size
  have hgs := hg.size
  refine ⟨ho, fun b hb => ?_, fun j hj => ?_⟩
  · rcases hat with e1 | ⟨g, e1, e2⟩
    · exact .inl (h.oz b (by rw [← e1]; exact hb))
    · have h3 := (ho.lt b hb).2
      rw [e1] at hb
      have : g = b := by simpa using hb
      exact .inr ⟨by omega, h3⟩
  by_cases hjl : j < vs.length
  · rw [List.getElem_append_left hjl]
    obtain ⟨a, c, e1, e2⟩ := h.el j hjl
    refine ⟨a, c, e1, e2.keep (fun b hb hlt => ⟨⟨.inl hb.1, fun e => ?_⟩, (hg.block b (by omega) hb.2).trans (hY.block b hlt)⟩)⟩
    rcases hat with e4 | ⟨g, e4, e5⟩
    · exact hb.2 (by rw [e, e4])
    · rw [e4] at e
      have : b = g := by simpa using e
      omega
  · have hje : j = vs.length := by simp at hj; omega
    subst hje
    rw [List.getElem_append_right (Nat.le_refl _)]
    simp only [Nat.sub_self, List.getElem_cons_zero]
    refine ⟨ua, uc, hu, ?_⟩
    rw [← hu]
    refine hi.keep (fun b hb hlt => ⟨⟨.inr ⟨hb.1, by omega⟩, fun e => ?_⟩, hg.block b hlt (fun e => by have := hub b e.symm; omega)⟩)
    rcases hat with e4 | ⟨g, e4, e5⟩
    · rw [e4] at e
      have := hub b e.symm; omega
    · rw [e4] at e
      have : b = g := by simpa using e
      omega
theorem RwS.rows {e : TypeId} {B : Nat} {Z : Nat → Prop} {M : List (List Int)} {mv : Value} {vs : List Value} {W : World} (h : RwS e B Z M mv vs W) (hl : vs.length = M.length) (hm : M.length ≤ 1000000) : ∃ ma mc, mv = .slice ma M.length mc ∧ IsRows (fun b => Z b ∧ b < W.heap.size) W (.slice ma M.length mc) M := by
  obtain ⟨a, c, e1, e2, -, e3⟩ := owns_sl h.ow (by omega)
  rw [hl] at e1 e2
  refine ⟨a, c, e1, a, c, rfl, ⟨e2, by omega⟩, ?_⟩
  rcases e3 with e3 | ⟨g, rfl, e4, e5, e6⟩
  · exact .inl (List.length_eq_zero_iff.1 (by omega))
  · refine .inr ⟨g, 0, rfl, ⟨h.oz g (by rw [e1]; rfl), e5⟩, fun j hj => ?_⟩
    have hj2 : j < vs.length := by omega
    obtain ⟨ua, uc, f1, f2⟩ := h.el j hj2
    refine ⟨vs[j], by rw [Nat.zero_add, Nat.mul_one]; exact e6 j hj2, ?_⟩
    rw [f1]
    have : M.getD j [] = M[j] := by simp [List.getD, hj]
    rw [← this]
    exact f2.keep (Keep.refl W fun b hb hlt => ⟨hb.1, hlt⟩)

end Go.Proofs.Ytdomnbgjafdnjaa
