/- Rows of sets that a call makes by appends. -/
import Derived.Test.YtinbfnabngdemaaCxS
import Derived.Test.YtinbfnabngdemaaCnA
import Derived.Test.YtinbfnabngdemaaKBitX
namespace Go.Proofs.Ytinbfnabngdemaa
open Go.RowKit

theorem infoSet : (Try.prog.info? 49).map (fun i => (i.zero, i.size, i.bytes)) = some (some (.agg #[.slice none 0 0]), 1, 24) := by kernel_rfl
/-- A row of sets of the call's own: the sets' words lie at or beyond B, in blocks other than the row's. -/
structure SetOwn (B : Nat) (ov : Value) (l : List (List Nat)) (W : World) : Prop where
  ex : ∃ vs : List Value, W.ownsRow B 49 1 ov l.length vs ∧ vs.length = l.length ∧ ∀ j (h : j < vs.length), IsWords (fun b => B ≤ b ∧ b < W.heap.size ∧ ov.ownBlock ≠ some b) W vs[j] (l.getD j [])
theorem SetOwn.nil (B : Nat) (W : World) : SetOwn B (.slice none 0 0) [] W := ⟨[], World.ownsRow_nil _ _ _ _, rfl, fun j h => by simp at h⟩
theorem SetOwn.below {B : Nat} {ov : Value} {l : List (List Nat)} {W X : World} (h : SetOwn B ov l W) (hb : Below W.heap.size W X) : SetOwn B ov l X := by
  obtain ⟨vs, h1, h2, h3⟩ := h
  exact ⟨vs, owns_below h1 hb, h2, fun j hj => (h3 j hj).keep (fun b hp hlt => ⟨⟨hp.1, Nat.lt_of_lt_of_le hp.2.1 hb.size, hp.2.2⟩, hb.block b hlt⟩)⟩
theorem SetOwn.lt {B : Nat} {ov : Value} {l : List (List Nat)} {W : World} (h : SetOwn B ov l W) : ∀ b, ov.ownBlock = some b → B ≤ b ∧ b < W.heap.size := let ⟨_, h1, _⟩ := h; h1.lt
theorem SetOwn.sl {B : Nat} {ov : Value} {l : List (List Nat)} {W : World} (h : SetOwn B ov l W) : ∃ a c, ov = .slice a l.length c := let ⟨_, h1, _⟩ := h; let ⟨a, c, e, _⟩ := owns_slice h1; ⟨a, c, e⟩
theorem SetOwn.at {B : Nat} {ov : Value} {l : List (List Nat)} {W : World} (h : SetOwn B ov l W) {j : Nat} (hj : j < l.length) : ∃ g c sa sn sc, ov = .slice (some ⟨g, 0, none⟩) l.length c ∧ l.length ≤ c ∧ W.cell? ⟨g, j, none⟩ = some (.slice sa sn sc) ∧ IsWords (fun b => B ≤ b ∧ b < W.heap.size ∧ ov.ownBlock ≠ some b) W (.slice sa sn sc) (l.getD j []) := by
  obtain ⟨vs, h1, h2, h3⟩ := h
  obtain ⟨a, c, e, ha⟩ := owns_slice h1
  obtain ⟨g, rfl⟩ := ha (by omega)
  subst e
  have hw := h3 j (by omega)
  obtain ⟨sa, sn, sc, e⟩ := words_slice hw
  rw [e] at hw
  have hcap : l.length ≤ c := by
    rcases h1.2 with ⟨e, _⟩ | ⟨g', cap', cur, e, _, _, hn, _⟩
    · cases e
    · cases e; exact hn
  exact ⟨g, c, sa, sn, sc, rfl, hcap, by rw [← e]; exact (RowP.of_owns h1).cell (by simp [show j < vs.length by omega]), hw⟩
theorem getDN_snoc (l : List (List Nat)) (x : List Nat) (j : Nat) : (l ++ [x]).getD j [] = if j < l.length then l.getD j [] else if j = l.length then x else [] := by
  by_cases h : j < l.length
  · rw [if_pos h, List.getD_eq_getElem?_getD, List.getElem?_append_left h, ← List.getD_eq_getElem?_getD]
  · rw [if_neg h]
    by_cases e : j = l.length
    · subst e; simp [List.getD]
    · rw [if_neg e]
      have : (l ++ [x]).length ≤ j := by simp; omega
      simp [List.getD, List.getElem?_eq_none this]
/-- A set behind such a row. -/
theorem app_set {ops : Array Oper} {rest : List Oper} {o : Oper} {a : Act} {Q : Exit → Act → World → Prop} {W : World}
    (hgd : o.guard = none) (s x : Operand) (hop : o.op = .call { callee := .builtin .append, args := #[s, x], argTypes := #[46, 46] })
    (B : Nat) (v : Value) (l : List (List Nat)) (hs : a.eval s = v) (hown : SetOwn B v l W) (g : Nat) (y : Value) (ws : List Nat) (hx : a.eval x = .slice (some ⟨g, 0, none⟩) 1 1)
    (hy : IsWords (fun b => B ≤ b ∧ b < W.heap.size ∧ v.ownBlock ≠ some b) W y ws)
    (hc : W.heap[g]? = some (.cells #[y] 49 (0, 0))) (hn : l.length + 1 ≤ 100000) (hb : B ≤ W.heap.size)
    (h : ∀ v' w', SetOwn B v' (l ++ [ws]) w' → W.grownBy w' v.ownBlock → wpList Try.prog ops Q rest (a.put o.dst v') w') :
    wpList Try.prog ops Q (o :: rest) a W := by
  obtain ⟨i0, hi, hz0, hz1, hz2⟩ := info_parts infoSet
  obtain ⟨vs, h1, h2, h3⟩ := hown.ex
  obtain ⟨ya, yn, yc, rfl⟩ := words_slice hy
  refine wp_app _ hgd s x 46 hop B 49 i0 (.agg #[.slice none 0 0]) 1 24 Try.underlying46 hi hz0 hz1 hz2 rfl (by decide) v l.length vs hs h1
    ⟨g, 0, none⟩ 1 1 [.slice ya yn yc] hx rfl ?_ ?_ ?_ ?_ hb ?_
  · intro j u hj
    match j, hj with
    | 0, hj => simp at hj; subst hj; simp [Addr.add, cell_of_one hc]
  · intro u hu; simp at hu; subst hu; rfl
  · unfold maxLen; omega
  · omega
  · intro v' w' ho hg hv
    refine h v' w' ⟨vs ++ [.slice ya yn yc], by simpa using ho, by simp [h2], fun j hj => ?_⟩ hg
    have hk : ∀ b, b < W.heap.size → v.ownBlock ≠ some b → b < w'.heap.size ∧ v'.ownBlock ≠ some b ∧ w'.heap[b]? = W.heap[b]? := fun b hb hne => by
      refine ⟨Nat.lt_of_lt_of_le hb hg.size, fun e => ?_, hg.block b hb (fun e => hne e.symm)⟩
      rcases hv with e2 | e2
      · rw [e2] at e; exact hne e
      · rw [e2] at e; injection e with e; omega
    have hK : Keep (fun b => B ≤ b ∧ b < W.heap.size ∧ v.ownBlock ≠ some b) (fun b => B ≤ b ∧ b < w'.heap.size ∧ v'.ownBlock ≠ some b) W w' := fun b hp _ => ⟨⟨hp.1, (hk b hp.2.1 hp.2.2).1, (hk b hp.2.1 hp.2.2).2.1⟩, (hk b hp.2.1 hp.2.2).2.2⟩
    rw [getDN_snoc, List.getElem_append]
    by_cases e : j < vs.length
    · rw [dif_pos e, if_pos (by omega)]; exact (h3 j e).keep hK
    · rw [dif_neg e, if_neg (by omega), if_pos (by simp at hj; omega)]
      have : j - vs.length = 0 := by simp at hj; omega
      simp only [this, List.getElem_cons_zero]
      exact hy.keep hK
end Go.Proofs.Ytinbfnabngdemaa
