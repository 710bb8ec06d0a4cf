/- A range over a set of nodes that is kept as a map. -/
import Derived.Test.YtinbfnabngdemaaCmM
namespace Go.Proofs.Ytinbfnabngdemaa
open Go.RowKit Go.Maps Go.Sort Go.Shelf Go.WideMaps Go.ChangeMaps Go.WideElems

/-- The loop stands at a set with p; those with q are still to come. -/
def NRg (W : World) (b r nn : Nat) (p q : Nat → Bool) (cnt : Nat) : Prop :=
  ∃ (D : DataW Unit) (left : Lit → Bool), W.ranges Try.prog 3 (plainElem Try.prog 3) b r nn D left cnt ∧ HasP D p ∧ (∀ x, In64 x → left (.int .i64 x) = inP q x) ∧ ∀ k, q k = true → p k = true
section
variable {W W' : World} {b r nn cnt : Nat} {p q : Nat → Bool}
theorem NRg.kept {row : Option Nat} (h : NRg W b r nn p q cnt) (hg : W.grownBy W' row) (hb : some b ≠ row) (hr : some r ≠ row) : NRg W' b r nn p q cnt := let ⟨D, left, h1, h2⟩ := h; ⟨D, left, h1.kept hg hb hr, h2⟩
theorem NRg.below (h : NRg W b r nn p q cnt) (hb : Below W.heap.size W W') : NRg W' b r nn p q cnt := h.kept (row := none) ⟨hb.os, hb.tape, hb.output, hb.size, fun k hk _ => hb.block k hk⟩ (by simp) (by simp)
theorem NRg.left_eq (h : NRg W b r nn p q cnt) : W.rangeLeft b r = cnt := let ⟨_, _, h1, _⟩ := h; h1.left_eq
theorem NRg.lt (h : NRg W b r nn p q cnt) : r < W.heap.size ∧ b < W.heap.size ∧ r ≠ b := let ⟨_, _, h1, _⟩ := h; ⟨h1.lt, h1.owns.lt, h1.ne⟩
theorem NRg.isIter (h : NRg W b r nn p q cnt) : ∃ a s n c, W.heap[r]? = some (.mapIter a s n c) := by
  obtain ⟨D, left, ⟨es, clock, since, seen, c0, _, _, _, _, hr, _⟩, _⟩ := h
  exact ⟨_, _, _, _, hr⟩
/-- 'range m'. -/
theorem wp_rangeN {ops : Array Oper} {rest : List Oper} {o : Oper} {a : Act} {Q : Exit → Act → World → Prop} (hg : o.guard = none) (m : Operand) (hop : o.op = Op.range 71 m) (hm : a.eval m = .map (some b)) (h : IsIs W b nn p)
    (hK : ∀ w' cnt, NRg w' b W.heap.size nn p p cnt → W.grownBy w' none → w'.heap.size = W.heap.size + 1 → wpList Try.prog ops Q rest (a.put o.dst (.pointer (some ⟨W.heap.size, 0, none⟩))) w') :
    wpList Try.prog ops Q (o :: rest) a W := by
  obtain ⟨D, h1, h2⟩ := h
  refine wpList_range_own W hg m 71 hop 3 3 lawInt Try.underlying71 _ b nn D hm h1 ?_
  intro w' r1 r2 r3
  exact hK w' _ ⟨D, _, r1, h2, h2, fun k hk => hk⟩ r2 r3
theorem wp_nextN {ops : Array Oper} {rest : List Oper} {o : Oper} {a : Act} {Q : Exit → Act → World → Prop} (hg : o.guard = none) (it : Operand) (hop : o.op = Op.next it false) (hit : a.eval it = .pointer (some ⟨r, 0, none⟩)) (h : NRg W b r nn p q cnt)
    (hDone : (∀ k, q k = false ∨ 1000000 < k) → wpList Try.prog ops Q rest (a.put o.dst (.tuple #[.bool false])) W)
    (hMore : ∀ (m : Nat) (c : Int) (w' : World) (cnt' : Nat), q m = true → NRg w' b r nn p (fun k => q k && !decide (k = m)) cnt' → cnt' < cnt → W.grownBy w' (some r) → w'.heap.size = W.heap.size →
      (Instr.entry (.pointer (some ⟨r, 0, none⟩))).run Try.prog w' = .ok (.tuple #[.int .i64 (m : Int), .int .i64 c]) w' → wpList Try.prog ops Q rest (a.put o.dst (.tuple #[.bool true, .int .i64 (m : Int), .int .i64 c])) w') :
    wpList Try.prog ops Q (o :: rest) a W := by
  obtain ⟨D, left, h1, h2, h3, h4⟩ := h
  refine wpList_next_ranges_ii W hg it hop 3 3 .i64 .i64 lawInt Try.underlying3 Try.underlying3 b r nn D left cnt hit h1 ?_ ?_
  · intro _ hl
    refine hDone fun k => ?_
    by_cases hk : k ≤ 1000000
    · left
      have := h3 (k : Int) (In64.of (by omega) (by omega))
      rw [hl, inP_nat] at this
      exact this.symm
    · exact .inr (by omega)
  · intro x c w' cnt' hx _ hlx _ hr hlt hg' hs hen
    have hq := (h3 x hx).symm.trans hlx
    unfold inP at hq
    simp only [Bool.and_eq_true, decide_eq_true_eq] at hq
    obtain ⟨m, rfl⟩ : ∃ m : Nat, x = (m : Int) := ⟨x.toNat, by omega⟩
    rw [Int.toNat_natCast] at hq
    refine hMore m c w' cnt' hq.2 ⟨D, _, hr, h2, fun y hy => ?_, fun k hk => h4 k (by simp at hk; exact hk.1)⟩ hlt hg' hs hen
    rw [h3 y hy]
    unfold inP
    by_cases h0 : 0 ≤ y
    · obtain ⟨k, rfl⟩ : ∃ k : Nat, y = (k : Int) := ⟨y.toNat, by omega⟩
      rw [Int.toNat_natCast]
      have e : (Lit.int .i64 (k : Int)).sameKey (.int .i64 (m : Int)) = decide (k = m) := by
        simp only [Lit.sameKey]
        rw [Bool.eq_iff_iff]
        simp
        omega
      rw [e]; simp
    · simp [h0]
end
end Go.Proofs.Ytinbfnabngdemaa
