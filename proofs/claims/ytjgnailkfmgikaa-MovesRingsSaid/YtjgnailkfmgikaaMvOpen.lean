/- A law's arguments, opened, with what their numbers can be. -/
import Derived.Test.YtjgnailkfmgikaaOpen
import Derived.Test.YtjgnailkfmgikaaMvW
namespace Go.Proofs.Ytjgnailkfmgikaa
open Go.RowKit Go.ChangeShapes Go.WideShapes

section
variable {H : Type} {enc : TypeId × Value → H} {W : World}

theorem sl_and {α : Type} {k : Nat} {R : World → Nat → Nat → α → Prop} {q : α → Prop} {p : Nat → Prop} {w : World} {v : Value} {xs : List α} (h : IsSl k (fun W b o x => R W b o x ∧ q x) p w v xs) : IsSl k R p w v xs ∧ ∀ x ∈ xs, q x := by
  obtain ⟨a, cap, hv, hl, hx⟩ := h
  rcases hx with rfl | ⟨b, off, ha, hp, hc⟩
  · exact ⟨⟨a, cap, hv, hl, .inl rfl⟩, fun x hx => by simp at hx⟩
  · refine ⟨⟨a, cap, hv, hl, .inr ⟨b, off, ha, hp, fun j hj => (hc j hj).1⟩⟩, fun x hx => ?_⟩
    obtain ⟨j, hj, rfl⟩ := List.mem_iff_getElem.1 hx
    exact (hc j hj).2

theorem opens_int64 {P : Program} {t : TypeId} (ht : P.underlying t = some (.int .i64)) : Opens enc P W t (fun W b o x => CInt W b o x ∧ In64 x) := by
  intro b off fuel cs D Pl _ hc h _
  obtain ⟨n, rfl, _, hw⟩ := DataW.trod_int ht h
  exact ⟨n, hc 0 _ rfl, hw⟩

theorem open_ints64 {fuel : Nat} {v : Value} {D : DataW H} {Pl : List MemPlace} (h : DataW.trod enc Try.prog W 0 (fun _ => true) true fuel 33 [v] = some (D, Pl)) (hw : ∀ n ∈ D.weights Try.prog 33, n ≤ reachBytes) :
    ∃ xs, IsInts (· < W.heap.size) W v xs ∧ ∀ x ∈ xs, In64 x := by
  obtain ⟨xs, hx⟩ := open_slv (k := 1) Try.underlying33 (by kernel_rfl) (by decide) (by kernel_rfl) (fun _ _ _ h => lt_of_cell h.1) (opens_int64 Try.underlying3) h hw
  exact ⟨xs, sl_and hx⟩

theorem opens_pair64 : Opens enc Try.prog W 30 (fun W b o x => CPair W b o x ∧ (In64 x.1 ∧ In64 x.2)) := by
  intro b off fuel cs D Pl hl hc h hw
  rw [show Try.prog.cellsOf 30 = 2 by kernel_rfl] at hl
  obtain ⟨xs, n, _, hx, _, hlen, hf⟩ := DataW.trod_array Try.underlying30 h
  have e3 : Try.prog.cellsOf 3 = 1 := by kernel_rfl
  rw [e3] at hf
  match cs, hl, xs, hlen with
  | [c0, c1], _, [x0, x1], _ =>
    have f0 := hf 0 (by omega)
    have f1 := hf 1 (by omega)
    simp only [Nat.zero_mul, Nat.one_mul, List.drop_zero, List.drop_succ_cons, List.take_succ_cons, List.take_zero, List.getElem?_cons_zero, List.getElem?_cons_succ] at f0 f1
    obtain ⟨a, g0, _, w0⟩ := DataW.trod_int Try.underlying3 f0
    obtain ⟨d, g1, _, w1⟩ := DataW.trod_int Try.underlying3 f1
    simp only [List.cons.injEq, and_true] at g0 g1
    subst g0 g1
    exact ⟨(a, d), ⟨hc 0 _ rfl, hc 1 _ rfl⟩, w0, w1⟩

theorem open_pairs64 {fuel : Nat} {v : Value} {D : DataW H} {Pl : List MemPlace} (h : DataW.trod enc Try.prog W 0 (fun _ => true) true fuel 22 [v] = some (D, Pl)) (hw : ∀ n ∈ D.weights Try.prog 22, n ≤ reachBytes) :
    ∃ xs, IsPairs (· < W.heap.size) W v xs ∧ ∀ m ∈ xs, In64 m.1 ∧ In64 m.2 := by
  obtain ⟨xs, hx⟩ := open_slv (k := 2) Try.underlying22 (by kernel_rfl) (by decide) (by kernel_rfl) (fun _ _ _ h => lt_of_cell h.1.1) opens_pair64 h hw
  exact ⟨xs, sl_and hx⟩
end
end Go.Proofs.Ytjgnailkfmgikaa
