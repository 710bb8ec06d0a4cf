/- What a loop over a function keeps; appends in such a loop. -/
import Derived.RangeFuncBox
import Derived.Sort.QuietThIn
import Derived.Sort.Defs
import Derived.Below
import Derived.RangeFuncLeaves
import Derived.RangeFuncCalls
import Derived.Shelf.Abstract
import Derived.Shelf.RegionOpen
import Derived.OwnWalkIn
import Derived.TacticsInMore
import Derived.LoopNIn
import Derived.LoopIn
import Derived.Maps.AppendAt
import Derived.Test.YtinbfnabngdemaaKOwn
import Derived.RangeFuncNested
import Derived.RangeFuncFrom
import Derived.Maps.OwnIn
namespace Go.Proofs.Ytinbfnabngdemaa

section
open Go.RowKit Go.Sort Go.Shelf

attribute [local go_sem] Oper.semAt_some

/-- Block b is none that a collecting body writes, whose box is Bo. -/
def Prot (Bo b : Nat) (W : World) : Prop := b ≠ Bo ∧ ∀ v, W.cell? ⟨Bo, 0, none⟩ = some v → v.ownBlock ≠ some b
/-- The box is there, and so is what it names. -/
def Good (Bo : Nat) (W : World) : Prop := Bo < W.heap.size ∧ ∀ v, W.cell? ⟨Bo, 0, none⟩ = some v → ∀ b, v.ownBlock = some b → b < W.heap.size
/-- What a round of a collecting body keeps. -/
structure KeepsBut (n₀ Bo : Nat) (W W' : World) : Prop where
  below : Below n₀ W W'
  cell : ∀ b o v, Prot Bo b W → W.cell? ⟨b, o, none⟩ = some v → W'.cell? ⟨b, o, none⟩ = some v
  prot : ∀ b, b < W.heap.size → Prot Bo b W → Prot Bo b W'
  good : Good Bo W → Good Bo W'
theorem KeepsBut.trans {n₀ Bo : Nat} {A B C : World} (h : KeepsBut n₀ Bo A B) (k : KeepsBut n₀ Bo B C) : KeepsBut n₀ Bo A C :=
  ⟨h.below.trans k.below, fun b o v hp hc => k.cell b o v (h.prot b (lt_of_cell hc) hp) (h.cell b o v hp hc), fun b hb hp => k.prot b (by have := h.below.size; omega) (h.prot b hb hp), fun hg => k.good (h.good hg)⟩
theorem cell_of_block {W W' : World} {b : Nat} (h : W'.heap[b]? = W.heap[b]?) (o : Nat) : W'.cell? ⟨b, o, none⟩ = W.cell? ⟨b, o, none⟩ := World.cell?_of_block (a := ⟨b, o, none⟩) h
/-- A call that only lays new blocks keeps these. -/
theorem KeepsBut.of_below {n₀ Bo : Nat} {W W' : World} (hg : Good Bo W) (hn : n₀ ≤ W.heap.size) (h : Below W.heap.size W W') : KeepsBut n₀ Bo W W' ∧ ∀ b, W.heap.size ≤ b → Prot Bo b W' := by
  have hBo : W'.cell? ⟨Bo, 0, none⟩ = W.cell? ⟨Bo, 0, none⟩ := cell_of_block (h.block Bo hg.1) 0
  refine ⟨⟨h.mono hn, fun b o v _ hc => ?_, fun b _ hp => ⟨hp.1, fun v hv => hp.2 v (by rw [← hBo]; exact hv)⟩, fun _ => ⟨by have := hg.1; have := h.size; omega, fun v hv b hb => ?_⟩⟩, fun b hb => ⟨by have := hg.1; omega, fun v hv e => ?_⟩⟩
  · rw [cell_of_block (h.block b (lt_of_cell hc))]; exact hc
  · rw [hBo] at hv; have := hg.2 v hv b hb; have := h.size; omega
  · rw [hBo] at hv; have := hg.2 v hv b e; omega

theorem IsInts.cells {p p' : Nat → Prop} {w w' : World} {v : Value} {xs : List Int} (h : IsInts p w v xs) (hc : ∀ b o x, p b → w.cell? ⟨b, o, none⟩ = some x → w'.cell? ⟨b, o, none⟩ = some x ∧ p' b) : IsInts p' w' v xs := by
  obtain ⟨a, cap, hv, hl, hx⟩ := h
  refine ⟨a, cap, hv, hl, ?_⟩
  rcases hx with hx | ⟨b, off, ha, hb, hx⟩
  · exact .inl hx
  · by_cases h0 : xs = []
    · exact .inl h0
    · exact .inr ⟨b, off, ha, (hc b _ _ hb (hx 0 (List.length_pos_iff.2 h0))).2, fun j hj => (hc b _ _ hb (hx j hj)).1⟩

/-- 'append' in a round of a range over a function: where the row lies afterwards is told, too. -/
theorem wpIn_app {F : Fence} {n : Nat} {P : Program} (w : World) {ops : Array Oper} {rest : List Oper} {o : Oper} {a : Act} {Q : Exit → Act → World → Prop}
    (hg : o.guard = none) (s x : Operand) (t : TypeId) (hop : o.op = Op.call { callee := Callee.builtin Builtin.append, args := #[s, x], argTypes := #[t, t] })
    (base : Nat) (e : TypeId) (i : TypeInfo) (z : Value) (size bytes : Nat) (h1 : P.underlying t = some (.slice e)) (h2 : P.info? e = some i) (h3 : i.zero = some z) (h4 : i.size = size) (h5 : i.bytes = bytes) (h6 : z.cells.size = size) (h7 : 0 < size)
    (v : Value) (k : Nat) (xs : List Value) (hs : a.eval s = v) (hown : w.ownsRow base e size v k xs) (ad : Addr) (m c : Nat) (news : List Value) (hx : a.eval x = .slice (some ad) m c) (hn : news.length = m * size)
    (hc : ∀ j u, news[j]? = some u → w.cell? (ad.add j) = some u) (h1c : ∀ u ∈ news, u.oneCell' = true) (b1 : k + m ≤ maxLen) (b2 : (k + m) * bytes ≤ 140737488355328) (b3 : base ≤ w.heap.size)
    (hK : ∀ v' w', w'.ownsRow base e size v' (k + m) (xs ++ news) → w.grownBy w' v.ownBlock → (v'.ownBlock = v.ownBlock ∨ v'.ownBlock = some w.heap.size) → wpListIn F n P ops Q rest (a.put o.dst v') w') :
    wpListIn F n P ops Q (o :: rest) a w := by
  refine wpListIn_plain hg fun K hK' => ?_
  obtain ⟨v', w', hrun, r1, r2, r3⟩ := run_app (P := P) w base t o.type e i z size bytes h1 h2 h3 h4 h5 h6 h7 v k xs hown ad m c news hn hc h1c b1 b2 b3
  unfold Oper.wpIn
  refine ⟨?_, ?_⟩
  · simp [Oper.about, hop, resolve, Target.leads, Sem.run_pure]
  · rw [Oper.semAt_plain F _ _ (by rw [hop]; intro c hc'; cases hc')]
    simp [execOp, hop, resolve, invoke, builtin, hs, hx, hrun, Result.andThen]
    exact hK' _ _ (hK v' w' r1 r2 r3)

theorem KeepsBut.refl (n₀ Bo : Nat) (W : World) : KeepsBut n₀ Bo W W := ⟨Below.refl _ _, fun _ _ _ _ h => h, fun _ _ h => h, fun h => h⟩

/-- What a collecting round's append keeps. -/
theorem KeepsBut.appended {W w1 : World} {n₀ Bo : Nat} {t e : TypeId} {v v' : Value} {m : Nat} {ys : List Value} {tmp : Obj}
    (hv : Boxed W Bo t v) (hv1 : Boxed w1 Bo t v) (hr1 : w1.ownsRow n₀ e 1 v' m ys) (hgrow : (W.alloc tmp).grownBy w1 v.ownBlock) (hb : Below n₀ W (w1.setCell ⟨Bo, 0, none⟩ v'))
    (hown : v'.ownBlock = v.ownBlock ∨ v'.ownBlock = some (W.alloc tmp).heap.size) : KeepsBut n₀ Bo W (w1.setCell ⟨Bo, 0, none⟩ v') := by
  have hc2 : (w1.setCell ⟨Bo, 0, none⟩ v').cell? ⟨Bo, 0, none⟩ = some v' := (hv1.set v').cell
  refine ⟨hb, fun b o u hp hc => ?_, fun b hlt hp => ⟨hp.1, fun u hu eb => ?_⟩, fun hG => ⟨by have := hb.size; have := hG.1; omega, fun u hu b hub => ?_⟩⟩
  · have hlt := lt_of_cell hc
    have h1 : w1.heap[b]? = (W.alloc tmp).heap[b]? := hgrow.block b (by simp at hlt ⊢; omega) (fun eb => hp.2 v hv.cell eb.symm)
    have h2 : (w1.setCell ⟨Bo, 0, none⟩ v').heap[b]? = w1.heap[b]? := Below.heap_setCell _ _ _ _ hp.1
    have h3 : (W.alloc tmp).heap[b]? = W.heap[b]? := Below.heap_alloc _ _ _ hlt
    rw [cell_of_block (h2.trans (h1.trans h3))]; exact hc
  · rw [hc2] at hu; cases hu
    rcases hown with h | h
    · exact hp.2 v hv.cell (h.symm.trans eb)
    · rw [h] at eb; simp at eb; omega
  · rw [hc2] at hu; cases hu
    have := (hr1.lt b hub).2
    exact Nat.lt_of_lt_of_le this (grownBy_setCell' w1 Bo v').size

end
end Go.Proofs.Ytinbfnabngdemaa
