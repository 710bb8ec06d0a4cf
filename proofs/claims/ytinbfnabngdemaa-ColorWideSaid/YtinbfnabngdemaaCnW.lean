/- A region that draws its order, in a round of a loop over a function: the fence lets all in, so what holds outside of a round holds there. -/
import Derived.StillTail
import Derived.StillTailTactics
import Derived.OrdersIn
import Derived.OrdersHeld
import Derived.RangeFuncFrom
namespace Go.Proofs.Ytinbfnabngdemaa
open Go

section
variable {n : Nat} {P : Program} {ops : Array Oper} {md : Region.Mode} {Q : Exit → Act → World → Prop}
theorem round_op {lr : Nat} {o : Oper} {a : Act} {w : World} {K : Act → World → Prop} (hnd : ∀ c, o.op ≠ .defer c) (h : o.wp P a w K Q) : o.wpIn (Fence.wide.inRound lr) n P a w K Q := by
  unfold Oper.wp at h
  refine ⟨fun _ _ => trivial, ?_⟩
  rw [Oper.semAt_eq _ _ _ hnd]
  revert h
  generalize (execOp a.eval o).run P w = r
  intro h
  cases r with
  | ok x w' =>
    cases x with
    | enter f args => exact ⟨fun e => (by simp [Fence.wide] at e), callsIn_wide.2 h⟩
    | row r args =>
      refine ⟨fun e => (by simp [Fence.wide] at e), fun c cs _ => ?_⟩
      obtain ⟨v, w', h1, h2⟩ := h c cs
      exact ⟨v, w', h1, stepsIn_wide.2 h2⟩
    | round _ _ _ _ _ => exact h.elim
    | _ => exact h
  | halt x w' => cases x <;> exact h
theorem round_any {lr : Nat} (hnd : ∀ (i : Nat) o, ops[i]? = some o → ∀ c, o.op ≠ .defer c) (hq : ¬ LetsOut Q) : ∀ (fuel : Nat) (listed : Array Bool) (a : Act) (w : World), wpAny P md ops Q fuel listed a w → wpAnyIn (Fence.wide.inRound lr) n P md ops Q fuel listed a w
  | 0, _, _, _, h => h
  | fuel + 1, listed, a, w, h => by
    refine ⟨h.1, fun i hi => ?_⟩
    have h1 := h.2 i hi
    unfold wpOp at h1
    unfold wpOpIn
    cases ho : ops[i]? with
    | none => rw [ho] at h1; exact round_any hnd hq fuel _ _ _ h1
    | some o =>
      rw [ho] at h1
      dsimp only at h1 ⊢
      split
      · rename_i hw
        rw [if_pos hw] at h1
        rcases h1 with h1 | h1
        · exact round_op (hnd i o ho) (Oper.wp_mono (fun a' w' h2 => round_any hnd hq fuel _ _ _ h2) h1)
        · exact absurd h1.2 hq
      · rename_i hw
        rw [if_neg hw] at h1
        exact ⟨fun _ _ => trivial, round_any hnd hq fuel _ _ _ h1⟩
/-- The first m operations are still, the others come in the text's order. -/
theorem round_tail {id lr : Nat} {a : Act} {w : World} {l : List Oper} (m : Nat) (hm : P.follows .mixedOrders = true) (hB : Region.lexTailB .any l.toArray m = true) (hnd : ∀ (i : Nat) o, l.toArray[i]? = some o → ∀ c, o.op ≠ .defer c) (hq : ¬ LetsOut Q)
    (h : wpStill P l.toArray w.drew (fun a' => wpList P l.toArray Q (l.drop m) a' w.drew) (l.take m) a) : (Code.region id l.toArray true).wpIn (Fence.wide.inRound lr) n P Q a w := by
  simp only [Region.lexTailB, Bool.and_eq_true, decide_eq_true_eq] at hB
  obtain ⟨⟨⟨⟨b1, b2⟩, b3⟩, b4⟩, b5⟩ := hB
  have e1 : m < l.length := by simpa using b2
  have e2 : (l.take m).length = m := by simp; omega
  have e3 : (l.drop m).length = l.toArray.size - m := by simp
  refine wpIn_region_any hm (round_any hnd hq _ _ _ _ ?_)
  have hL := wpAnyL_lex (md := .any) (g := l.toArray.size - m) b1 b3 b4 b2 (l.take m) 0 (Array.replicate l.toArray.size false) a
    (fun j hj => by have : j < m := by omega
                    simp [this]) (by omega)
    ⟨by simp, fun j _ _ e => (by rw [getD_replicate_false] at e; cases e), fun _ _ ht => getD_in (by simpa using ht) (getD_replicate_false _ _)⟩ (by rw [e2]; exact b5) h
  have hA := wpAny_of_head (Q' := Q) (g := l.toArray.size - m) (fun listed a' hx => by
    have hy := wpAny_of_seq (md := .any) (Q' := Q) (l.drop m) m listed a' w.drew (fun j => by simp [List.getElem?_drop]) (by rw [e3]; exact hx.1) hx.2
    rw [e3] at hy
    exact hy) _ _ _ hL
  rw [e2, Nat.add_sub_cancel' (Nat.le_of_lt b2)] at hA
  exact hA
/-- A condition that holds behind each operation. -/
theorem round_held {id lr : Nat} {a : Act} {w : World} {l : List Oper} {S : World → Prop} (hm : P.follows .mixedOrders = true) (hnd : ∀ (i : Nat) o, l.toArray[i]? = some o → ∀ c, o.op ≠ .defer c) (hq : ¬ LetsOut Q) (hS : S w.drew)
    (h : S w.drew → wpAnyH P .any l.toArray Q S l.toArray.size (Array.replicate l.toArray.size false) a w.drew) : (Code.region id l.toArray true).wpIn (Fence.wide.inRound lr) n P Q a w :=
  wpIn_region_any hm (round_any hnd hq _ _ _ _ (wpAny_of_held _ _ _ _ (h hS)))
/-- Where a region does not panic the post may say less. -/
def noPan (Q : Exit → Act → World → Prop) : Exit → Act → World → Prop
  | .normal, a, w => Q .normal a w
  | _, _, _ => False
theorem wp_noPan {c : Code} {a : Act} {w : World} (h : c.wp P (noPan Q) a w) : c.wp P Q a w := wp_mono h fun e _ _ hq => by
  cases e with
  | normal => exact hq
  | _ => exact hq.elim
end
section
open Go.RowKit
/-- A loop over a function with one variable: the frame in a round is the frame ahead of it with the variable laid in. -/
theorem range_one {F : Fence} {n : Nat} {P : Program} {α : Type} {g : Operand} {p : Tmp} {assign body : Code} {Q : Exit → Act → World → Prop} {a : Act} {w : World}
    (hro : F.round = none) (h1 : 1 ≤ n) {gf : Nat} {lb : Array Value} (hg : a.eval g = .func (.func gf) #[] lb) (hFg : F.fn gf) (eg : ∀ args w, (callFunc gf args).run P w = .ok (.enter gf args) w)
    {enc : α → Value} {Kp : World → World → Prop} {S Sp : List α → Prop} {N : Nat} {w0 : World} (hseq : SeqStopsK F (n - 1) P gf lb (fun x => #[enc x]) Kp S Sp N w0)
    (hKt : ∀ {A B C : World}, Kp A B → Kp B C → Kp A C) (hKb : ∀ (W : World) (l : Nat) (o o' : Obj), w.heap.size ≤ l → W.heap[l]? = some o → o.isCells = false → o.isWalk = false → Kp W (W.putObj l o')) (hb0 : Below w0.heap.size w0 w)
    (I : List α → World → Prop) (Ix : Code → List α → World → Prop) (hI : OwnFrom w.heap.size I) (hIx : ∀ c, OwnFrom w.heap.size (Ix c)) (h0 : I [] w) (d : Tmp)
    (hassign : ∀ (l : Nat) (x : α) (W : World) (K : Act → World → Prop), K { tmps := (a.tmps.setIfInBounds p (enc x)).setIfInBounds d (enc x), defers := [] } W →
      assign.wpIn (F.inRound l) (n - 1 - 1) P (Exit.then K (fun _ _ _ => False)) { tmps := a.tmps.setIfInBounds p (enc x), defers := [] } W)
    (hbody : ∀ (l : Nat) (pre : List α) (x : α) (W : World), I pre W → pre.length < N → body.wpIn (F.inRound l) (n - 1 - 1) P (ownPostK Kp I Ix (pre ++ [x]) W) { tmps := (a.tmps.setIfInBounds p (enc x)).setIfInBounds d (enc x), defers := [] } W)
    (hdone : ∀ (D : Nat) (xs : List α) (W : World), w.heap.size ≤ D → S xs → I xs W → W.heap[D]? = some (.deferred (some [])) → Q .normal { a with defers := { target := .collected D, args := #[] } :: a.defers } W)
    (hstop : ∀ (D : Nat) (c : Code) (pre : List α) (W : World), w.heap.size ≤ D → Sp pre → Ix c pre W → W.heap[D]? = some (.deferred (some [])) → c.wpIn F n P Q { a with defers := { target := .collected D, args := #[] } :: a.defers } W) :
    (Code.rangeFunc g #[p] assign body).wpIn F n P Q a w :=
  wpIn_rangeFunc_ownF hro h1 hg hFg eg hseq hKt hKb hb0 (fun _ => rfl) I Ix hI hIx h0 _ (fun l x W K hK => by simpa using hassign l x W K hK) hbody hdone hstop
end
end Go.Proofs.Ytinbfnabngdemaa
