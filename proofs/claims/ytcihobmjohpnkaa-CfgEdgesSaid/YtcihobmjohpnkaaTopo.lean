/- Where each block stands in the order, in plain Lean. -/
import Derived.Test.YtcihobmjohpnkaaPost
namespace Go.Proofs.Ytcihobmjohpnkaa

/-- Of each block where it stands among the first k of o, or -1. -/
def atV (o : List Int) (k : Nat) (x : Int) : Int := if x ∈ o.take k then ((o.take k).idxOf x : Int) else -1
def atS (o : List Int) (k n : Nat) : List Int := (List.range n).map fun (x : Nat) => atV o k (x : Int)
theorem atS_length (o : List Int) (k n : Nat) : (atS o k n).length = n := by simp [atS]
theorem atS_get {o : List Int} {k n x : Nat} (h : x < n) : (atS o k n)[x]'(by rw [atS_length]; exact h) = atV o k (x : Int) := by simp [atS]
theorem atS_zero (o : List Int) (n : Nat) : atS o 0 n = List.replicate n (-1) := by
  apply List.ext_getElem
  · simp [atS_length]
  · intro i h1 h2
    rw [atS_length] at h1
    rw [atS_get h1]
    simp [atV]
theorem atV_new {o : List Int} (hn : o.Nodup) {k : Nat} (hk : k < o.length) : o[k] ∉ o.take k := by
  intro h
  rw [← List.take_append_drop k o, List.nodup_append] at hn
  exact hn.2.2 _ h _ (List.drop_eq_getElem_cons hk ▸ List.mem_cons_self) rfl
theorem atV_fresh {o : List Int} (hn : o.Nodup) {k : Nat} (hk : k < o.length) : atV o k o[k] = -1 := by
  unfold atV; rw [if_neg (atV_new hn hk)]
theorem atS_step {o : List Int} (hn : o.Nodup) {k n : Nat} (hk : k < o.length) (h0 : 0 ≤ o[k]) (_hr : o[k] < n) : (atS o k n).set o[k].toNat (k : Int) = atS o (k + 1) n := by
  have hnew := atV_new hn hk
  apply List.ext_getElem
  · simp [atS_length]
  · intro i h1 h2
    rw [List.length_set, atS_length] at h1
    rw [List.getElem_set, atS_get h1, atS_get h1]
    have ht : o.take (k + 1) = o.take k ++ [o[k]] := List.take_succ_eq_append_getElem hk
    by_cases e : o[k].toNat = i
    · rw [if_pos e]
      have e' : (i : Int) = o[k] := by omega
      rw [e']
      unfold atV
      rw [ht, if_pos (List.mem_append.2 (.inr (by simp))), List.idxOf_append, if_neg hnew]
      simp; omega
    · rw [if_neg e]
      have e' : (i : Int) ≠ o[k] := by omega
      unfold atV
      rw [ht]
      by_cases hm : (i : Int) ∈ o.take k
      · rw [if_pos hm, if_pos (List.mem_append.2 (.inl hm)), List.idxOf_append, if_pos hm]
      · rw [if_neg hm, if_neg (fun h => (List.mem_append.1 h).elim hm (by simp [e']))]
theorem atV_nonneg {o : List Int} {x : Int} : 0 ≤ atV o o.length x ↔ x ∈ o := by
  unfold atV
  rw [List.take_length]
  split <;> rename_i h <;> simp [h]

/-- The order's law where each block goes on to later ones alone. -/
theorem topo_at (l : List (List InsD)) (hi : ∀ a, ∀ y ∈ succS l a, a < y) {x y : Int} (hx : x ∈ orderS l) (hy : y ∈ succS l x) : atV (orderS l) (orderS l).length x < atV (orderS l) (orderS l).length y := by
  have h : 0 < l.length := by
    apply Classical.byContradiction
    intro h
    unfold orderS at hx
    rw [if_pos (by omega)] at hx
    simp at hx
  obtain ⟨new, ho, hn, _, _, ht⟩ := orderS_post l h
  rw [ho] at hx ⊢
  obtain ⟨p, q, e⟩ := List.append_of_mem (List.mem_reverse.1 hx)
  have hyp := ht hi p x q e y hy
  subst e
  have hn' := List.nodup_append.1 hn
  have hxq : x ∉ q := (List.nodup_cons.1 hn'.2.1).1
  have hyq : y ∉ q := fun h => hn'.2.2 y hyp y (by simp [h]) rfl
  have hyx : y ≠ x := fun h => hn'.2.2 y hyp x (by simp) h
  have er : (p ++ x :: q).reverse = q.reverse ++ x :: p.reverse := by simp
  unfold atV
  rw [List.take_length, if_pos (by simp), if_pos (by simp [hyp]), er, List.idxOf_append, if_neg (by simpa using hxq), List.idxOf_append, if_neg (by simpa using hyq)]
  have hb : (x == y) = false := by simpa using Ne.symm hyx
  simp [List.idxOf_cons, hb]
  omega

theorem orderS_nodup (l : List (List InsD)) : (orderS l).Nodup ∧ ∀ x ∈ orderS l, (0 : Int) ≤ x ∧ x < l.length := by
  by_cases h : 0 < l.length
  · obtain ⟨new, ho, hn, hr, _, _⟩ := orderS_post l h
    rw [ho]
    exact ⟨by unfold List.Nodup at *; rw [List.pairwise_reverse]; exact hn.imp fun h => Ne.symm h, fun x hx => hr x (by simpa using hx)⟩
  · unfold orderS
    rw [if_pos (by omega)]
    simp
/-- Each row's edges go to later rows. -/
def Line (ll : List (List Int)) : Prop := ∀ (i : Nat) (h : i < ll.length), ∀ x ∈ ll[i], (i : Int) < x ∧ x < ll.length
theorem line_succ {ll : List (List Int)} (h : Line ll) : ∀ a, ∀ y ∈ succS (flowS ll) a, a < y := by
  intro a y hy
  unfold succS at hy
  split at hy
  · rename_i h0
    unfold succN at hy
    by_cases hl : a.toNat < ll.length
    · have hrow : ∀ x ∈ ll[a.toNat], a < x := fun x hx => by have := (h a.toNat hl x hx).1; omega
      have e : (flowS ll).getD a.toNat [] = flowRow ll[a.toNat] := by simp [flowS, List.getD, hl]
      rw [e] at hy
      generalize ll[a.toNat] = row at hrow hy
      rcases row with _ | ⟨t, _ | ⟨f, r⟩⟩
      · simp [flowRow, rawS] at hy
      · simp [flowRow, rawS] at hy
        exact hrow y (by simp [hy.1])
      · simp [flowRow, rawS] at hy
        have hy' : y = t ∨ y = f := by
          rcases hy with ⟨hy, _⟩
          split at hy <;> simp at hy <;> simp [hy]
        rcases hy' with rfl | rfl
        · exact hrow y (by simp)
        · exact hrow y (by simp)
    · have e : (flowS ll).getD a.toNat [] = [] := by simp [flowS, List.getD, show ll.length ≤ a.toNat by omega]
      rw [e] at hy
      simp at hy
  · simp at hy
end Go.Proofs.Ytcihobmjohpnkaa
