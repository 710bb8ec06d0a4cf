/- Outside of loops a register costs as often as it is read and written: in plain Lean. -/
import Derived.Test.YtcihobmjohpnkaaCost
namespace Go.Proofs.Ytcihobmjohpnkaa

/-- One more, if the number is a register. -/
def incS (O : List Int) (v : Int) : List Int := if 0 ≤ v ∧ v < O.length then O.set v.toNat (O.getD v.toNat 0 + 1) else O
theorem incS_length (O : List Int) (v : Int) : (incS O v).length = O.length := by unfold incS; split <;> simp
theorem incS_get (O : List Int) (v : Int) (j : Nat) : (incS O v).getD j 0 = O.getD j 0 + if (j : Int) = v ∧ j < O.length then 1 else 0 := by
  unfold incS
  split
  · rename_i h
    rw [List.getD_eq_getElem?_getD, List.getElem?_set]
    by_cases e : v.toNat = j
    · have e2 : (j : Int) = v := by omega
      rw [if_pos e, if_pos (by omega), if_pos ⟨e2, by omega⟩, e]
      rfl
    · rw [if_neg e, if_neg (by omega), List.getD_eq_getElem?_getD]; simp
  · rename_i h
    rw [if_neg (by omega)]; simp
theorem list_ext0 {a b : List Int} (hl : a.length = b.length) (h : ∀ j, a.getD j 0 = b.getD j 0) : a = b := by
  refine List.ext_getElem hl fun j h1 h2 => ?_
  have := h j
  simpa [List.getD, h1, h2] using this
theorem incS_comm (O : List Int) (a b : Int) : incS (incS O a) b = incS (incS O b) a := by
  refine list_ext0 (by simp [incS_length]) fun j => ?_
  rw [incS_get, incS_get, incS_get, incS_get, incS_length, incS_length]
  omega
/-- What the law counts of an instruction. -/
def wantI (O : List Int) (i : InsD) : List Int := if i.k = 5 then incS (incS O i.a) i.b else if i.k = 2 then incS (incS O i.d) i.a else incS O i.d
def wantS (n : Nat) (l : List InsD) : List Int := l.foldl wantI (List.replicate n 0)
def SmallC (m : Int) (O : List Int) : Prop := ∀ j : Nat, 0 ≤ O.getD j 0 ∧ O.getD j 0 ≤ m
theorem incS_small {m : Int} {O : List Int} (h : SmallC m O) (v : Int) : SmallC (m + 1) (incS O v) := fun j => by
  have := h j
  rw [incS_get]
  split <;> omega
theorem cost1_inc {m : Int} {O : List Int} (h : SmallC m O) (hm : m < 1099511627776) (v : Int) : cost1 1 O v = incS O v := by
  unfold cost1 incS
  split
  · have := h v.toNat
    congr 1
    omega
  · rfl
theorem costI_want {m : Int} {O : List Int} (h : SmallC m O) (hm : m + 3 < 1099511627776) {i : InsD} (hk : i.k = 1 ∨ i.k = 2 ∨ i.k = 5) : costI 1 O i = wantI O i ∧ SmallC (m + 2) (wantI O i) := by
  have s1 : ∀ v, SmallC (m + 1) (incS O v) := fun v => incS_small h v
  have s2 : ∀ u v, SmallC (m + 2) (incS (incS O u) v) := fun u v => by have := incS_small (s1 u) v; rw [show m + 1 + 1 = m + 2 by omega] at this; exact this
  have s3 : ∀ v, SmallC (m + 2) (incS O v) := fun v j => by have := s1 v j; omega
  have hneg : ∀ X : List Int, incS X (-1) = X := fun X => by unfold incS; rw [if_neg (by omega)]
  unfold costI wantI regsS usesS defS
  rcases hk with hk | hk | hk
  · rw [hk]
    refine ⟨?_, s3 _⟩
    simp [cost1_inc h (by omega)]
  · rw [hk]
    refine ⟨?_, s2 _ _⟩
    simp only [Int.reduceEq, or_false, if_pos, if_false, List.cons_append, List.nil_append, List.foldl_cons, List.foldl_nil, or_true]
    rw [cost1_inc h (by omega), cost1_inc (s1 _) (by omega), incS_comm]
  · rw [hk]
    refine ⟨?_, s2 _ _⟩
    simp only [Int.reduceEq, or_false, if_pos, if_false, List.cons_append, List.nil_append, List.foldl_cons, List.foldl_nil]
    rw [cost1_inc h (by omega), cost1_inc (s1 _) (by omega), cost1_inc (s2 _ _) (by omega), hneg]
theorem costB_want (l : List InsD) : ∀ {m : Int} {O : List Int}, SmallC m O → m + 2 * l.length + 3 < 1099511627776 → (∀ i ∈ l, i.k = 1 ∨ i.k = 2 ∨ i.k = 5) → costB 1 O l = l.foldl wantI O := by
  induction l with
  | nil => intro m O _ _ _; rfl
  | cons i l ih =>
    intro m O h hm hk
    have hl : ((i :: l).length : Int) = l.length + 1 := by simp
    obtain ⟨e, s⟩ := costI_want h (by omega) (hk i (by simp))
    have : costB 1 O (i :: l) = costB 1 (costI 1 O i) l := rfl
    rw [this, e, List.foldl_cons]
    exact ih s (by omega) fun x hx => hk x (by simp [hx])
theorem one_heads {l : List InsD} (hk : ∀ i ∈ l, i.k = 1 ∨ i.k = 2 ∨ i.k = 5) : headsS [l] = [] := by
  have hs : ∀ a y : Int, y ∈ succS [l] a → False := fun a y hy => by
    unfold succS at hy
    split at hy
    · unfold succN at hy
      split at hy
      · simp at hy
      · rename_i i hi
        have hm : i ∈ l := by
          have := List.mem_of_getLast? hi
          have h2 : ([l] : List (List InsD)).getD a.toNat [] = l ∨ ([l] : List (List InsD)).getD a.toNat [] = [] := by
            cases a.toNat with
            | zero => left; rfl
            | succ n => right; simp [List.getD]
          rcases h2 with h2 | h2
          · rw [h2] at this; exact this
          · rw [h2] at this; simp at this
        have : rawS i = [] := by unfold rawS; rcases hk i hm with h | h | h <;> rw [h] <;> simp
        rw [this] at hy
        simp at hy
    · simp at hy
  unfold headsS headsP
  rw [List.filter_eq_nil_iff]
  intro x _ hx
  obtain ⟨p, hp⟩ := headB_iff.1 hx
  exact hs _ _ (tail_mem hp).1
theorem cost_uses {l : List InsD} {n : Nat} (hk : ∀ i ∈ l, i.k = 1 ∨ i.k = 2 ∨ i.k = 5) (hl : l.length ≤ 1000) : costS n [l] = wantS n l := by
  have hw : wtB [l] 0 = 1 := by
    unfold wtB
    have : depthK [l] (headsS [l]).length 0 = 0 := by
      have := depthK_le [l] (headsS [l]).length 0
      rw [one_heads hk] at this ⊢
      simpa using this
    rw [this]; rfl
  have e : costS n [l] = costB (wtB [l] 0) (List.replicate n 0) l := rfl
  rw [e, hw]
  refine costB_want l (m := 0) (fun j => ?_) (by omega) hk
  rw [List.getD_eq_getElem?_getD, List.getElem?_replicate]
  split <;> simp
end Go.Proofs.Ytcihobmjohpnkaa
