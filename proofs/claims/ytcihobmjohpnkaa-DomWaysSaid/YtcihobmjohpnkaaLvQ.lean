/- What 'live.Of' tells, in plain Lean: the least answer to the equations; and what the reference steps through. -/
import Derived.Test.YtcihobmjohpnkaaLvP
namespace Go.Proofs.Ytcihobmjohpnkaa

/-- The least answer: what is alive ahead of each block, and behind it. -/
structure IsLive (L : List (List InsD)) (I O : List (List Nat)) : Prop where
  lI : I.length = L.length
  lO : O.length = L.length
  gI : ∀ ws ∈ I, Good1 ws
  gO : ∀ ws ∈ O, Good1 ws
  eqI : ∀ b, b < L.length → I.getD b [] = inW L I b
  eqO : ∀ b, b < L.length → O.getD b [] = outW L I b
  least : ∀ J, (∀ b m, b < L.length → Bit.has (inW L J b) m = true → Bit.has (J.getD b []) m = true) → Sub I J

theorem IsLive.uniq {L : List (List InsD)} {I O I' O' : List (List Nat)} (h : IsLive L I O) (h' : IsLive L I' O') : I = I' ∧ O = O' := by
  have s1 : Sub I I' := h.least I' fun b m hb hm => by rw [h'.eqI b hb]; exact hm
  have s2 : Sub I' I := h'.least I fun b m hb hm => by rw [h.eqI b hb]; exact hm
  have e : I = I' := List.ext_getElem (by rw [h.lI, h'.lI]) fun k h1 h2 => by
    refine Bit.can_ext (h.gI _ (List.getElem_mem h1)).1 (h'.gI _ (List.getElem_mem h2)).1 fun m => ?_
    have a1 := s1 k m
    have a2 := s2 k m
    have e1 : I.getD k [] = I[k] := by simp [List.getD, h1]
    have e2 : I'.getD k [] = I'[k] := by simp [List.getD, h2]
    rw [e1, e2] at a1 a2
    exact Bool.eq_iff_iff.2 ⟨a1, a2⟩
  subst e
  refine ⟨rfl, List.ext_getElem (by rw [h.lO, h'.lO]) fun k h1 h2 => ?_⟩
  have b1 := h.eqO k (by rw [← h.lO]; exact h1)
  have b2 := h'.eqO k (by rw [← h.lO]; exact h1)
  have e1 : O.getD k [] = O[k] := by simp [List.getD, h1]
  have e2 : O'.getD k [] = O'[k] := by simp [List.getD, h2]
  rw [← e1, ← e2, b1, b2]

/-- What holds of the sets at the head of each sweep. -/
structure LiveAt (L : List (List InsD)) (I O : List (List Nat)) : Prop where
  lI : I.length = L.length
  lO : O.length = L.length
  gI : ∀ ws ∈ I, Good1 ws
  gO : ∀ ws ∈ O, Good1 ws
  inv : Inv L I O
  least : ∀ J, (∀ b m, b < L.length → Bit.has (inW L J b) m = true → Bit.has (J.getD b []) m = true) → Sub I J

theorem LiveAt.start (L : List (List InsD)) : LiveAt L (List.replicate L.length []) (List.replicate L.length []) where
  lI := by simp
  lO := by simp
  gI := fun ws hw => by rw [(List.mem_replicate.1 hw).2]; exact good_nil
  gO := fun ws hw => by rw [(List.mem_replicate.1 hw).2]; exact good_nil
  inv := Inv.start L _
  least := fun J _ k m hm => by rw [replicate_getD, has_nil] at hm; exact absurd hm (by simp)

theorem LiveAt.sweep {L : List (List InsD)} {I O : List (List Nat)} (h : LiveAt L I O) (k : Nat) : LiveAt L (sweepW L I O k).1 (sweepW L I O k).2.1 := by
  obtain ⟨g1, g2, l1, l2⟩ := good_sweep L h.gI h.gO k
  exact ⟨l1.trans h.lI, l2.trans h.lO, g1, g2, (h.inv.sweep k).1, fun J hJ => (sweep_least (O := O) hJ h.lI (h.least J hJ) k).2⟩

/-- Every block is one of a sweep's. -/
theorem back_index {n b : Nat} (h : b < n) : n - 1 - (n - 1 - b) = b := by omega

theorem LiveAt.done {L : List (List InsD)} {I O : List (List Nat)} (h : LiveAt L I O) (hs : (sweepW L I O L.length).2.2 = false) : IsLive L (sweepW L I O L.length).1 (sweepW L I O L.length).2.1 := by
  obtain ⟨e1, e2, e3⟩ := sweep_still L.length hs
  rw [e1, e2]
  refine ⟨h.lI, h.lO, h.gI, h.gO, fun b hb => ?_, fun b hb => ?_, h.least⟩
  · have := (e3 (L.length - 1 - b) (by omega)).1
    rwa [back_index hb] at this
  · have := (e3 (L.length - 1 - b) (by omega)).2
    rwa [back_index hb] at this

/-- A sweep's own count: how much is still to come. -/
def leftW (L : List (List InsD)) (I O : List (List Nat)) : Nat := 131072 * L.length - (tot I + tot O)
theorem LiveAt.left {L : List (List InsD)} {I O : List (List Nat)} (h : LiveAt L I O) (hs : (sweepW L I O L.length).2.2 = true) : leftW L (sweepW L I O L.length).1 (sweepW L I O L.length).2.1 < leftW L I O := by
  have h1 := sweep_tot h.inv h.gI h.gO h.lI h.lO L.length (Nat.le_refl _)
  rw [if_pos hs] at h1
  have h2 := h.sweep L.length
  have m1 := tot_max (sweepW L I O L.length).1
  have m2 := tot_max (sweepW L I O L.length).2.1
  rw [h2.lI] at m1
  rw [h2.lO] at m2
  unfold leftW
  omega

theorem LiveAt.left_le {L : List (List InsD)} {I O : List (List Nat)} (h : LiveAt L I O) : leftW L (sweepW L I O L.length).1 (sweepW L I O L.length).2.1 + (if (sweepW L I O L.length).2.2 = true then 1 else 0) ≤ leftW L I O := by
  have h1 := sweep_tot h.inv h.gI h.gO h.lI h.lO L.length (Nat.le_refl _)
  have h2 := h.sweep L.length
  have m1 := tot_max (sweepW L I O L.length).1
  have m2 := tot_max (sweepW L I O L.length).2.1
  rw [h2.lI] at m1
  rw [h2.lO] at m2
  unfold leftW
  omega

/-- Has a sweep turned one of the sets ahead? -/
def turnW (L : List (List InsD)) (I O : List (List Nat)) (k : Nat) : Bool :=
  (List.range k).any fun j => decide (inW L (sweepW L I O j).1 (L.length - 1 - j) ≠ (sweepW L I O j).1.getD (L.length - 1 - j) [])
theorem turnW_succ (L : List (List InsD)) (I O : List (List Nat)) (k : Nat) : turnW L I O (k + 1) = (turnW L I O k || decide (inW L (sweepW L I O k).1 (L.length - 1 - k) ≠ (sweepW L I O k).1.getD (L.length - 1 - k) [])) := by
  unfold turnW; rw [List.range_succ, List.any_append]; simp
/-- A sweep that turns none of the sets ahead. -/
theorem turn_still {L : List (List InsD)} {I O : List (List Nat)} (k : Nat) (hk : k ≤ L.length) (lO : O.length = L.length) (h : turnW L I O k = false) :
    (sweepW L I O k).1 = I ∧ (∀ j, j < k → I.getD (L.length - 1 - j) [] = inW L I (L.length - 1 - j) ∧ (sweepW L I O k).2.1.getD (L.length - 1 - j) [] = outW L I (L.length - 1 - j)) ∧ (sweepW L I O k).2.1.length = L.length := by
  induction k with
  | zero => exact ⟨rfl, fun j hj => by omega, lO⟩
  | succ k ih =>
    rw [turnW_succ, Bool.or_eq_false_iff] at h
    obtain ⟨h1, h2⟩ := h
    obtain ⟨i1, i2, i3⟩ := ih (by omega) h1
    rw [i1] at h2
    have e1 : inW L I (L.length - 1 - k) = I.getD (L.length - 1 - k) [] := by simpa using h2
    rw [sweepW_succ]
    unfold stepW
    dsimp only
    rw [i1]
    refine ⟨by rw [e1, set_same], fun j hj => ?_, by rw [List.length_set]; exact i3⟩
    rw [getD_set, i3]
    by_cases e : j = k
    · subst e; rw [if_pos ⟨rfl, by omega⟩]; exact ⟨e1.symm, rfl⟩
    · rw [if_neg (by omega)]; exact i2 j (by omega)
theorem LiveAt.doneR {L : List (List InsD)} {I O : List (List Nat)} (h : LiveAt L I O) (hs : turnW L I O L.length = false) : IsLive L (sweepW L I O L.length).1 (sweepW L I O L.length).2.1 := by
  obtain ⟨e1, e2, e3⟩ := turn_still L.length (Nat.le_refl _) h.lO hs
  have h2 := h.sweep L.length
  refine ⟨h2.lI, h2.lO, h2.gI, h2.gO, fun b hb => ?_, fun b hb => ?_, h2.least⟩
  · have := (e2 (L.length - 1 - b) (by omega)).1
    rw [back_index hb] at this
    rw [e1]; exact this
  · have := (e2 (L.length - 1 - b) (by omega)).2
    rw [back_index hb] at this
    rw [e1]; exact this
theorem turn_flag (L : List (List InsD)) (I O : List (List Nat)) (k : Nat) (h : turnW L I O k = true) : (sweepW L I O k).2.2 = true := by
  induction k with
  | zero => simp [turnW] at h
  | succ k ih =>
    rw [turnW_succ, Bool.or_eq_true] at h
    rw [sweepW_succ]
    unfold stepW
    dsimp only
    rcases h with h | h
    · rw [ih h]; simp
    · rw [h]; simp
theorem LiveAt.leftR {L : List (List InsD)} {I O : List (List Nat)} (h : LiveAt L I O) (hs : turnW L I O L.length = true) : leftW L (sweepW L I O L.length).1 (sweepW L I O L.length).2.1 < leftW L I O :=
  h.left (turn_flag L I O _ hs)

/-- Stepping back over instructions, from a set behind them. -/
theorem has_foldback (l : List InsD) : ∀ ws, Bit.Ok ws → ∀ m, (Bit.has (l.foldl backW ws) m = true ↔ Bit.has (l.foldl backW []) m = true ∨ (Bit.has ws m = true ∧ ¬ ((m : Int) ∈ l.map defS ∧ m ≤ 65535))) := by
  induction l with
  | nil => intro ws _ m; simp [has_nil]
  | cons i l ih =>
    intro ws hw m
    rw [List.foldl_cons, List.foldl_cons, ih _ (back_can hw i).1 m, ih _ (back_can Bit.can_nil.1 i).1 m, has_back, has_back, has_nil]
    simp only [List.map_cons, List.mem_cons]
    by_cases h1 : Bit.has (l.foldl backW []) m = true <;> by_cases h2 : (m : Int) ∈ usesS i <;> by_cases h3 : m ≤ 65535 <;> by_cases h4 : Bit.has ws m = true <;> by_cases h5 : (m : Int) = defS i <;> by_cases h6 : (m : Int) ∈ l.map defS <;> simp_all
/-- A block's set ahead is its set behind stepped back over all its instructions. -/
theorem inW_back (L : List (List InsD)) {I : List (List Nat)} (h : ∀ ws ∈ I, Good1 ws) (b : Nat) : inW L I b = (L.getD b []).reverse.foldl backW (outW L I b) := by
  have g1 := good_in L h b
  have g2 := good_out L h b
  refine Bit.can_ext g1.1 (foldl_back _ _ g2.2 g2.1).1 fun m => ?_
  rw [Bool.eq_iff_iff, has_foldback _ _ g2.1.1, has_in]
  have e : Bit.has (killW (L.getD b [])) m = false ↔ ¬ ((m : Int) ∈ (L.getD b []).reverse.map defS ∧ m ≤ 65535) := by
    unfold killW
    rw [← Bool.not_eq_true, Bit.has_of]
  rw [e]
  rfl
end Go.Proofs.Ytcihobmjohpnkaa
