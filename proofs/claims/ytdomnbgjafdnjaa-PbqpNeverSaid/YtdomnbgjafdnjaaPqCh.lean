/- Chains: the solver's way, and what it costs; in plain Lean. -/
import Derived.Test.YtdomnbgjafdnjaaPqSv
namespace Go.Proofs.Ytdomnbgjafdnjaa
open Go.RowKit Go.Maps Go.ChangeMaps

/-- Each node has an edge to the next one. -/
structure IsChain (N : List (List Int)) (Es : List EdgeD) : Prop where
  n0 : 0 < N.length
  el : Es.length + 1 = N.length
  ed : ∀ i, i < Es.length → (Es.getD i default).a = (i : Int) ∧ (Es.getD i default).b = ((i + 1 : Nat) : Int)
def mtC (Es : List EdgeD) (i : Nat) : List (List Int) := (Es.getD i default).cost
/-- The least cost to come to each choice of node j. -/
def dpS (N : List (List Int)) (Es : List EdgeD) : Nat → List Int
  | 0 => N.getD 0 []
  | j + 1 => oneS (dpS N Es j) (mtC Es j) (N.getD (j + 1) [])
def nearC (N : List (List Int)) (Es : List EdgeD) (t k a b : Nat) : Option (List (List Int)) :=
  if b = a + 1 ∧ b < t then some (mtC Es a) else if a = b + 1 ∧ a < t ∧ k ≤ b then some (turnS (mtC Es b) (N.getD a []).length) else none
section
variable {N : List (List Int)} {Es : List EdgeD}
theorem begin_near (h : IsChain N Es) (i : Nat) (hi : i ≤ Es.length) (a b : Nat) : (beginS N (Es.take i)).near a b = nearC N Es (i + 1) 0 a b := by
  induction i with
  | zero =>
    show (beginS N []).near a b = _
    unfold nearC
    rw [if_neg (by omega), if_neg (by omega)]
    rfl
  | succ i ih =>
    have hix : i < Es.length := by omega
    rw [beginS_take hix]
    have hgd : Es.getD i default = Es[i] := by simp [List.getD, hix]
    obtain ⟨e1, e2⟩ := h.ed i hix
    rw [hgd] at e1 e2
    unfold edgeS
    rw [e1, e2]
    simp only [Int.toNat_natCast, PS.edge]
    rw [ih (by omega)]
    have hm : Es[i].cost = mtC Es i := by unfold mtC; rw [hgd]
    rw [hm]
    unfold nearC
    by_cases h1 : a = i ∧ b = i + 1
    · obtain ⟨rfl, rfl⟩ := h1
      rw [if_pos ⟨rfl, rfl⟩, if_pos ⟨rfl, by omega⟩]
    · rw [if_neg h1]
      by_cases h2 : a = i + 1 ∧ b = i
      · obtain ⟨rfl, rfl⟩ := h2
        rw [if_pos ⟨rfl, rfl⟩, if_neg (by omega), if_pos ⟨rfl, by omega, by omega⟩]
      · rw [if_neg h2]
        have h3 : (b = a + 1 ∧ b < i + 1 + 1) ↔ (b = a + 1 ∧ b < i + 1) := by omega
        have h4 : (a = b + 1 ∧ a < i + 1 + 1 ∧ 0 ≤ b) ↔ (a = b + 1 ∧ a < i + 1 ∧ 0 ≤ b) := by omega
        simp only [h3, h4]
theorem chain_fresh (h : IsChain N Es) : Fresh N Es := fun i hi => by
  obtain ⟨e1, e2⟩ := h.ed i hi
  rw [e1, e2]
  simp only [Int.toNat_natCast]
  rw [begin_near h i (by omega), begin_near h i (by omega)]
  unfold nearC
  exact ⟨by rw [if_neg (by omega), if_neg (by omega)], by rw [if_neg (by omega), if_neg (by omega)]⟩
theorem filter_one (n m : Nat) : (List.range n).filter (fun i => decide (i = m)) = if m < n then [m] else [] := by
  induction n with
  | zero => simp
  | succ n ih =>
    rw [List.range_succ, List.filter_append, ih]
    by_cases h1 : m < n
    · rw [if_pos h1, if_pos (by omega)]
      have : ¬ n = m := by omega
      simp [this]
    · rw [if_neg h1]
      by_cases h2 : m = n
      · subst h2; simp
      · have : ¬ n = m := by omega
        rw [if_neg (by omega)]; simp [this]
theorem ns_of {S : PS} {n k : Nat} (h : ∀ b, b < n → (S.near k b).isSome = decide (b = k + 1)) : nsS S n k = if k + 1 < n then [((k + 1 : Nat) : Int)] else [] := by
  unfold nsS
  rw [List.filter_map]
  have : (List.range n).filter ((fun x : Int => (S.near k x.toNat).isSome) ∘ fun (i : Nat) => (i : Int)) = (List.range n).filter (fun i => decide (i = k + 1)) := by
    refine List.filter_congr fun b hb => ?_
    have := h b (List.mem_range.1 hb)
    simpa using this
  rw [this, filter_one]
  split <;> rfl
theorem nearC_some (k b t : Nat) (hb : b < t) : (nearC N Es t k k b).isSome = decide (b = k + 1) := by
  unfold nearC
  by_cases h : b = k + 1
  · rw [if_pos ⟨h, hb⟩]; simp [h]
  · rw [if_neg (fun e => h e.1), if_neg (by omega)]; simp [h]
/-- How it stands when k nodes have been taken away. -/
structure AtC (N : List (List Int)) (Es : List EdgeD) (k : Nat) (S : PS) : Prop where
  nd : ∀ j, j < N.length → S.nodes j = if j ≤ k then dpS N Es j else N.getD j []
  nr : ∀ a b, S.near a b = nearC N Es N.length k a b
theorem AtC.ns {k : Nat} {S : PS} (h : AtC N Es k S) : nsS S N.length k = if k + 1 < N.length then [((k + 1 : Nat) : Int)] else [] :=
  ns_of fun b hb => by rw [h.nr]; exact nearC_some k b _ hb
theorem chain_at (h : IsChain N Es) (k : Nat) (hk : k ≤ N.length) : AtC N Es k (takenS (beginS N Es) N.length k) := by
  induction k with
  | zero =>
    refine ⟨fun j hj => ?_, fun a b => ?_⟩
    · have hn : (beginS N Es).nodes = fun k => N.getD k [] := by
        unfold beginS
        have : ∀ (Es : List EdgeD) (S : PS), (Es.foldl (edgeS N) S).nodes = S.nodes := fun Es => by
          induction Es with
          | nil => intro S; rfl
          | cons e Es ih => intro S; exact ih (edgeS N S e)
        rw [this]; rfl
      show (beginS N Es).nodes j = _
      rw [hn]
      by_cases e : j ≤ 0
      · obtain rfl : j = 0 := by omega
        rw [if_pos (by omega)]; rfl
      · rw [if_neg e]
    · have := begin_near h Es.length (Nat.le_refl _) a b
      rw [List.take_of_length_le (Nat.le_refl _), h.el] at this
      exact this
  | succ k ih =>
    have hi := ih (by omega)
    have hns := hi.ns
    show AtC N Es (k + 1) (takeS (takenS (beginS N Es) N.length k) N.length k)
    refine ⟨fun j hj => ?_, fun a b => ?_⟩
    · unfold takeS
      rw [hns]
      by_cases hlt : k + 1 < N.length
      · rw [if_pos hlt]
        simp only [Int.toNat_natCast, PS.vec]
        have hd := (dropS_same k [((k + 1 : Nat) : Int)] (takenS (beginS N Es) N.length k)).2.1
        simp only [PS.out, hd]
        by_cases e : j = k + 1
        · subst e
          rw [if_pos rfl, if_pos (Nat.le_refl _), hi.nd k (by omega), if_pos (Nat.le_refl _), hi.nd (k + 1) hlt, if_neg (by omega), hi.nr]
          unfold nearC
          rw [if_pos ⟨rfl, hlt⟩]
          rfl
        · rw [if_neg e, hi.nd j hj]
          by_cases e2 : j ≤ k
          · rw [if_pos e2, if_pos (by omega)]
          · rw [if_neg e2, if_neg (by omega)]
      · rw [if_neg hlt]
        show (takenS (beginS N Es) N.length k).nodes j = _
        rw [hi.nd j hj, if_pos (by omega), if_pos (by omega)]
    · rw [takeS_nearD, hns]
      by_cases hlt : k + 1 < N.length
      · rw [if_pos hlt]
        show (if a = ((k + 1 : Nat) : Int).toNat ∧ b = k then none else (takenS (beginS N Es) N.length k).near a b) = _
        rw [Int.toNat_natCast, hi.nr]
        unfold nearC
        by_cases e : a = k + 1 ∧ b = k
        · rw [if_pos e, if_neg (by omega), if_neg (by omega)]
        · rw [if_neg e]
          have h4 : (a = b + 1 ∧ a < N.length ∧ k ≤ b) ↔ (a = b + 1 ∧ a < N.length ∧ k + 1 ≤ b) := by omega
          simp only [h4]
      · rw [if_neg hlt]
        show (takenS (beginS N Es) N.length k).near a b = _
        rw [hi.nr]
        unfold nearC
        have h4 : (a = b + 1 ∧ a < N.length ∧ k ≤ b) ↔ (a = b + 1 ∧ a < N.length ∧ k + 1 ≤ b) := by omega
        simp only [h4]
theorem chain_ns (h : IsChain N Es) {k : Nat} (hk : k < N.length) : nsS (takenS (beginS N Es) N.length k) N.length k = if k + 1 < N.length then [((k + 1 : Nat) : Int)] else [] := (chain_at h k (by omega)).ns
theorem chain_thin (h : IsChain N Es) : Thin (beginS N Es) N.length := fun k hk => by
  rw [chain_ns h hk]
  split
  · exact ⟨by simp, fun m hm => by simp at hm; omega⟩
  · exact ⟨by simp, fun m hm => by simp at hm⟩
/-- What is chosen. -/
def lC (N : List (List Int)) (Es : List EdgeD) : List Int := choS (beginS N Es) N.length N.length
theorem choS_keep (S : PS) (n : Nat) {j : Nat} (hj : j < n) (d : Nat) (hd : n - j ≤ d) (hdn : d ≤ n) : (choS S n d).getD j 0 = (choS S n (n - j)).getD j 0 := by
  induction d with
  | zero => omega
  | succ d ih =>
    by_cases e : n - j = d + 1
    · rw [e]
    · rw [← ih (by omega) (by omega)]
      show ((choS S n d).set (n - (d + 1)) _).getD j 0 = _
      rw [List.getD_eq_getElem?_getD, List.getElem?_set_ne (by omega), ← List.getD_eq_getElem?_getD]
theorem lC_get (h : IsChain N Es) {j : Nat} (hj : j < N.length) : (lC N Es).getD j 0 = (leastS (if j + 1 < N.length then addS (dpS N Es j) (colS (mtC Es j) ((lC N Es).getD (j + 1) 0).toNat) else dpS N Es j) : Nat) := by
  have hat := chain_at h N.length (Nat.le_refl _)
  unfold lC
  rw [choS_keep _ _ hj _ (by omega) (Nat.le_refl _)]
  obtain ⟨d, hd⟩ : ∃ d, N.length - j = d + 1 := ⟨N.length - j - 1, by omega⟩
  rw [hd]
  show ((choS (beginS N Es) N.length d).set (N.length - (d + 1)) _).getD j 0 = _
  have hjd : N.length - (d + 1) = j := by omega
  rw [hjd, chain_ns h hj, hat.nd j hj, if_pos (by omega), List.getD_eq_getElem?_getD, List.getElem?_set_self (by rw [choS_length]; exact hj)]
  simp only [Option.getD_some]
  by_cases hlt : j + 1 < N.length
  · rw [if_pos hlt, if_pos hlt]
    unfold accS
    simp only [List.foldl_cons, List.foldl_nil, Int.toNat_natCast]
    rw [hat.nr, choS_keep _ _ hlt N.length (by omega) (Nat.le_refl _), show N.length - (j + 1) = d by omega]
    unfold nearC
    rw [if_pos ⟨rfl, hlt⟩]
    rfl
  · rw [if_neg hlt, if_neg hlt]
    rfl
end
end Go.Proofs.Ytdomnbgjafdnjaa
