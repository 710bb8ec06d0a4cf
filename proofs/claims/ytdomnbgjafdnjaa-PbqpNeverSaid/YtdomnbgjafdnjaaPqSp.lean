/- The general solver: the nodes one behind the other, and what is done behind; in plain Lean. -/
import Derived.Test.YtdomnbgjafdnjaaPqBg
namespace Go.Proofs.Ytdomnbgjafdnjaa
open Go.RowKit Go.Maps Go.ChangeMaps

/-- k nodes have been taken away. -/
def takenS (S : PS) (n : Nat) : Nat → PS
  | 0 => S
  | k + 1 => takeS (takenS S n k) n k
def usS (S : PS) (n k : Nat) : List (Nat × List Int) := (List.range k).map fun j => (j, nsS (takenS S n j) n j)
/-- On the way each node has no or one neighbour, behind it. -/
def Thin (S : PS) (n : Nat) : Prop := ∀ k, k < n → (nsS (takenS S n k) n k).length ≤ 1 ∧ ∀ m ∈ nsS (takenS S n k) n k, k < m.toNat
theorem usS_succ (S : PS) (n k : Nat) : usS S n (k + 1) = usS S n k ++ [(k, nsS (takenS S n k) n k)] := by unfold usS; rw [List.range_succ, List.map_append]; rfl
theorem usS_length (S : PS) (n k : Nat) : (usS S n k).length = k := by simp [usS]
theorem usS_get (S : PS) (n : Nat) {j k : Nat} (h : j < k) : (usS S n k).getD j (0, []) = (j, nsS (takenS S n j) n j) := by simp [usS, List.getD, h]
theorem takeS_gone (S : PS) (n k j : Nat) : (takeS S n k).gone j = if j = k then true else S.gone j := by
  have h := (dropS_same k (nsS S n k) S).1
  unfold takeS
  dsimp only
  split
  · simp only [PS.vec, PS.out, h]
  · simp only [PS.out, h]
theorem takenS_gone {S : PS} (n : Nat) (h : ∀ j, S.gone j = false) (k j : Nat) : (takenS S n k).gone j = decide (j < k) := by
  induction k with
  | zero => simp [takenS, h]
  | succ k ih =>
    unfold takenS
    rw [takeS_gone, ih]
    by_cases e : j = k
    · simp [e]
    · simp [e]; omega
theorem dropS_near (k a b : Nat) (ns : List Int) : ∀ S : PS, (∀ m ∈ ns, m.toNat ≠ a) → (dropS S k ns).near a b = S.near a b := by
  unfold dropS
  induction ns with
  | nil => intro S _; rfl
  | cons m ns ih =>
    intro S hm
    refine (ih (S.drop m.toNat k) (fun m' hm' => hm m' (by simp [hm']))).trans ?_
    have := hm m (by simp)
    simp only [PS.drop]
    rw [if_neg (fun e => this e.1.symm)]
theorem dropS_gone (k a b : Nat) (ns : List Int) : ∀ S : PS, b ≠ k → (dropS S k ns).near a b = S.near a b := by
  unfold dropS
  induction ns with
  | nil => intro S _; rfl
  | cons m ns ih =>
    intro S hb
    refine (ih (S.drop m.toNat k) hb).trans ?_
    simp only [PS.drop]
    rw [if_neg (fun e => hb e.2)]
theorem dropS_off (k a : Nat) (ns : List Int) : ∀ S : PS, (∃ m ∈ ns, m.toNat = a) → (dropS S k ns).near a k = none := by
  unfold dropS
  induction ns with
  | nil => intro S ⟨m, hm, _⟩; simp at hm
  | cons m ns ih =>
    intro S ⟨m', hm', he⟩
    by_cases h : ∃ m' ∈ ns, m'.toNat = a
    · exact ih _ h
    · have hma : m.toNat = a := by
        rcases List.mem_cons.1 hm' with e | e
        · rw [← e]; exact he
        · exact absurd ⟨m', e, he⟩ h
      refine (dropS_near k a k ns (S.drop m.toNat k) (fun q hq e => h ⟨q, hq, e⟩)).trans ?_
      simp [PS.drop, hma]
theorem takeS_nearD (S : PS) (n k a b : Nat) : (takeS S n k).near a b = (dropS S k (nsS S n k)).near a b := by
  unfold takeS
  dsimp only
  split <;> rfl
theorem takeS_near {S : PS} {n k a : Nat} (b : Nat) (h : ∀ m ∈ nsS S n k, m.toNat ≠ a) : (takeS S n k).near a b = S.near a b := (takeS_nearD S n k a b).trans (dropS_near k a b _ S h)
theorem near_after {S : PS} {n : Nat} (h : Thin S n) (j b : Nat) (d : Nat) (hd : j + d ≤ n) : (takenS S n (j + d)).near j b = (takenS S n j).near j b := by
  induction d with
  | zero => rfl
  | succ d ih =>
    rw [← ih (by omega)]
    show (takeS (takenS S n (j + d)) n (j + d)).near j b = _
    exact takeS_near b (fun m hm e => by have := (h (j + d) (by omega)).2 m hm; omega)
theorem near_end {S : PS} {n : Nat} (h : Thin S n) {j : Nat} (hj : j < n) (b : Nat) : (takenS S n n).near j b = (takenS S n j).near j b := by
  have := near_after h j b (n - j) (by omega)
  rw [show j + (n - j) = n by omega] at this
  exact this
/-- What is chosen behind, the last d nodes being done. -/
def choS (S : PS) (n : Nat) : Nat → List Int
  | 0 => List.replicate n 0
  | d + 1 => (choS S n d).set (n - (d + 1)) (leastS (accS (fun m => ((takenS S n n).near (n - (d + 1)) m.toNat).getD []) (choS S n d) ((takenS S n n).nodes (n - (d + 1))) (nsS (takenS S n (n - (d + 1))) n (n - (d + 1)))) : Nat)
theorem choS_length (S : PS) (n d : Nat) : (choS S n d).length = n := by
  induction d with
  | zero => simp [choS]
  | succ d ih => simp [choS, ih]
/-- What is there behind. -/
structure Ready (S : PS) (n : Nat) (cs : Nat → Nat) (j : Nat) : Prop where
  len : ((takenS S n n).nodes j).length = cs j
  pos : 0 < cs j
  ok : OkV ((takenS S n n).nodes j)
  ns : ∀ m ∈ nsS (takenS S n j) n j, (0 ≤ m ∧ m < n) ∧ ∃ M, (takenS S n n).near j m.toNat = some M ∧ OkM M (cs j) (cs m.toNat)
theorem Ready.acc {S : PS} {n : Nat} {cs : Nat → Nat} {j : Nat} (h : Ready S n cs j) (ls : List Int) : (accS (fun m => ((takenS S n n).near j m.toNat).getD []) ls ((takenS S n n).nodes j) (nsS (takenS S n j) n j)).length = cs j :=
  (accS_ok (n := cs j) _ _ h.len h.ok (fun m hm => by
    obtain ⟨-, M, hM, hO⟩ := h.ns m hm
    rw [hM]
    exact ⟨_, hO⟩)).1
theorem choS_in {S : PS} {n : Nat} {cs : Nat → Nat} (h : ∀ j, j < n → Ready S n cs j) (d : Nat) (hd : d ≤ n) {i : Nat} (hi : i < n) : 0 ≤ (choS S n d).getD i 0 ∧ (choS S n d).getD i 0 < cs i := by
  induction d with
  | zero =>
    have := (h i hi).pos
    simp [choS, List.getD, hi]
    exact this
  | succ d ih =>
    have h1 := ih (by omega)
    unfold choS
    rw [List.getD_eq_getElem?_getD, List.getElem?_set]
    by_cases e : n - (d + 1) = i
    · rw [if_pos e, if_pos (by rw [choS_length]; omega)]
      simp only [Option.getD_some]
      have hl := (h i hi).acc (choS S n d)
      rw [e]
      have := leastS_lt (v := accS (fun m => ((takenS S n n).near i m.toNat).getD []) (choS S n d) ((takenS S n n).nodes i) (nsS (takenS S n i) n i)) (by rw [hl]; exact (h i hi).pos)
      rw [hl] at this
      omega
    · rw [if_neg e, ← List.getD_eq_getElem?_getD]
      exact h1
theorem SS.ready {w W : World} {L : Pl} {ow : Nat → Tg} {n : Nat} {S : PS} {us : List (Nat × List Int)} {uv : Value} {uvs : List Value} (h : SS w L ow n (takenS S n n) us uv uvs W) (hT : Thin S n) {j : Nat} (hj : j < n) : Ready S n L.cs j := by
  have hv := h.vr j hj
  obtain ⟨f, hf⟩ := h.pr j hj
  refine ⟨hv.len, hv.cap.2.1, hv.ok, fun m hm => ?_⟩
  obtain ⟨hr, hs⟩ := mem_nsS.1 hm
  refine ⟨hr, ?_⟩
  rw [← near_end hT hj] at hs
  obtain ⟨M, hM⟩ := Option.isSome_iff_exists.1 hs
  obtain ⟨-, -, -, -, hO⟩ := hf.yes m.toNat (by omega) M hM
  exact ⟨M, hM, hO⟩
end Go.Proofs.Ytdomnbgjafdnjaa
