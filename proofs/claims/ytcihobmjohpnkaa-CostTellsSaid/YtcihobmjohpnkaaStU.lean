/- Two rows of the numbers below n, both in order: they are one. In plain Lean. -/
import Derived.Test.YtcihobmjohpnkaaStP
namespace Go.Proofs.Ytcihobmjohpnkaa

theorem nodup_le : ∀ (n : Nat) (l : List Int), l.Nodup → (∀ y ∈ l, 0 ≤ y ∧ y < (n : Int)) → l.length ≤ n := by
  intro n
  induction n with
  | zero =>
    intro l _ h
    cases l with
    | nil => simp
    | cons y l => have := h y (by simp); omega
  | succ n ih =>
    intro l hn h
    by_cases hm : (n : Int) ∈ l
    · have h1 := ih (l.erase (n : Int)) (hn.erase _) (fun y hy => by
        have h2 := (hn.mem_erase_iff).1 hy
        have h3 := h y h2.2
        have h4 := h2.1
        omega)
      rw [List.length_erase_of_mem hm] at h1
      omega
    · have h1 := ih l hn (fun y hy => by
        have h3 := h y hy
        have : y ≠ (n : Int) := fun e => hm (e ▸ hy)
        omega)
      omega
theorem BlkOk.nodup {c : Int → Int} {D : Nat → Int} {n : Nat} (h : BlkOk c D 0 n) : (rowF n D).Nodup := by
  unfold rowF
  rw [List.nodup_iff_pairwise_ne, List.pairwise_map]
  refine List.Pairwise.imp_of_mem ?_ List.pairwise_lt_range
  intro a b ha hb hab he
  have h1 := h.so a b (Nat.zero_le _) hab (List.mem_range.1 hb)
  rw [he] at h1
  exact h1.irrefl
theorem BlkOk.surj {c : Int → Int} {D : Nat → Int} {n : Nat} (h : BlkOk c D 0 n) {x : Int} (hx : 0 ≤ x ∧ x < (n : Int)) : ∃ k, k < n ∧ D k = x := by
  by_cases hm : x ∈ rowF n D
  · obtain ⟨k, hk, e⟩ := List.mem_map.1 hm
    exact ⟨k, List.mem_range.1 hk, e⟩
  · have h1 := nodup_le n (x :: rowF n D) (List.nodup_cons.2 ⟨hm, h.nodup⟩) (fun y hy => by
      rcases List.mem_cons.1 hy with rfl | hy
      · exact hx
      · obtain ⟨k, hk, rfl⟩ := List.mem_map.1 hy
        have := h.rg k (Nat.zero_le _) (List.mem_range.1 hk)
        omega)
    rw [List.length_cons, rowF_length] at h1
    omega
theorem ltC.total {c : Int → Int} {x y : Int} (h : x ≠ y) : ltC c x y ∨ ltC c y x := by unfold ltC; omega
theorem BlkOk.half {c : Int → Int} {D E : Nat → Int} {n k : Nat} (h : BlkOk c D 0 n) (h' : BlkOk c E 0 n) (hk : k < n) (ih : ∀ j, j < k → D j = E j) (hlt : ltC c (D k) (E k)) : False := by
  have hr := h.rg k (Nat.zero_le _) hk
  obtain ⟨j, hj, e⟩ := h'.surj (x := D k) ⟨by omega, by omega⟩
  by_cases h1 : j < k
  · have := h.so j k (Nat.zero_le _) h1 hk
    rw [ih j h1, e] at this
    exact this.irrefl
  · by_cases h2 : j = k
    · subst h2
      rw [e] at hlt
      exact hlt.irrefl
    · have := h'.so k j (Nat.zero_le _) (by omega) hj
      rw [e] at this
      exact (hlt.trans this).irrefl
theorem BlkOk.uniq {c : Int → Int} {D E : Nat → Int} {n : Nat} (h : BlkOk c D 0 n) (h' : BlkOk c E 0 n) (k : Nat) (hk : k < n) : D k = E k := by
  induction k using Nat.strongRecOn with
  | ind k ih =>
    have ih' : ∀ j, j < k → D j = E j := fun j hj => ih j hj (by omega)
    by_cases e : D k = E k
    · exact e
    · exfalso
      rcases ltC.total (c := c) e with h1 | h1
      · exact h.half h' hk ih' h1
      · exact h'.half h hk (fun j hj => (ih' j hj).symm) h1
/-- The row while the inner loop of ByCost goes down. -/
def shF (D : Nat → Int) (v k : Nat) : Nat → Int := fun i => if k < i ∧ i ≤ v then D (i - 1) else D i
theorem shF_self (D : Nat → Int) (v : Nat) : shF D v v = D := by
  funext i; unfold shF; rw [if_neg (by omega)]
theorem shF_step (D : Nat → Int) {v k : Nat} (hk : k < v) : updN (shF D v (k + 1)) (k + 1) (shF D v (k + 1) k) = shF D v k := by
  funext i
  unfold updN shF
  by_cases h1 : i = k + 1
  · rw [if_pos h1, if_neg (by omega), if_pos (by omega)]
    congr 1; omega
  · rw [if_neg h1]
    by_cases h2 : k + 1 < i ∧ i ≤ v
    · rw [if_pos h2, if_pos (by omega)]
    · rw [if_neg h2, if_neg (by omega)]
theorem shF_end (D : Nat → Int) {v k : Nat} : updN (shF D v k) k (D v) = insL D v k := by
  funext i
  unfold updN shF insL
  by_cases h1 : i = k
  · rw [if_pos h1]
  · rw [if_neg h1]
end Go.Proofs.Ytcihobmjohpnkaa
