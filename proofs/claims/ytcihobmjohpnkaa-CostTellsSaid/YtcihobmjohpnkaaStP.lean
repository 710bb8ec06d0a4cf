/- A stable sort of numbers by what they cost, in plain Lean: swaps, rotations, merges. Nothing here names the program. -/
import Derived.ProofKit
namespace Go.Proofs.Ytcihobmjohpnkaa

/-- The first n numbers of a row. -/
def rowF (n : Nat) (D : Nat → Int) : List Int := (List.range n).map D
theorem rowF_length (n : Nat) (D : Nat → Int) : (rowF n D).length = n := by simp [rowF]
theorem rowF_get {n : Nat} {D : Nat → Int} {k : Nat} (h : k < n) : (rowF n D).getD k 0 = D k := by simp [rowF, List.getD, h]
theorem rowF_getElem {n : Nat} {D : Nat → Int} {k : Nat} (h : k < (rowF n D).length) : (rowF n D)[k] = D k := by simp [rowF]
def updN (D : Nat → Int) (i : Nat) (x : Int) : Nat → Int := fun k => if k = i then x else D k
theorem rowF_set (n : Nat) (D : Nat → Int) (i : Nat) (x : Int) : (rowF n D).set i x = rowF n (updN D i x) := by
  refine List.ext_getElem (by simp [rowF]) fun k h1 h2 => ?_
  rw [List.getElem_set, rowF_getElem, rowF_getElem]
  unfold updN
  by_cases e : i = k
  · subst e; simp
  · have : ¬ k = i := fun h => e h.symm
    simp [e, this]
theorem rowF_congr {n : Nat} {D D' : Nat → Int} (h : ∀ k, k < n → D k = D' k) : rowF n D = rowF n D' := List.map_congr_left fun k hk => h k (List.mem_range.1 hk)
def swpF (D : Nat → Int) (i j : Nat) : Nat → Int := fun k => if k = i then D j else if k = j then D i else D k
theorem upd_swap (D : Nat → Int) (i j : Nat) : updN (updN D i (D j)) j (D i) = swpF D i j := by
  funext k
  unfold updN swpF
  by_cases h1 : k = j
  · subst h1
    rw [if_pos rfl]
    by_cases h2 : k = i
    · subst h2; rw [if_pos rfl]
    · rw [if_neg h2, if_pos rfl]
  · rw [if_neg h1]
    by_cases h2 : k = i
    · rw [if_pos h2, if_pos h2]
    · rw [if_neg h2, if_neg h2, if_neg h1]

section
variable (D : Nat → Int)
/-- Two ranges of n numbers, exchanged. -/
def swR (a b n : Nat) : Nat → Int := fun k => if a ≤ k ∧ k < a + n then D (k - a + b) else if b ≤ k ∧ k < b + n then D (k - b + a) else D k
theorem swR_zero (a b : Nat) : swR D a b 0 = D := by
  funext k
  unfold swR
  rw [if_neg (by omega), if_neg (by omega)]
theorem swR_succ {a b n i : Nat} (h : a + n ≤ b) (hi : i < n) : swpF (swR D a b i) (a + i) (b + i) = swR D a b (i + 1) := by
  funext k
  unfold swpF
  by_cases h1 : k = a + i
  · rw [if_pos h1]
    unfold swR
    rw [if_neg (by omega), if_neg (by omega), if_pos (by omega)]
    congr 1; omega
  · rw [if_neg h1]
    by_cases h2 : k = b + i
    · rw [if_pos h2]
      unfold swR
      rw [if_neg (by omega), if_neg (by omega), if_neg (by omega), if_pos (by omega)]
      congr 1; omega
    · rw [if_neg h2]
      unfold swR
      by_cases h3 : a ≤ k ∧ k < a + i
      · rw [if_pos h3, if_pos (by omega)]
      · rw [if_neg h3]
        by_cases h4 : b ≤ k ∧ k < b + i
        · rw [if_pos h4, if_neg (by omega), if_pos (by omega)]
        · rw [if_neg h4, if_neg (by omega), if_neg (by omega)]
/-- What lies from m on comes ahead of what lies from a on. -/
def rotF (a m b : Nat) : Nat → Int := fun k => if a ≤ k ∧ k < a + (b - m) then D (k - a + m) else if a + (b - m) ≤ k ∧ k < b then D (k - (b - m)) else D k
theorem rot_big {m i j : Nat} (hi : i ≤ m) (h : j < i) : rotF (swR D (m - i) m j) (m - (i - j)) m (m + j) = rotF D (m - i) m (m + j) := by
  funext k
  have e : m + j - m = j := by omega
  unfold rotF
  rw [e]
  by_cases h1 : m - i ≤ k ∧ k < m - i + j
  · rw [if_pos h1, if_neg (by omega), if_neg (by omega)]
    unfold swR
    rw [if_pos h1]
  · rw [if_neg h1]
    by_cases h2 : m - i + j ≤ k ∧ k < m + j
    · rw [if_pos h2]
      by_cases h3 : k < m - i + j + j
      · rw [if_pos (by omega)]
        unfold swR
        rw [if_neg (by omega), if_pos (by omega)]
        congr 1; omega
      · rw [if_neg (by omega), if_pos (by omega)]
        unfold swR
        rw [if_neg (by omega), if_neg (by omega)]
    · rw [if_neg h2, if_neg (by omega), if_neg (by omega)]
      unfold swR
      rw [if_neg (by omega), if_neg (by omega)]
theorem rot_small {m i j : Nat} (hi : i ≤ m) (h : i < j) : rotF (swR D (m - i) (m + j - i) i) (m - i) m (m + (j - i)) = rotF D (m - i) m (m + j) := by
  funext k
  have e : m + j - m = j := by omega
  have e2 : m + (j - i) - m = j - i := by omega
  unfold rotF
  rw [e, e2]
  by_cases h1 : m - i ≤ k ∧ k < m - i + (j - i)
  · rw [if_pos h1, if_pos (by omega)]
    unfold swR
    rw [if_neg (by omega), if_neg (by omega)]
  · rw [if_neg h1]
    by_cases h2 : m - i + (j - i) ≤ k ∧ k < m + (j - i)
    · rw [if_pos h2, if_pos (by omega)]
      unfold swR
      rw [if_pos (by omega)]
      congr 1; omega
    · rw [if_neg h2]
      unfold swR
      by_cases h3 : m + j - i ≤ k ∧ k < m + j - i + i
      · rw [if_neg (by omega), if_pos h3, if_neg (by omega), if_pos (by omega)]
        congr 1; omega
      · rw [if_neg (by omega), if_neg h3, if_neg (by omega), if_neg (by omega)]
theorem rot_same {m i : Nat} (hi : i ≤ m) : swR D (m - i) m i = rotF D (m - i) m (m + i) := by
  funext k
  have e : m + i - m = i := by omega
  unfold swR rotF
  rw [e]
  by_cases h1 : m - i ≤ k ∧ k < m - i + i
  · rw [if_pos h1, if_pos h1]
  · rw [if_neg h1, if_neg h1]
    by_cases h2 : m ≤ k ∧ k < m + i
    · rw [if_pos h2, if_pos (by omega)]
      congr 1; omega
    · rw [if_neg h2, if_neg (by omega)]
/-- The number at m goes to i, what lay there goes up. -/
def insL (m i : Nat) : Nat → Int := fun k => if k = i then D m else if i < k ∧ k ≤ m then D (k - 1) else D k
theorem insL_self (m : Nat) : insL D m m = D := by
  funext k
  unfold insL
  by_cases h : k = m
  · rw [if_pos h, h]
  · rw [if_neg h, if_neg (by omega)]
theorem insL_step {m j : Nat} (h : j < m) : swpF (insL D m (j + 1)) (j + 1) j = insL D m j := by
  funext k
  unfold swpF
  by_cases h1 : k = j + 1
  · rw [if_pos h1]
    unfold insL
    rw [if_neg (by omega), if_neg (by omega), if_neg (by omega), if_pos (by omega)]
    congr 1; omega
  · rw [if_neg h1]
    by_cases h2 : k = j
    · rw [if_pos h2]
      unfold insL
      rw [if_pos rfl, if_pos h2]
    · rw [if_neg h2]
      unfold insL
      rw [if_neg h1, if_neg h2]
      by_cases h3 : j + 1 < k ∧ k ≤ m
      · rw [if_pos h3, if_pos (by omega)]
      · rw [if_neg h3, if_neg (by omega)]
/-- The number at a goes to i, what lay there goes down. -/
def insR (a i : Nat) : Nat → Int := fun k => if k = i then D a else if a ≤ k ∧ k < i then D (k + 1) else D k
theorem insR_self (a : Nat) : insR D a a = D := by
  funext k
  unfold insR
  by_cases h : k = a
  · rw [if_pos h, h]
  · rw [if_neg h, if_neg (by omega)]
theorem insR_step {a k0 : Nat} (h : a ≤ k0) : swpF (insR D a k0) k0 (k0 + 1) = insR D a (k0 + 1) := by
  funext k
  unfold swpF
  by_cases h1 : k = k0
  · rw [if_pos h1]
    unfold insR
    rw [if_neg (by omega), if_neg (by omega), if_neg (by omega), if_pos (by omega)]
    congr 1; omega
  · rw [if_neg h1]
    by_cases h2 : k = k0 + 1
    · rw [if_pos h2]
      unfold insR
      rw [if_pos rfl, if_pos h2]
    · rw [if_neg h2]
      unfold insR
      rw [if_neg h1, if_neg h2]
      by_cases h3 : a ≤ k ∧ k < k0
      · rw [if_pos h3, if_pos (by omega)]
      · rw [if_neg h3, if_neg (by omega)]
end

/-- The cheaper one; of two that cost the same the lesser number. -/
def ltC (c : Int → Int) (x y : Int) : Prop := c x < c y ∨ (c x = c y ∧ x < y)
theorem ltC.trans {c : Int → Int} {x y z : Int} (h1 : ltC c x y) (h2 : ltC c y z) : ltC c x z := by unfold ltC at *; omega
theorem ltC.irrefl {c : Int → Int} {x : Int} (h : ltC c x x) : False := by unfold ltC at h; omega
theorem ltC_lt {c : Int → Int} {x y : Int} (h : c x < c y) : ltC c x y := .inl h
theorem ltC_ge {c : Int → Int} {x y : Int} (h : ¬ c y < c x) (hx : x < y) : ltC c x y := by unfold ltC; omega
def SegS (c : Int → Int) (D : Nat → Int) (a b : Nat) : Prop := ∀ i j, a ≤ i → i < j → j < b → ltC c (D i) (D j)
def RunL (D : Nat → Int) (a m b : Nat) : Prop := ∀ i j, a ≤ i → i < m → m ≤ j → j < b → D i < D j
/-- Between a and b nothing new; elsewhere all as it was. -/
structure PSeg (D D' : Nat → Int) (a b : Nat) : Prop where
  out : ∀ i, ¬ (a ≤ i ∧ i < b) → D' i = D i
  src : ∀ i, a ≤ i → i < b → ∃ j, a ≤ j ∧ j < b ∧ D' i = D j
section
variable {c : Int → Int} {D D' D2 : Nat → Int} {a b m : Nat}
theorem PSeg.refl (D : Nat → Int) (a b : Nat) : PSeg D D a b := ⟨fun _ _ => rfl, fun i h1 h2 => ⟨i, h1, h2, rfl⟩⟩
theorem PSeg.trans (h : PSeg D D' a b) (k : PSeg D' D2 a b) : PSeg D D2 a b := ⟨fun i hi => (k.out i hi).trans (h.out i hi), fun i h1 h2 => by
  obtain ⟨j, j1, j2, e⟩ := k.src i h1 h2
  obtain ⟨l, l1, l2, e2⟩ := h.src j j1 j2
  exact ⟨l, l1, l2, e.trans e2⟩⟩
theorem PSeg.wide (h : PSeg D D' a b) {a' b' : Nat} (ha : a' ≤ a) (hb : b ≤ b') : PSeg D D' a' b' := ⟨fun i hi => h.out i (by omega), fun i h1 h2 => by
  by_cases hi : a ≤ i ∧ i < b
  · obtain ⟨j, j1, j2, e⟩ := h.src i hi.1 hi.2
    exact ⟨j, by omega, by omega, e⟩
  · exact ⟨i, h1, h2, h.out i hi⟩⟩
theorem SegS.sub (h : SegS c D a b) {a' b' : Nat} (ha : a ≤ a') (hb : b' ≤ b) : SegS c D a' b' := fun i j h1 h2 h3 => h i j (by omega) h2 (by omega)
theorem SegS.of_eq (h : SegS c D a b) (he : ∀ i, a ≤ i → i < b → D' i = D i) : SegS c D' a b := fun i j h1 h2 h3 => by
  rw [he i h1 (by omega), he j (by omega) h3]; exact h i j h1 h2 h3
theorem SegS.small (h : b ≤ a + 1) : SegS c D a b := fun i j h1 h2 h3 => by omega
/-- Two runs, all of one ahead of all of the other. -/
theorem SegS.join {m : Nat} (h1 : SegS c D a m) (h2 : SegS c D m b) (h : ∀ i j, a ≤ i → i < m → m ≤ j → j < b → ltC c (D i) (D j)) : SegS c D a b := fun i j e1 e2 e3 => by
  by_cases hj : j < m
  · exact h1 i j e1 e2 hj
  · by_cases hi : i < m
    · exact h i j e1 hi (by omega) e3
    · exact h2 i j (by omega) e2 e3
theorem insL_seg {m i : Nat} (hs : SegS c D a m) (h1 : a ≤ i) (h2 : i ≤ m) (lo : ∀ k, a ≤ k → k < i → ltC c (D k) (D m)) (hi : ∀ k, i ≤ k → k < m → ltC c (D m) (D k)) : SegS c (insL D m i) a (m + 1) ∧ PSeg D (insL D m i) a (m + 1) := by
  refine ⟨fun x y e1 e2 e3 => ?_, fun k hk => ?_, fun k k1 k2 => ?_⟩
  · unfold insL
    by_cases hx : x = i
    · rw [if_pos hx, if_neg (by omega), if_pos (by omega)]
      exact hi _ (by omega) (by omega)
    · rw [if_neg hx]
      by_cases hy : y = i
      · rw [if_pos hy, if_neg (by omega)]
        exact lo _ e1 (by omega)
      · rw [if_neg hy]
        by_cases hx2 : i < x ∧ x ≤ m
        · rw [if_pos hx2, if_pos (by omega)]
          exact hs _ _ (by omega) (by omega) (by omega)
        · rw [if_neg hx2]
          by_cases hy2 : i < y ∧ y ≤ m
          · rw [if_pos hy2]
            by_cases e : x = y - 1
            · omega
            · exact hs _ _ (by omega) (by omega) (by omega)
          · rw [if_neg hy2]
            exact hs _ _ (by omega) (by omega) (by omega)
  · unfold insL
    rw [if_neg (by omega), if_neg (by omega)]
  · unfold insL
    by_cases e : k = i
    · exact ⟨m, by omega, by omega, by rw [if_pos e]⟩
    · by_cases e2 : i < k ∧ k ≤ m
      · exact ⟨k - 1, by omega, by omega, by rw [if_neg e, if_pos e2]⟩
      · exact ⟨k, k1, k2, by rw [if_neg e, if_neg e2]⟩
theorem insR_seg {i : Nat} (hs : SegS c D (a + 1) b) (h1 : a ≤ i) (h2 : i < b) (lo : ∀ k, a < k → k ≤ i → ltC c (D k) (D a)) (hi : ∀ k, i < k → k < b → ltC c (D a) (D k)) : SegS c (insR D a i) a b ∧ PSeg D (insR D a i) a b := by
  refine ⟨fun x y e1 e2 e3 => ?_, fun k hk => ?_, fun k k1 k2 => ?_⟩
  · unfold insR
    by_cases hx : x = i
    · rw [if_pos hx, if_neg (by omega), if_neg (by omega)]
      exact hi _ (by omega) (by omega)
    · rw [if_neg hx]
      by_cases hy : y = i
      · rw [if_pos hy, if_pos (by omega)]
        exact lo _ (by omega) (by omega)
      · rw [if_neg hy]
        by_cases hx2 : a ≤ x ∧ x < i
        · rw [if_pos hx2]
          by_cases hy2 : a ≤ y ∧ y < i
          · rw [if_pos hy2]
            exact hs _ _ (by omega) (by omega) (by omega)
          · rw [if_neg hy2]
            exact hs _ _ (by omega) (by omega) (by omega)
        · rw [if_neg hx2, if_neg (by omega)]
          exact hs _ _ (by omega) (by omega) (by omega)
  · unfold insR
    rw [if_neg (by omega), if_neg (by omega)]
  · unfold insR
    by_cases e : k = i
    · exact ⟨a, by omega, by omega, by rw [if_pos e]⟩
    · by_cases e2 : a ≤ k ∧ k < i
      · exact ⟨k + 1, by omega, by omega, by rw [if_neg e, if_pos e2]⟩
      · exact ⟨k, k1, k2, by rw [if_neg e, if_neg e2]⟩
/-- What the merge has behind its search and its rotation: s of the left run, up to e of the right one, come first. -/
structure Cut (c : Int → Int) (D : Nat → Int) (a m b mid s e : Nat) : Prop where
  se : s + e = mid + m
  as : a ≤ s ∧ s ≤ m ∧ m ≤ e ∧ e ≤ b
  am : a ≤ mid ∧ mid ≤ b
  lo : a < s → e < b → ltC c (D (s - 1)) (D e)
  hi : m < e → s < m → ltC c (D (e - 1)) (D s)
theorem le_seg {x y : Nat} (h : SegS c D a b) (h1 : a ≤ x) (h2 : x ≤ y) (h3 : y < b) {z : Int} (hz : ltC c (D y) z) : ltC c (D x) z := by
  by_cases e : x = y
  · rw [e]; exact hz
  · exact (h x y h1 (by omega) h3).trans hz
theorem seg_le {x y : Nat} (h : SegS c D a b) (h1 : a ≤ x) (h2 : x ≤ y) (h3 : y < b) {z : Int} (hz : ltC c z (D x)) : ltC c z (D y) := by
  by_cases e : x = y
  · rw [← e]; exact hz
  · exact hz.trans (h x y h1 (by omega) h3)
theorem Cut.lt {mid s e : Nat} (h : Cut c D a m b mid s e) (hl : SegS c D a m) (hr : SegS c D m b) {x y : Nat} (hx : (a ≤ x ∧ x < s) ∨ (m ≤ x ∧ x < e)) (hy : (s ≤ y ∧ y < m) ∨ (e ≤ y ∧ y < b)) : ltC c (D x) (D y) := by
  have h1 := h.as
  rcases hx with hx | hx <;> rcases hy with hy | hy
  · exact hl x y hx.1 (by omega) hy.2
  · exact le_seg hl hx.1 (show x ≤ s - 1 by omega) (by omega) (seg_le hr h1.2.2.1 hy.1 hy.2 (h.lo (by omega) (by omega)))
  · exact le_seg hr hx.1 (show x ≤ e - 1 by omega) (by omega) (seg_le hl h1.1 hy.1 hy.2 (h.hi (by omega) (by omega)))
  · exact hr x y hx.1 (by omega) hy.2
/-- The row behind the rotation. -/
theorem rot_at {s e k : Nat} (_hs : s ≤ m) (_he : m ≤ e) : rotF D s m e k = if s ≤ k ∧ k < s + (e - m) then D (k - s + m) else if s + (e - m) ≤ k ∧ k < e then D (k - (e - m)) else D k := rfl
theorem rot_pseg {s e : Nat} (hs : s ≤ m) (he : m ≤ e) : PSeg D (rotF D s m e) s e := ⟨fun k hk => by rw [rot_at hs he, if_neg (by omega), if_neg (by omega)], fun k k1 k2 => by
  rw [rot_at hs he]
  by_cases h1 : s ≤ k ∧ k < s + (e - m)
  · exact ⟨k - s + m, by omega, by omega, by rw [if_pos h1]⟩
  · exact ⟨k - (e - m), by omega, by omega, by rw [if_neg h1, if_pos (by omega)]⟩⟩
theorem rot_left_nil {e : Nat} : rotF D m m e = D ∨ e < m := by
  by_cases h : e < m
  · exact .inr h
  · refine .inl (funext fun k => ?_)
    rw [rot_at (Nat.le_refl _) (by omega)]
    by_cases h1 : m ≤ k ∧ k < m + (e - m)
    · rw [if_pos h1]; congr 1; omega
    · rw [if_neg h1, if_neg (by omega)]
theorem rot_right_nil {s : Nat} (hs : s ≤ m) : rotF D s m m = D := by
  funext k
  rw [rot_at hs (Nat.le_refl _), if_neg (by omega)]
  by_cases h1 : s + (m - m) ≤ k ∧ k < m
  · rw [if_pos h1]; congr 1; omega
  · rw [if_neg h1]
theorem Cut.parts {mid s e : Nat} (h : Cut c D a m b mid s e) (hl : SegS c D a m) (hr : SegS c D m b) (hL : RunL D a m b) :
    (SegS c (rotF D s m e) a s ∧ SegS c (rotF D s m e) s mid ∧ RunL (rotF D s m e) a s mid) ∧ (SegS c (rotF D s m e) mid e ∧ SegS c (rotF D s m e) e b ∧ RunL (rotF D s m e) mid e b) ∧
      (∀ x y, a ≤ x → x < mid → mid ≤ y → y < b → ltC c (rotF D s m e x) (rotF D s m e y)) := by
  have h1 := h.as
  have h2 := h.se
  have h3 := h.am
  have r1 : ∀ k, a ≤ k → k < s → rotF D s m e k = D k := fun k k1 k2 => by rw [rot_at h1.2.1 h1.2.2.1, if_neg (by omega), if_neg (by omega)]
  have r2 : ∀ k, s ≤ k → k < mid → rotF D s m e k = D (k - s + m) := fun k k1 k2 => by rw [rot_at h1.2.1 h1.2.2.1, if_pos (by omega)]
  have r3 : ∀ k, mid ≤ k → k < e → rotF D s m e k = D (k - (e - m)) := fun k k1 k2 => by rw [rot_at h1.2.1 h1.2.2.1, if_neg (by omega), if_pos (by omega)]
  have r4 : ∀ k, e ≤ k → k < b → rotF D s m e k = D k := fun k k1 k2 => by rw [rot_at h1.2.1 h1.2.2.1, if_neg (by omega), if_neg (by omega)]
  refine ⟨⟨fun x y e1 e2 e3 => ?_, fun x y e1 e2 e3 => ?_, fun x y e1 e2 e3 e4 => ?_⟩, ⟨fun x y e1 e2 e3 => ?_, fun x y e1 e2 e3 => ?_, fun x y e1 e2 e3 e4 => ?_⟩, fun x y e1 e2 e3 e4 => ?_⟩
  · rw [r1 x (by omega) (by omega), r1 y (by omega) e3]; exact hl x y e1 e2 (by omega)
  · rw [r2 x (by omega) (by omega), r2 y (by omega) e3]; exact hr _ _ (by omega) (by omega) (by omega)
  · rw [r1 x (by omega) (by omega), r2 y (by omega) e4]; exact hL _ _ (by omega) (by omega) (by omega) (by omega)
  · rw [r3 x (by omega) (by omega), r3 y (by omega) e3]; exact hl _ _ (by omega) (by omega) (by omega)
  · rw [r4 x (by omega) (by omega), r4 y (by omega) e3]; exact hr _ _ (by omega) (by omega) (by omega)
  · rw [r3 x (by omega) (by omega), r4 y (by omega) e4]; exact hL _ _ (by omega) (by omega) (by omega) (by omega)
  · by_cases hx : x < s
    · by_cases hy : y < e
      · rw [r1 x (by omega) hx, r3 y e3 hy]; exact h.lt hl hr (.inl (by omega)) (.inl (by omega))
      · rw [r1 x (by omega) hx, r4 y (by omega) e4]; exact h.lt hl hr (.inl (by omega)) (.inr (by omega))
    · by_cases hy : y < e
      · rw [r2 x (by omega) e2, r3 y e3 hy]; exact h.lt hl hr (.inr (by omega)) (.inl (by omega))
      · rw [r2 x (by omega) e2, r4 y (by omega) e4]; exact h.lt hl hr (.inr (by omega)) (.inr (by omega))
/-- Both halves have been merged. -/
theorem Cut.done {mid s e : Nat} (h : Cut c D a m b mid s e) (hl : SegS c D a m) (hr : SegS c D m b) (hL : RunL D a m b) {D1 D2 : Nat → Int} (k1 : SegS c D1 a mid ∧ PSeg (rotF D s m e) D1 a mid) (k2 : SegS c D2 mid b ∧ PSeg D1 D2 mid b) : SegS c D2 a b ∧ PSeg D D2 a b := by
  obtain ⟨-, -, p3⟩ := h.parts hl hr hL
  have h1 := h.as
  have h3 := h.am
  have e1 : ∀ i, a ≤ i → i < mid → D2 i = D1 i := fun i _ i2 => k2.2.out i (by omega)
  refine ⟨SegS.join (m := mid) (k1.1.of_eq e1) k2.1 fun x y x1 x2 y1 y2 => ?_, ((rot_pseg h1.2.1 h1.2.2.1).wide h1.1 h1.2.2.2).trans ((k1.2.wide (Nat.le_refl _) h3.2).trans (k2.2.wide h3.1 (Nat.le_refl _)))⟩
  rw [e1 x x1 x2]
  obtain ⟨j, j1, j2, e2⟩ := k1.2.src x x1 x2
  obtain ⟨l, l1, l2, e3⟩ := k2.2.src y y1 y2
  rw [e2, e3, k1.2.out l (by omega)]
  exact p3 j l j1 j2 l1 l2
end
/-- A block: sorted, and of the numbers that belong there. -/
structure BlkOk (c : Int → Int) (D : Nat → Int) (a b : Nat) : Prop where
  so : SegS c D a b
  rg : ∀ k, a ≤ k → k < b → (a : Int) ≤ D k ∧ D k < (b : Int)
section
variable {c : Int → Int} {D D' : Nat → Int} {a b m n bs : Nat}
theorem BlkOk.of_eq (h : BlkOk c D a b) (he : ∀ i, a ≤ i → i < b → D' i = D i) : BlkOk c D' a b := ⟨h.so.of_eq he, fun k k1 k2 => by rw [he k k1 k2]; exact h.rg k k1 k2⟩
theorem BlkOk.runL (h1 : BlkOk c D a m) (h2 : BlkOk c D m b) : RunL D a m b := fun i j e1 e2 e3 e4 => by
  have := (h1.rg i e1 e2).2
  have := (h2.rg j e3 e4).1
  omega
theorem BlkOk.merge (h1 : BlkOk c D a m) (h2 : BlkOk c D m b) (ham : a ≤ m) (hmb : m ≤ b) (hs : SegS c D' a b) (hp : PSeg D D' a b) : BlkOk c D' a b := ⟨hs, fun k k1 k2 => by
  obtain ⟨j, j1, j2, e⟩ := hp.src k k1 k2
  rw [e]
  by_cases hj : j < m
  · have := h1.rg j j1 hj; omega
  · have := h2.rg j (by omega) j2; omega⟩
theorem BlkOk.sorted (hi : ∀ k, a ≤ k → k < b → D k = (k : Int)) (hs : SegS c D' a b) (hp : PSeg D D' a b) : BlkOk c D' a b := ⟨hs, fun k k1 k2 => by
  obtain ⟨j, j1, j2, e⟩ := hp.src k k1 k2
  rw [e, hi j j1 j2]
  omega⟩
/-- All blocks of so many. -/
def Lv (c : Int → Int) (D : Nat → Int) (n bs : Nat) : Prop := ∀ q, q * bs < n → BlkOk c D (q * bs) (min ((q + 1) * bs) n)
/-- The first q pairs of blocks have been merged. -/
structure Mix (c : Int → Int) (D : Nat → Int) (n bs q : Nat) : Prop where
  big : ∀ p, p < q → BlkOk c D (p * (2 * bs)) ((p + 1) * (2 * bs))
  sml : ∀ p, 2 * q ≤ p → p * bs < n → BlkOk c D (p * bs) (min ((p + 1) * bs) n)
theorem Lv.mix (h : Lv c D n bs) : Mix c D n bs 0 := ⟨fun p hp => by omega, fun p _ hp => h p hp⟩
theorem two_mul_bs (q bs : Nat) : 2 * q * bs = q * (2 * bs) := by rw [Nat.mul_comm 2 q, Nat.mul_assoc]
theorem two_one_bs (q bs : Nat) : (2 * q + 1) * bs = q * (2 * bs) + bs := by rw [Nat.add_mul, two_mul_bs, Nat.one_mul]
theorem two_two_bs (q bs : Nat) : (2 * q + 2) * bs = (q + 1) * (2 * bs) := by rw [← two_mul_bs]; congr 1
theorem succ_bs (q bs : Nat) : (q + 1) * (2 * bs) = q * (2 * bs) + 2 * bs := Nat.succ_mul q (2 * bs)
/-- A pair more. -/
theorem Mix.pair {q : Nat} (h : Mix c D n bs q) (hb : q * (2 * bs) + 2 * bs ≤ n) (h0 : 0 < bs) :
    (SegS c D (q * (2 * bs)) (q * (2 * bs) + bs) ∧ SegS c D (q * (2 * bs) + bs) (q * (2 * bs) + 2 * bs) ∧ RunL D (q * (2 * bs)) (q * (2 * bs) + bs) (q * (2 * bs) + 2 * bs)) ∧
      ∀ D', SegS c D' (q * (2 * bs)) (q * (2 * bs) + 2 * bs) → PSeg D D' (q * (2 * bs)) (q * (2 * bs) + 2 * bs) → Mix c D' n bs (q + 1) := by
  have b1 := h.sml (2 * q) (Nat.le_refl _) (by rw [two_mul_bs]; omega)
  have b2 := h.sml (2 * q + 1) (by omega) (by rw [two_one_bs]; omega)
  rw [two_mul_bs, two_one_bs, Nat.min_eq_left (by omega)] at b1
  rw [show 2 * q + 1 + 1 = 2 * q + 2 by omega, two_two_bs, two_one_bs, succ_bs, Nat.min_eq_left (by omega)] at b2
  refine ⟨⟨b1.so, b2.so, b1.runL b2⟩, fun D' hs hp => ⟨fun p hpq => ?_, fun p hpq hpn => ?_⟩⟩
  · by_cases e : p = q
    · subst e
      rw [succ_bs]
      exact b1.merge b2 (by omega) (by omega) hs hp
    · have hlt : p < q := by omega
      refine (h.big p hlt).of_eq fun i _ i2 => hp.out i (fun hh => ?_)
      have := Nat.mul_le_mul_right (2 * bs) (show p + 1 ≤ q by omega)
      omega
  · refine (h.sml p (by omega) hpn).of_eq fun i i1 _ => hp.out i (fun hh => ?_)
    have h5 := Nat.mul_le_mul_right bs (show 2 * q + 2 ≤ p by omega)
    rw [two_two_bs, succ_bs] at h5
    omega
/-- The last pair, or the last block alone. -/
theorem Mix.last {q : Nat} (h : Mix c D n bs q) (hb : n < q * (2 * bs) + 2 * bs) (ha : q * (2 * bs) ≤ n) :
    (q * (2 * bs) + bs < n → (SegS c D (q * (2 * bs)) (q * (2 * bs) + bs) ∧ SegS c D (q * (2 * bs) + bs) n ∧ RunL D (q * (2 * bs)) (q * (2 * bs) + bs) n) ∧
      ∀ D', SegS c D' (q * (2 * bs)) n → PSeg D D' (q * (2 * bs)) n → Lv c D' n (2 * bs)) ∧ (n ≤ q * (2 * bs) + bs → Lv c D n (2 * bs)) := by
  refine ⟨fun hm => ?_, fun hm => ?_⟩
  · have b1 := h.sml (2 * q) (Nat.le_refl _) (by rw [two_mul_bs]; omega)
    have b2 := h.sml (2 * q + 1) (by omega) (by rw [two_one_bs]; omega)
    rw [two_mul_bs, two_one_bs, Nat.min_eq_left (by omega)] at b1
    rw [show 2 * q + 1 + 1 = 2 * q + 2 by omega, two_two_bs, two_one_bs, succ_bs, Nat.min_eq_right (by omega)] at b2
    refine ⟨⟨b1.so, b2.so, b1.runL b2⟩, fun D' hs hp p hpn => ?_⟩
    by_cases e : p = q
    · subst e
      rw [succ_bs, Nat.min_eq_right (by omega)]
      exact b1.merge b2 (by omega) (by omega) hs hp
    · have hlt : p < q := by
        have : p < q ∨ q + 1 ≤ p := by omega
        rcases this with h5 | h5
        · exact h5
        · have h6 := Nat.mul_le_mul_right (2 * bs) h5
          rw [succ_bs] at h6
          omega
      have h6 := Nat.mul_le_mul_right (2 * bs) (show p + 1 ≤ q by omega)
      rw [Nat.min_eq_left (by omega)]
      exact (h.big p hlt).of_eq fun i _ i2 => hp.out i (fun hh => by omega)
  · intro p hpn
    by_cases e : p = q
    · subst e
      have b1 := h.sml (2 * p) (Nat.le_refl _) (by rw [two_mul_bs]; exact hpn)
      rw [two_mul_bs, two_one_bs, Nat.min_eq_right (by omega)] at b1
      rw [succ_bs, Nat.min_eq_right (by omega)]
      exact b1
    · have hlt : p < q := by
        have : p < q ∨ q + 1 ≤ p := by omega
        rcases this with h5 | h5
        · exact h5
        · have h6 := Nat.mul_le_mul_right (2 * bs) h5
          rw [succ_bs] at h6
          omega
      have h6 := Nat.mul_le_mul_right (2 * bs) (show p + 1 ≤ q by omega)
      rw [Nat.min_eq_left (by omega)]
      exact h.big p hlt
/-- The first q blocks have been sorted; behind them nothing has been done. -/
structure Ins (c : Int → Int) (D : Nat → Int) (n bs q : Nat) : Prop where
  big : ∀ p, p < q → BlkOk c D (p * bs) ((p + 1) * bs)
  sml : ∀ k, q * bs ≤ k → k < n → D k = (k : Int)
theorem Ins.next {q : Nat} (h : Ins c D n bs q) (hb : q * bs + bs ≤ n) (hs : SegS c D' (q * bs) (q * bs + bs)) (hp : PSeg D D' (q * bs) (q * bs + bs)) : Ins c D' n bs (q + 1) := by
  refine ⟨fun p hpq => ?_, fun k k1 k2 => ?_⟩
  · by_cases e : p = q
    · subst e
      rw [Nat.succ_mul]
      exact BlkOk.sorted (fun k k1 k2 => h.sml k k1 (by omega)) hs hp
    · have h6 := Nat.mul_le_mul_right bs (show p + 1 ≤ q by omega)
      exact (h.big p (by omega)).of_eq fun i _ i2 => hp.out i (fun hh => by omega)
  · rw [Nat.succ_mul] at k1
    rw [hp.out k (by omega)]
    exact h.sml k (by omega) k2
theorem Ins.last {q : Nat} (h : Ins c D n bs q) (hb : n < q * bs + bs) (ha : q * bs ≤ n) (hs : SegS c D' (q * bs) n) (hp : PSeg D D' (q * bs) n) : Lv c D' n bs := fun p hpn => by
  by_cases e : p = q
  · subst e
    rw [Nat.succ_mul, Nat.min_eq_right (by omega)]
    exact BlkOk.sorted (fun k k1 k2 => h.sml k k1 k2) hs hp
  · have hlt : p < q := by
      have : p < q ∨ q + 1 ≤ p := by omega
      rcases this with h5 | h5
      · exact h5
      · have h6 := Nat.mul_le_mul_right bs h5
        rw [Nat.succ_mul] at h6
        omega
    have h6 := Nat.mul_le_mul_right bs (show p + 1 ≤ q by omega)
    rw [Nat.min_eq_left (by omega)]
    exact (h.big p hlt).of_eq fun i _ i2 => hp.out i (fun hh => by omega)
end
end Go.Proofs.Ytcihobmjohpnkaa
