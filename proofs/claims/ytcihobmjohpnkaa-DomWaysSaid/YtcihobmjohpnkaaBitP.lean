/- Sets of small numbers as words of bits, in plain Lean. Nothing here names the program. -/
namespace Go.Proofs.Ytcihobmjohpnkaa.Bit

/-- Is a number in words? -/
def has (ws : List Nat) (n : Nat) : Bool := (ws.getD (n / 64) 0).testBit (n % 64)
/-- Words of 64 bits. -/
def Ok (ws : List Nat) : Prop := ∀ x ∈ ws, x < 2 ^ 64
/-- The last word is not 0. -/
def Can (ws : List Nat) : Prop := Ok ws ∧ ∀ h : ws ≠ [], ws.getLast h ≠ 0
/-- Without noughts at the end. -/
def trim : List Nat → List Nat
  | [] => []
  | x :: r => if trim r = [] ∧ x = 0 then [] else x :: trim r
theorem trim_getD : ∀ (ws : List Nat) (k : Nat), (trim ws).getD k 0 = ws.getD k 0
  | [], _ => rfl
  | x :: r, k => by
    unfold trim
    by_cases h : trim r = [] ∧ x = 0
    · rw [if_pos h]
      cases k with
      | zero => simp [h.2]
      | succ k =>
        have := trim_getD r k
        rw [h.1] at this
        simpa [List.getD] using this
    · rw [if_neg h]
      cases k with
      | zero => rfl
      | succ k => simpa [List.getD] using trim_getD r k
theorem has_trim (ws : List Nat) (n : Nat) : has (trim ws) n = has ws n := by unfold has; rw [trim_getD]
theorem trim_mem : ∀ {ws : List Nat} {x : Nat}, x ∈ trim ws → x ∈ ws
  | [], _, h => h
  | y :: r, x, h => by
    unfold trim at h
    split at h
    · simp at h
    · rcases List.mem_cons.1 h with h | h
      · simp [h]
      · simp [trim_mem h]
theorem trim_last : ∀ (ws : List Nat) (h : trim ws ≠ []), (trim ws).getLast h ≠ 0
  | [], h => absurd rfl h
  | x :: r, h => by
    by_cases hc : trim r = [] ∧ x = 0
    · exfalso; apply h; unfold trim; rw [if_pos hc]
    · have e : trim (x :: r) = x :: trim r := by rw [trim, if_neg hc]
      simp only [e]
      by_cases hr : trim r = []
      · simp only [hr, List.getLast_singleton]
        exact fun hx => hc ⟨hr, hx⟩
      · rw [List.getLast_cons hr]; exact trim_last r hr
theorem trim_can {ws : List Nat} (h : Ok ws) : Can (trim ws) := ⟨fun x hx => h x (trim_mem hx), trim_last ws⟩
theorem trim_length (ws : List Nat) : (trim ws).length ≤ ws.length := by
  induction ws with
  | nil => simp [trim]
  | cons x r ih => unfold trim; split <;> simp; exact ih
/-- What a loop from the end finds. -/
theorem trim_take : ∀ {ws : List Nat} {n : Nat}, n ≤ ws.length → (∀ j (h : j < ws.length), n ≤ j → ws[j] = 0) → (∀ _ : 0 < n, ∀ h' : n - 1 < ws.length, ws[n - 1] ≠ 0) → trim ws = ws.take n
  | [], n, _, _, _ => by simp [trim]
  | x :: r, n, hn, h0, h1 => by
    cases n with
    | zero =>
      have : trim r = [] := by
        have := trim_take (ws := r) (n := 0) (by omega) (fun j hj _ => h0 (j + 1) (by simp; omega) (by omega)) (fun h => by omega)
        simpa using this
      have hx : x = 0 := h0 0 (by simp) (by omega)
      simp [trim, this, hx]
    | succ n =>
      have ih := trim_take (ws := r) (n := n) (by simpa using hn) (fun j hj hnj => h0 (j + 1) (by simp; omega) (by omega)) (fun hp hp' => by
        have := h1 (by omega) (by simp; omega)
        have e : n + 1 - 1 = n := by omega
        simp only [e] at this
        cases n with
        | zero => omega
        | succ n => simpa using this)
      unfold trim
      rw [ih]
      have hc : ¬ (r.take n = [] ∧ x = 0) := by
        rintro ⟨h2, h3⟩
        cases n with
        | zero => have := h1 (by omega) (by simp); simp [h3] at this
        | succ n =>
          have : r = [] := by simpa using h2
          subst this; simp at hn
      rw [if_neg hc]; rfl

theorem can_nil : Can [] := ⟨fun x h => by simp at h, fun h => absurd rfl h⟩
theorem trim_of_can {ws : List Nat} (h : Can ws) : trim ws = ws := by
  have := trim_take (ws := ws) (n := ws.length) (Nat.le_refl _) (fun j hj hn => by omega) (fun hp hp' => by
    have hne : ws ≠ [] := List.length_pos_iff.1 hp
    have := h.2 hne
    rwa [List.getLast_eq_getElem] at this)
  rw [this, List.take_length]
theorem word_ext {x y : Nat} (hx : x < 2 ^ 64) (hy : y < 2 ^ 64) (h : ∀ i, i < 64 → x.testBit i = y.testBit i) : x = y := by
  apply Nat.eq_of_testBit_eq
  intro i
  by_cases hi : i < 64
  · exact h i hi
  · have hp : 2 ^ 64 ≤ 2 ^ i := Nat.pow_le_pow_right (by omega) (by omega)
    rw [Nat.testBit_lt_two_pow (by omega), Nat.testBit_lt_two_pow (by omega)]
theorem getD_lt {ws : List Nat} (h : Ok ws) (k : Nat) : ws.getD k 0 < 2 ^ 64 := by
  by_cases hk : k < ws.length
  · have : ws.getD k 0 = ws[k] := by simp [List.getD, hk]
    rw [this]; exact h _ (List.getElem_mem hk)
  · have : ws.getD k 0 = 0 := by simp [List.getD, List.getElem?_eq_none (show ws.length ≤ k by omega)]
    rw [this]; exact Nat.two_pow_pos 64
/-- Words without noughts at the end that have the same numbers are the same. -/
theorem can_ext {a b : List Nat} (ha : Can a) (hb : Can b) (h : ∀ n, has a n = has b n) : a = b := by
  have hg : ∀ k, a.getD k 0 = b.getD k 0 := fun k => word_ext (getD_lt ha.1 k) (getD_lt hb.1 k) fun i hi => by
    have := h (64 * k + i)
    unfold has at this
    have e1 : (64 * k + i) / 64 = k := by omega
    have e2 : (64 * k + i) % 64 = i := by omega
    rwa [e1, e2] at this
  have key : ∀ {a b : List Nat}, Can a → (∀ k, a.getD k 0 = b.getD k 0) → a.length ≤ b.length := fun {a b} ha hg => by
    by_cases h0 : a = []
    · rw [h0]; simp
    · by_cases hl : a.length ≤ b.length
      · exact hl
      · exfalso
        have hp := List.length_pos_iff.2 h0
        have := ha.2 h0
        rw [List.getLast_eq_getElem] at this
        have h2 := hg (a.length - 1)
        have e1 : a.getD (a.length - 1) 0 = a[a.length - 1] := by simp [List.getD, show a.length - 1 < a.length by omega]
        have e2 : b.getD (a.length - 1) 0 = 0 := by simp [List.getD, List.getElem?_eq_none (show b.length ≤ a.length - 1 by omega)]
        rw [e1, e2] at h2
        exact this h2
  have hl : a.length = b.length := Nat.le_antisymm (key ha hg) (key hb fun k => (hg k).symm)
  refine List.ext_getElem hl fun k h1 h2 => ?_
  have := hg k
  simpa [List.getD, h1, h2] using this

/-- Two lists of words put together. -/
def zipS (f : Nat → Nat → Nat) (a b : List Nat) : List Nat := (List.range (max a.length b.length)).map fun i => f (a.getD i 0) (b.getD i 0)
theorem zipS_getD (f : Nat → Nat → Nat) (h0 : f 0 0 = 0) (a b : List Nat) (k : Nat) : (zipS f a b).getD k 0 = f (a.getD k 0) (b.getD k 0) := by
  unfold zipS
  by_cases hk : k < max a.length b.length
  · simp [List.getD, hk]
  · have e1 : a.getD k 0 = 0 := by simp [List.getD, List.getElem?_eq_none (show a.length ≤ k by omega)]
    have e2 : b.getD k 0 = 0 := by simp [List.getD, List.getElem?_eq_none (show b.length ≤ k by omega)]
    rw [e1, e2, h0]
    simp [List.getD, hk]
theorem zipS_ok {f : Nat → Nat → Nat} (hf : ∀ x y, x < 2 ^ 64 → y < 2 ^ 64 → f x y < 2 ^ 64) {a b : List Nat} (ha : Ok a) (hb : Ok b) : Ok (zipS f a b) := by
  intro x hx
  unfold zipS at hx
  obtain ⟨i, _, rfl⟩ := List.mem_map.1 hx
  exact hf _ _ (getD_lt ha i) (getD_lt hb i)
theorem zipS_length (f : Nat → Nat → Nat) (a b : List Nat) : (zipS f a b).length = max a.length b.length := by simp [zipS]
def orW (a b : List Nat) : List Nat := trim (zipS (fun x y => x ||| y) a b)
def andW (a b : List Nat) : List Nat := trim (zipS (fun x y => x &&& y) a b)
def subW (a b : List Nat) : List Nat := trim (zipS (fun x y => x &&& (18446744073709551615 - y)) a b)
theorem or_can {a b : List Nat} (ha : Ok a) (hb : Ok b) : Can (orW a b) := trim_can (zipS_ok (fun _ _ hx hy => Nat.or_lt_two_pow hx hy) ha hb)
theorem and_can {a b : List Nat} (ha : Ok a) (hb : Ok b) : Can (andW a b) := trim_can (zipS_ok (fun _ _ hx _ => Nat.lt_of_le_of_lt Nat.and_le_left hx) ha hb)
theorem sub_can {a b : List Nat} (ha : Ok a) (hb : Ok b) : Can (subW a b) := trim_can (zipS_ok (fun _ _ hx _ => Nat.lt_of_le_of_lt Nat.and_le_left hx) ha hb)
theorem has_or (a b : List Nat) (n : Nat) : has (orW a b) n = (has a n || has b n) := by
  unfold orW; rw [has_trim]; unfold has; rw [zipS_getD _ (by rfl), Nat.testBit_or]
theorem has_and (a b : List Nat) (n : Nat) : has (andW a b) n = (has a n && has b n) := by
  unfold andW; rw [has_trim]; unfold has; rw [zipS_getD _ (by rfl), Nat.testBit_and]
theorem has_sub {a b : List Nat} (hb : Ok b) (n : Nat) : has (subW a b) n = (has a n && !has b n) := by
  unfold subW; rw [has_trim]; unfold has; rw [zipS_getD _ (by rfl), Nat.testBit_and]
  have hlt := getD_lt hb (n / 64)
  have e : 18446744073709551615 - b.getD (n / 64) 0 = 2 ^ 64 - (b.getD (n / 64) 0 + 1) := by
    have : (2 : Nat) ^ 64 = 18446744073709551616 := by decide
    omega
  rw [e, Nat.testBit_two_pow_sub_succ hlt]
  have : decide (n % 64 < 64) = true := by simp; omega
  rw [this, Bool.true_and]

/-- A bit is set. -/
def setW (ws : List Nat) (n : Nat) : List Nat := (ws ++ List.replicate (n / 64 + 1 - ws.length) 0).modify (n / 64) (· ||| 2 ^ (n % 64))
theorem pad_getD (ws : List Nat) (k j : Nat) : (ws ++ List.replicate k 0).getD j 0 = ws.getD j 0 := by
  by_cases h : j < ws.length
  · simp [List.getD, List.getElem?_append_left h]
  · rw [List.getD_eq_getElem?_getD, List.getElem?_append_right (by omega), List.getD_eq_getElem?_getD, List.getElem?_eq_none (show ws.length ≤ j by omega)]
    rw [List.getElem?_replicate]
    split <;> rfl
theorem has_set (ws : List Nat) (n m : Nat) : has (setW ws n) m = (has ws m || decide (m = n)) := by
  unfold has setW
  by_cases h : m / 64 = n / 64
  · have hl : n / 64 < (ws ++ List.replicate (n / 64 + 1 - ws.length) 0).length := by simp; omega
    have e : ((ws ++ List.replicate (n / 64 + 1 - ws.length) 0).modify (n / 64) (· ||| 2 ^ (n % 64))).getD (m / 64) 0 = ws.getD (m / 64) 0 ||| 2 ^ (n % 64) := by
      rw [List.getD_eq_getElem?_getD, h, List.getElem?_modify, ← pad_getD ws (n / 64 + 1 - ws.length) (n / 64), List.getD_eq_getElem?_getD, List.getElem?_eq_getElem hl]
      simp
    rw [e, Nat.testBit_or, Nat.testBit_two_pow]
    congr 1
    rw [decide_eq_decide]
    omega
  · have e : ((ws ++ List.replicate (n / 64 + 1 - ws.length) 0).modify (n / 64) (· ||| 2 ^ (n % 64))).getD (m / 64) 0 = ws.getD (m / 64) 0 := by
      rw [← pad_getD ws (n / 64 + 1 - ws.length) (m / 64), List.getD_eq_getElem?_getD, List.getD_eq_getElem?_getD, List.getElem?_modify]
      have hn : ¬ n / 64 = m / 64 := fun e => h e.symm
      simp [hn]
    rw [e]
    have : decide (m = n) = false := by simp; rintro rfl; exact h rfl
    rw [this, Bool.or_false]
theorem set_ok {ws : List Nat} (h : Ok ws) (n : Nat) : Ok (setW ws n) := by
  intro x hx
  obtain ⟨j, hj, rfl⟩ := List.mem_iff_getElem.1 hx
  have hp : ∀ k, (ws ++ List.replicate (n / 64 + 1 - ws.length) 0).getD k 0 < 2 ^ 64 := fun k => by rw [pad_getD]; exact getD_lt h k
  unfold setW at hj ⊢
  have hj' : j < (ws ++ List.replicate (n / 64 + 1 - ws.length) 0).length := by simpa using hj
  rw [List.getElem_modify]
  have := hp j
  rw [List.getD_eq_getElem?_getD, List.getElem?_eq_getElem hj'] at this
  simp only [Option.getD_some] at this
  split
  · exact Nat.or_lt_two_pow this (Nat.pow_lt_pow_right (by omega) (Nat.mod_lt _ (by omega)))
  · exact this

/-- May a number be in a set? -/
def fits (n : Int) : Bool := decide (0 ≤ n) && decide (n ≤ 65535)
/-- The words of numbers, with noughts at the end. -/
def rawOf (xs : List Int) : List Nat := xs.foldl (fun ws n => if fits n then setW ws n.toNat else ws) []
def ofW (xs : List Int) : List Nat := trim (rawOf xs)
theorem rawOf_snoc (xs : List Int) (n : Int) : rawOf (xs ++ [n]) = if fits n then setW (rawOf xs) n.toNat else rawOf xs := by simp [rawOf, List.foldl_append]
theorem setW_length (ws : List Nat) (n : Nat) : (setW ws n).length = max ws.length (n / 64 + 1) := by unfold setW; simp; omega
theorem revind {α : Type} {P : List α → Prop} (h0 : P []) (hs : ∀ l a, P l → P (l ++ [a])) (l : List α) : P l := by
  have : ∀ r : List α, P r.reverse := by
    intro r
    induction r with
    | nil => exact h0
    | cons a r ih => rw [List.reverse_cons]; exact hs _ _ ih
  simpa using this l.reverse
theorem rawOf_ok (xs : List Int) : Ok (rawOf xs) ∧ (rawOf xs).length ≤ 1024 := by
  induction xs using revind with
  | h0 => exact ⟨fun x h => by simp [rawOf] at h, by simp [rawOf]⟩
  | hs xs n ih =>
    rw [rawOf_snoc]
    split
    · rename_i h
      unfold fits at h
      simp at h
      refine ⟨set_ok ih.1 _, ?_⟩
      rw [setW_length]; have := ih.2; omega
    · exact ih
theorem has_raw (xs : List Int) (m : Nat) : has (rawOf xs) m = true ↔ (m : Int) ∈ xs ∧ m ≤ 65535 := by
  induction xs using revind with
  | h0 => simp [rawOf, has]
  | hs xs n ih =>
    rw [rawOf_snoc]
    by_cases h : fits n = true
    · rw [if_pos h, has_set, Bool.or_eq_true, ih]
      unfold fits at h
      simp at h
      simp only [decide_eq_true_eq, List.mem_append, List.mem_singleton]
      constructor
      · rintro (⟨h1, h2⟩ | h1)
        · exact ⟨.inl h1, h2⟩
        · exact ⟨.inr (by omega), by omega⟩
      · rintro ⟨h1 | h1, h2⟩
        · exact .inl ⟨h1, h2⟩
        · exact .inr (by omega)
    · rw [if_neg h, ih]
      unfold fits at h
      simp at h
      simp only [List.mem_append, List.mem_singleton]
      constructor
      · rintro ⟨h1, h2⟩; exact ⟨.inl h1, h2⟩
      · rintro ⟨h1 | h1, h2⟩
        · exact ⟨h1, h2⟩
        · omega
theorem of_length (xs : List Int) : (ofW xs).length ≤ 2000 := Nat.le_trans (trim_length _) (Nat.le_trans (rawOf_ok xs).2 (by decide))
theorem of_can (xs : List Int) : Can (ofW xs) := trim_can (rawOf_ok xs).1
theorem has_of (xs : List Int) (m : Nat) : has (ofW xs) m = true ↔ (m : Int) ∈ xs ∧ m ≤ 65535 := by unfold ofW; rw [has_trim]; exact has_raw xs m

/-- The numbers, rising: of the words ahead of word k, and in word k those below bit j. -/
def upto (ws : List Nat) (n : Nat) : List Nat := (List.range n).filter fun m => has ws m
def listW (ws : List Nat) : List Nat := upto ws (64 * ws.length)
theorem upto_succ (ws : List Nat) (n : Nat) : upto ws (n + 1) = upto ws n ++ if has ws n then [n] else [] := by
  unfold upto; rw [List.range_succ, List.filter_append]; cases h : has ws n <;> simp [h]
theorem has_lt {ws : List Nat} {n : Nat} (h : has ws n = true) : n < 64 * ws.length := by
  unfold has at h
  by_cases hk : n / 64 < ws.length
  · omega
  · rw [List.getD_eq_getElem?_getD, List.getElem?_eq_none (by omega)] at h; simp at h
theorem mem_list {ws : List Nat} {n : Nat} : n ∈ listW ws ↔ has ws n = true := by
  unfold listW upto
  rw [List.mem_filter, List.mem_range]
  exact ⟨fun h => h.2, fun h => ⟨has_lt h, h⟩⟩
theorem list_rising (ws : List Nat) : (listW ws).Pairwise (· < ·) := by
  unfold listW upto
  exact List.Pairwise.filter _ List.pairwise_lt_range
end Go.Proofs.Ytcihobmjohpnkaa.Bit
