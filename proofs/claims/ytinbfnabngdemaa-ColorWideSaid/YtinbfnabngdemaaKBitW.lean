/- Sets of small numbers as words of bits, in plain Lean. Nothing here names the program. -/
import Derived.Test.YtinbfnabngdemaaKOwn
import Derived.Laws.BitsAllLaws
import Derived.Deep.LoopGhost
namespace Go.Proofs.Ytinbfnabngdemaa

section
namespace Bit

/-- Is a number in words? -/
def has (ws : List Nat) (n : Nat) : Bool := (ws.getD (n / 64) 0).testBit (n % 64)
/-- Words of 64 bits. -/
def Ok (ws : List Nat) : Prop := ∀ x ∈ ws, x < 2 ^ 64
/-- The last word is not 0. -/
def Can (ws : List Nat) : Prop := Ok ws ∧ ∀ h : ws ≠ [], ws.getLast h ≠ 0
/-- Without noughts at the end. -/
def trim : List Nat → List Nat
  | [] => []
  | x :: r => if trim r = [] ∧ x = 0 then [] else x :: trim r
theorem trim_getD : ∀ (ws : List Nat) (k : Nat), (trim ws).getD k 0 = ws.getD k 0
  | [], _ => rfl
  | x :: r, k => by
    unfold trim
    by_cases h : trim r = [] ∧ x = 0
    · rw [if_pos h]
      cases k with
      | zero => simp [h.2]
      | succ k =>
        have := trim_getD r k
        rw [h.1] at this
        simpa [List.getD] using this
    · rw [if_neg h]
      cases k with
      | zero => rfl
      | succ k => simpa [List.getD] using trim_getD r k
theorem has_trim (ws : List Nat) (n : Nat) : has (trim ws) n = has ws n := by unfold has; rw [trim_getD]
theorem trim_mem : ∀ {ws : List Nat} {x : Nat}, x ∈ trim ws → x ∈ ws
  | [], _, h => h
  | y :: r, x, h => by
    unfold trim at h
    split at h
    · simp at h
    · rcases List.mem_cons.1 h with h | h
      · simp [h]
      · simp [trim_mem h]
theorem trim_last : ∀ (ws : List Nat) (h : trim ws ≠ []), (trim ws).getLast h ≠ 0
  | [], h => absurd rfl h
  | x :: r, h => by
    by_cases hc : trim r = [] ∧ x = 0
    · exfalso; apply h; unfold trim; rw [if_pos hc]
    · have e : trim (x :: r) = x :: trim r := by rw [trim, if_neg hc]
      simp only [e]
      by_cases hr : trim r = []
      · simp only [hr, List.getLast_singleton]
        exact fun hx => hc ⟨hr, hx⟩
      · rw [List.getLast_cons hr]; exact trim_last r hr
theorem trim_can {ws : List Nat} (h : Ok ws) : Can (trim ws) := ⟨fun x hx => h x (trim_mem hx), trim_last ws⟩
theorem trim_length (ws : List Nat) : (trim ws).length ≤ ws.length := by
  induction ws with
  | nil => simp [trim]
  | cons x r ih => unfold trim; split <;> simp; exact ih
/-- What a loop from the end finds. -/
theorem trim_take : ∀ {ws : List Nat} {n : Nat}, n ≤ ws.length → (∀ j (h : j < ws.length), n ≤ j → ws[j] = 0) → (∀ _ : 0 < n, ∀ h' : n - 1 < ws.length, ws[n - 1] ≠ 0) → trim ws = ws.take n
  | [], n, _, _, _ => by simp [trim]
  | x :: r, n, hn, h0, h1 => by
    cases n with
    | zero =>
      have : trim r = [] := by
        have := trim_take (ws := r) (n := 0) (by omega) (fun j hj _ => h0 (j + 1) (by simp; omega) (by omega)) (fun h => by omega)
        simpa using this
      have hx : x = 0 := h0 0 (by simp) (by omega)
      simp [trim, this, hx]
    | succ n =>
      have ih := trim_take (ws := r) (n := n) (by simpa using hn) (fun j hj hnj => h0 (j + 1) (by simp; omega) (by omega)) (fun hp hp' => by
        have := h1 (by omega) (by simp; omega)
        have e : n + 1 - 1 = n := by omega
        simp only [e] at this
        cases n with
        | zero => omega
        | succ n => simpa using this)
      unfold trim
      rw [ih]
      have hc : ¬ (r.take n = [] ∧ x = 0) := by
        rintro ⟨h2, h3⟩
        cases n with
        | zero => have := h1 (by omega) (by simp); simp [h3] at this
        | succ n =>
          have : r = [] := by simpa using h2
          subst this; simp at hn
      rw [if_neg hc]; rfl

theorem can_nil : Can [] := ⟨fun x h => by simp at h, fun h => absurd rfl h⟩
theorem trim_of_can {ws : List Nat} (h : Can ws) : trim ws = ws := by
  have := trim_take (ws := ws) (n := ws.length) (Nat.le_refl _) (fun j hj hn => by omega) (fun hp hp' => by
    have hne : ws ≠ [] := List.length_pos_iff.1 hp
    have := h.2 hne
    rwa [List.getLast_eq_getElem] at this)
  rw [this, List.take_length]
theorem word_ext {x y : Nat} (hx : x < 2 ^ 64) (hy : y < 2 ^ 64) (h : ∀ i, i < 64 → x.testBit i = y.testBit i) : x = y := by
  apply Nat.eq_of_testBit_eq
  intro i
  by_cases hi : i < 64
  · exact h i hi
  · have hp : 2 ^ 64 ≤ 2 ^ i := Nat.pow_le_pow_right (by omega) (by omega)
    rw [Nat.testBit_lt_two_pow (by omega), Nat.testBit_lt_two_pow (by omega)]
theorem getD_lt {ws : List Nat} (h : Ok ws) (k : Nat) : ws.getD k 0 < 2 ^ 64 := by
  by_cases hk : k < ws.length
  · have : ws.getD k 0 = ws[k] := by simp [List.getD, hk]
    rw [this]; exact h _ (List.getElem_mem hk)
  · have : ws.getD k 0 = 0 := by simp [List.getD, List.getElem?_eq_none (show ws.length ≤ k by omega)]
    rw [this]; exact Nat.two_pow_pos 64
/-- Words without noughts at the end that have the same numbers are the same. -/
theorem can_ext {a b : List Nat} (ha : Can a) (hb : Can b) (h : ∀ n, has a n = has b n) : a = b := by
  have hg : ∀ k, a.getD k 0 = b.getD k 0 := fun k => word_ext (getD_lt ha.1 k) (getD_lt hb.1 k) fun i hi => by
    have := h (64 * k + i)
    unfold has at this
    have e1 : (64 * k + i) / 64 = k := by omega
    have e2 : (64 * k + i) % 64 = i := by omega
    rwa [e1, e2] at this
  have key : ∀ {a b : List Nat}, Can a → (∀ k, a.getD k 0 = b.getD k 0) → a.length ≤ b.length := fun {a b} ha hg => by
    by_cases h0 : a = []
    · rw [h0]; simp
    · by_cases hl : a.length ≤ b.length
      · exact hl
      · exfalso
        have hp := List.length_pos_iff.2 h0
        have := ha.2 h0
        rw [List.getLast_eq_getElem] at this
        have h2 := hg (a.length - 1)
        have e1 : a.getD (a.length - 1) 0 = a[a.length - 1] := by simp [List.getD, show a.length - 1 < a.length by omega]
        have e2 : b.getD (a.length - 1) 0 = 0 := by simp [List.getD, List.getElem?_eq_none (show b.length ≤ a.length - 1 by omega)]
        rw [e1, e2] at h2
        exact this h2
  have hl : a.length = b.length := Nat.le_antisymm (key ha hg) (key hb fun k => (hg k).symm)
  refine List.ext_getElem hl fun k h1 h2 => ?_
  have := hg k
  simpa [List.getD, h1, h2] using this

/-- Two lists of words put together. -/
def zipS (f : Nat → Nat → Nat) (a b : List Nat) : List Nat := (List.range (max a.length b.length)).map fun i => f (a.getD i 0) (b.getD i 0)
theorem zipS_getD (f : Nat → Nat → Nat) (h0 : f 0 0 = 0) (a b : List Nat) (k : Nat) : (zipS f a b).getD k 0 = f (a.getD k 0) (b.getD k 0) := by
  unfold zipS
  by_cases hk : k < max a.length b.length
  · simp [List.getD, hk]
  · have e1 : a.getD k 0 = 0 := by simp [List.getD, List.getElem?_eq_none (show a.length ≤ k by omega)]
    have e2 : b.getD k 0 = 0 := by simp [List.getD, List.getElem?_eq_none (show b.length ≤ k by omega)]
    rw [e1, e2, h0]
    simp [List.getD, hk]
theorem zipS_ok {f : Nat → Nat → Nat} (hf : ∀ x y, x < 2 ^ 64 → y < 2 ^ 64 → f x y < 2 ^ 64) {a b : List Nat} (ha : Ok a) (hb : Ok b) : Ok (zipS f a b) := by
  intro x hx
  unfold zipS at hx
  obtain ⟨i, _, rfl⟩ := List.mem_map.1 hx
  exact hf _ _ (getD_lt ha i) (getD_lt hb i)
theorem zipS_length (f : Nat → Nat → Nat) (a b : List Nat) : (zipS f a b).length = max a.length b.length := by simp [zipS]
def orW (a b : List Nat) : List Nat := trim (zipS (fun x y => x ||| y) a b)
def andW (a b : List Nat) : List Nat := trim (zipS (fun x y => x &&& y) a b)
def subW (a b : List Nat) : List Nat := trim (zipS (fun x y => x &&& (18446744073709551615 - y)) a b)
theorem or_can {a b : List Nat} (ha : Ok a) (hb : Ok b) : Can (orW a b) := trim_can (zipS_ok (fun _ _ hx hy => Nat.or_lt_two_pow hx hy) ha hb)
theorem and_can {a b : List Nat} (ha : Ok a) (hb : Ok b) : Can (andW a b) := trim_can (zipS_ok (fun _ _ hx _ => Nat.lt_of_le_of_lt Nat.and_le_left hx) ha hb)
theorem sub_can {a b : List Nat} (ha : Ok a) (hb : Ok b) : Can (subW a b) := trim_can (zipS_ok (fun _ _ hx _ => Nat.lt_of_le_of_lt Nat.and_le_left hx) ha hb)
theorem has_or (a b : List Nat) (n : Nat) : has (orW a b) n = (has a n || has b n) := by
  unfold orW; rw [has_trim]; unfold has; rw [zipS_getD _ (by rfl), Nat.testBit_or]
theorem has_and (a b : List Nat) (n : Nat) : has (andW a b) n = (has a n && has b n) := by
  unfold andW; rw [has_trim]; unfold has; rw [zipS_getD _ (by rfl), Nat.testBit_and]
theorem has_sub {a b : List Nat} (hb : Ok b) (n : Nat) : has (subW a b) n = (has a n && !has b n) := by
  unfold subW; rw [has_trim]; unfold has; rw [zipS_getD _ (by rfl), Nat.testBit_and]
  have hlt := getD_lt hb (n / 64)
  have e : 18446744073709551615 - b.getD (n / 64) 0 = 2 ^ 64 - (b.getD (n / 64) 0 + 1) := by
    have : (2 : Nat) ^ 64 = 18446744073709551616 := by decide
    omega
  rw [e, Nat.testBit_two_pow_sub_succ hlt]
  have : decide (n % 64 < 64) = true := by simp; omega
  rw [this, Bool.true_and]

/-- A bit is set. -/
def setW (ws : List Nat) (n : Nat) : List Nat := (ws ++ List.replicate (n / 64 + 1 - ws.length) 0).modify (n / 64) (· ||| 2 ^ (n % 64))
theorem pad_getD (ws : List Nat) (k j : Nat) : (ws ++ List.replicate k 0).getD j 0 = ws.getD j 0 := by
  by_cases h : j < ws.length
  · simp [List.getD, List.getElem?_append_left h]
  · rw [List.getD_eq_getElem?_getD, List.getElem?_append_right (by omega), List.getD_eq_getElem?_getD, List.getElem?_eq_none (show ws.length ≤ j by omega)]
    rw [List.getElem?_replicate]
    split <;> rfl
theorem has_set (ws : List Nat) (n m : Nat) : has (setW ws n) m = (has ws m || decide (m = n)) := by
  unfold has setW
  by_cases h : m / 64 = n / 64
  · have hl : n / 64 < (ws ++ List.replicate (n / 64 + 1 - ws.length) 0).length := by simp; omega
    have e : ((ws ++ List.replicate (n / 64 + 1 - ws.length) 0).modify (n / 64) (· ||| 2 ^ (n % 64))).getD (m / 64) 0 = ws.getD (m / 64) 0 ||| 2 ^ (n % 64) := by
      rw [List.getD_eq_getElem?_getD, h, List.getElem?_modify, ← pad_getD ws (n / 64 + 1 - ws.length) (n / 64), List.getD_eq_getElem?_getD, List.getElem?_eq_getElem hl]
      simp
    rw [e, Nat.testBit_or, Nat.testBit_two_pow]
    congr 1
    rw [decide_eq_decide]
    omega
  · have e : ((ws ++ List.replicate (n / 64 + 1 - ws.length) 0).modify (n / 64) (· ||| 2 ^ (n % 64))).getD (m / 64) 0 = ws.getD (m / 64) 0 := by
      rw [← pad_getD ws (n / 64 + 1 - ws.length) (m / 64), List.getD_eq_getElem?_getD, List.getD_eq_getElem?_getD, List.getElem?_modify]
      have hn : ¬ n / 64 = m / 64 := fun e => h e.symm
      simp [hn]
    rw [e]
    have : decide (m = n) = false := by simp; rintro rfl; exact h rfl
    rw [this, Bool.or_false]
theorem set_ok {ws : List Nat} (h : Ok ws) (n : Nat) : Ok (setW ws n) := by
  intro x hx
  obtain ⟨j, hj, rfl⟩ := List.mem_iff_getElem.1 hx
  have hp : ∀ k, (ws ++ List.replicate (n / 64 + 1 - ws.length) 0).getD k 0 < 2 ^ 64 := fun k => by rw [pad_getD]; exact getD_lt h k
  unfold setW at hj ⊢
  have hj' : j < (ws ++ List.replicate (n / 64 + 1 - ws.length) 0).length := by simpa using hj
  rw [List.getElem_modify]
  have := hp j
  rw [List.getD_eq_getElem?_getD, List.getElem?_eq_getElem hj'] at this
  simp only [Option.getD_some] at this
  split
  · exact Nat.or_lt_two_pow this (Nat.pow_lt_pow_right (by omega) (Nat.mod_lt _ (by omega)))
  · exact this

/-- May a number be in a set? -/
def fits (n : Int) : Bool := decide (0 ≤ n) && decide (n ≤ 65535)
/-- The words of numbers, with noughts at the end. -/
def rawOf (xs : List Int) : List Nat := xs.foldl (fun ws n => if fits n then setW ws n.toNat else ws) []
def ofW (xs : List Int) : List Nat := trim (rawOf xs)
theorem rawOf_snoc (xs : List Int) (n : Int) : rawOf (xs ++ [n]) = if fits n then setW (rawOf xs) n.toNat else rawOf xs := by simp [rawOf, List.foldl_append]
theorem setW_length (ws : List Nat) (n : Nat) : (setW ws n).length = max ws.length (n / 64 + 1) := by unfold setW; simp; omega
theorem revind {α : Type} {P : List α → Prop} (h0 : P []) (hs : ∀ l a, P l → P (l ++ [a])) (l : List α) : P l := by
  have : ∀ r : List α, P r.reverse := by
    intro r
    induction r with
    | nil => exact h0
    | cons a r ih => rw [List.reverse_cons]; exact hs _ _ ih
  simpa using this l.reverse
theorem rawOf_ok (xs : List Int) : Ok (rawOf xs) ∧ (rawOf xs).length ≤ 1024 := by
  induction xs using revind with
  | h0 => exact ⟨fun x h => by simp [rawOf] at h, by simp [rawOf]⟩
  | hs xs n ih =>
    rw [rawOf_snoc]
    split
    · rename_i h
      unfold fits at h
      simp at h
      refine ⟨set_ok ih.1 _, ?_⟩
      rw [setW_length]; have := ih.2; omega
    · exact ih
theorem has_raw (xs : List Int) (m : Nat) : has (rawOf xs) m = true ↔ (m : Int) ∈ xs ∧ m ≤ 65535 := by
  induction xs using revind with
  | h0 => simp [rawOf, has]
  | hs xs n ih =>
    rw [rawOf_snoc]
    by_cases h : fits n = true
    · rw [if_pos h, has_set, Bool.or_eq_true, ih]
      unfold fits at h
      simp at h
      simp only [decide_eq_true_eq, List.mem_append, List.mem_singleton]
      constructor
      · rintro (⟨h1, h2⟩ | h1)
        · exact ⟨.inl h1, h2⟩
        · exact ⟨.inr (by omega), by omega⟩
      · rintro ⟨h1 | h1, h2⟩
        · exact .inl ⟨h1, h2⟩
        · exact .inr (by omega)
    · rw [if_neg h, ih]
      unfold fits at h
      simp at h
      simp only [List.mem_append, List.mem_singleton]
      constructor
      · rintro ⟨h1, h2⟩; exact ⟨.inl h1, h2⟩
      · rintro ⟨h1 | h1, h2⟩
        · exact ⟨h1, h2⟩
        · omega
theorem of_length (xs : List Int) : (ofW xs).length ≤ 2000 := Nat.le_trans (trim_length _) (Nat.le_trans (rawOf_ok xs).2 (by decide))
theorem of_can (xs : List Int) : Can (ofW xs) := trim_can (rawOf_ok xs).1
theorem has_of (xs : List Int) (m : Nat) : has (ofW xs) m = true ↔ (m : Int) ∈ xs ∧ m ≤ 65535 := by unfold ofW; rw [has_trim]; exact has_raw xs m

/-- The numbers, rising: of the words ahead of word k, and in word k those below bit j. -/
def upto (ws : List Nat) (n : Nat) : List Nat := (List.range n).filter fun m => has ws m
def listW (ws : List Nat) : List Nat := upto ws (64 * ws.length)
theorem upto_succ (ws : List Nat) (n : Nat) : upto ws (n + 1) = upto ws n ++ if has ws n then [n] else [] := by
  unfold upto; rw [List.range_succ, List.filter_append]; cases h : has ws n <;> simp [h]
theorem has_lt {ws : List Nat} {n : Nat} (h : has ws n = true) : n < 64 * ws.length := by
  unfold has at h
  by_cases hk : n / 64 < ws.length
  · omega
  · rw [List.getD_eq_getElem?_getD, List.getElem?_eq_none (by omega)] at h; simp at h
theorem mem_list {ws : List Nat} {n : Nat} : n ∈ listW ws ↔ has ws n = true := by
  unfold listW upto
  rw [List.mem_filter, List.mem_range]
  exact ⟨fun h => h.2, fun h => ⟨has_lt h, h⟩⟩
theorem list_rising (ws : List Nat) : (listW ws).Pairwise (· < ·) := by
  unfold listW upto
  exact List.Pairwise.filter _ List.pairwise_lt_range
end Bit
end

section
/- Words of bits in memory; 'trimmed', 'zip' and what it is called with. -/
open Go.RowKit

def CWord (w : World) (b o : Nat) (x : Nat) : Prop := w.cell? ⟨b, o, none⟩ = some (.int .u64 (x : Int))
def IsWords (p : Nat → Prop) (w : World) (v : Value) (ws : List Nat) : Prop := IsSl 1 CWord p w v ws
abbrev words (ws : List Nat) : List Value := ws.map fun (x : Nat) => Value.int .u64 (x : Int)
theorem IsWords.keep {p p' : Nat → Prop} {w w' : World} {v : Value} {ws : List Nat} (h : IsWords p w v ws) (hk : Keep p p' w w') : IsWords p' w' v ws :=
  IsSl.keep h (fun _ _ _ h => lt_of_cell h) hk fun _ _ _ hp _ hc => hk.cell hp hc
theorem words_of_owns {w : World} {v : Value} {p : Nat → Prop} {base : Nat} {e : TypeId} {ws : List Nat} (h : w.ownsRow base e 1 v ws.length (words ws)) (hs : ws.length ≤ 140737488351232)
    (hp : ∀ b, v.ownBlock = some b → base ≤ b → b < w.heap.size → p b) : IsWords p w v ws := by
  have hlt := h.lt
  obtain ⟨h1, h2⟩ := h
  rcases h2 with ⟨rfl, h0⟩ | ⟨g, cap, cur, rfl, hg, hh, hn, hm, hc, ht⟩
  · exact ⟨none, 0, by rw [h0], ⟨by omega, hs⟩, .inl (List.length_eq_zero_iff.1 h0)⟩
  · refine ⟨_, cap, rfl, ⟨hn, hs⟩, .inr ⟨g, 0, rfl, hp g rfl hg (hlt g rfl).2, fun j hj => ?_⟩⟩
    have := World.ownsRow.cellAt (w := w) (base := base) (e := e) (size := 1) (g := g) (n := ws.length) (cap := cap) (xs := words ws) ⟨h1, .inr ⟨g, cap, cur, rfl, hg, hh, hn, hm, hc, ht⟩⟩ j (by omega)
    unfold CWord
    rw [Nat.zero_add, Nat.mul_one, this]
    simp [hj]

set_option maxRecDepth 100000 in
theorem at_c {p : Nat → Prop} {v : Value} {ws : List Nat} (w : World) (i : Nat) (h : IsWords p w v ws) :
    Calls Try.prog 59 #[v, .int .i64 i] w fun e w' => e = .returned (.int .u64 ((ws.getD i 0 : Nat) : Int)) ∧ w' = w := by
  obtain ⟨a, cap, rfl, hl, hx⟩ := h
  by_cases hlt : i < ws.length
  · rcases hx with rfl | ⟨b, off, rfl, hpb, hx⟩
    · simp at hlt
    · have hc := hx i hlt
      simp only [CWord, Nat.mul_one] at hc
      have hg : ws.getD i 0 = ws[i] := by simp [List.getD, hlt]
      rw [hg]
      generalize ws[i] = x at hc
      clear hx hg
      go_enter Try.func59, Try.ntmps59
      go_wp2_with fail
      go_ret
      exact ⟨rfl, rfl⟩
  · have hg : ws.getD i 0 = 0 := by simp [List.getD, List.getElem?_eq_none (show ws.length ≤ i by omega)]
    rw [hg]
    clear hx hg
    go_enter Try.func59, Try.ntmps59
    go_wp2_with fail
    go_ret
    exact ⟨rfl, rfl⟩

theorem andB_c (w : World) (x y : Nat) (hx : x < 2 ^ 64) (hy : y < 2 ^ 64) :
    Calls Try.prog 58 #[.int .u64 x, .int .u64 y] w fun e w' => e = .returned (.int .u64 ((x &&& y : Nat) : Int)) ∧ w' = w := by
  have hb := u64_and_nat x y hx hy
  go_enter Try.func58, Try.ntmps58
  go_wp2_with fail
  go_ret
  exact ⟨rfl, rfl⟩
theorem subB_c (w : World) (x y : Nat) (hx : x < 2 ^ 64) (hy : y < 2 ^ 64) :
    Calls Try.prog 53 #[.int .u64 x, .int .u64 y] w fun e w' => e = .returned (.int .u64 ((x &&& (18446744073709551615 - y) : Nat) : Int)) ∧ w' = w := by
  have hb := u64_andNot_nat x y hx hy
  go_enter Try.func53, Try.ntmps53
  go_wp2_with fail
  go_ret
  exact ⟨rfl, rfl⟩

theorem words_take {p : Nat → Prop} {w : World} {a : Option Addr} {n cap : Nat} {ws : List Nat} (h : IsWords p w (.slice a n cap) ws) {k : Nat} (hk : k ≤ ws.length) : IsWords p w (.slice a k k) (ws.take k) := by
  obtain ⟨a', cap', hv, hl, hx⟩ := h
  simp only [Value.slice.injEq] at hv
  obtain ⟨rfl, rfl, rfl⟩ := hv
  have e : (ws.take k).length = k := by simp; omega
  refine ⟨a, k, by rw [e], ⟨by omega, by omega⟩, ?_⟩
  rcases hx with rfl | ⟨b, off, rfl, hpb, hx⟩
  · exact .inl (by simp)
  · exact .inr ⟨b, off, rfl, hpb, fun j hj => by simpa using hx j (by omega)⟩

set_option maxRecDepth 100000 in
theorem trimmed_c {p : Nat → Prop} {v : Value} {ws : List Nat} (w : World) (h : IsWords p w v ws) :
    Calls Try.prog 36 #[v] w fun e w' => ∃ u, e = .returned (.agg #[u]) ∧ IsWords p w' u (Bit.trim ws) ∧ Below w.heap.size w w' := by
  have h0 := h
  obtain ⟨a, cap, rfl, hl, hx⟩ := h
  go_enter Try.func36, Try.ntmps36
  go_wp2_with fail
  go_loop [3] (fun s3 => ∃ k : Nat, k ≤ ws.length ∧ s3 = .int .i64 k ∧ (∀ j (h : j < ws.length), k ≤ j → ws[j] = 0)) (fun s3 => (intOf s3).toNat)
  case atStart => exact ⟨ws.length, by omega, rfl, fun j h h' => by omega⟩
  case round =>
    obtain ⟨k, hk, rfl, hz⟩ := hrel
    have fin : (∀ _ : 0 < k, ∀ h' : k - 1 < ws.length, ws[k - 1] ≠ 0) → Bit.trim ws = ws.take k := fun h => Bit.trim_take hk hz h
    cases k with
    | zero =>
      have fin0 := fin (fun h => by omega)
      clear fin hz
      go_wp2_with fail
      refine bodyPost_ret (v := .agg #[.slice a (0) (0)]) (by simp [results, Try.results36, go_sem]) rfl ⟨_, rfl, ?_, ?_⟩
      · exact (words_take h0 hk).keep (Keep.below (bel_alloc (bel_refl w) _))
      · exact bel_alloc (bel_refl w) _
    | succ k =>
      rcases hx with rfl | ⟨b, off, rfl, hpb, hx⟩
      · simp at hk
      have hc := hx k hk
      simp only [CWord, Nat.mul_one] at hc
      have hbl : b < w.heap.size := lt_of_cell hc
      by_cases hx0 : ws[k] = 0
      · have hz' : ∀ j (h : j < ws.length), k ≤ j → ws[j] = 0 := fun j h hj => by
          by_cases e : j = k
          · subst e; exact hx0
          · exact hz j h (by omega)
        rw [hx0] at hc
        clear fin hz hx0 hx
        go_wp2_with fail
        go_round
        case rel => exact ⟨k, by omega, by go_num, hz'⟩
        case measure => simp [intOf]
      · have fin0 := fin (fun _ _ => hx0)
        clear fin hz hx
        go_wp2_with fail
        refine bodyPost_ret (v := .agg #[.slice (some ⟨b, off, none⟩) (k + 1) (k + 1)]) (by simp [results, Try.results36, go_sem]) rfl ⟨_, rfl, ?_, ?_⟩
        · exact (words_take h0 hk).keep (Keep.below (bel_alloc (bel_refl w) _))
        · exact bel_alloc (bel_refl w) _
end

section
/- 'zip'. -/
open Go.RowKit

theorem infoWord : (Try.prog.info? 67).map (fun i => (i.zero, i.size, i.bytes)) = some (some (.int .u64 0), 1, 8) := by kernel_rfl
/-- 'out = append(out, y)': words. -/
theorem app_word {ops : Array Oper} {rest : List Oper} {o : Oper} {a : Act} {Q : Exit → Act → World → Prop} {W : World}
    (hgd : o.guard = none) (s x : Operand) (hop : o.op = .call { callee := .builtin .append, args := #[s, x], argTypes := #[47, 47] })
    (base : Nat) (v : Value) (zs : List Nat) (hs : a.eval s = v) (hown : W.ownsRow base 67 1 v zs.length (words zs)) (g : Nat) (y : Nat) (hx : a.eval x = .slice (some ⟨g, 0, none⟩) 1 1)
    (hc : W.heap[g]? = some (.cells #[.int .u64 (y : Int)] 67 (0, 0))) (hn : zs.length + 1 ≤ 17592186044416) (hb : base ≤ W.heap.size)
    (h : ∀ v' w', w'.ownsRow base 67 1 v' (zs ++ [y]).length (words (zs ++ [y])) → W.grownBy w' v.ownBlock → (v'.ownBlock = v.ownBlock ∨ v'.ownBlock = some W.heap.size) → wpList Try.prog ops Q rest (a.put o.dst v') w') :
    wpList Try.prog ops Q (o :: rest) a W := by
  obtain ⟨i0, hi, hz0, hz1, hz2⟩ := info_parts infoWord
  refine wp_app _ hgd s x 47 hop base 67 i0 (.int .u64 0) 1 8 Try.underlying47 hi hz0 hz1 hz2 rfl (by decide) v zs.length (words zs) hs hown
    ⟨g, 0, none⟩ 1 1 [.int .u64 y] hx rfl ?_ ?_ ?_ ?_ hb ?_
  · intro j u hj
    match j, hj with
    | 0, hj => simp at hj; subst hj; simp [Addr.add, cell_of_one hc]
  · intro u hu; simp at hu; subst hu; rfl
  · unfold maxLen; omega
  · omega
  · intro v' w' ho hg hv
    refine h v' w' ?_ hg hv
    simpa [words] using ho

set_option maxRecDepth 100000 in
set_option maxHeartbeats 2000000 in
theorem zip_c {p : Nat → Prop} {u v : Value} {a b : List Nat} (w : World) (fid : FuncId) (f : Nat → Nat → Nat) (hfid : fid = 58 ∨ fid = 53) (hf : ∀ (W : World) (x y : Nat), x < 2 ^ 64 → y < 2 ^ 64 → Calls Try.prog fid #[.int .u64 (x : Int), .int .u64 (y : Int)] W fun e W' => e = .returned (.int .u64 ((f x y : Nat) : Int)) ∧ W' = W)
    (ha : IsWords p w u a) (hb : IsWords p w v b) (hoa : Bit.Ok a) (hob : Bit.Ok b) (hla : a.length ≤ 2000) (hlb : b.length ≤ 2000) :
    Calls Try.prog 52 #[u, v, .func (.func fid) #[] #[]] w fun e w' => ∃ z, e = .returned z ∧ w'.ownsRow w.heap.size 67 1 z (Bit.zipS f a b).length (words (Bit.zipS f a b)) ∧ Below w.heap.size w w' := by
  have ha0 := ha
  have hb0 := hb
  obtain ⟨aa, ac, rfl, hal, -⟩ := ha
  obtain ⟨ba, bc, rfl, hbl, -⟩ := hb
  go_enter Try.func52, Try.ntmps52
  go_wp2_with fail
  obtain ⟨M, HM⟩ : ∃ M, Hid (max a.length b.length = M) := ⟨_, (rfl : max a.length b.length = max a.length b.length)⟩
  have hmi : max (a.length : Int) (b.length : Int) = (M : Int) := by have := HM.out; omega
  have hM : M ≤ 2000 := by have := HM.out; omega
  rw [hmi]
  clear hmi
  obtain ⟨g, HG⟩ : ∃ g : Nat → Nat, Hid (g = fun i => f (a.getD i 0) (b.getD i 0)) := ⟨_, (rfl : (fun i => f (a.getD i 0) (b.getD i 0)) = _)⟩
  have HZ : Hid (Bit.zipS f a b = (List.range M).map g) := by show _ = _; rw [HG.out, ← HM.out]; rfl
  go_loopw [8, 15] (fun s8 s15 wr => ∃ k : Nat, k ≤ M ∧ s15 = .int .i64 k ∧ wr.ownsRow w.heap.size 67 1 s8 k (words ((List.range k).map g)) ∧ Below w.heap.size w wr) (fun _ s15 _ => M - (intOf s15).toNat)
  case atStart => exact ⟨0, by omega, rfl, ⟨by simp, .inl ⟨rfl, rfl⟩⟩, bel_refl _⟩
  case round =>
    obtain ⟨k, hk, rfl, ho, hb⟩ := hrel
    have hsz := hb.size
    by_cases hlt : k < M
    · have hgk : f (a.getD k 0) (b.getD k 0) = g k := by rw [HG.out]
      have HS : Hid ((List.range (k + 1)).map g = (List.range k).map g ++ [g k]) := by show _ = _; rw [List.range_succ, List.map_append]; rfl
      have hax := Bit.getD_lt hoa k
      have hbx := Bit.getD_lt hob k
      have hA := at_c wr k (ha0.keep (Keep.below hb))
      have hB := at_c wr k (hb0.keep (Keep.below hb))
      generalize a.getD k 0 = x at hgk hax hA
      generalize b.getD k 0 = y at hgk hbx hB
      have hf' := fun W => hf W x y hax hbx
      rw [hgk] at hf'
      clear hf hgk hax hbx hoa hob HG HZ HM ha0 hb0
      generalize hL : (List.range k).map g = L at ho HS
      have hLl : L.length = k := by rw [← hL]; simp
      have HL : Hid (L.length = k) := hLl
      have ho' : wr.ownsRow w.heap.size 67 1 u8 L.length (words L) := by rw [hLl]; exact ho
      have hL1 : L.length + 1 ≤ 17592186044416 := by omega
      clear hL hLl ho
      generalize g k = z at hf' HS
      rcases hfid with rfl | rfl
      all_goals
        go_wp2_with fail
        refine hA.mono ?_
        rintro e w2 ⟨rfl, rfl⟩
        go_wp2_with fail
        refine hB.mono ?_
        rintro e w3 ⟨rfl, rfl⟩
        go_wp2_with fail
        refine (hf' w3).mono ?_
        rintro e w4 ⟨rfl, rfl⟩
        go_wp2_with (at_builtin; refine stop_here ?_)
        refine stop_go (app_word rfl _ _ rfl w.heap.size _ L rfl (ho'.alloc _) _ z rfl (heap_alloc_eq _ _ _ rfl) hL1 (by simp; omega) ?_)
        intro v' w' hown' hg' hv'
        have hb' : Below w.heap.size w w' := bel_grown (bel_alloc hb _) hg' (fun k hk => (ho'.lt k hk).1)
        clear ho' hb hg' hv'
        go_wp2_with fail
        go_roundw
        case rel => exact ⟨k + 1, by omega, by go_num, by rw [HS.out]; simpa [HL.out] using hown', hb'⟩
        case measure => simp [intOf]; omega
    · have hke : k = M := by omega
      subst hke
      go_wp2_with fail
      go_ret
      refine ⟨_, rfl, ?_, hb⟩
      rw [HZ.out]
      simpa using ho
end

section
/- 'Has'. -/
open Go.RowKit

theorem word_bit {x j : Nat} (hx : x < 2 ^ 64) : (bits .and .u64 ((x : Int) / 2 ^ j) 1 != 0) = x.testBit j := by
  have e : (x : Int) / 2 ^ j = ((x / 2 ^ j : Nat) : Int) := by simp
  have hd : x / 2 ^ j ≤ x := Nat.div_le_self _ _
  have := u64_and_nat (x / 2 ^ j) 1 (by omega) (by omega)
  rw [e, show (1 : Int) = ((1 : Nat) : Int) from rfl, this, nat_mask1, Nat.testBit_eq_decide_div_mod_eq]
  by_cases h : x / 2 ^ j % 2 = 1
  · rw [h]; rfl
  · have h0 : x / 2 ^ j % 2 = 0 := by omega
    rw [h0]; rfl

/-- Is a whole number in words? -/
def hasI (ws : List Nat) (n : Int) : Bool := decide (0 ≤ n) && Bit.has ws n.toNat

set_option maxRecDepth 100000 in
theorem has_c {p : Nat → Prop} {v : Value} {ws : List Nat} (w : World) (n : Int) (h : IsWords p w v ws) (hok : Bit.Ok ws) (hn : n ≤ 9223372036854775807) :
    Calls Try.prog 26 #[.agg #[v], .int .i64 n] w fun e w' => e = .returned (.bool (hasI ws n)) ∧ Below w.heap.size w w' := by
  obtain ⟨a, cap, rfl, hl, hx⟩ := h
  by_cases h0 : 0 ≤ n
  · obtain ⟨k, hq⟩ : ∃ k : Nat, n / 64 = (k : Int) := ⟨(n / 64).toNat, by omega⟩
    obtain ⟨j, hr⟩ : ∃ j : Nat, n % 64 = (j : Int) := ⟨(n % 64).toNat, by omega⟩
    have hj : j < 64 := by omega
    have hH : hasI ws n = (ws.getD k 0).testBit j := by
      unfold hasI Bit.has
      have e1 : n.toNat / 64 = k := by omega
      have e2 : n.toNat % 64 = j := by omega
      rw [e1, e2]; simp [h0]
    rw [hH]
    clear hH
    by_cases hlt : k < ws.length
    · rcases hx with rfl | ⟨b, off, rfl, hpb, hx⟩
      · simp at hlt
      have hc := hx k hlt
      simp only [CWord, Nat.mul_one] at hc
      have hbl : b < w.heap.size := lt_of_cell hc
      have hg : ws.getD k 0 = ws[k] := by simp [List.getD, hlt]
      have hx64 := Bit.getD_lt hok k
      rw [hg] at hx64
      rw [hg]
      generalize ws[k] = x at hc hx64
      clear hx hg
      go_enter Try.func26, Try.ntmps26
      go_wp2_with fail
      rw [word_bit hx64]
      go_ret
      exact ⟨rfl, bel_alloc (bel_refl w) _⟩
    · have hg : ws.getD k 0 = 0 := by simp [List.getD, List.getElem?_eq_none (show ws.length ≤ k by omega)]
      rw [hg]
      clear hx hg
      simp only [Nat.zero_testBit]
      have hd : ws.length ≤ k := by omega
      clear hlt
      go_enter Try.func26, Try.ntmps26
      go_wp2_with fail
      go_ret
      exact ⟨rfl, bel_alloc (bel_refl w) _⟩
  · have hH : hasI ws n = false := by unfold hasI; simp [h0]
    rw [hH]
    have hd : decide (0 ≤ n) = false := by simpa using h0
    clear hx h0
    go_enter Try.func26, Try.ntmps26
    go_wp2_with fail
    go_ret
    exact ⟨rfl, bel_alloc (bel_refl w) _⟩
end
end Go.Proofs.Ytinbfnabngdemaa
