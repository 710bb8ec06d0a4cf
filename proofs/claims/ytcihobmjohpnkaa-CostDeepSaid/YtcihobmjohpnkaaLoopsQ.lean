/- Loops within loops, in plain Lean. -/
import Derived.Test.YtcihobmjohpnkaaLoops16
namespace Go.Proofs.Ytcihobmjohpnkaa

/-- The rows of heads: block i goes on to the next one. -/
def upR (k : Nat) : List (List Int) := (List.range k).map fun (i : Nat) => [(i : Int) + 1]
theorem upR_succ (k : Nat) : upR k ++ [[(k : Int) + 1]] = upR (k + 1) := by simp [upR, List.range_succ]
theorem upR_length (k : Nat) : (upR k).length = k := by simp [upR]
/-- The rows that go back, from the innermost head out. -/
def backR (n k : Nat) : List (List Int) := (List.range k).map fun (i : Nat) => [(n : Int) - (i : Int), (n : Int) + (i : Int) + 2]
theorem backR_succ (n k : Nat) : backR n k ++ [[(n : Int) - (k : Int), (n : Int) + (k : Int) + 2]] = backR n (k + 1) := by simp [backR, List.range_succ]
theorem backR_length (n k : Nat) : (backR n k).length = k := by simp [backR]
def nestR (n : Nat) : List (List Int) := upR (n + 1) ++ backR n n ++ [[]]
theorem nestR_length (n : Nat) : (nestR n).length = 2 * n + 2 := by simp [nestR, upR_length, backR_length]; omega
abbrev nestL (n : Nat) : List (List InsD) := flowS (nestR n)
theorem nestL_length (n : Nat) : (nestL n).length = 2 * n + 2 := by rw [flow_len, nestR_length]
def nestRow (n a : Nat) : List Int := if a ≤ n then [(a : Int) + 1] else if a ≤ 2 * n then [2 * (n : Int) + 1 - (a : Int), (a : Int) + 1] else []
theorem nestR_get (n a : Nat) : (nestR n).getD a [] = nestRow n a := by
  unfold nestR nestRow
  rw [List.getD_eq_getElem?_getD]
  by_cases h1 : a ≤ n
  · rw [if_pos h1, List.append_assoc, List.getElem?_append_left (by rw [upR_length]; omega)]
    simp [upR, show a < n + 1 by omega]
  · rw [if_neg h1]
    by_cases h2 : a ≤ 2 * n
    · rw [if_pos h2, List.getElem?_append_left (by rw [List.length_append, upR_length, backR_length]; omega), List.getElem?_append_right (by rw [upR_length]; omega), upR_length]
      have e : a - (n + 1) < n := by omega
      simp [backR, e]
      omega
    · rw [if_neg h2, List.getElem?_append_right (by rw [List.length_append, upR_length, backR_length]; omega), List.length_append, upR_length, backR_length]
      by_cases h3 : a = 2 * n + 1
      · have e : a - (n + 1 + n) = 0 := by omega
        rw [e]; rfl
      · have e : ([[]] : List (List Int))[a - (n + 1 + n)]? = none := by rw [List.getElem?_eq_none]; simp; omega
        rw [e]; rfl
theorem nest_succ {n a : Nat} (y : Int) : y ∈ succS (nestL n) a ↔ (a ≤ 2 * n ∧ y = (a : Int) + 1) ∨ (n < a ∧ a ≤ 2 * n ∧ y = 2 * (n : Int) + 1 - (a : Int)) := by
  rw [flow_succ, nestR_length, nestR_get]
  unfold nestRow
  by_cases h1 : a ≤ n
  · rw [if_pos h1]; simp; omega
  · rw [if_neg h1]
    by_cases h2 : a ≤ 2 * n
    · rw [if_pos h2]; simp; omega
    · rw [if_neg h2]; simp; omega
theorem nest_way {n b : Nat} (h : b ≤ 2 * n + 1) (c : Nat) (a : Int) (hc : c ≤ b) (ha : a ≤ c ∨ (b : Int) < a) : Way (succX (nestL n) a) c b := by
  induction b with
  | zero => obtain rfl : c = 0 := by omega
            exact .here _
  | succ b ih =>
    by_cases e : c = b + 1
    · subst e; exact .here _
    · exact way_on (ih (by omega) (by omega) (by omega)) ((nest_succ _).2 (.inl ⟨by omega, by omega⟩)) (by omega)
theorem nest_reach {n b : Nat} (h : b ≤ 2 * n + 1) : Way (succS (nestL n)) 0 b := way_in _ _ (nest_way h 0 (-1) (by omega) (.inl (by omega)))
theorem nest_order {n b : Nat} (h : b ≤ 2 * n + 1) : (b : Int) ∈ orderS (nestL n) := order_way (by rw [nestL_length]; omega) (nest_reach h)
theorem nest_over {n : Nat} (a b : Nat) (hb : b ≤ 2 * n + 1) : overS (nestL n) a b = decide (a ≤ b) := by
  have hn : 0 < (nestL n).length := by rw [nestL_length]; omega
  rw [Bool.eq_iff_iff, over_iff _ hn (nest_reach hb), decide_eq_true_eq]
  constructor
  · intro h
    apply Classical.byContradiction
    intro hab
    rcases h with h | h | h
    · omega
    · omega
    · exact h (nest_way hb 0 a (by omega) (by omega))
  · intro h
    by_cases e : a = b
    · exact .inl (by omega)
    by_cases e0 : a = 0
    · exact .inr (.inl (by omega))
    refine .inr (.inr fun hw => ?_)
    have key : ∀ z, Way (succX (nestL n) a) 0 z → 0 ≤ z ∧ z < a := fun z hz => by
      induction hz with
      | here => omega
      | @on y z _ hz ih =>
        obtain ⟨z1, z2⟩ := succX_mem.1 hz
        obtain ⟨yN, rfl⟩ : ∃ yN : Nat, y = yN := ⟨y.toNat, by omega⟩
        have := (nest_succ z).1 z1
        omega
    have := key b hw
    omega
theorem nest_tail {n h : Nat} (p : Int) : tailB (nestL n) h p = true ↔ 1 ≤ h ∧ h ≤ n ∧ p = 2 * (n : Int) + 1 - h := by
  constructor
  · intro ht
    obtain ⟨h1, h2⟩ := tail_mem ht
    have hp := order_range (over_mem h2).2
    rw [nestL_length] at hp
    obtain ⟨pN, rfl⟩ : ∃ pN : Nat, p = pN := ⟨p.toNat, by omega⟩
    rw [nest_over h pN (by omega), decide_eq_true_eq] at h2
    have := (nest_succ _).1 h1
    omega
  · rintro ⟨h1, h2, rfl⟩
    have e : 2 * (n : Int) + 1 - h = ((2 * n + 1 - h : Nat) : Int) := by omega
    rw [e]
    unfold tailB
    rw [nest_over h _ (by omega), Bool.and_eq_true, decide_eq_true_eq, decide_eq_true_eq]
    exact ⟨(nest_succ _).2 (.inr ⟨by omega, by omega, by omega⟩), by omega⟩
theorem nest_head (n h : Nat) : headB (nestL n) h = decide (1 ≤ h ∧ h ≤ n) := by
  rw [Bool.eq_iff_iff, headB_iff, decide_eq_true_eq]
  exact ⟨fun ⟨p, hp⟩ => ⟨((nest_tail p).1 hp).1, ((nest_tail p).1 hp).2.1⟩, fun hh => ⟨_, (nest_tail _).2 ⟨hh.1, hh.2, rfl⟩⟩⟩
theorem nest_body {n h b : Nat} (hb : b ≤ 2 * n + 1) (hh : 1 ≤ h ∧ h ≤ n) : bodyB (nestL n) h b = decide (h ≤ b ∧ b ≤ 2 * n + 1 - h) := by
  rw [Bool.eq_iff_iff, bodyB_iff (by rw [nestL_length]; omega), nest_head, decide_eq_true_eq, decide_eq_true_eq]
  constructor
  · rintro ⟨-, e | ⟨p, hp, hne, hw⟩⟩
    · omega
    · obtain ⟨-, -, rfl⟩ := (nest_tail p).1 hp
      apply Classical.byContradiction
      intro hn
      have key : ∀ z, Way (succX (nestL n) h) b z → 0 ≤ z ∧ (z < h ∨ 2 * (n : Int) + 1 - h < z) := fun z hz => by
        induction hz with
        | here => omega
        | @on y z _ hz ih =>
          obtain ⟨z1, z2⟩ := succX_mem.1 hz
          obtain ⟨yN, rfl⟩ : ∃ yN : Nat, y = yN := ⟨y.toNat, by omega⟩
          have := (nest_succ z).1 z1
          omega
      have := key _ hw
      omega
  · intro hbb
    refine ⟨hh, ?_⟩
    by_cases e : b = h
    · exact .inl (by omega)
    · refine .inr ⟨_, (nest_tail _).2 ⟨hh.1, hh.2, rfl⟩, by omega, ?_⟩
      have e2 : 2 * (n : Int) + 1 - h = ((2 * n + 1 - h : Nat) : Int) := by omega
      rw [e2]
      exact nest_way (by omega) b h (by omega) (.inl (by omega))
theorem range_count (m N : Nat) : ((List.range N).filter fun h => decide (1 ≤ h ∧ h ≤ m)).length = min m (N - 1) := by
  induction N with
  | zero => simp
  | succ N ih =>
    rw [List.range_succ, List.filter_append, List.length_append, ih]
    by_cases h : 1 ≤ N ∧ N ≤ m
    · simp [h]; omega
    · simp [h]; omega
theorem nest_depth {n j : Nat} (hj : j ≤ 2 * n + 1) : depthK (nestL n) (headsS (nestL n)).length j = min j (2 * n + 1 - j) := by
  unfold depthK
  rw [if_pos (nest_order hj), List.take_length]
  unfold headsS headsP
  rw [List.filter_filter, List.filter_map, List.length_map, nestL_length]
  have e : ((List.range (2 * n + 2)).filter ((fun h => bodyB (nestL n) h j && headB (nestL n) h) ∘ fun (i : Nat) => (i : Int))) = (List.range (2 * n + 2)).filter fun h => decide (1 ≤ h ∧ h ≤ min j (2 * n + 1 - j)) := by
    refine List.filter_congr fun h hh => ?_
    have := List.mem_range.1 hh
    show (bodyB (nestL n) h j && headB (nestL n) h) = _
    rw [nest_head]
    by_cases hn : 1 ≤ h ∧ h ≤ n
    · rw [nest_body hj hn, Bool.eq_iff_iff, Bool.and_eq_true, decide_eq_true_eq, decide_eq_true_eq, decide_eq_true_eq]
      omega
    · rw [Bool.eq_iff_iff, Bool.and_eq_true, decide_eq_true_eq, decide_eq_true_eq]
      constructor
      · intro hh; exact absurd hh.2 hn
      · intro hh; exfalso; omega
  rw [e, range_count]
  omega
end Go.Proofs.Ytcihobmjohpnkaa
