/- Loops within loops, and what a register costs that is used in each of them: in plain Lean. -/
import Derived.Test.YtcihobmjohpnkaaLoopsQ
import Derived.Test.YtcihobmjohpnkaaCost
namespace Go.Proofs.Ytcihobmjohpnkaa

/-- Blocks that go on as loops within loops do. -/
def NestSucc (n : Nat) (L : List (List InsD)) : Prop := L.length = 2 * n + 2 ∧ ∀ (a : Nat) (y : Int), y ∈ succS L a ↔ (a ≤ 2 * n ∧ y = (a : Int) + 1) ∨ (n < a ∧ a ≤ 2 * n ∧ y = 2 * (n : Int) + 1 - (a : Int))
theorem nst_way {L : List (List InsD)} {n b : Nat} (hN : NestSucc n L) (h : b ≤ 2 * n + 1) (c : Nat) (a : Int) (hc : c ≤ b) (ha : a ≤ c ∨ (b : Int) < a) : Way (succX L a) c b := by
  induction b with
  | zero => obtain rfl : c = 0 := by omega
            exact .here _
  | succ b ih =>
    by_cases e : c = b + 1
    · subst e; exact .here _
    · exact way_on (ih (by omega) (by omega) (by omega)) ((hN.2 _ _).2 (.inl ⟨by omega, by omega⟩)) (by omega)
theorem nst_reach {L : List (List InsD)} {n b : Nat} (hN : NestSucc n L) (h : b ≤ 2 * n + 1) : Way (succS L) 0 b := way_in _ _ (nst_way hN h 0 (-1) (by omega) (.inl (by omega)))
theorem nst_order {L : List (List InsD)} {n b : Nat} (hN : NestSucc n L) (h : b ≤ 2 * n + 1) : (b : Int) ∈ orderS L := order_way (by rw [hN.1]; omega) (nst_reach hN h)
theorem nst_over {L : List (List InsD)} {n : Nat} (hN : NestSucc n L) (a b : Nat) (hb : b ≤ 2 * n + 1) : overS L a b = decide (a ≤ b) := by
  have hn : 0 < L.length := by rw [hN.1]; omega
  rw [Bool.eq_iff_iff, over_iff _ hn (nst_reach hN hb), decide_eq_true_eq]
  constructor
  · intro h
    apply Classical.byContradiction
    intro hab
    rcases h with h | h | h
    · omega
    · omega
    · exact h (nst_way hN hb 0 a (by omega) (by omega))
  · intro h
    by_cases e : a = b
    · exact .inl (by omega)
    by_cases e0 : a = 0
    · exact .inr (.inl (by omega))
    refine .inr (.inr fun hw => ?_)
    have key : ∀ z, Way (succX L a) 0 z → 0 ≤ z ∧ z < a := fun z hz => by
      induction hz with
      | here => omega
      | @on y z _ hz ih =>
        obtain ⟨z1, z2⟩ := succX_mem.1 hz
        obtain ⟨yN, rfl⟩ : ∃ yN : Nat, y = yN := ⟨y.toNat, by omega⟩
        have := (hN.2 _ z).1 z1
        omega
    have := key b hw
    omega
theorem nst_tail {L : List (List InsD)} {n h : Nat} (hN : NestSucc n L) (p : Int) : tailB L h p = true ↔ 1 ≤ h ∧ h ≤ n ∧ p = 2 * (n : Int) + 1 - h := by
  constructor
  · intro ht
    obtain ⟨h1, h2⟩ := tail_mem ht
    have hp := order_range (over_mem h2).2
    rw [hN.1] at hp
    obtain ⟨pN, rfl⟩ : ∃ pN : Nat, p = pN := ⟨p.toNat, by omega⟩
    rw [nst_over hN h pN (by omega), decide_eq_true_eq] at h2
    have := (hN.2 _ _).1 h1
    omega
  · rintro ⟨h1, h2, rfl⟩
    have e : 2 * (n : Int) + 1 - h = ((2 * n + 1 - h : Nat) : Int) := by omega
    rw [e]
    unfold tailB
    rw [nst_over hN h _ (by omega), Bool.and_eq_true, decide_eq_true_eq, decide_eq_true_eq]
    exact ⟨(hN.2 _ _).2 (.inr ⟨by omega, by omega, by omega⟩), by omega⟩
theorem nst_head {L : List (List InsD)} {n : Nat} (hN : NestSucc n L) (h : Nat) : headB L h = decide (1 ≤ h ∧ h ≤ n) := by
  rw [Bool.eq_iff_iff, headB_iff, decide_eq_true_eq]
  exact ⟨fun ⟨p, hp⟩ => ⟨((nst_tail hN p).1 hp).1, ((nst_tail hN p).1 hp).2.1⟩, fun hh => ⟨_, (nst_tail hN _).2 ⟨hh.1, hh.2, rfl⟩⟩⟩
theorem nst_body {L : List (List InsD)} {n h b : Nat} (hN : NestSucc n L) (hb : b ≤ 2 * n + 1) (hh : 1 ≤ h ∧ h ≤ n) : bodyB L h b = decide (h ≤ b ∧ b ≤ 2 * n + 1 - h) := by
  rw [Bool.eq_iff_iff, bodyB_iff (by rw [hN.1]; omega), nst_head hN, decide_eq_true_eq, decide_eq_true_eq]
  constructor
  · rintro ⟨-, e | ⟨p, hp, hne, hw⟩⟩
    · omega
    · obtain ⟨-, -, rfl⟩ := (nst_tail hN p).1 hp
      apply Classical.byContradiction
      intro hn
      have key : ∀ z, Way (succX L h) b z → 0 ≤ z ∧ (z < h ∨ 2 * (n : Int) + 1 - h < z) := fun z hz => by
        induction hz with
        | here => omega
        | @on y z _ hz ih =>
          obtain ⟨z1, z2⟩ := succX_mem.1 hz
          obtain ⟨yN, rfl⟩ : ∃ yN : Nat, y = yN := ⟨y.toNat, by omega⟩
          have := (hN.2 _ z).1 z1
          omega
      have := key _ hw
      omega
  · intro hbb
    refine ⟨hh, ?_⟩
    by_cases e : b = h
    · exact .inl (by omega)
    · refine .inr ⟨_, (nst_tail hN _).2 ⟨hh.1, hh.2, rfl⟩, by omega, ?_⟩
      have e2 : 2 * (n : Int) + 1 - h = ((2 * n + 1 - h : Nat) : Int) := by omega
      rw [e2]
      exact nst_way hN (by omega) b h (by omega) (.inl (by omega))
theorem nst_depth {L : List (List InsD)} {n j : Nat} (hN : NestSucc n L) (hj : j ≤ 2 * n + 1) : depthK L (headsS L).length j = min j (2 * n + 1 - j) := by
  unfold depthK
  rw [if_pos (nst_order hN hj), List.take_length]
  unfold headsS headsP
  rw [List.filter_filter, List.filter_map, List.length_map, hN.1]
  have e : ((List.range (2 * n + 2)).filter ((fun h => bodyB L h j && headB L h) ∘ fun (i : Nat) => (i : Int))) = (List.range (2 * n + 2)).filter fun h => decide (1 ≤ h ∧ h ≤ min j (2 * n + 1 - j)) := by
    refine List.filter_congr fun h hh => ?_
    have := List.mem_range.1 hh
    show (bodyB L h j && headB L h) = _
    rw [nst_head hN]
    by_cases hn : 1 ≤ h ∧ h ≤ n
    · rw [nst_body hN hj hn, Bool.eq_iff_iff, Bool.and_eq_true, decide_eq_true_eq, decide_eq_true_eq, decide_eq_true_eq]
      omega
    · rw [Bool.eq_iff_iff, Bool.and_eq_true, decide_eq_true_eq, decide_eq_true_eq]
      constructor
      · intro hh; exact absurd hh.2 hn
      · intro hh; exfalso; omega
  rw [e, range_count]
  omega

def deepI (i : Nat) : List InsD := [⟨4, -1, (i : Int) + 1, 0, 0, ⟨#[]⟩, [], 0, 0⟩, ⟨8, 0, 0, 0, 0, ⟨#[]⟩, [], (i : Int) + 1 + 1, 0⟩]
def deepT (n i : Nat) : List InsD := [⟨7, 0, 0, 0, 0, ⟨#[]⟩, [], (n : Int) - (i : Int), (n : Int) + (i : Int) + 2⟩]
def deepU (k : Nat) : List (List InsD) := [⟨8, 0, 0, 0, 0, ⟨#[]⟩, [], 1, 0⟩] :: (List.range k).map deepI
def deepD (n k : Nat) : List (List InsD) := deepU n ++ (List.range k).map (deepT n)
def deepL (n : Nat) : List (List InsD) := deepD n n ++ [[⟨9, 0, 0, 0, 0, ⟨#[]⟩, [], 0, 0⟩]]
theorem deepU_succ (k : Nat) : deepU k ++ [deepI k] = deepU (k + 1) := by simp [deepU, List.range_succ]
theorem deepD_zero (n : Nat) : deepD n 0 = deepU n := by simp [deepD]
theorem deepD_succ (n k : Nat) : deepD n k ++ [deepT n k] = deepD n (k + 1) := by simp [deepD, List.range_succ]
theorem deepU_length (k : Nat) : (deepU k).length = k + 1 := by simp [deepU]
theorem deepD_length (n k : Nat) : (deepD n k).length = n + 1 + k := by simp [deepD, deepU_length]
theorem deepL_length (n : Nat) : (deepL n).length = 2 * n + 2 := by simp [deepL, deepD_length]; omega
/-- The last instruction of block a. -/
def deepZ (n a : Nat) : InsD := if a ≤ n then ⟨8, 0, 0, 0, 0, ⟨#[]⟩, [], (a : Int) + 1, 0⟩ else if a ≤ 2 * n then ⟨7, 0, 0, 0, 0, ⟨#[]⟩, [], 2 * (n : Int) + 1 - (a : Int), (a : Int) + 1⟩ else ⟨9, 0, 0, 0, 0, ⟨#[]⟩, [], 0, 0⟩
theorem deepU_get {k a : Nat} (h : a ≤ k) : (((deepU k)[a]?).getD []).getLast? = some ⟨8, 0, 0, 0, 0, ⟨#[]⟩, [], (a : Int) + 1, 0⟩ := by
  unfold deepU
  cases a with
  | zero => rfl
  | succ a =>
    have : a < k := by omega
    simp [this, deepI]
theorem deepL_get {n a : Nat} (h : a ≤ 2 * n + 1) : ((deepL n).getD a []).getLast? = some (deepZ n a) := by
  unfold deepL deepZ
  rw [List.getD_eq_getElem?_getD]
  by_cases h1 : a ≤ n
  · rw [if_pos h1, List.getElem?_append_left (by rw [deepD_length]; omega)]
    unfold deepD
    rw [List.getElem?_append_left (by rw [deepU_length]; omega)]
    exact deepU_get h1
  · rw [if_neg h1]
    by_cases h2 : a ≤ 2 * n
    · rw [if_pos h2, List.getElem?_append_left (by rw [deepD_length]; omega)]
      unfold deepD
      rw [List.getElem?_append_right (by rw [deepU_length]; omega), deepU_length]
      have e : a - (n + 1) < n := by omega
      simp [deepT, e]
      omega
    · obtain rfl : a = 2 * n + 1 := by omega
      rw [if_neg h2, List.getElem?_append_right (by rw [deepD_length]; omega), deepD_length]
      have e : 2 * n + 1 - (n + 1 + n) = 0 := by omega
      rw [e]; rfl
theorem deep_nest (n : Nat) : NestSucc n (deepL n) := by
  refine ⟨deepL_length n, fun a y => ?_⟩
  unfold succS succN
  rw [if_pos (by omega), Int.toNat_natCast, deepL_length]
  by_cases h : a ≤ 2 * n + 1
  · rw [deepL_get h]
    dsimp only
    unfold deepZ rawS
    by_cases h1 : a ≤ n
    · rw [if_pos h1]; simp [inR]; omega
    · rw [if_neg h1]
      by_cases h2 : a ≤ 2 * n
      · rw [if_pos h2]
        have : ¬ (2 * (n : Int) + 1 - (a : Int) = (a : Int) + 1) := by omega
        simp [inR, this]; omega
      · rw [if_neg h2]; simp; omega
  · have : (deepL n).getD a [] = [] := by rw [List.getD_eq_getElem?_getD, List.getElem?_eq_none (by rw [deepL_length]; omega)]; rfl
    rw [this]
    simp; omega
theorem deep_wt {n j : Nat} (hj : j ≤ 2 * n + 1) : wtB (deepL n) j = 10 ^ min 6 (min j (2 * n + 1 - j)) := by
  unfold wtB wtS
  rw [nst_depth (deep_nest n) hj]
  simp
def costF (n : Nat) : List Int := (List.range (2 * n + 2)).foldl (fun O b => costB (10 ^ min 6 (min b (2 * n + 1 - b))) O ((deepL n).getD b [])) (List.replicate (n + 1) 0)
theorem fold_range {α : Type} (f g : α → Nat → α) (k : Nat) (h : ∀ O b, b < k → f O b = g O b) (O : α) : (List.range k).foldl f O = (List.range k).foldl g O := by
  induction k with
  | zero => rfl
  | succ k ih => rw [List.range_succ, List.foldl_append, List.foldl_append, ih fun O b hb => h O b (by omega)]; exact h _ _ (by omega)
theorem deep_cost (n : Nat) : costS (n + 1) (deepL n) = costF n := by
  unfold costS costK costF
  rw [deepL_length]
  exact fold_range _ _ _ (fun O b hb => by rw [deep_wt (by omega)]) _
/-- What the law counts. -/
def deepW : Nat → Nat
  | 0 => 1
  | k + 1 => if k + 1 ≤ 6 then deepW k * 10 else deepW k
def deepSum : Nat → Nat
  | 0 => 1
  | k + 1 => deepSum k + deepW (k + 1)
theorem deep_all : ∀ n : Nat, n < 13 → costF n = ((deepSum n : Nat) : Int) :: (List.range n).map fun i => ((deepW (i + 1) : Nat) : Int) := by decide +kernel
theorem deepW_le (k : Nat) : deepW k ≤ 1000000 := by
  have h : ∀ k, k ≤ 6 → deepW k = 10 ^ k := fun k => by
    induction k with
    | zero => intro _; rfl
    | succ k ih => intro hk; unfold deepW; rw [if_pos hk, ih (by omega), Nat.pow_succ]
  have h2 : ∀ j, deepW (6 + j) = 10 ^ 6 := fun j => by
    induction j with
    | zero => exact h 6 (by omega)
    | succ j ih => show deepW (6 + j + 1) = _; unfold deepW; rw [if_neg (by omega)]; exact ih
  by_cases hk : k ≤ 6
  · rw [h k hk]; exact Nat.le_trans (Nat.pow_le_pow_right (by decide) hk) (by decide)
  · have := h2 (k - 6)
    rw [show 6 + (k - 6) = k by omega] at this
    rw [this]; decide
theorem deepSum_le (k : Nat) : deepSum k ≤ 1 + k * 1000000 := by
  induction k with
  | zero => decide
  | succ k ih => unfold deepSum; have := deepW_le (k + 1); omega
theorem deep_small (n : Nat) : ∀ l ∈ deepL n, l.length ≤ 2 ∧ ∀ i ∈ l, i.args = [] := by
  intro l hl
  simp only [deepL, deepD, deepU, List.mem_append, List.mem_cons, List.mem_map, List.not_mem_nil, or_false] at hl
  rcases hl with ((rfl | ⟨i, -, rfl⟩) | ⟨i, -, rfl⟩) | rfl
  · simp
  · simp [deepI]
  · simp [deepT]
  · simp
end Go.Proofs.Ytcihobmjohpnkaa
