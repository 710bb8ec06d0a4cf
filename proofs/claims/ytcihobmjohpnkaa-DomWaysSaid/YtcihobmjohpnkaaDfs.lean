/- The order in which blocks are told, in plain Lean: by recursion, and by a stack. -/
import Derived.Test.YtcihobmjohpnkaaSpec
namespace Go.Proofs.Ytcihobmjohpnkaa

section
variable (s : Int → List Int)

/-- Going down from a block: which blocks have been seen; those that are left, in that order. -/
def dfs : Nat → Int → List Bool × List Int → List Bool × List Int
  | 0, _, st => st
  | f + 1, b, st =>
    let r := (s b).foldl (fun st x => if st.1.getD x.toNat true then st else dfs f x st) (st.1.set b.toNat true, st.2)
    (r.1, r.2 ++ [b])
def dfsL (f : Nat) (xs : List Int) (st : List Bool × List Int) : List Bool × List Int :=
  xs.foldl (fun st x => if st.1.getD x.toNat true then st else dfs s f x st) st
theorem dfs_succ (f : Nat) (b : Int) (st : List Bool × List Int) : dfs s (f + 1) b st = ((dfsL s f (s b) (st.1.set b.toNat true, st.2)).1, (dfsL s f (s b) (st.1.set b.toNat true, st.2)).2 ++ [b]) := rfl
theorem dfsL_nil (f : Nat) (st : List Bool × List Int) : dfsL s f [] st = st := rfl
theorem dfsL_cons (f : Nat) (x : Int) (xs : List Int) (st : List Bool × List Int) : dfsL s f (x :: xs) st = dfsL s f xs (if st.1.getD x.toNat true then st else dfs s f x st) := rfl
theorem dfsL_snoc (f : Nat) (x : Int) (xs : List Int) (st : List Bool × List Int) : dfsL s f (xs ++ [x]) st = if (dfsL s f xs st).1.getD x.toNat true then dfsL s f xs st else dfs s f x (dfsL s f xs st) := by
  simp [dfsL, List.foldl_append]

theorem count_set {seen : List Bool} {k : Nat} (h : seen.getD k true = false) : (seen.set k true).count true = seen.count true + 1 ∧ (seen.set k true).count false + 1 = seen.count false := by
  have hk : k < seen.length := by
    apply Classical.byContradiction
    intro hk
    rw [List.getD_eq_getElem?_getD, List.getElem?_eq_none (by omega)] at h
    simp at h
  have hv : seen[k] = false := by rw [List.getD_eq_getElem?_getD, List.getElem?_eq_getElem hk] at h; exact h
  have e : seen = seen.take k ++ false :: seen.drop (k + 1) := by
    rw [← hv]; simp
  have e2 : seen.set k true = seen.take k ++ true :: seen.drop (k + 1) := by
    rw [List.set_eq_take_append_cons_drop, if_pos hk]
  rw [e2]
  constructor
  · conv => rhs; rw [e]
    simp; omega
  · conv => rhs; rw [e]
    simp; omega

theorem count_true_false (l : List Bool) : l.count true + l.count false = l.length := by
  induction l with
  | nil => rfl
  | cons b l ih => cases b <;> simp <;> omega

/-- What going down keeps: the length; what is seen stays so; each block that is newly seen is told. -/
structure Goes (a r : List Bool × List Int) : Prop where
  len : r.1.length = a.1.length
  cnt : r.2.length + a.1.count true = a.2.length + r.1.count true
  le : a.1.count true ≤ r.1.count true
theorem Goes.refl (a : List Bool × List Int) : Goes a a := ⟨rfl, rfl, Nat.le_refl _⟩
theorem Goes.trans {a b c : List Bool × List Int} (h : Goes a b) (k : Goes b c) : Goes a c := ⟨k.len.trans h.len, by have := h.cnt; have := k.cnt; omega, Nat.le_trans h.le k.le⟩

theorem goes_dfs (f : Nat) : (∀ b st, st.1.getD b.toNat true = false → st.1.count false ≤ f → Goes st (dfs s f b st)) ∧ (∀ xs st, st.1.count false ≤ f → Goes st (dfsL s f xs st)) := by
  induction f with
  | zero =>
    have h1 : ∀ b st, st.1.getD b.toNat true = false → st.1.count false ≤ 0 → Goes st (dfs s 0 b st) := by
      intro b st h hc
      have := (count_set h).2
      omega
    refine ⟨h1, fun xs => ?_⟩
    induction xs with
    | nil => intro st _; exact Goes.refl _
    | cons x xs ih =>
      intro st hc
      rw [dfsL_cons]
      split
      · exact ih _ hc
      · rename_i h
        have h' : st.1.getD x.toNat true = false := by simpa using h
        have hg := h1 x st h' hc
        refine hg.trans (ih _ ?_)
        have := count_true_false st.1; have := count_true_false (dfs s 0 x st).1; have := hg.len; have := hg.le
        omega
  | succ f ihf =>
    have h1 : ∀ b st, st.1.getD b.toNat true = false → st.1.count false ≤ f + 1 → Goes st (dfs s (f + 1) b st) := by
      intro b st h hc
      rw [dfs_succ]
      obtain ⟨c1, c2⟩ := count_set h
      have hg := ihf.2 (s b) (st.1.set b.toNat true, st.2) (by show (st.1.set b.toNat true).count false ≤ f; omega)
      have l1 := hg.len; have l2 := hg.cnt; have l3 := hg.le
      dsimp only at l1 l2 l3
      refine ⟨by rw [l1]; simp, ?_, by show _ ≤ (dfsL s f (s b) (st.1.set b.toNat true, st.2)).1.count true; omega⟩
      simp only [List.length_append, List.length_cons, List.length_nil]
      omega
    refine ⟨h1, fun xs => ?_⟩
    induction xs with
    | nil => intro st _; exact Goes.refl _
    | cons x xs ih =>
      intro st hc
      rw [dfsL_cons]
      split
      · exact ih _ hc
      · rename_i h
        have h' : st.1.getD x.toNat true = false := by simpa using h
        have hg := h1 x st h' hc
        refine hg.trans (ih _ ?_)
        have := count_true_false st.1; have := count_true_false (dfs s (f + 1) x st).1; have := hg.len; have := hg.le
        omega

/-- The same by a stack: from what is seen, the stack (a block, and where it still goes on) and what has been told so far to what is told in the end, in so many steps. -/
inductive ItRuns : Nat → List Bool → List (Int × List Int) → List Int → List Int → Prop
  | done (seen : List Bool) (out : List Int) : ItRuns 0 seen [] out out
  | pop {k : Nat} {seen : List Bool} {b : Int} {st : List (Int × List Int)} {out fin : List Int} : ItRuns k seen st (out ++ [b]) fin → ItRuns (k + 1) seen ((b, []) :: st) out fin
  | skip {k : Nat} {seen : List Bool} {b x : Int} {r : List Int} {st : List (Int × List Int)} {out fin : List Int} : seen.getD x.toNat true = true → ItRuns k seen ((b, r) :: st) out fin → ItRuns (k + 1) seen ((b, x :: r) :: st) out fin
  | push {k : Nat} {seen : List Bool} {b x : Int} {r : List Int} {st : List (Int × List Int)} {out fin : List Int} : seen.getD x.toNat true = false → ItRuns k (seen.set x.toNat true) ((x, s x) :: (b, r) :: st) out fin → ItRuns (k + 1) seen ((b, x :: r) :: st) out fin

theorem it_of_dfs (f : Nat) : ∀ (xs : List Int) (seen : List Bool) (out : List Int) (b : Int) (st : List (Int × List Int)) (fin : List Int) (k : Nat), seen.count false ≤ f →
    ItRuns s k (dfsL s f xs (seen, out)).1 st ((dfsL s f xs (seen, out)).2 ++ [b]) fin → ∃ k', ItRuns s k' seen ((b, xs) :: st) out fin := by
  induction f with
  | zero =>
    intro xs
    induction xs with
    | nil => intro seen out b st fin k hc h; exact ⟨_, .pop h⟩
    | cons x xs ih =>
      intro seen out b st fin k hc h
      by_cases hs : seen.getD x.toNat true = true
      · rw [dfsL_cons, if_pos (by simpa using hs)] at h
        obtain ⟨k', h'⟩ := ih seen out b st fin k hc h
        exact ⟨_, .skip hs h'⟩
      · have := (count_set (seen := seen) (k := x.toNat) (by simpa using hs)).2
        omega
  | succ f ihf =>
    intro xs
    induction xs with
    | nil => intro seen out b st fin k hc h; exact ⟨_, .pop h⟩
    | cons x xs ih =>
      intro seen out b st fin k hc h
      by_cases hs : seen.getD x.toNat true = true
      · rw [dfsL_cons, if_pos (by simpa using hs)] at h
        obtain ⟨k', h'⟩ := ih seen out b st fin k hc h
        exact ⟨_, .skip hs h'⟩
      · have hs' : seen.getD x.toNat true = false := by simpa using hs
        have hc2 := (count_set hs').2
        rw [dfsL_cons, if_neg (by simpa using hs)] at h
        have hg := (goes_dfs s (f + 1)).1 x (seen, out) hs' hc
        have hcc : (dfs s (f + 1) x (seen, out)).1.count false ≤ f + 1 := by
          have := count_true_false seen; have := count_true_false (dfs s (f + 1) x (seen, out)).1; have := hg.len; have := hg.le
          dsimp only at *
          omega
        obtain ⟨k', h'⟩ := ih (dfs s (f + 1) x (seen, out)).1 (dfs s (f + 1) x (seen, out)).2 b st fin k hcc h
        rw [dfs_succ] at h'
        obtain ⟨k2, h2⟩ := ihf (s x) (seen.set x.toNat true) out x ((b, xs) :: st) fin k' (by omega) h'
        exact ⟨_, .push hs' h2⟩
end

/-- The blocks that are reached, in their order. -/
def orderS (l : List (List InsD)) : List Int := if l.length = 0 then [] else (dfs (succS l) l.length 0 (List.replicate l.length false, [])).2.reverse

theorem succS_range (l : List (List InsD)) (b : Int) : ∀ x ∈ succS l b, 0 ≤ x ∧ x < l.length := by
  intro x hx
  unfold succS at hx
  split at hx
  · unfold succN at hx
    split at hx
    · simp at hx
    · have := (List.mem_filter.1 hx).2
      unfold inR at this
      simpa using this
  · simp at hx

theorem it_order (l : List (List InsD)) (h : 0 < l.length) : ∃ k, ItRuns (succS l) k ((List.replicate l.length false).set 0 true) [(0, succS l 0)] [] (orderS l).reverse := by
  obtain ⟨n, hn⟩ : ∃ n, l.length = n + 1 := ⟨l.length - 1, by omega⟩
  have hs : (List.replicate l.length false).getD (0 : Int).toNat true = false := by simp [List.getD, h]
  have hc := (count_set hs).2
  simp only [List.count_replicate_self] at hc
  refine it_of_dfs (succS l) n (succS l 0) _ [] 0 [] _ 0 (by
    have : (0 : Int).toNat = 0 := rfl
    rw [this] at hc
    omega) ?_
  have e : (orderS l).reverse = (dfsL (succS l) n (succS l 0) ((List.replicate l.length false).set 0 true, [])).2 ++ [0] := by
    unfold orderS
    rw [if_neg (by omega), List.reverse_reverse, hn, dfs_succ]
    rfl
  rw [e]
  exact .done _ _
theorem succS_length (l : List (List InsD)) (b : Int) : (succS l b).length ≤ 2 := by
  unfold succS
  split
  · unfold succN
    split
    · simp
    · refine Nat.le_trans (List.length_filter_le _ _) ?_
      unfold rawS
      split
      · split <;> simp
      · split <;> simp
  · simp

/-- One block that goes on as a row of edges tells. -/
def flowRow (r : List Int) : List InsD := match r with
  | [] => [⟨9, 0, 0, 0, 0, ⟨#[]⟩, [], 0, 0⟩]
  | [t] => [⟨8, 0, 0, 0, 0, ⟨#[]⟩, [], t, 0⟩]
  | t :: f :: _ => [⟨7, 0, 0, 0, 0, ⟨#[]⟩, [], t, f⟩]
def flowS (ll : List (List Int)) : List (List InsD) := ll.map flowRow
end Go.Proofs.Ytcihobmjohpnkaa
