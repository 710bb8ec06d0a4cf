/- Problems of costs: what may be, and what choices cost, in plain Lean. Nothing here names the program. -/
import Derived.ProofKit
namespace Go.Proofs.Ytdomnbgjafdnjaa

/-- An edge. -/
structure EdgeD where
  (a b : Int) (cost : List (List Int))
instance : Inhabited EdgeD := ⟨⟨0, 0, []⟩⟩
abbrev infC : Int := 1099511627776
def okC (n : Int) : Bool := decide (0 ≤ n) && decide (n ≤ infC)
def costsB (l : List Int) : Bool := l.all okC
/-- May the ends be, and are there as many rows as choices? -/
def endsB (N : List (List Int)) (e : EdgeD) : Bool :=
  decide (0 ≤ e.a) && decide (0 ≤ e.b) && decide (e.a < N.length) && decide (e.b < N.length) && decide (e.a ≠ e.b) && decide (e.cost.length = (N.getD e.a.toNat []).length)
def rowB (m : Nat) (r : List Int) : Bool := decide (r.length = m) && costsB r
def edgeB (N : List (List Int)) (e : EdgeD) : Bool := endsB N e && e.cost.all (rowB (N.getD e.b.toNat []).length)
def nodeB (n : List Int) : Bool := decide (n.length ≠ 0) && costsB n
def longB (n : List Int) : Bool := decide (32 < n.length)
def chkS (N : List (List Int)) (E : List EdgeD) : Int :=
  if (decide (300 < N.length) || decide (2000 < E.length) || N.any longB) = true then 2 else if N.all nodeB = true then (if E.all (edgeB N) = true then 0 else 1) else 1

theorem endsB_iff {N : List (List Int)} {e : EdgeD} : endsB N e = true ↔ 0 ≤ e.a ∧ 0 ≤ e.b ∧ e.a < N.length ∧ e.b < N.length ∧ e.a ≠ e.b ∧ e.cost.length = (N.getD e.a.toNat []).length := by
  unfold endsB; simp only [Bool.and_eq_true, decide_eq_true_eq, and_assoc]
theorem all_take_succ {α : Type} {f : α → Bool} {l : List α} {k : Nat} (h : k < l.length) : (l.take (k + 1)).all f = ((l.take k).all f && f l[k]) := by
  rw [List.take_succ_eq_append_getElem h, List.all_append]; simp
theorem any_take_succ {α : Type} {f : α → Bool} {l : List α} {k : Nat} (h : k < l.length) : (l.take (k + 1)).any f = ((l.take k).any f || f l[k]) := by
  rw [List.take_succ_eq_append_getElem h, List.any_append]; simp
theorem all_false_of {α : Type} {f : α → Bool} {l : List α} {k : Nat} (h : k < l.length) (hf : f l[k] = false) : l.all f = false := by
  rw [← Bool.not_eq_true, List.all_eq_true]; intro hh; rw [hh _ (List.getElem_mem h)] at hf; simp at hf
theorem any_true_of {α : Type} {f : α → Bool} {l : List α} {k : Nat} (h : k < l.length) (hf : f l[k] = true) : l.any f = true := List.any_eq_true.2 ⟨_, List.getElem_mem h, hf⟩

/-- A choice that may be. -/
def inB (N : List (List Int)) (l : List Int) (k : Nat) : Bool := decide (0 ≤ l.getD k 0) && decide (l.getD k 0 < (N.getD k []).length)
def nT (N : List (List Int)) (l : List Int) (k : Nat) : Int := (N.getD k []).getD (l.getD k 0).toNat 0
def eT (l : List Int) (e : EdgeD) : Int := (e.cost.getD (l.getD e.a.toNat 0).toNat []).getD (l.getD e.b.toNat 0).toNat 0
/-- The sum of the first k nodes' costs, and of the first k edges'. -/
def nSum (N : List (List Int)) (l : List Int) : Nat → Int
  | 0 => 0
  | k + 1 => nSum N l k + nT N l k
def eSum (E : List EdgeD) (l : List Int) : Nat → Int
  | 0 => 0
  | k + 1 => eSum E l k + eT l (E.getD k default)
def allIn (N : List (List Int)) (l : List Int) (k : Nat) : Bool := (List.range k).all (inB N l)
theorem allIn_succ (N : List (List Int)) (l : List Int) (k : Nat) : allIn N l (k + 1) = (allIn N l k && inB N l k) := by unfold allIn; rw [List.range_succ, List.all_append]; simp
theorem allIn_get {N : List (List Int)} {l : List Int} {k j : Nat} (h : allIn N l k = true) (hj : j < k) : inB N l j = true := List.all_eq_true.1 h j (List.mem_range.2 hj)
theorem allIn_false {N : List (List Int)} {l : List Int} {k j : Nat} (hj : j < k) (h : inB N l j = false) : allIn N l k = false := by
  rw [← Bool.not_eq_true]; intro hh; rw [allIn_get hh hj] at h; simp at h
def costP (N : List (List Int)) (E : List EdgeD) (l : List Int) : Int :=
  if chkS N E ≠ 0 ∨ l.length ≠ N.length then infC else if allIn N l l.length = true then min (nSum N l l.length + eSum E l E.length) infC else infC

section
variable {N : List (List Int)} {E : List EdgeD}
theorem chk_ok (h : chkS N E = 0) : N.length ≤ 300 ∧ E.length ≤ 2000 ∧ (∀ n ∈ N, n.length ≤ 32 ∧ n.length ≠ 0 ∧ ∀ x ∈ n, 0 ≤ x ∧ x ≤ infC) ∧ ∀ e ∈ E, edgeB N e = true := by
  unfold chkS at h
  split at h
  · omega
  rename_i h1
  split at h
  · rename_i h2
    split at h
    · rename_i h3
      rw [Bool.not_eq_true, Bool.or_eq_false_iff, Bool.or_eq_false_iff, decide_eq_false_iff_not, decide_eq_false_iff_not] at h1
      refine ⟨by omega, by omega, fun n hn => ?_, List.all_eq_true.1 h3⟩
      have ha := List.any_eq_false.1 h1.2 n hn
      have hb := List.all_eq_true.1 h2 n hn
      unfold longB at ha
      unfold nodeB costsB at hb
      rw [Bool.and_eq_true, decide_eq_true_eq, List.all_eq_true] at hb
      refine ⟨by simpa using ha, hb.1, fun x hx => ?_⟩
      have := hb.2 x hx
      unfold okC at this
      rw [Bool.and_eq_true, decide_eq_true_eq, decide_eq_true_eq] at this
      exact this
    · omega
  · omega
theorem chk_cases : chkS N E = 0 ∨ chkS N E = 1 ∨ chkS N E = 2 := by unfold chkS; split <;> (try split) <;> (try split) <;> simp
theorem get_in {l : List Int} {k : Nat} (h : inB N l k = true) : 0 ≤ l.getD k 0 ∧ l.getD k 0 < (N.getD k []).length := by unfold inB at h; rw [Bool.and_eq_true, decide_eq_true_eq, decide_eq_true_eq] at h; exact h
theorem mem_getD {α : Type} {l : List α} {d : α} {k : Nat} (h : k < l.length) : l.getD k d ∈ l := by simp [List.getD, h]
theorem nT_ok (hc : chkS N E = 0) {l : List Int} {k : Nat} (hk : k < N.length) (h : inB N l k = true) : 0 ≤ nT N l k ∧ nT N l k ≤ infC := by
  obtain ⟨-, -, hn, -⟩ := chk_ok hc
  obtain ⟨h1, h2⟩ := get_in h
  exact (hn _ (mem_getD hk)).2.2 _ (mem_getD (by omega))
theorem nSum_ok (hc : chkS N E = 0) {l : List Int} {k : Nat} (hk : k ≤ N.length) (h : allIn N l k = true) : 0 ≤ nSum N l k ∧ nSum N l k ≤ k * infC := by
  induction k with
  | zero => simp [nSum]
  | succ k ih =>
    rw [allIn_succ, Bool.and_eq_true] at h
    have h1 := ih (by omega) h.1
    have h2 := nT_ok hc (by omega) h.2
    unfold nSum
    rw [show ((k + 1 : Nat) : Int) * infC = k * infC + infC by push_cast; rw [Int.add_mul, Int.one_mul]]
    omega
/-- Where the choices may be, an edge's cost is there. -/
theorem edge_in (hc : chkS N E = 0) {l : List Int} (hl : l.length = N.length) (hi : allIn N l l.length = true) {e : EdgeD} (he : e ∈ E) :
    (0 ≤ e.a ∧ e.a < l.length) ∧ (0 ≤ e.b ∧ e.b < l.length) ∧ (0 ≤ l.getD e.a.toNat 0 ∧ l.getD e.a.toNat 0 < e.cost.length) ∧ (0 ≤ l.getD e.b.toNat 0 ∧ l.getD e.b.toNat 0 < (e.cost.getD (l.getD e.a.toNat 0).toNat []).length) ∧ 0 ≤ eT l e ∧ eT l e ≤ infC := by
  obtain ⟨-, -, -, hE⟩ := chk_ok hc
  have h1 := hE e he
  unfold edgeB at h1
  rw [Bool.and_eq_true, List.all_eq_true] at h1
  obtain ⟨h1, h2⟩ := h1
  obtain ⟨a0, b0, a1, b1, -, hr⟩ := endsB_iff.1 h1
  have ga := get_in (allIn_get hi (show e.a.toNat < l.length by omega))
  have gb := get_in (allIn_get hi (show e.b.toNat < l.length by omega))
  have hm : e.cost.getD (l.getD e.a.toNat 0).toNat [] ∈ e.cost := mem_getD (by omega)
  have h3 := h2 _ hm
  unfold rowB costsB at h3
  rw [Bool.and_eq_true, decide_eq_true_eq, List.all_eq_true] at h3
  have h4 : (l.getD e.b.toNat 0).toNat < (e.cost.getD (l.getD e.a.toNat 0).toNat []).length := by omega
  have h5 := h3.2 _ (mem_getD (d := 0) h4)
  unfold okC at h5
  rw [Bool.and_eq_true, decide_eq_true_eq, decide_eq_true_eq] at h5
  exact ⟨⟨a0, by omega⟩, ⟨b0, by omega⟩, ⟨ga.1, by omega⟩, ⟨gb.1, by omega⟩, h5⟩
theorem eSum_ok (hc : chkS N E = 0) {l : List Int} (hl : l.length = N.length) (hi : allIn N l l.length = true) {k : Nat} (hk : k ≤ E.length) : 0 ≤ eSum E l k ∧ eSum E l k ≤ k * infC := by
  induction k with
  | zero => simp [eSum]
  | succ k ih =>
    have h1 := ih (by omega)
    obtain ⟨-, -, -, -, h2⟩ := edge_in hc hl hi (mem_getD (d := default) (show k < E.length by omega))
    unfold eSum
    rw [show ((k + 1 : Nat) : Int) * infC = k * infC + infC by push_cast; rw [Int.add_mul, Int.one_mul]]
    omega
end
end Go.Proofs.Ytdomnbgjafdnjaa
