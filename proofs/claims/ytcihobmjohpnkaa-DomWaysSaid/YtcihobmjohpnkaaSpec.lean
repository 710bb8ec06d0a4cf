/- What the program's functions compute, in plain Lean: flow. Nothing here names the program. -/
namespace Go.Proofs.Ytcihobmjohpnkaa

/-- An instruction. -/
structure InsD where
  (k d a b n : Int) (name : ByteArray) (args : List Int) (t f : Int)
instance : Inhabited InsD := ⟨⟨0, 0, 0, 0, 0, ⟨#[]⟩, [], 0, 0⟩⟩

/-- Are two lists one? -/
def sameS (xs ys : List Int) : Bool := decide (xs = ys)
/-- Does a list have a number? -/
def inS (xs : List Int) (n : Int) : Bool := decide (n ∈ xs)
theorem inS_nil (n : Int) : inS [] n = false := by simp [inS]
theorem inS_snoc (xs : List Int) (x n : Int) : inS (xs ++ [x]) n = (inS xs n || (x == n)) := by
  unfold inS; rw [Bool.eq_iff_iff]; simp [Eq.comm (a := n)]
theorem inS_of_get {xs : List Int} {n : Int} {k : Nat} (h : k < xs.length) (he : xs[k] = n) : inS xs n = true := by
  unfold inS; rw [← he]; simp [List.getElem_mem]

/-- Is a number a block's? -/
def inR (n : Nat) (x : Int) : Bool := decide (0 ≤ x) && decide (x < n)
/-- Where an instruction goes on, whether or not the block is there. -/
def rawS (i : InsD) : List Int := if i.k = 7 then (if i.t = i.f then [i.t] else [i.t, i.f]) else if i.k = 8 then [i.t] else []
/-- Where a block goes on. -/
def succN (l : List (List InsD)) (b : Nat) : List Int :=
  match (l.getD b []).getLast? with
  | none => []
  | some i => (rawS i).filter (inR l.length)
def succS (l : List (List InsD)) (b : Int) : List Int := if 0 ≤ b then succN l b.toNat else []

theorem take_succ_eq {α : Type} {xs ys : List α} {k : Nat} (h1 : k < xs.length) (h2 : k < ys.length) (ht : xs.take k = ys.take k) (he : xs[k] = ys[k]) : xs.take (k + 1) = ys.take (k + 1) := by
  rw [List.take_succ_eq_append_getElem h1, List.take_succ_eq_append_getElem h2, ht, he]
end Go.Proofs.Ytcihobmjohpnkaa
