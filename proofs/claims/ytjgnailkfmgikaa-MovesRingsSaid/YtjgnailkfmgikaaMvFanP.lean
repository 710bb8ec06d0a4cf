/- One place to many, in plain Lean. -/
import Derived.Test.YtjgnailkfmgikaaMvL
namespace Go.Proofs.Ytjgnailkfmgikaa.Mv

/-- One place that goes to n, one of which may go back to it. -/
def fanS (n : Nat) (back : Bool) : List (Int × Int) := ((List.range n).map fun (i : Nat) => ((i : Int) + 1, (0 : Int))) ++ if back then [(0, 1)] else []
theorem fanS_succ (n : Nat) : fanS (n + 1) false = fanS n false ++ [((n : Int) + 1, 0)] := by simp [fanS, List.range_succ]
theorem fanS_back (n : Nat) : fanS n true = fanS n false ++ [(0, 1)] := by simp [fanS]
theorem fanS_length (n : Nat) (back : Bool) : (fanS n back).length = n + if back then 1 else 0 := by cases back <;> simp [fanS]
theorem fanS_mem {n : Nat} {back : Bool} {m : Int × Int} : m ∈ fanS n back ↔ (∃ i : Nat, i < n ∧ m = ((i : Int) + 1, 0)) ∨ (back = true ∧ m = (0, 1)) := by
  unfold fanS
  rw [List.mem_append]
  constructor
  · rintro (h | h)
    · obtain ⟨i, hi, rfl⟩ := List.mem_map.1 h
      exact .inl ⟨i, by simpa using hi, rfl⟩
    · cases back
      · simp at h
      · simp at h; exact .inr ⟨rfl, h⟩
  · rintro (⟨i, hi, rfl⟩ | ⟨rfl, rfl⟩)
    · exact .inl (List.mem_map.2 ⟨i, by simpa using hi, rfl⟩)
    · exact .inr (by simp)
theorem fanS_once (n : Nat) (back : Bool) : Once (fanS n back) := by
  have h0 : ∀ n, Once (fanS n false) := by
    intro n
    induction n with
    | zero => simp [Once, fanS]
    | succ n ih =>
      rw [fanS_succ]
      refine ih.snoc fun hm => ?_
      obtain ⟨m, hm, e⟩ := List.mem_map.1 hm
      rcases fanS_mem.1 hm with ⟨i, hi, rfl⟩ | ⟨h, _⟩
      · dsimp only at e; omega
      · simp at h
  cases back with
  | false => exact h0 n
  | true =>
    rw [fanS_back]
    refine (h0 n).snoc fun hm => ?_
    obtain ⟨m, hm, e⟩ := List.mem_map.1 hm
    rcases fanS_mem.1 hm with ⟨i, hi, rfl⟩ | ⟨h, _⟩
    · dsimp only at e; omega
    · simp at h
theorem fanS_ord (n : Nat) (back : Bool) : (ordS (fanS n back)).length = (fanS n back).length := by
  have : unl (fanS n back) = fanS n back := by
    unfold unl
    rw [List.filter_eq_self]
    intro m hm
    rcases fanS_mem.1 hm with ⟨i, hi, rfl⟩ | ⟨_, rfl⟩
    · simp; omega
    · rfl
  unfold ordS; rw [this, List.length_map]
theorem fanS_none {n : Nat} {back : Bool} (hn : 2 ≤ n) {G : PF} {out : List (Int × Int)} (hd : FDone (fanS n back) G out) (x : Int) : G x = none := by
  have hfrom : ∀ {x y : Int}, G x = some y → (x, y) ∈ fanS n back := fun {x y} h => by
    rcases hd.sub x with h1 | h1
    · rw [h1] at h; simp at h
    · rw [h1] at h; exact ((fromS_iff (fanS_once n back)).1 h).1
  have h2 : G 2 = none := by
    cases e : G 2 with
    | none => rfl
    | some y =>
      obtain ⟨⟨z, hz⟩, _⟩ := hd.rdrs 2 (by rw [e]; simp)
      rcases fanS_mem.1 (hfrom hz) with ⟨i, _, h⟩ | ⟨_, h⟩ <;> simp at h
  have h0 : G 0 = none := by
    cases e : G 0 with
    | none => rfl
    | some y =>
      have := (hd.rdrs 0 (by rw [e]; simp)).2 2 ((fromS_iff (fanS_once n back)).2 ⟨fanS_mem.2 (.inl ⟨1, by omega, rfl⟩), by decide⟩)
      exact absurd h2 this
  have h1 : ∀ x, x ≠ 0 → G x = none := fun x hx => by
    cases e : G x with
    | none => rfl
    | some y =>
      obtain ⟨⟨z, hz⟩, _⟩ := hd.rdrs x (by rw [e]; simp)
      rcases fanS_mem.1 (hfrom hz) with ⟨i, _, h⟩ | ⟨_, h⟩
      · simp at h; exact absurd h.2 hx
      · simp at h; rw [h.1] at hz; rw [h0] at hz; simp at hz
  by_cases e : x = 0
  · rw [e]; exact h0
  · exact h1 x e
end Go.Proofs.Ytjgnailkfmgikaa.Mv
