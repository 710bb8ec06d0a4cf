/- What the end of the rounds means, in plain Lean; the example of the document. -/
import Derived.Test.YtjgnailkfmgikaaMvP
namespace Go.Proofs.Ytjgnailkfmgikaa.Mv

theorem CInv.all {G H : PF} {xs : List Int} {n : Nat} (h : CInv G xs H n) {x : Int} (hx : x ∈ xs) : H x = none := by
  cases e : G x with
  | none =>
    rcases h.eq x with h1 | h1
    · exact h1
    · rw [h1, e]
  | some y => exact (h.cov x (by rw [e]; simp)).2 ⟨x, hx, by rw [e]; simp, .refl _⟩

theorem num_zero {xs : List Int} {H : PF} (h : ∀ x ∈ xs, H x = none) : num xs H = 0 := by
  unfold num
  rw [List.length_eq_zero_iff, List.filter_eq_nil_iff]
  intro a ha
  rw [h a ha]; simp

/-- All moves are done, by as many as there are and one more for each ring. -/
theorem SInv.fin {l : List (Int × Int)} {s : Int} {G H : PF} {n : Nat} {out : List (Int × Int)} (ho : Once l) (h : SInv l s G (ordS l) H n out) (hs : ∀ m ∈ l, m.1 ≠ s ∧ m.2 ≠ s) :
    out.length = (ordS l).length + n ∧ (∀ m ∈ l, Mv.aft out m.1 = m.2) ∧ (∀ x, x ≠ s → x ∉ l.map (·.1) → Mv.aft out x = x) ∧ (∀ m ∈ out, m.1 = s ∨ ∃ m' ∈ l, m'.1 = m.1) ∧ Cnt G (ordS l) n := by
  have hall : ∀ x ∈ ordS l, H x = none := fun x hx => h.c.all hx
  refine ⟨?_, fun m hm => ?_, fun x hxs hx => ?_, fun m hm => ?_, h.c.cnt⟩
  · have := h.len; rw [num_zero hall] at this; omega
  · obtain ⟨x, y⟩ := m
    have hxs := (hs _ hm).1
    dsimp only at hxs ⊢
    by_cases e : x = y
    · subst e
      have : fromS l x = none := by
        cases hf : fromS l x with
        | none => rfl
        | some z =>
          have h1 := (fromS_iff ho).1 hf
          have : (x, z) = (x, x) := by
            unfold Once at ho
            have := List.pairwise_map.1 ho
            obtain ⟨i, hi, ei⟩ := List.mem_iff_getElem.1 h1.1
            obtain ⟨j, hj, ej⟩ := List.mem_iff_getElem.1 hm
            rcases Nat.lt_trichotomy i j with hij | hij | hij
            · have := List.pairwise_iff_getElem.1 this i j hi hj hij
              rw [ei, ej] at this; exact absurd rfl this
            · subst hij; rw [← ei, ej]
            · have := List.pairwise_iff_getElem.1 this j i hj hi hij
              rw [ei, ej] at this; exact absurd rfl this
          simp at this
          exact absurd this.symm h1.2
      exact (h.aft x hxs).2 (.inr this)
    · have hf := (fromS_iff ho).2 ⟨hm, e⟩
      have hx : x ∈ ordS l := mem_ordS.2 ⟨y, hm, e⟩
      exact (h.aft x hxs).1 (hall x hx) y hf
  · refine (h.aft x hxs).2 (.inr ?_)
    cases hf : fromS l x with
    | none => rfl
    | some z => exact absurd (List.mem_map.2 ⟨_, ((fromS_iff ho).1 hf).1, rfl⟩) hx
  · rcases h.dst m hm with h1 | h1
    · obtain ⟨y, hy, _⟩ := mem_ordS.1 h1
      exact .inr ⟨_, hy, rfl⟩
    · exact .inl h1

theorem aft_none {out : List (Int × Int)} {x : Int} : (∀ m ∈ out, m.1 ≠ x) → aft out x = x := by
  induction out using rev_ind with
  | h0 => intro _; rfl
  | hs out m ih =>
    intro h
    rw [aft_snoc, if_neg (fun e => h m (by simp) e.symm)]
    exact ih fun m' hm => h m' (by simp [hm])
/-- Where no ring is turned the scratch stays. -/
theorem SInv.scratch {l : List (Int × Int)} {s : Int} {G H : PF} {n : Nat} {out : List (Int × Int)} {xs : List Int} (h : SInv l s G xs H n out) (hn : n = 0) (hs : ∀ m ∈ l, m.1 ≠ s ∧ m.2 ≠ s) : Mv.aft out s = s :=
  aft_none fun m hm e => by
    obtain ⟨y, hy, _⟩ := mem_ordS.1 (h.zero hn m hm)
    exact (hs _ hy).1 e

/-- Of no places there is no ring. -/
theorem Cnt.none {G : PF} {xs : List Int} {n : Nat} (h : Cnt G xs n) (hG : ∀ x ∈ xs, G x = none) : n = 0 := by
  induction h with
  | nil => rfl
  | yes h1 h2 ih => rename_i xs x n; exact absurd (hG x (by simp)) h2.1
  | no h1 h2 ih => exact ih fun x hx => hG x (by simp [hx])

theorem ex_once : Once [(1, 2), (2, 1)] := by unfold Once; decide
theorem ex_ord : ordS [(1, 2), (2, 1)] = [1, 2] := by decide
theorem ex_cnt {G : PF} {out : List (Int × Int)} {n : Nat} (hd : FDone [(1, 2), (2, 1)] G out) (h : Cnt G (ordS [(1, 2), (2, 1)]) n) : n = 1 := by
  have f1 : fromS [(1, 2), (2, 1)] 1 = some 2 := by decide
  have f2 : fromS [(1, 2), (2, 1)] 2 = some 1 := by decide
  have hsh : Shut (fromS [(1, 2), (2, 1)]) fun x => x = 1 ∨ x = 2 := by
    intro x hx
    refine ⟨?_, ?_, fun z hz => ?_⟩
    · rcases hx with rfl | rfl
      · rw [f1]; simp
      · rw [f2]; simp
    · rcases hx with rfl | rfl
      · exact ⟨2, .inr rfl, f2⟩
      · exact ⟨1, .inl rfl, f1⟩
    · have := (fromS_iff ex_once).1 hz
      simp at this
      omega
  have g1 : G 1 = some 2 := by
    rcases hd.sub 1 with h1 | h1
    · exact absurd h1 (hd.gr _ hsh 1 (.inl rfl))
    · rw [h1, f1]
  have g2 : G 2 = some 1 := by
    rcases hd.sub 2 with h1 | h1
    · exact absurd h1 (hd.gr _ hsh 2 (.inr rfl))
    · rw [h1, f2]
  rw [ex_ord] at h
  have hc : Cnt G [1, 2] 1 := .no (xs := [1]) (.yes (xs := []) .nil ⟨by rw [g1]; simp, fun y hy => by simp at hy⟩) fun ⟨_, h2⟩ => h2 1 (by simp) (by rw [g1]; simp) (.step (.refl _) g1)
  exact h.uniq hc
end Go.Proofs.Ytjgnailkfmgikaa.Mv
