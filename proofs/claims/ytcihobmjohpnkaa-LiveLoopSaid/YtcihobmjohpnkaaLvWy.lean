/- What a way reads ahead of writing it, in plain Lean. -/
import Derived.Test.YtcihobmjohpnkaaLvC
namespace Go.Proofs.Ytcihobmjohpnkaa

/-- One instruction's registers, those that are not written yet. -/
def wantU (wrote : List Int) (want : List Int) (us : List Int) : List Int := us.foldl (fun w u => if inS wrote u then w else putS w u) want
theorem wantU_snoc (wrote want us : List Int) (u : Int) : wantU wrote want (us ++ [u]) = if inS wrote u then wantU wrote want us else putS (wantU wrote want us) u := by
  unfold wantU; rw [List.foldl_append]; rfl
theorem wantU_rising (wrote : List Int) (us : List Int) : ∀ want : List Int, want.Pairwise (· < ·) → (wantU wrote want us).Pairwise (· < ·) := by
  induction us with
  | nil => exact fun w h => h
  | cons u us ih =>
    intro w h
    show (wantU wrote (if inS wrote u then w else putS w u) us).Pairwise (· < ·)
    refine ih _ ?_
    split
    · exact h
    · exact put_rising h u
theorem mem_wantU (wrote : List Int) (us : List Int) : ∀ (want : List Int) (x : Int), x ∈ wantU wrote want us ↔ x ∈ want ∨ (x ∈ us ∧ x ∉ wrote ∧ Bit.fits x = true) := by
  induction us with
  | nil => intro w x; simp [wantU]
  | cons u us ih =>
    intro w x
    have e : wantU wrote w (u :: us) = wantU wrote (if inS wrote u then w else putS w u) us := rfl
    rw [e, ih, List.mem_cons]
    by_cases hu : u ∈ wrote
    · have hi : inS wrote u = true := by simpa [inS] using hu
      rw [if_pos hi]
      constructor
      · rintro (h | ⟨h1, h2⟩)
        · exact .inl h
        · exact .inr ⟨.inr h1, h2⟩
      · rintro (h | ⟨rfl | h1, h2⟩)
        · exact .inl h
        · exact absurd hu h2.1
        · exact .inr ⟨h1, h2⟩
    · have hi : ¬ inS wrote u = true := by simpa [inS] using hu
      rw [if_neg hi, mem_put]
      constructor
      · rintro ((h | ⟨rfl, h⟩) | ⟨h1, h2⟩)
        · exact .inl h
        · exact .inr ⟨.inl rfl, hu, h⟩
        · exact .inr ⟨.inr h1, h2⟩
      · rintro (h | ⟨rfl | h1, h2⟩)
        · exact .inl (.inl h)
        · exact .inl (.inr ⟨rfl, h2.2⟩)
        · exact .inr ⟨h1, h2⟩
theorem wantU_length (wrote : List Int) (us : List Int) : ∀ want : List Int, (wantU wrote want us).length ≤ want.length + us.length := by
  induction us with
  | nil => intro w; simp [wantU]
  | cons u us ih =>
    intro w
    have e : wantU wrote w (u :: us) = wantU wrote (if inS wrote u then w else putS w u) us := rfl
    rw [e]
    have := ih (if inS wrote u then w else putS w u)
    have h2 : (if inS wrote u then w else putS w u).length ≤ w.length + 1 := by
      split
      · omega
      · exact putS_length _ _
    simp only [List.length_cons]
    omega
/-- One instruction more at the end. -/
theorem gen_snoc (l : List InsD) (i : InsD) : listI (genW (l ++ [i])) = wantU (l.map defS) (listI (genW l)) (usesS i) := by
  refine rising_ext (listI_rising _) (wantU_rising _ _ _ (listI_rising _)) fun x => ?_
  rw [mem_wantU, mem_listI, mem_listI]
  have e : genW (l ++ [i]) = l.reverse.foldl backW (backW [] i) := by unfold genW; rw [List.reverse_append]; rfl
  rw [e]
  unfold Bit.fits
  simp only [Bool.and_eq_true, decide_eq_true_eq]
  constructor
  · rintro ⟨h0, h⟩
    rw [has_foldback _ _ (back_can Bit.can_nil.1 i).1, has_back, has_nil, Int.toNat_of_nonneg h0] at h
    rcases h with h | ⟨h1 | h1, h2⟩
    · exact .inl ⟨h0, h⟩
    · refine .inr ⟨h1.1, fun hm => h2 ⟨by rw [List.map_reverse]; simpa using hm, h1.2⟩, h0, by omega⟩
    · exact absurd h1.1 (by simp)
  · rintro (⟨h0, h⟩ | ⟨h1, h2, h0, h3⟩)
    · exact ⟨h0, (has_foldback _ _ (back_can Bit.can_nil.1 i).1 _).2 (.inl h)⟩
    · refine ⟨h0, ?_⟩
      rw [has_foldback _ _ (back_can Bit.can_nil.1 i).1, has_back, has_nil, Int.toNat_of_nonneg h0]
      exact .inr ⟨.inl ⟨h1, by omega⟩, fun hm => h2 (by have := hm.1; rw [List.map_reverse] at this; simpa using this)⟩
theorem way_succ {l : List InsD} (h : ∀ i ∈ l, i.k ≠ 7 ∧ i.k ≠ 8) : succS [l] 0 = [] := by
  unfold succS succN
  rw [if_pos (by omega)]
  have e : [l].getD (0 : Int).toNat [] = l := rfl
  rw [e]
  cases hl : l.getLast? with
  | none => rfl
  | some i =>
    have hi := h i (List.mem_of_getLast? hl)
    simp [rawS, hi.1, hi.2]
end Go.Proofs.Ytcihobmjohpnkaa
