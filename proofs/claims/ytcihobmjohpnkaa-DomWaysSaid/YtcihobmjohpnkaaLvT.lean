/- The reference's rising lists, in plain Lean: they are the sets' lists. -/
import Derived.Test.YtcihobmjohpnkaaLvQ
import Derived.Test.YtcihobmjohpnkaaBitI
namespace Go.Proofs.Ytcihobmjohpnkaa

/-- A number into a rising list. -/
def putS (l : List Int) (n : Int) : List Int :=
  if Bit.fits n then (l.takeWhile fun x => decide (x < n)) ++ (match l.dropWhile fun x => decide (x < n) with | [] => [n] | x :: r => if x = n then x :: r else n :: x :: r) else l
def filterS (xs ys : List Int) (has : Bool) : List Int := xs.filter fun x => inS ys x == has

theorem rising_ext : ∀ {a b : List Int}, a.Pairwise (· < ·) → b.Pairwise (· < ·) → (∀ x, x ∈ a ↔ x ∈ b) → a = b
  | [], [], _, _, _ => rfl
  | [], y :: b, _, _, h => by have := (h y).2 (by simp); simp at this
  | x :: a, [], _, _, h => by have := (h x).1 (by simp); simp at this
  | x :: a, y :: b, ha, hb, h => by
    obtain ⟨a1, a2⟩ := List.pairwise_cons.1 ha
    obtain ⟨b1, b2⟩ := List.pairwise_cons.1 hb
    have e : x = y := by
      rcases List.mem_cons.1 ((h x).1 (by simp)) with e | e
      · exact e
      · rcases List.mem_cons.1 ((h y).2 (by simp)) with e' | e'
        · exact e'.symm
        · have := a1 _ e'; have := b1 _ e; omega
    subst e
    refine congrArg _ (rising_ext a2 b2 fun z => ⟨fun hz => ?_, fun hz => ?_⟩)
    · rcases List.mem_cons.1 ((h z).1 (by simp [hz])) with e | e
      · subst e; have := a1 _ hz; omega
      · exact e
    · rcases List.mem_cons.1 ((h z).2 (by simp [hz])) with e | e
      · subst e; have := b1 _ hz; omega
      · exact e

theorem mem_take_drop {l : List Int} {p : Int → Bool} {x : Int} : x ∈ l ↔ x ∈ l.takeWhile p ∨ x ∈ l.dropWhile p := by
  rw [← List.mem_append, List.takeWhile_append_dropWhile]
theorem takeWhile_lt {l : List Int} {n x : Int} (h : x ∈ l.takeWhile fun x => decide (x < n)) : x < n := by
  induction l with
  | nil => simp at h
  | cons y l ih =>
    rw [List.takeWhile_cons] at h
    split at h
    · rename_i hy
      rcases List.mem_cons.1 h with e | e
      · subst e; simpa using hy
      · exact ih e
    · simp at h
theorem dropWhile_ge {l : List Int} (hl : l.Pairwise (· < ·)) {n x : Int} (h : x ∈ l.dropWhile fun x => decide (x < n)) : n ≤ x := by
  induction l with
  | nil => simp at h
  | cons y l ih =>
    obtain ⟨h1, h2⟩ := List.pairwise_cons.1 hl
    rw [List.dropWhile_cons] at h
    split at h
    · exact ih h2 h
    · rename_i hy
      have hy' : n ≤ y := by simpa using hy
      rcases List.mem_cons.1 h with e | e
      · omega
      · have := h1 _ e; omega
theorem mem_put {l : List Int} {n x : Int} : x ∈ putS l n ↔ x ∈ l ∨ (x = n ∧ Bit.fits n = true) := by
  unfold putS
  by_cases hf : Bit.fits n = true
  · rw [if_pos hf, List.mem_append, mem_take_drop (l := l) (p := fun x => decide (x < n))]
    cases hd : l.dropWhile fun x => decide (x < n) with
    | nil => simp [hf]
    | cons y r =>
      dsimp only
      split
      · rename_i e; subst e; simp [hf]; intro h; right; left; exact h
      · simp [hf]
        constructor
        · rintro (h | h | h | h)
          · exact .inl (.inl h)
          · exact .inr h
          · exact .inl (.inr (.inl h))
          · exact .inl (.inr (.inr h))
        · rintro ((h | h | h) | h)
          · exact .inl h
          · exact .inr (.inr (.inl h))
          · exact .inr (.inr (.inr h))
          · exact .inr (.inl h)
  · rw [if_neg hf]; simp [hf]
theorem put_rising {l : List Int} (hl : l.Pairwise (· < ·)) (n : Int) : (putS l n).Pairwise (· < ·) := by
  unfold putS
  split
  · have h1 : (l.takeWhile fun x => decide (x < n)).Pairwise (· < ·) := hl.sublist (List.takeWhile_sublist _)
    have h2 : (l.dropWhile fun x => decide (x < n)).Pairwise (· < ·) := hl.sublist (List.dropWhile_sublist _)
    have hge : ∀ x ∈ l.dropWhile (fun x => decide (x < n)), n ≤ x := fun x hx => dropWhile_ge hl hx
    rw [List.pairwise_append]
    refine ⟨h1, ?_, fun a ha b hb => ?_⟩
    · cases hd : l.dropWhile fun x => decide (x < n) with
      | nil => simp
      | cons y r =>
        rw [hd] at h2 hge
        dsimp only
        split
        · exact h2
        · rename_i hne
          refine List.pairwise_cons.2 ⟨fun z hz => ?_, h2⟩
          have hy := hge y (by simp)
          rcases List.mem_cons.1 hz with e | e
          · omega
          · have := (List.pairwise_cons.1 h2).1 z e; omega
    · have ha' := takeWhile_lt ha
      cases hd : l.dropWhile fun x => decide (x < n) with
      | nil => rw [hd] at hb; simp at hb; omega
      | cons y r =>
        rw [hd] at hb hge
        dsimp only at hb
        split at hb
        · have := hge b hb; omega
        · rcases List.mem_cons.1 hb with e | e
          · omega
          · have := hge b e; omega
  · exact hl

theorem mem_listI {ws : List Nat} {x : Int} : x ∈ listI ws ↔ 0 ≤ x ∧ Bit.has ws x.toNat = true := by
  unfold listI uptoI
  rw [List.mem_map]
  constructor
  · rintro ⟨m, hm, rfl⟩
    have := Bit.mem_list.1 (show m ∈ Bit.listW ws from hm)
    exact ⟨by omega, by simpa using this⟩
  · rintro ⟨h0, h⟩
    exact ⟨x.toNat, (Bit.mem_list.2 h : x.toNat ∈ Bit.listW ws), by omega⟩
theorem listI_rising (ws : List Nat) : (listI ws).Pairwise (· < ·) := by
  unfold listI uptoI
  rw [List.pairwise_map]
  exact (Bit.list_rising ws).imp fun h => by omega
theorem has_le {ws : List Nat} (h : ws.length ≤ 1024) {m : Nat} (hm : Bit.has ws m = true) : m ≤ 65535 := by
  have := Bit.has_lt hm; omega
theorem put_list {ws : List Nat} (n : Int) : putS (listI ws) n = listI (Bit.orW ws (Bit.ofW [n])) := by
  refine rising_ext (put_rising (listI_rising ws) n) (listI_rising _) fun x => ?_
  rw [mem_put, mem_listI, mem_listI, Bit.has_or, Bool.or_eq_true, Bit.has_of]
  simp only [List.mem_singleton]
  unfold Bit.fits
  simp only [Bool.and_eq_true, decide_eq_true_eq]
  constructor
  · rintro (⟨h1, h2⟩ | ⟨rfl, h1, h2⟩)
    · exact ⟨h1, .inl h2⟩
    · exact ⟨h1, .inr ⟨by omega, by omega⟩⟩
  · rintro ⟨h1, h2 | ⟨h2, h3⟩⟩
    · exact .inl ⟨h1, h2⟩
    · exact .inr ⟨by omega, by omega, by omega⟩
theorem fold_put (us : List Int) : ∀ ws, us.foldl putS (listI ws) = listI (us.foldl (fun ws n => Bit.orW ws (Bit.ofW [n])) ws) := by
  induction us with
  | nil => exact fun ws => rfl
  | cons n us ih => intro ws; rw [List.foldl_cons, List.foldl_cons, put_list, ih]
theorem mem_fold_put (us : List Int) : ∀ (l : List Int) (x : Int), x ∈ us.foldl putS l ↔ x ∈ l ∨ (x ∈ us ∧ Bit.fits x = true) := by
  induction us with
  | nil => intro l x; simp
  | cons n us ih =>
    intro l x
    rw [List.foldl_cons, ih, mem_put, List.mem_cons]
    constructor
    · rintro ((h | ⟨rfl, h⟩) | ⟨h, h'⟩)
      · exact .inl h
      · exact .inr ⟨.inl rfl, h⟩
      · exact .inr ⟨.inr h, h'⟩
    · rintro (h | ⟨rfl | h, h'⟩)
      · exact .inl (.inl h)
      · exact .inl (.inr ⟨rfl, h'⟩)
      · exact .inr ⟨h, h'⟩
theorem fold_put_rising (us : List Int) : ∀ (l : List Int), l.Pairwise (· < ·) → (us.foldl putS l).Pairwise (· < ·) := by
  induction us with
  | nil => exact fun l h => h
  | cons n us ih => exact fun l h => ih _ (put_rising h n)
/-- The reference's step back. -/
def backI (l : List Int) (i : InsD) : List Int := (usesS i).foldl putS (filterS l [defS i] false)
theorem backI_list {ws : List Nat} (h : ws.length ≤ 1024) (i : InsD) : backI (listI ws) i = listI (backW ws i) := by
  unfold backI
  refine rising_ext (fold_put_rising _ _ ((listI_rising ws).sublist (List.filter_sublist))) (listI_rising _) fun x => ?_
  rw [mem_fold_put, mem_listI, has_back]
  unfold filterS
  rw [List.mem_filter, mem_listI]
  unfold inS Bit.fits
  simp only [List.mem_singleton, Bool.and_eq_true, decide_eq_true_eq, beq_iff_eq, decide_eq_false_iff_not]
  constructor
  · rintro (⟨⟨h1, h2⟩, h3⟩ | ⟨h1, h2, h3⟩)
    · exact ⟨h1, .inr ⟨h2, fun hh => h3 (by omega)⟩⟩
    · exact ⟨h2, .inl ⟨by rw [Int.toNat_of_nonneg h2]; exact h1, by omega⟩⟩
  · rintro ⟨h1, ⟨h2, h3⟩ | ⟨h2, h3⟩⟩
    · rw [Int.toNat_of_nonneg h1] at h2
      exact .inr ⟨h2, h1, by omega⟩
    · have := has_le h h2
      exact .inl ⟨⟨h1, h2⟩, fun e => h3 ⟨by omega, by omega⟩⟩
theorem fold_backI (l : List InsD) : ∀ ws, ws.length ≤ 1024 → l.foldl backI (listI ws) = listI (l.foldl backW ws) := by
  induction l with
  | nil => exact fun ws _ => rfl
  | cons i l ih => intro ws h; rw [List.foldl_cons, List.foldl_cons, backI_list h, ih _ (back_length h i)]
/-- What is put in of a whole list. -/
theorem put_all (a b : List Nat) (hb : b.length ≤ 1024) : (listI b).foldl putS (listI a) = listI (Bit.orW a b) := by
  refine rising_ext (fold_put_rising _ _ (listI_rising a)) (listI_rising _) fun x => ?_
  rw [mem_fold_put, mem_listI, mem_listI, mem_listI, Bit.has_or, Bool.or_eq_true]
  unfold Bit.fits
  simp only [Bool.and_eq_true, decide_eq_true_eq]
  constructor
  · rintro (⟨h1, h2⟩ | ⟨⟨h1, h2⟩, h3⟩)
    · exact ⟨h1, .inl h2⟩
    · exact ⟨h1, .inr h2⟩
  · rintro ⟨h1, h2 | h2⟩
    · exact .inl ⟨h1, h2⟩
    · have := has_le hb h2
      exact .inr ⟨⟨h1, h2⟩, h1, by omega⟩
end Go.Proofs.Ytcihobmjohpnkaa
