/- What is alive, in plain Lean: blocks' own sets, one sweep. -/
import Derived.Test.YtcihobmjohpnkaaLvB
namespace Go.Proofs.Ytcihobmjohpnkaa

theorem back_can {ws : List Nat} (h : Bit.Ok ws) (i : InsD) : Bit.Can (backW ws i) :=
  Bit.or_can (Bit.sub_can h (Bit.of_can _).1).1 (Bit.of_can _).1
theorem has_back {ws : List Nat} (i : InsD) (m : Nat) : Bit.has (backW ws i) m = true ↔ ((m : Int) ∈ usesS i ∧ m ≤ 65535) ∨ (Bit.has ws m = true ∧ ¬ ((m : Int) = defS i ∧ m ≤ 65535)) := by
  unfold backW
  rw [Bit.has_or, Bit.has_sub (Bit.of_can _).1, Bool.or_eq_true, Bool.and_eq_true, Bit.has_of]
  have e : (!Bit.has (Bit.ofW [defS i]) m) = true ↔ ¬ ((m : Int) = defS i ∧ m ≤ 65535) := by
    rw [Bool.not_eq_true', ← Bool.not_eq_true, Bit.has_of]; simp
  rw [e]
  exact Or.comm
theorem back_length {ws : List Nat} (h : ws.length ≤ 1024) (i : InsD) : (backW ws i).length ≤ 1024 := by
  unfold backW Bit.orW Bit.subW
  refine Nat.le_trans (Bit.trim_length _) ?_
  rw [Bit.zipS_length]
  have h1 : (Bit.ofW (usesS i)).length ≤ 1024 := Nat.le_trans (Bit.trim_length _) (Bit.rawOf_ok _).2
  have h2 : (Bit.ofW [defS i]).length ≤ 1024 := Nat.le_trans (Bit.trim_length _) (Bit.rawOf_ok _).2
  have h3 := Bit.trim_length (Bit.zipS (fun x y => x &&& (18446744073709551615 - y)) ws (Bit.ofW [defS i]))
  rw [Bit.zipS_length] at h3
  omega

/-- What a block reads ahead of writing it. -/
def genW (l : List InsD) : List Nat := l.reverse.foldl backW []
/-- What a block writes. -/
def killW (l : List InsD) : List Nat := Bit.ofW (l.reverse.map defS)
theorem foldl_back (l : List InsD) : ∀ ws, ws.length ≤ 1024 → Bit.Can ws → Bit.Can (l.foldl backW ws) ∧ (l.foldl backW ws).length ≤ 1024 := by
  induction l with
  | nil => exact fun ws h1 h2 => ⟨h2, h1⟩
  | cons i l ih => exact fun ws h1 h2 => ih _ (back_length h1 i) (back_can h2.1 i)
theorem gen_can (l : List InsD) : Bit.Can (genW l) ∧ (genW l).length ≤ 1024 := foldl_back _ [] (by simp) Bit.can_nil
theorem kill_can (l : List InsD) : Bit.Can (killW l) ∧ (killW l).length ≤ 1024 := ⟨Bit.of_can _, Nat.le_trans (Bit.trim_length _) (Bit.rawOf_ok _).2⟩

/-- What is alive behind a block, of what is alive ahead of each. -/
def outW (L : List (List InsD)) (I : List (List Nat)) (b : Nat) : List Nat := (succS L b).foldl (fun o k => Bit.orW o (I.getD k.toNat [])) []
/-- .. and ahead of it. -/
def inW (L : List (List InsD)) (I : List (List Nat)) (b : Nat) : List Nat := Bit.orW (genW (L.getD b [])) (Bit.subW (outW L I b) (killW (L.getD b [])))
/-- One block of a sweep: the sets ahead, those behind, whether something has turned. -/
def stepW (L : List (List InsD)) (s : List (List Nat) × List (List Nat) × Bool) (b : Nat) : List (List Nat) × List (List Nat) × Bool :=
  (s.1.set b (inW L s.1 b), s.2.1.set b (outW L s.1 b), s.2.2 || decide (inW L s.1 b ≠ s.1.getD b []) || decide (outW L s.1 b ≠ s.2.1.getD b []))
/-- The sweep's first k blocks: n - 1, n - 2, ... -/
def sweepW (L : List (List InsD)) (I O : List (List Nat)) (k : Nat) : List (List Nat) × List (List Nat) × Bool :=
  (List.range k).foldl (fun s j => stepW L s (L.length - 1 - j)) (I, O, false)
theorem sweepW_succ (L : List (List InsD)) (I O : List (List Nat)) (k : Nat) : sweepW L I O (k + 1) = stepW L (sweepW L I O k) (L.length - 1 - k) := by
  unfold sweepW; rw [List.range_succ, List.foldl_append]; rfl
/-- Sets in order: no noughts at the end, not too long. -/
def Good1 (ws : List Nat) : Prop := Bit.Can ws ∧ ws.length ≤ 1024
theorem good_nil : Good1 [] := ⟨Bit.can_nil, by simp⟩
theorem zip_trim_length (f : Nat → Nat → Nat) {a b : List Nat} (ha : a.length ≤ 1024) (hb : b.length ≤ 1024) : (Bit.trim (Bit.zipS f a b)).length ≤ 1024 := by
  refine Nat.le_trans (Bit.trim_length _) ?_
  rw [Bit.zipS_length]; omega
theorem good_or {a b : List Nat} (ha : Good1 a) (hb : Good1 b) : Good1 (Bit.orW a b) := ⟨Bit.or_can ha.1.1 hb.1.1, zip_trim_length _ ha.2 hb.2⟩
theorem good_sub {a b : List Nat} (ha : Good1 a) (hb : Good1 b) : Good1 (Bit.subW a b) := ⟨Bit.sub_can ha.1.1 hb.1.1, zip_trim_length _ ha.2 hb.2⟩
theorem good_getD {I : List (List Nat)} (h : ∀ ws ∈ I, Good1 ws) (k : Nat) : Good1 (I.getD k []) := by
  by_cases hk : k < I.length
  · have : I.getD k [] = I[k] := by simp [List.getD, hk]
    rw [this]; exact h _ (List.getElem_mem hk)
  · have : I.getD k [] = [] := by simp [List.getD, List.getElem?_eq_none (show I.length ≤ k by omega)]
    rw [this]; exact good_nil
theorem good_fold {I : List (List Nat)} (h : ∀ ws ∈ I, Good1 ws) (ks : List Int) : ∀ o, Good1 o → Good1 (ks.foldl (fun o k => Bit.orW o (I.getD k.toNat [])) o) := by
  induction ks with
  | nil => exact fun o ho => ho
  | cons k ks ih => exact fun o ho => ih _ (good_or ho (good_getD h _))
theorem good_out (L : List (List InsD)) {I : List (List Nat)} (h : ∀ ws ∈ I, Good1 ws) (b : Nat) : Good1 (outW L I b) := good_fold h _ _ good_nil
theorem good_in (L : List (List InsD)) {I : List (List Nat)} (h : ∀ ws ∈ I, Good1 ws) (b : Nat) : Good1 (inW L I b) :=
  good_or ⟨(gen_can _).1, (gen_can _).2⟩ (good_sub (good_out L h b) ⟨(kill_can _).1, (kill_can _).2⟩)
theorem good_set {I : List (List Nat)} (h : ∀ ws ∈ I, Good1 ws) {x : List Nat} (hx : Good1 x) (b : Nat) : ∀ ws ∈ I.set b x, Good1 ws := fun ws hw => by
  rcases List.mem_or_eq_of_mem_set hw with h1 | h1
  · exact h _ h1
  · rw [h1]; exact hx
theorem good_sweep (L : List (List InsD)) {I O : List (List Nat)} (hI : ∀ ws ∈ I, Good1 ws) (hO : ∀ ws ∈ O, Good1 ws) (k : Nat) :
    (∀ ws ∈ (sweepW L I O k).1, Good1 ws) ∧ (∀ ws ∈ (sweepW L I O k).2.1, Good1 ws) ∧ (sweepW L I O k).1.length = I.length ∧ (sweepW L I O k).2.1.length = O.length := by
  induction k with
  | zero => exact ⟨hI, hO, rfl, rfl⟩
  | succ k ih =>
    rw [sweepW_succ]
    unfold stepW
    exact ⟨good_set ih.1 (good_in L ih.1 _) _, good_set ih.2.1 (good_out L ih.1 _) _, by rw [List.length_set]; exact ih.2.2.1, by rw [List.length_set]; exact ih.2.2.2⟩
theorem has_nil (m : Nat) : Bit.has [] m = false := by simp [Bit.has]
theorem has_fold (I : List (List Nat)) (m : Nat) (ks : List Int) : ∀ o, Bit.has (ks.foldl (fun o k => Bit.orW o (I.getD k.toNat [])) o) m = true ↔ Bit.has o m = true ∨ ∃ k ∈ ks, Bit.has (I.getD k.toNat []) m = true := by
  induction ks with
  | nil => intro o; simp
  | cons k ks ih =>
    intro o
    rw [List.foldl_cons, ih, Bit.has_or, Bool.or_eq_true]
    simp only [List.mem_cons, exists_eq_or_imp]
    exact or_assoc
theorem has_out (L : List (List InsD)) (I : List (List Nat)) (b m : Nat) : Bit.has (outW L I b) m = true ↔ ∃ k ∈ succS L b, Bit.has (I.getD k.toNat []) m = true := by
  unfold outW
  rw [has_fold, has_nil]
  simp
theorem has_in (L : List (List InsD)) (I : List (List Nat)) (b m : Nat) : Bit.has (inW L I b) m = true ↔ Bit.has (genW (L.getD b [])) m = true ∨ (Bit.has (outW L I b) m = true ∧ Bit.has (killW (L.getD b [])) m = false) := by
  unfold inW
  rw [Bit.has_or, Bit.has_sub (kill_can _).1.1, Bool.or_eq_true, Bool.and_eq_true]
  simp
/-- More ahead of blocks. -/
def Sub (I J : List (List Nat)) : Prop := ∀ k m, Bit.has (I.getD k []) m = true → Bit.has (J.getD k []) m = true
theorem out_mono (L : List (List InsD)) {I J : List (List Nat)} (h : Sub I J) (b m : Nat) (hm : Bit.has (outW L I b) m = true) : Bit.has (outW L J b) m = true := by
  rw [has_out] at hm ⊢
  obtain ⟨k, hk, hm⟩ := hm
  exact ⟨k, hk, h _ _ hm⟩
theorem in_mono (L : List (List InsD)) {I J : List (List Nat)} (h : Sub I J) (b m : Nat) (hm : Bit.has (inW L I b) m = true) : Bit.has (inW L J b) m = true := by
  rw [has_in] at hm ⊢
  rcases hm with hm | ⟨hm, hk⟩
  · exact .inl hm
  · exact .inr ⟨out_mono L h b m hm, hk⟩
theorem getD_set {I : List (List Nat)} (b k : Nat) (x : List Nat) : (I.set b x).getD k [] = if b = k ∧ k < I.length then x else I.getD k [] := by
  rw [List.getD_eq_getElem?_getD, List.getElem?_set, List.getD_eq_getElem?_getD]
  by_cases h1 : b = k
  · by_cases h2 : k < I.length
    · subst h1; simp [h2]
    · subst h1; simp [h2]
  · simp [h1]
/-- All that the sets have, the next sweep finds again. -/
def Inv (L : List (List InsD)) (I O : List (List Nat)) : Prop := Sub I ((List.range I.length).map (inW L I)) ∧ Sub O ((List.range O.length).map (outW L I))
theorem range_getD (n : Nat) (f : Nat → List Nat) (k : Nat) : ((List.range n).map f).getD k [] = if k < n then f k else [] := by
  rw [List.getD_eq_getElem?_getD]
  by_cases h : k < n <;> simp [h]
theorem sub_set {I : List (List Nat)} {b : Nat} {x : List Nat} (h : ∀ m, b < I.length → Bit.has (I.getD b []) m = true → Bit.has x m = true) : Sub I (I.set b x) := fun k m hm => by
  rw [getD_set]
  split
  · rename_i hh; obtain ⟨rfl, h2⟩ := hh; exact h m h2 hm
  · exact hm
theorem Inv.step {L : List (List InsD)} {I O : List (List Nat)} (h : Inv L I O) (b : Nat) :
    Inv L (I.set b (inW L I b)) (O.set b (outW L I b)) ∧ Sub I (I.set b (inW L I b)) ∧ Sub O (O.set b (outW L I b)) := by
  have s1 : Sub I (I.set b (inW L I b)) := sub_set fun m hb hm => by
    have := h.1 b m hm
    rwa [range_getD, if_pos hb] at this
  have s2 : Sub O (O.set b (outW L I b)) := sub_set fun m hb hm => by
    have := h.2 b m hm
    rwa [range_getD, if_pos hb] at this
  refine ⟨⟨fun k m hm => ?_, fun k m hm => ?_⟩, s1, s2⟩
  · rw [range_getD, List.length_set]
    rw [getD_set] at hm
    split at hm
    · rename_i hh; obtain ⟨rfl, h2⟩ := hh
      rw [if_pos h2]; exact in_mono L s1 _ _ hm
    · have := h.1 k m hm
      rw [range_getD] at this
      split at this
      · rename_i hk; rw [if_pos hk]; exact in_mono L s1 _ _ this
      · rw [has_nil] at this; exact absurd this (by simp)
  · rw [range_getD, List.length_set]
    rw [getD_set] at hm
    split at hm
    · rename_i hh; obtain ⟨rfl, h2⟩ := hh
      rw [if_pos h2]; exact out_mono L s1 _ _ hm
    · have := h.2 k m hm
      rw [range_getD] at this
      split at this
      · rename_i hk; rw [if_pos hk]; exact out_mono L s1 _ _ this
      · rw [has_nil] at this; exact absurd this (by simp)
theorem Sub.refl (I : List (List Nat)) : Sub I I := fun _ _ h => h
theorem Sub.trans {I J K : List (List Nat)} (h : Sub I J) (k : Sub J K) : Sub I K := fun i m hm => k i m (h i m hm)
theorem Inv.sweep {L : List (List InsD)} {I O : List (List Nat)} (h : Inv L I O) (k : Nat) : Inv L (sweepW L I O k).1 (sweepW L I O k).2.1 ∧ Sub I (sweepW L I O k).1 ∧ Sub O (sweepW L I O k).2.1 := by
  induction k with
  | zero => exact ⟨h, Sub.refl _, Sub.refl _⟩
  | succ k ih =>
    rw [sweepW_succ]
    obtain ⟨h1, h2, h3⟩ := ih.1.step (L.length - 1 - k)
    exact ⟨h1, ih.2.1.trans h2, ih.2.2.trans h3⟩
theorem replicate_getD (n k : Nat) : (List.replicate n ([] : List Nat)).getD k [] = [] := by
  rw [List.getD_eq_getElem?_getD, List.getElem?_replicate]; split <;> rfl
theorem Inv.start (L : List (List InsD)) (n : Nat) : Inv L (List.replicate n []) (List.replicate n []) :=
  ⟨fun k m hm => by rw [replicate_getD, has_nil] at hm; exact absurd hm (by simp), fun k m hm => by rw [replicate_getD, has_nil] at hm; exact absurd hm (by simp)⟩
/-- How many numbers a set has. -/
def cnt (ws : List Nat) : Nat := (List.range 65536).countP (Bit.has ws)
theorem countP_lt {p q : Nat → Bool} : ∀ {l : List Nat} {m : Nat}, (∀ x ∈ l, p x = true → q x = true) → m ∈ l → q m = true → p m = false → l.countP p < l.countP q
  | [], _, _, hm, _, _ => by simp at hm
  | x :: l, m, h, hm, hq, hp => by
    have hle : l.countP p ≤ l.countP q := List.countP_mono_left fun y hy => h y (by simp [hy])
    rw [List.countP_cons, List.countP_cons]
    rcases List.mem_cons.1 hm with rfl | hm
    · rw [hq, hp]; simp; omega
    · have := countP_lt (fun y hy => h y (by simp [hy])) hm hq hp
      have hx := h x (by simp)
      cases hpx : p x with
      | true => rw [hx hpx]; simp; exact this
      | false => cases q x <;> simp <;> omega
theorem cnt_le {a b : List Nat} (h : ∀ m, Bit.has a m = true → Bit.has b m = true) : cnt a ≤ cnt b := List.countP_mono_left fun m _ => h m
theorem cnt_lt {a b : List Nat} (ha : Good1 a) (hb : Good1 b) (h : ∀ m, Bit.has a m = true → Bit.has b m = true) (hne : a ≠ b) : cnt a < cnt b := by
  by_cases hex : ∃ m, Bit.has b m = true ∧ Bit.has a m = false
  · obtain ⟨m, h1, h2⟩ := hex
    have := Bit.has_lt h1
    exact countP_lt (fun x _ => h x) (List.mem_range.2 (by have := hb.2; omega)) h1 h2
  · exfalso
    refine hne (Bit.can_ext ha.1 hb.1 fun m => ?_)
    cases h1 : Bit.has a m with
    | true => rw [h m h1]
    | false =>
      cases h2 : Bit.has b m with
      | false => rfl
      | true => exact absurd ⟨m, h2, h1⟩ hex
theorem cnt_max (a : List Nat) : cnt a ≤ 65536 := Nat.le_trans (List.countP_le_length) (by simp)
/-- How many numbers all sets have. -/
def tot : List (List Nat) → Nat
  | [] => 0
  | ws :: I => cnt ws + tot I
theorem tot_set : ∀ {I : List (List Nat)} {b : Nat} (x : List Nat), b < I.length → tot (I.set b x) + cnt (I.getD b []) = tot I + cnt x
  | [], _, _, h => by simp at h
  | ws :: I, 0, x, _ => by simp [tot]; omega
  | ws :: I, b + 1, x, h => by
    have := tot_set (I := I) (b := b) x (by simpa using h)
    simp [tot] at this ⊢
    omega
theorem tot_grow {I : List (List Nat)} {b : Nat} {x : List Nat} (hI : ∀ ws ∈ I, Good1 ws) (hx : Good1 x) (hb : b < I.length) (h : ∀ m, Bit.has (I.getD b []) m = true → Bit.has x m = true) :
    tot I + (if x ≠ I.getD b [] then 1 else 0) ≤ tot (I.set b x) := by
  have h1 := tot_set x hb
  by_cases hne : x = I.getD b []
  · rw [if_neg (by simpa using hne)]
    rw [← hne] at h1
    omega
  · have := cnt_lt (good_getD hI b) hx h (fun e => hne e.symm)
    rw [if_pos hne]
    omega
theorem tot_max : ∀ (I : List (List Nat)), tot I ≤ 65536 * I.length
  | [] => by simp [tot]
  | ws :: I => by have := tot_max I; have := cnt_max ws; simp [tot]; omega
/-- A sweep that turns something makes the sets more. -/
theorem sweep_tot {L : List (List InsD)} {I O : List (List Nat)} (h : Inv L I O) (gI : ∀ ws ∈ I, Good1 ws) (gO : ∀ ws ∈ O, Good1 ws) (lI : I.length = L.length) (lO : O.length = L.length) (k : Nat) (hk : k ≤ L.length) :
    tot I + tot O + (if (sweepW L I O k).2.2 = true then 1 else 0) ≤ tot (sweepW L I O k).1 + tot (sweepW L I O k).2.1 := by
  induction k with
  | zero => simp [sweepW]
  | succ k ih =>
    have ih := ih (by omega)
    obtain ⟨g1, g2, l1, l2⟩ := good_sweep L gI gO k
    obtain ⟨hv, -, -⟩ := h.sweep k
    rw [sweepW_succ]
    generalize hS : sweepW L I O k = s at ih g1 g2 l1 l2 hv
    obtain ⟨I', O', fl⟩ := s
    dsimp only at ih g1 g2 l1 l2 hv
    have hb : L.length - 1 - k < L.length := by omega
    generalize L.length - 1 - k = b at hb
    have t1 := tot_grow (b := b) g1 (good_in L g1 b) (by omega) (fun m hm => by
      have := hv.1 b m hm
      rwa [range_getD, if_pos (by omega)] at this)
    have t2 := tot_grow (b := b) g2 (good_out L g1 b) (by omega) (fun m hm => by
      have := hv.2 b m hm
      rwa [range_getD, if_pos (by omega)] at this)
    unfold stepW
    dsimp only
    by_cases e1 : inW L I' b = I'.getD b []
    · by_cases e2 : outW L I' b = O'.getD b []
      · cases fl <;> simp [e1, e2] at ih t1 t2 ⊢ <;> omega
      · rw [if_pos e2] at t2
        have : (if (fl || decide (inW L I' b ≠ I'.getD b []) || decide (outW L I' b ≠ O'.getD b [])) = true then 1 else 0) ≤ 1 := by split <;> omega
        split at t1 <;> split at ih <;> omega
    · rw [if_pos e1] at t1
      have : (if (fl || decide (inW L I' b ≠ I'.getD b []) || decide (outW L I' b ≠ O'.getD b [])) = true then 1 else 0) ≤ 1 := by split <;> omega
      split at t2 <;> split at ih <;> omega
theorem set_same (I : List (List Nat)) (b : Nat) : I.set b (I.getD b []) = I := by
  refine List.ext_getElem (by simp) fun k h1 h2 => ?_
  rw [List.getElem_set]
  split
  · rename_i h; subst h; simp [List.getD, h2]
  · rfl
/-- A sweep that turns nothing: each set is what the others tell. -/
theorem sweep_still {L : List (List InsD)} {I O : List (List Nat)} (k : Nat) (h : (sweepW L I O k).2.2 = false) :
    (sweepW L I O k).1 = I ∧ (sweepW L I O k).2.1 = O ∧ ∀ j, j < k → I.getD (L.length - 1 - j) [] = inW L I (L.length - 1 - j) ∧ O.getD (L.length - 1 - j) [] = outW L I (L.length - 1 - j) := by
  induction k with
  | zero => exact ⟨rfl, rfl, fun j hj => by omega⟩
  | succ k ih =>
    rw [sweepW_succ] at h ⊢
    unfold stepW at h ⊢
    dsimp only at h ⊢
    rw [Bool.or_eq_false_iff, Bool.or_eq_false_iff] at h
    obtain ⟨⟨h1, h2⟩, h3⟩ := h
    obtain ⟨i1, i2, i3⟩ := ih h1
    rw [i1] at h2
    rw [i1, i2] at h3
    have e1 : inW L I (L.length - 1 - k) = I.getD (L.length - 1 - k) [] := by simpa using h2
    have e2 : outW L I (L.length - 1 - k) = O.getD (L.length - 1 - k) [] := by simpa using h3
    rw [i1, i2, e1, e2, set_same, set_same]
    refine ⟨rfl, rfl, fun j hj => ?_⟩
    by_cases e : j = k
    · subst e; exact ⟨e1.symm, e2.symm⟩
    · exact i3 j (by omega)
/-- What every answer to the equations has at least. -/
theorem sweep_least {L : List (List InsD)} {I O J : List (List Nat)} (hJ : ∀ b m, b < L.length → Bit.has (inW L J b) m = true → Bit.has (J.getD b []) m = true) (lI : I.length = L.length) (h : Sub I J) (k : Nat) :
    (sweepW L I O k).1.length = L.length ∧ Sub (sweepW L I O k).1 J := by
  induction k with
  | zero => exact ⟨lI, h⟩
  | succ k ih =>
    rw [sweepW_succ]
    unfold stepW
    dsimp only
    refine ⟨by rw [List.length_set]; exact ih.1, fun b m hm => ?_⟩
    rw [getD_set] at hm
    split at hm
    · rename_i hh
      obtain ⟨rfl, h2⟩ := hh
      exact hJ _ m (by omega) (in_mono L ih.2 _ m hm)
    · exact ih.2 b m hm
end Go.Proofs.Ytcihobmjohpnkaa
