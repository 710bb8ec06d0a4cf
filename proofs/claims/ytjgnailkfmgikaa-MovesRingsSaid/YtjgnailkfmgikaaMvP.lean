/- The plain law of moves at one time, done one behind the other. Nothing here names the program. -/
namespace Go.Proofs.Ytjgnailkfmgikaa
namespace Mv

theorem rev_ind {α : Type} {P : List α → Prop} (h0 : P []) (hs : ∀ l a, P l → P (l ++ [a])) (l : List α) : P l := by
  have : ∀ r : List α, P r.reverse := by
    intro r
    induction r with
    | nil => exact h0
    | cons a r ih => rw [List.reverse_cons]; exact hs _ _ ih
  simpa using this l.reverse

abbrev PF := Int → Option Int
def upd (f : PF) (k v : Int) : PF := fun x => if x = k then some v else f x
def del (f : PF) (k : Int) : PF := fun x => if x = k then none else f x
theorem upd_same (f : PF) (k v : Int) : upd f k v k = some v := by simp [upd]
theorem upd_other (f : PF) {k x : Int} (v : Int) (h : x ≠ k) : upd f k v x = f x := by simp [upd, h]
theorem del_same (f : PF) (k : Int) : del f k k = none := by simp [del]
theorem del_other (f : PF) {k x : Int} (h : x ≠ k) : del f k x = f x := by simp [del, h]
theorem del_some {f : PF} {k x y : Int} (h : del f k x = some y) : x ≠ k ∧ f x = some y := by
  unfold del at h; split at h
  · simp at h
  · rename_i hx; exact ⟨hx, h⟩

/-- The moves of unlike places. -/
def unl (l : List (Int × Int)) : List (Int × Int) := l.filter fun m => m.1 != m.2
def ordS (l : List (Int × Int)) : List Int := (unl l).map (·.1)
def fromS (l : List (Int × Int)) : PF := (unl l).foldl (fun f m => upd f m.1 m.2) (fun _ => none)
def readsS (l : List (Int × Int)) (x : Int) : Nat := ((unl l).filter fun m => m.2 == x).length
def seenS (l : List (Int × Int)) (x : Int) : Nat := (l.filter fun m => m.1 == x).length

theorem unl_snoc (l : List (Int × Int)) (m : Int × Int) : unl (l ++ [m]) = if m.1 = m.2 then unl l else unl l ++ [m] := by
  unfold unl; rw [List.filter_append]
  by_cases h : m.1 = m.2 <;> simp [h]
theorem ordS_snoc (l : List (Int × Int)) (m : Int × Int) : ordS (l ++ [m]) = if m.1 = m.2 then ordS l else ordS l ++ [m.1] := by
  unfold ordS; rw [unl_snoc]; split <;> simp
theorem fromS_snoc (l : List (Int × Int)) (m : Int × Int) : fromS (l ++ [m]) = if m.1 = m.2 then fromS l else upd (fromS l) m.1 m.2 := by
  unfold fromS; rw [unl_snoc]; split <;> simp
theorem readsS_snoc (l : List (Int × Int)) (m : Int × Int) (x : Int) : readsS (l ++ [m]) x = if m.1 = m.2 then readsS l x else readsS l x + (if m.2 = x then 1 else 0) := by
  unfold readsS; rw [unl_snoc]; split
  · rfl
  · rw [List.filter_append]; by_cases h : m.2 = x <;> simp [h]
theorem seenS_snoc (l : List (Int × Int)) (m : Int × Int) (x : Int) : seenS (l ++ [m]) x = seenS l x + (if m.1 = x then 1 else 0) := by
  unfold seenS; rw [List.filter_append]; by_cases h : m.1 = x <;> simp [h]
theorem readsS_le (l : List (Int × Int)) (x : Int) : readsS l x ≤ l.length := Nat.le_trans (List.length_filter_le _ _) (List.length_filter_le _ _)
theorem seenS_le (l : List (Int × Int)) (x : Int) : seenS l x ≤ l.length := List.length_filter_le _ _
theorem ordS_le (l : List (Int × Int)) : (ordS l).length ≤ l.length := by unfold ordS; rw [List.length_map]; exact List.length_filter_le _ _
theorem seenS_pos {l : List (Int × Int)} {x : Int} : 0 < seenS l x ↔ x ∈ l.map (·.1) := by
  unfold seenS
  rw [List.length_pos_iff_exists_mem]
  simp only [List.mem_filter, List.mem_map, beq_iff_eq]

/-- No place is written twice. -/
def Once (l : List (Int × Int)) : Prop := (l.map (·.1)).Nodup
theorem Once.snoc {l : List (Int × Int)} {m : Int × Int} (h : Once l) (hm : m.1 ∉ l.map (·.1)) : Once (l ++ [m]) := by
  unfold Once at *
  rw [List.map_append, List.nodup_append]
  refine ⟨h, by simp, ?_⟩
  intro a ha b hb
  simp at hb
  rintro rfl
  exact hm (hb ▸ ha)
theorem Once.pre {l r : List (Int × Int)} (h : Once (l ++ r)) : Once l := by
  unfold Once at *; rw [List.map_append, List.nodup_append] at h; exact h.1
theorem not_once {l r : List (Int × Int)} {m : Int × Int} (h : m.1 ∈ l.map (·.1)) : ¬ Once (l ++ m :: r) := by
  intro ho
  unfold Once at ho
  rw [List.map_append, List.nodup_append] at ho
  exact ho.2.2 _ h m.1 (by simp) rfl

theorem mem_unl {l : List (Int × Int)} {x y : Int} : (x, y) ∈ unl l ↔ (x, y) ∈ l ∧ x ≠ y := by simp [unl, List.mem_filter]
theorem mem_ordS {l : List (Int × Int)} {x : Int} : x ∈ ordS l ↔ ∃ y, (x, y) ∈ l ∧ x ≠ y := by
  unfold ordS
  simp only [List.mem_map]
  constructor
  · rintro ⟨⟨a, b⟩, h, rfl⟩; exact ⟨b, mem_unl.1 h⟩
  · rintro ⟨y, h⟩; exact ⟨(x, y), mem_unl.2 h, rfl⟩
theorem ordS_nodup {l : List (Int × Int)} (h : Once l) : (ordS l).Nodup := by
  unfold ordS unl
  exact (List.Sublist.map _ List.filter_sublist).nodup h

theorem fromS_of_mem : ∀ {l : List (Int × Int)}, Once l → ∀ {x y : Int}, (x, y) ∈ unl l → fromS l x = some y := by
  intro l
  induction l using rev_ind with
  | h0 => intro _ x y h; simp [unl] at h
  | hs l m ih =>
    intro ho x y h
    have ho' := ho.pre
    rw [fromS_snoc]
    rw [unl_snoc] at h
    split
    · rename_i hm; rw [if_pos hm] at h; exact ih ho' h
    · rename_i hm
      rw [if_neg hm] at h
      rcases List.mem_append.1 h with h | h
      · have hx : x ≠ m.1 := by
          rintro rfl
          exact not_once (l := l) (r := []) (m := m) (List.mem_map.2 ⟨_, (mem_unl.1 h).1, rfl⟩) ho
        rw [upd_other _ _ hx]; exact ih ho' h
      · simp at h; subst h; simp [upd]
theorem mem_of_fromS : ∀ {l : List (Int × Int)} {x y : Int}, fromS l x = some y → (x, y) ∈ unl l := by
  intro l
  induction l using rev_ind with
  | h0 => intro x y h; simp [fromS, unl] at h
  | hs l m ih =>
    intro x y h
    rw [fromS_snoc] at h
    rw [unl_snoc]
    split at h
    · rename_i hm; rw [if_pos hm]; exact ih h
    · rename_i hm
      rw [if_neg hm]
      unfold upd at h
      split at h
      · rename_i hx; simp at h; subst hx; subst h; simp
      · exact List.mem_append.2 (.inl (ih h))
theorem fromS_iff {l : List (Int × Int)} (h : Once l) {x y : Int} : fromS l x = some y ↔ (x, y) ∈ l ∧ x ≠ y := by
  rw [← mem_unl]; exact ⟨mem_of_fromS, fromS_of_mem h⟩
theorem fromS_dom {l : List (Int × Int)} (h : Once l) {x : Int} : fromS l x ≠ none ↔ x ∈ ordS l := by
  rw [mem_ordS]
  constructor
  · intro hx
    obtain ⟨y, hy⟩ := Option.ne_none_iff_exists'.1 hx
    exact ⟨y, (fromS_iff h).1 hy⟩
  · rintro ⟨y, hy⟩; rw [(fromS_iff h).2 hy]; simp
theorem readsS_zero {l : List (Int × Int)} (h : Once l) {x : Int} : readsS l x = 0 ↔ ∀ z, fromS l z ≠ some x := by
  unfold readsS
  rw [List.length_eq_zero_iff, List.filter_eq_nil_iff]
  constructor
  · intro hm z hz
    exact hm _ (mem_of_fromS hz) (by simp)
  · rintro hz ⟨a, b⟩ hm hb
    simp at hb; subst hb
    exact hz a (fromS_of_mem h hm)

/-- What stands in a place behind moves. -/
def aft (out : List (Int × Int)) : Int → Int := out.foldl (fun f m => fun x => if x = m.1 then f m.2 else f x) id
theorem aft_snoc (out : List (Int × Int)) (m : Int × Int) (x : Int) : aft (out ++ [m]) x = if x = m.1 then aft out m.2 else aft out x := by
  unfold aft; rw [List.foldl_append]; rfl

def num (xs : List Int) (G : PF) : Nat := (xs.filter fun x => (G x).isSome).length
theorem num_del {xs : List Int} (hn : xs.Nodup) {G : PF} {p : Int} (hp : p ∈ xs) (hG : G p ≠ none) : num xs (del G p) + 1 = num xs G := by
  induction xs with
  | nil => simp at hp
  | cons a xs ih =>
    have hn' := List.nodup_cons.1 hn
    unfold num at *
    by_cases ha : a = p
    · subst ha
      have e : (xs.filter fun x => (del G a x).isSome) = xs.filter fun x => (G x).isSome := by
        apply List.filter_congr
        intro x hx
        rw [del_other]
        rintro rfl; exact hn'.1 hx
      obtain ⟨y, hy⟩ := Option.ne_none_iff_exists'.1 hG
      simp [del_same, e, hy]
    · have hp' : p ∈ xs := by
        rcases List.mem_cons.1 hp with h | h
        · exact absurd h.symm ha
        · exact h
      have := ih hn'.2 hp'
      have e : del G p a = G a := del_other _ ha
      cases hh : (G a).isSome <;> simp [e, hh] <;> omega

/-- A set of places each of which is read, and by these alone. -/
def Shut (F : PF) (C : Int → Prop) : Prop := ∀ x, C x → F x ≠ none ∧ (∃ z, C z ∧ F z = some x) ∧ ∀ z, F z = some x → C z

structure FInv (l : List (Int × Int)) (G N : PF) (ready : List Int) (out : List (Int × Int)) : Prop where
  sub : ∀ x, G x = none ∨ G x = fromS l x
  rdy : ∀ x ∈ ready, G x ≠ none
  rnd : ready.Nodup
  saved : ∀ q c, N q = some c → G c = none ∧ fromS l c = some q
  done : ∀ p q, fromS l p = some q → G p = none → N q ≠ none
  why : ∀ x, (x ∈ ready ∨ (G x = none ∧ fromS l x ≠ none)) → (readsS l x = 0 ∨ N x ≠ none)
  whynot : ∀ x, fromS l x ≠ none → (readsS l x = 0 ∨ N x ≠ none) → x ∈ ready ∨ G x = none
  aft : ∀ x, (G x = none → ∀ y, fromS l x = some y → aft out x = y) ∧ ((G x ≠ none ∨ fromS l x = none) → aft out x = x)
  len : out.length + num (ordS l) G = (ordS l).length
  dst : ∀ m ∈ out, m.1 ∈ ordS l
  gr : ∀ C, Shut (fromS l) C → ∀ x, C x → G x ≠ none ∧ x ∉ ready ∧ N x = none

theorem FInv.start {l : List (Int × Int)} (h : Once l) : FInv l (fromS l) (fun _ => none) ((ordS l).filter fun x => readsS l x == 0) [] where
  sub x := .inr rfl
  rdy x hx := (fromS_dom h).2 (List.mem_filter.1 hx).1
  rnd := (ordS_nodup h).filter _
  saved q c hc := by simp at hc
  done p q hp hn := by rw [hp] at hn; simp at hn
  why x hx := by
    rcases hx with hx | ⟨h1, h2⟩
    · exact .inl (by simpa using (List.mem_filter.1 hx).2)
    · exact absurd h1 h2
  whynot x hx hr := by
    rcases hr with hr | hr
    · exact .inl (List.mem_filter.2 ⟨(fromS_dom h).1 hx, by simp [hr]⟩)
    · simp at hr
  aft x := ⟨fun hn y hy => (by rw [hy] at hn; simp at hn), fun _ => rfl⟩
  len := by
    have : (ordS l).filter (fun x => (fromS l x).isSome) = ordS l := by
      rw [List.filter_eq_self]
      intro a ha
      obtain ⟨y, hy⟩ := Option.ne_none_iff_exists'.1 ((fromS_dom h).2 ha)
      simp [hy]
    unfold num; rw [this]; simp
  dst m hm := by simp at hm
  gr C hC x hx := by
    obtain ⟨h1, ⟨z, hz, hz'⟩, h3⟩ := hC x hx
    refine ⟨h1, fun hm => ?_, rfl⟩
    have := (List.mem_filter.1 hm).2
    simp at this
    exact (readsS_zero h).1 this z hz'

section
variable {l : List (Int × Int)} {G N : PF} {ready : List Int} {out : List (Int × Int)} {p q : Int}

theorem FInv.here (h : FInv l G N (p :: ready) out) (hq : G p = some q) : fromS l p = some q := by
  rcases h.sub p with h1 | h1
  · rw [h1] at hq; simp at hq
  · rw [← h1]; exact hq

theorem FInv.stepA (ho : Once l) {c : Int} (h : FInv l G N (p :: ready) out) (hq : G p = some q) (hc : N q = some c) : FInv l (del G p) N ready (out ++ [(p, c)]) := by
  have hF := h.here hq
  have hnd := List.nodup_cons.1 h.rnd
  obtain ⟨hc1, hc2⟩ := h.saved q c hc
  have hpo : p ∈ ordS l := (fromS_dom ho).1 (by rw [hF]; simp)
  have hnone : ∀ {x}, G x = none → del G p x = none := fun {x} hx => by unfold del; split <;> simp [hx]
  refine ⟨fun x => ?_, fun x hx => ?_, hnd.2, fun q' c' hc' => ?_, fun p' q' hp' hn => ?_, fun x hx => ?_, fun x hx hr => ?_, fun x => ?_, ?_, fun m hm => ?_, fun C hC x hx => ?_⟩
  · by_cases e : x = p
    · exact .inl (by rw [e, del_same])
    · rw [del_other _ e]; exact h.sub x
  · have : x ≠ p := fun e => hnd.1 (e ▸ hx)
    rw [del_other _ this]; exact h.rdy x (by simp [hx])
  · obtain ⟨a, b⟩ := h.saved q' c' hc'; exact ⟨hnone a, b⟩
  · by_cases e : p' = p
    · subst e; rw [hF] at hp'; simp at hp'; subst hp'; rw [hc]; simp
    · rw [del_other _ e] at hn; exact h.done p' q' hp' hn
  · refine h.why x ?_
    rcases hx with hx | ⟨h1, h2⟩
    · exact .inl (by simp [hx])
    · by_cases e : x = p
      · exact .inl (by simp [e])
      · rw [del_other _ e] at h1; exact .inr ⟨h1, h2⟩
  · rcases h.whynot x hx hr with h1 | h1
    · rcases List.mem_cons.1 h1 with h1 | h1
      · exact .inr (by rw [h1, del_same])
      · exact .inl h1
    · exact .inr (hnone h1)
  · rw [aft_snoc]
    by_cases e : x = p
    · subst e
      refine ⟨fun _ y hy => ?_, fun hx => ?_⟩
      · rw [if_pos rfl]; rw [hF] at hy; simp at hy; subst hy
        exact (h.aft c).1 hc1 _ hc2
      · rw [del_same, hF] at hx; simp at hx
    · rw [if_neg (by simpa using e), del_other _ e]; exact h.aft x
  · have := num_del (ordS_nodup ho) (G := G) hpo (by rw [hq]; simp)
    have := h.len
    simp; omega
  · rcases List.mem_append.1 hm with hm | hm
    · exact h.dst m hm
    · simp at hm; subst hm; exact hpo
  · obtain ⟨a, b, c⟩ := h.gr C hC x hx
    have : x ≠ p := fun e => b (by simp [e])
    rw [del_other _ this]
    exact ⟨a, fun hm => b (by simp [hm]), c⟩

theorem FInv.stepB (ho : Once l) (h : FInv l G N (p :: ready) out) (hq : G p = some q) (hc : N q = none) :
    FInv l (del G p) (upd N q p) (if del G p q = none then ready else ready ++ [q]) (out ++ [(p, q)]) := by
  have hF := h.here hq
  have hnd := List.nodup_cons.1 h.rnd
  have hpo : p ∈ ordS l := (fromS_dom ho).1 (by rw [hF]; simp)
  have hpq : p ≠ q := ((fromS_iff ho).1 hF).2
  have hrd : readsS l q ≠ 0 := fun e => (readsS_zero ho).1 e p hF
  have hqn : ∀ {x}, (x ∈ p :: ready ∨ (G x = none ∧ fromS l x ≠ none)) → x ≠ q := fun {x} hx e => by
    subst e
    rcases h.why x hx with h1 | h1
    · exact hrd h1
    · exact h1 hc
  have hnone : ∀ {x}, G x = none → del G p x = none := fun {x} hx => by unfold del; split <;> simp [hx]
  have hN : ∀ {x}, N x ≠ none → upd N q p x ≠ none := fun {x} hx => by unfold upd; split <;> simp [hx]
  have hsub : ∀ {x}, x ∈ ready → x ∈ (if del G p q = none then ready else ready ++ [q]) := fun {x} hx => by split <;> simp [hx]
  have hmem : ∀ {x}, x ∈ (if del G p q = none then ready else ready ++ [q]) → x ∈ ready ∨ (x = q ∧ del G p q ≠ none) := fun {x} hx => by
    split at hx
    · exact .inl hx
    · rename_i hd
      rcases List.mem_append.1 hx with hx | hx
      · exact .inl hx
      · simp at hx; exact .inr ⟨hx, hd⟩
  refine ⟨fun x => ?_, fun x hx => ?_, ?_, fun q' c' hc' => ?_, fun p' q' hp' hn => ?_, fun x hx => ?_, fun x hx hr => ?_, fun x => ?_, ?_, fun m hm => ?_, fun C hC x hx => ?_⟩
  · by_cases e : x = p
    · exact .inl (by rw [e, del_same])
    · rw [del_other _ e]; exact h.sub x
  · rcases hmem hx with hx | ⟨rfl, hd⟩
    · have : x ≠ p := fun e => hnd.1 (e ▸ hx)
      rw [del_other _ this]; exact h.rdy x (by simp [hx])
    · exact hd
  · split
    · exact hnd.2
    · rw [List.nodup_append]
      refine ⟨hnd.2, by simp, fun a ha b hb => ?_⟩
      simp at hb; subst hb
      exact hqn (.inl (by simp [ha]))
  · unfold upd at hc'
    split at hc'
    · rename_i e; simp at hc'; subst e; subst hc'; exact ⟨del_same _ _, hF⟩
    · obtain ⟨a, b⟩ := h.saved q' c' hc'; exact ⟨hnone a, b⟩
  · by_cases e : p' = p
    · subst e; rw [hF] at hp'; simp at hp'; subst hp'; rw [upd_same]; simp
    · rw [del_other _ e] at hn; exact hN (h.done p' q' hp' hn)
  · by_cases exq : x = q
    · subst exq; right; rw [upd_same]; simp
    · have : x ∈ p :: ready ∨ (G x = none ∧ fromS l x ≠ none) := by
        rcases hx with hx | ⟨h1, h2⟩
        · rcases hmem hx with hx | ⟨hx, _⟩
          · exact .inl (by simp [hx])
          · exact absurd hx exq
        · by_cases e : x = p
          · exact .inl (by simp [e])
          · rw [del_other _ e] at h1; exact .inr ⟨h1, h2⟩
      rcases h.why x this with h1 | h1
      · exact .inl h1
      · exact .inr (hN h1)
  · by_cases exq : x = q
    · subst exq
      by_cases hd : del G p x = none
      · exact .inr hd
      · left; rw [if_neg hd]; simp
    · rw [upd_other _ _ exq] at hr
      rcases h.whynot x hx hr with h1 | h1
      · rcases List.mem_cons.1 h1 with h1 | h1
        · exact .inr (by rw [h1, del_same])
        · exact .inl (hsub h1)
      · exact .inr (hnone h1)
  · rw [aft_snoc]
    by_cases e : x = p
    · subst e
      refine ⟨fun _ y hy => ?_, fun hx => ?_⟩
      · rw [if_pos rfl]; rw [hF] at hy; simp at hy; subst hy
        refine (h.aft q).2 ?_
        by_cases hG : G q = none
        · right
          by_cases hf : fromS l q = none
          · exact hf
          · exact absurd rfl (hqn (.inr ⟨hG, hf⟩))
        · exact .inl hG
      · rw [del_same, hF] at hx; simp at hx
    · rw [if_neg (by simpa using e), del_other _ e]; exact h.aft x
  · have := num_del (ordS_nodup ho) (G := G) hpo (by rw [hq]; simp)
    have := h.len
    simp; omega
  · rcases List.mem_append.1 hm with hm | hm
    · exact h.dst m hm
    · simp at hm; subst hm; exact hpo
  · obtain ⟨a, b, c⟩ := h.gr C hC x hx
    have h1 : x ≠ p := fun e => b (by simp [e])
    have h2 : x ≠ q := by
      rintro rfl
      obtain ⟨-, -, h3⟩ := hC x hx
      exact (h.gr C hC p (h3 p hF)).2.1 (by simp)
    rw [del_other _ h1, upd_other _ _ h2]
    exact ⟨a, fun hm => (by rcases hmem hm with hm | ⟨hm, _⟩ <;> simp_all), c⟩
end

/-- All that can be done without the scratch is done. -/
structure FDone (l : List (Int × Int)) (G : PF) (out : List (Int × Int)) : Prop where
  sub : ∀ x, G x = none ∨ G x = fromS l x
  rdrs : ∀ x, G x ≠ none → (∃ z, G z = some x) ∧ ∀ z, fromS l z = some x → G z ≠ none
  aft : ∀ x, (G x = none → ∀ y, fromS l x = some y → aft out x = y) ∧ ((G x ≠ none ∨ fromS l x = none) → aft out x = x)
  len : out.length + num (ordS l) G = (ordS l).length
  dst : ∀ m ∈ out, m.1 ∈ ordS l
  gr : ∀ C, Shut (fromS l) C → ∀ x, C x → G x ≠ none

theorem FInv.fin {l : List (Int × Int)} (ho : Once l) {G N : PF} {out : List (Int × Int)} (h : FInv l G N [] out) : FDone l G out where
  sub := h.sub
  rdrs x hx := by
    have hF : fromS l x ≠ none := by
      rcases h.sub x with h1 | h1
      · exact absurd h1 hx
      · rw [← h1]; exact hx
    have hw := h.whynot x hF
    have h0 : readsS l x ≠ 0 := fun e => by
      rcases hw (.inl e) with h1 | h1
      · simp at h1
      · exact hx h1
    have hN : N x = none := by
      by_cases e : N x = none
      · exact e
      · rcases hw (.inr e) with h1 | h1
        · simp at h1
        · exact absurd h1 hx
    have hall : ∀ z, fromS l z = some x → G z ≠ none := fun z hz hG => h.done z x hz hG hN
    refine ⟨?_, hall⟩
    have : ∃ z, fromS l z = some x := Classical.byContradiction fun hn => h0 ((readsS_zero ho).2 fun z hz => hn ⟨z, hz⟩)
    obtain ⟨z, hz⟩ := this
    refine ⟨z, ?_⟩
    rcases h.sub z with h1 | h1
    · exact absurd h1 (hall z hz)
    · rw [h1, hz]
  aft := h.aft
  len := h.len
  dst := h.dst
  gr C hC x hx := (h.gr C hC x hx).1

theorem sub_of_len {A : List Int} : ∀ {B : List Int}, A.Nodup → (∀ x ∈ A, x ∈ B) → B.length ≤ A.length → ∀ x ∈ B, x ∈ A := by
  induction A with
  | nil => intro B _ _ hl x hx; have := List.length_eq_zero_iff.1 (Nat.le_zero.1 hl); rw [this] at hx; exact hx
  | cons a A ih =>
    intro B hn hs hl x hx
    have hn' := List.nodup_cons.1 hn
    have ha := hs a (by simp)
    by_cases e : x = a
    · simp [e]
    · have hx' : x ∈ B.erase a := (List.mem_erase_of_ne e).2 hx
      have hl' : (B.erase a).length ≤ A.length := by rw [List.length_erase_of_mem ha]; simp at hl; omega
      have := ih hn'.2 (fun y hy => (List.mem_erase_of_ne (fun (e : y = a) => hn'.1 (e ▸ hy))).2 (hs y (by simp [hy]))) hl' x hx'
      simp [this]

/-- What is left goes round. -/
structure Turns (G : PF) : Prop where
  on : ∀ x y, G x = some y → G y ≠ none
  inj : ∀ x x' y, G x = some y → G x' = some y → x = x'

theorem nodup_map {f : Int → Int} : ∀ {A : List Int}, A.Nodup → (∀ x ∈ A, ∀ y ∈ A, f x = f y → x = y) → (A.map f).Nodup
  | [], _, _ => by simp
  | a :: A, hn, hi => by
    have hn' := List.nodup_cons.1 hn
    rw [List.map_cons, List.nodup_cons]
    refine ⟨fun hm => ?_, nodup_map hn'.2 fun x hx y hy => hi x (by simp [hx]) y (by simp [hy])⟩
    obtain ⟨y, hy, e⟩ := List.mem_map.1 hm
    have := hi y (by simp [hy]) a (by simp) e
    exact hn'.1 (this ▸ hy)

theorem FDone.turns {l : List (Int × Int)} (ho : Once l) {G : PF} {out : List (Int × Int)} (h : FDone l G out) : Turns G := by
  have hF : ∀ x, G x ≠ none → x ∈ ordS l := fun x hx => by
    rcases h.sub x with h1 | h1
    · exact absurd h1 hx
    · exact (fromS_dom ho).1 (by rw [← h1]; exact hx)
  let A := (ordS l).filter fun x => (G x).isSome
  have hA : ∀ x, x ∈ A ↔ G x ≠ none := fun x => by
    show x ∈ List.filter _ _ ↔ _
    rw [List.mem_filter]
    constructor
    · intro h; cases e : G x <;> simp_all
    · intro h; exact ⟨hF x h, by cases e : G x <;> simp_all⟩
  have hAn : A.Nodup := (ordS_nodup ho).filter _
  let r : Int → Int := fun x => (A.find? fun z => G z == some x).getD 0
  have hr : ∀ x ∈ A, r x ∈ A ∧ G (r x) = some x := fun x hx => by
    obtain ⟨z, hz⟩ := (h.rdrs x ((hA x).1 hx)).1
    have hz' : z ∈ A := (hA z).2 (by rw [hz]; simp)
    cases e : A.find? fun z => G z == some x with
    | none => rw [List.find?_eq_none] at e; have := e z hz'; simp [hz] at this
    | some u =>
      show (A.find? _).getD 0 ∈ A ∧ G ((A.find? _).getD 0) = some x
      rw [e]
      exact ⟨List.mem_of_find?_eq_some e, by have := List.find?_some e; simpa using this⟩
  have hmap : ∀ x ∈ A, x ∈ A.map r := by
    refine sub_of_len (nodup_map hAn fun x hx y hy e => ?_) (fun x hx => ?_) (by simp)
    · have h1 := (hr x hx).2; have h2 := (hr y hy).2; rw [e, h2] at h1; simpa using h1.symm
    · obtain ⟨y, hy, rfl⟩ := List.mem_map.1 hx; exact (hr y hy).1
  have key : ∀ x y, G x = some y → y ∈ A ∧ x = r y := fun x y hxy => by
    obtain ⟨u, hu, rfl⟩ := List.mem_map.1 (hmap x ((hA x).2 (by rw [hxy]; simp)))
    have := (hr u hu).2
    rw [this] at hxy; simp at hxy; subst hxy
    exact ⟨hu, rfl⟩
  exact ⟨fun x y hxy => (hA y).1 (key x y hxy).1, fun x x' y h1 h2 => (key x y h1).2.trans (key x' y h2).2.symm⟩

/-- A way along reads: its places, and where it goes on. -/
inductive Path (G : PF) (p : Int) : List Int → Int → Prop
  | one {q} : G p = some q → Path G p [p] q
  | snoc {L q q'} : Path G p L q → G q = some q' → Path G p (L ++ [q]) q'

section
variable {G H : PF} {p q : Int} {L : List Int}
theorem Path.head (h : Path G p L q) : p ∈ L := by
  induction h with
  | one _ => simp
  | snoc _ _ ih => simp [ih]
theorem Path.last (h : Path G p L q) : ∃ v ∈ L, G v = some q := by
  cases h with
  | one h => exact ⟨p, by simp, h⟩
  | snoc _ h => exact ⟨_, by simp, h⟩
theorem Path.isOn (h : Path G p L q) : ∀ x ∈ L, G x ≠ none := by
  induction h with
  | one h => intro x hx; simp at hx; rw [hx, h]; simp
  | snoc _ h ih =>
    intro x hx
    rcases List.mem_append.1 hx with hx | hx
    · exact ih x hx
    · simp at hx; rw [hx, h]; simp
theorem Path.next (h : Path G p L q) : ∀ x ∈ L, ∀ y, G x = some y → y ∈ L ∨ y = q := by
  induction h with
  | one h => intro x hx y hy; simp at hx; subst hx; rw [h] at hy; simp at hy; exact .inr hy.symm
  | snoc _ h ih =>
    intro x hx y hy
    rcases List.mem_append.1 hx with hx | hx
    · rcases ih x hx y hy with h1 | h1
      · exact .inl (by simp [h1])
      · exact .inl (by simp [h1])
    · simp at hx; subst hx; rw [h] at hy; simp at hy; exact .inr hy.symm
theorem Path.prev (h : Path G p L q) : ∀ x ∈ L, x = p ∨ ∃ z ∈ L, G z = some x := by
  induction h with
  | one h => intro x hx; simp at hx; exact .inl hx
  | snoc h1 h ih =>
    intro x hx
    rcases List.mem_append.1 hx with hx | hx
    · rcases ih x hx with h2 | ⟨z, hz, h2⟩
      · exact .inl h2
      · exact .inr ⟨z, by simp [hz], h2⟩
    · simp at hx; subst hx
      obtain ⟨v, hv, h2⟩ := h1.last
      exact .inr ⟨v, by simp [hv], h2⟩
theorem Path.fresh (hi : ∀ x x' y, G x = some y → G x' = some y → x = x') (h : Path G p L q) (hn : L.Nodup) (hq : q ∈ L) : q = p := by
  cases h with
  | one h => simpa using hq
  | snoc h1 h =>
    rename_i L u
    rw [List.nodup_append] at hn
    have hu : u ∉ L := fun hu => hn.2.2 u hu u (by simp) rfl
    rcases List.mem_append.1 hq with hq | hq
    · rcases h1.prev q hq with h2 | ⟨z, hz, h2⟩
      · exact h2
      · exact absurd (hi _ _ _ h2 h ▸ hz) hu
    · simp at hq; subst hq
      obtain ⟨v, hv, h2⟩ := h1.last
      exact absurd (hi _ _ _ h2 h ▸ hv) hu
theorem Path.nodup_snoc (hn : L.Nodup) (hq : q ∉ L) : (L ++ [q]).Nodup := by
  rw [List.nodup_append]
  exact ⟨hn, by simp, fun a ha b hb => by simp at hb; subst hb; rintro rfl; exact hq ha⟩
theorem Path.cong (h : Path G p L q) (hc : ∀ x ∈ L, H x = G x) : Path H p L q := by
  induction h with
  | one h => exact .one ((hc p (by simp)).trans h)
  | snoc _ h ih => exact .snoc (ih fun x hx => hc x (by simp [hx])) ((hc _ (by simp)).trans h)
end

inductive Reach (G : PF) : Int → Int → Prop
  | refl (x) : Reach G x x
  | step {x y z} : Reach G x y → G y = some z → Reach G x z
theorem Reach.trans {G : PF} {x y z : Int} (h : Reach G x y) (k : Reach G y z) : Reach G x z := by
  induction k with
  | refl => exact h
  | step _ h2 ih => exact .step ih h2
theorem Path.reach {G : PF} {p q : Int} {L : List Int} (h : Path G p L q) : (∀ x ∈ L, Reach G p x) ∧ Reach G p q := by
  induction h with
  | one h => exact ⟨fun x hx => by simp at hx; subst hx; exact .refl _, .step (.refl _) h⟩
  | snoc _ h ih =>
    refine ⟨fun x hx => ?_, .step ih.2 h⟩
    rcases List.mem_append.1 hx with hx | hx
    · exact ih.1 x hx
    · simp at hx; subst hx; exact ih.2
theorem Path.all {G : PF} {p : Int} {L : List Int} (h : Path G p L p) {x : Int} (hr : Reach G p x) : x ∈ L := by
  induction hr with
  | refl => exact h.head
  | step _ h2 ih =>
    rcases h.next _ ih _ h2 with h3 | h3
    · exact h3
    · rw [h3]; exact h.head

/-- How many rings have a place among some. -/
def New (G : PF) (xs : List Int) (x : Int) : Prop := G x ≠ none ∧ ∀ y ∈ xs, G y ≠ none → ¬ Reach G y x
inductive Cnt (G : PF) : List Int → Nat → Prop
  | nil : Cnt G [] 0
  | yes {xs x n} : Cnt G xs n → New G xs x → Cnt G (xs ++ [x]) (n + 1)
  | no {xs x n} : Cnt G xs n → ¬ New G xs x → Cnt G (xs ++ [x]) n
theorem Cnt.uniq {G : PF} {xs : List Int} {n m : Nat} (h : Cnt G xs n) : Cnt G xs m → n = m := by
  induction h generalizing m with
  | nil =>
    intro k
    generalize e : ([] : List Int) = zs at k
    cases k with
    | nil => rfl
    | yes _ _ => simp at e
    | no _ _ => simp at e
  | yes h1 h2 ih =>
    rename_i xs x n
    intro k
    generalize e : xs ++ [x] = zs at k
    cases k with
    | nil => simp at e
    | yes k1 k2 => obtain ⟨rfl, e2⟩ := List.append_inj' e rfl; rw [ih k1]
    | no k1 k2 => obtain ⟨rfl, e2⟩ := List.append_inj' e rfl; simp at e2; subst e2; exact absurd h2 k2
  | no h1 h2 ih =>
    rename_i xs x n
    intro k
    generalize e : xs ++ [x] = zs at k
    cases k with
    | nil => simp at e
    | yes k1 k2 => obtain ⟨rfl, e2⟩ := List.append_inj' e rfl; simp at e2; subst e2; exact absurd k2 h2
    | no k1 k2 => obtain ⟨rfl, e2⟩ := List.append_inj' e rfl; exact ih k1
theorem Cnt.le {G : PF} {xs : List Int} {n : Nat} (h : Cnt G xs n) : n ≤ xs.length := by
  induction h with
  | nil => simp
  | yes _ _ ih => simp; exact ih
  | no _ _ ih => simp; omega


def delL (G : PF) (L : List Int) : PF := fun x => if x ∈ L then none else G x
theorem delL_snoc (G : PF) (L : List Int) (x : Int) : delL G (L ++ [x]) = del (delL G L) x := by
  funext y; unfold delL del
  by_cases h : y = x <;> by_cases h2 : y ∈ L <;> simp [h, h2]
theorem delL_nil (G : PF) : delL G [] = G := by funext y; simp [delL]
theorem delL_mem (G : PF) {L : List Int} {x : Int} (h : x ∈ L) : delL G L x = none := by simp [delL, h]
theorem delL_not (G : PF) {L : List Int} {x : Int} (h : x ∉ L) : delL G L x = G x := by simp [delL, h]
theorem num_delL {xs : List Int} (hn : xs.Nodup) {G : PF} : ∀ {L : List Int}, L.Nodup → (∀ x ∈ L, x ∈ xs ∧ G x ≠ none) → num xs (delL G L) + L.length = num xs G := by
  intro L
  induction L using rev_ind with
  | h0 => intro _ _; rw [delL_nil]; simp
  | hs L a ih =>
    intro hL hm
    rw [List.nodup_append] at hL
    have h1 := ih hL.1 fun x hx => hm x (by simp [hx])
    have ha : a ∉ L := fun h => hL.2.2 a h a (by simp) rfl
    have h2 := num_del hn (G := delL G L) (hm a (by simp)).1 (by rw [delL_not _ ha]; exact (hm a (by simp)).2)
    rw [delL_snoc]; simp; omega

/-- Some rings have been gone round. -/
structure CInv (G : PF) (xs : List Int) (H : PF) (n : Nat) : Prop where
  eq : ∀ x, H x = none ∨ H x = G x
  clo : ∀ x y, G x = some y → (H x = none ↔ H y = none)
  cov : ∀ x, G x ≠ none → (H x = none ↔ ∃ y ∈ xs, G y ≠ none ∧ Reach G y x)
  cnt : Cnt G xs n

theorem CInv.start (G : PF) (ht : Turns G) : CInv G [] G 0 where
  eq x := .inr rfl
  clo x y h := ⟨fun h1 => (by rw [h1] at h; simp at h), fun h1 => absurd h1 (ht.on x y h)⟩
  cov x hx := ⟨fun h => absurd h hx, fun ⟨y, hy, _⟩ => by simp at hy⟩
  cnt := .nil

section
variable {G H : PF} {xs : List Int} {n : Nat} {p q : Int} {L : List Int}

theorem CInv.skip (h : CInv G xs H n) (hp : H p = none) : CInv G (xs ++ [p]) H n where
  eq := h.eq
  clo := h.clo
  cov x hx := by
    rw [h.cov x hx]
    constructor
    · rintro ⟨y, hy, h2⟩; exact ⟨y, by simp [hy], h2⟩
    · rintro ⟨y, hy, h2, h3⟩
      rcases List.mem_append.1 hy with hy | hy
      · exact ⟨y, hy, h2, h3⟩
      · simp at hy; subst hy
        obtain ⟨z, hz, h4, h5⟩ := (h.cov y h2).1 hp
        exact ⟨z, hz, h4, h5.trans h3⟩
  cnt := .no h.cnt fun ⟨h1, h2⟩ => by
    obtain ⟨y, hy, h3, h4⟩ := (h.cov p h1).1 hp
    exact h2 y hy h3 h4

theorem CInv.ofH (h : CInv G xs H n) {x y : Int} (hx : H x = some y) : G x = some y := by
  rcases h.eq x with h1 | h1
  · rw [h1] at hx; simp at hx
  · rw [← h1]; exact hx
theorem CInv.turns (h : CInv G xs H n) (ht : Turns G) : Turns H where
  on x y hx := fun hy => by
    have := (h.clo x y (h.ofH hx)).2 hy
    rw [this] at hx; simp at hx
  inj x x' y h1 h2 := ht.inj x x' y (h.ofH h1) (h.ofH h2)
theorem CInv.pathG (h : CInv G xs H n) (hp : Path H p L q) : Path G p L q :=
  hp.cong fun x hx => by
    rcases h.eq x with h1 | h1
    · exact absurd h1 (hp.isOn x hx)
    · exact h1.symm

theorem CInv.take (h : CInv G xs H n) (ht : Turns G) (hp : Path H p L p) : CInv G (xs ++ [p]) (delL H L) (n + 1) := by
  have hG := h.pathG hp
  have hHp : H p ≠ none := hp.isOn p hp.head
  have hGp : G p ≠ none := hG.isOn p hG.head
  refine ⟨fun x => ?_, fun x y hxy => ?_, fun x hx => ?_, .yes h.cnt ⟨hGp, fun y hy hGy hr => ?_⟩⟩
  · by_cases hx : x ∈ L
    · exact .inl (delL_mem _ hx)
    · rw [delL_not _ hx]; exact h.eq x
  · have hm : x ∈ L ↔ y ∈ L := by
      constructor
      · intro hx
        rcases hG.next x hx y hxy with h1 | h1
        · exact h1
        · rw [h1]; exact hG.head
      · intro hy
        rcases hG.prev y hy with h1 | ⟨z, hz, h1⟩
        · obtain ⟨v, hv, h2⟩ := hG.last
          rw [h1] at hxy
          exact ht.inj v x p h2 hxy ▸ hv
        · exact ht.inj z x y h1 hxy ▸ hz
    unfold delL
    by_cases hx : x ∈ L
    · rw [if_pos hx, if_pos (hm.1 hx)]
    · rw [if_neg hx, if_neg (fun hy => hx (hm.2 hy))]; exact h.clo x y hxy
  · by_cases hxL : x ∈ L
    · rw [delL_mem _ hxL]
      exact ⟨fun _ => ⟨p, by simp, hGp, hG.reach.1 x hxL⟩, fun _ => rfl⟩
    · rw [delL_not _ hxL, h.cov x hx]
      constructor
      · rintro ⟨y, hy, h2⟩; exact ⟨y, by simp [hy], h2⟩
      · rintro ⟨y, hy, h2, h3⟩
        rcases List.mem_append.1 hy with hy | hy
        · exact ⟨y, hy, h2, h3⟩
        · simp at hy; subst hy
          exact absurd (hG.all h3) hxL
  · exact hHp ((h.cov p hGp).2 ⟨y, hy, hGy, hr⟩)
end

/-- What a ring's moves are. -/
def ringM (H : PF) (L : List Int) : List (Int × Int) := L.map fun x => (x, (H x).getD 0)

theorem ring_part {H : PF} {p q s : Int} {L : List Int} (h : Path H p L q) (hn : L.Nodup) (ht : ∀ x x' y, H x = some y → H x' = some y → x = x') (hon : ∀ x y, H x = some y → H y ≠ none) {out : List (Int × Int)}
    (hs : H s = none) (ho : ∀ x, H x ≠ none → aft out x = x) (hq : q ≠ p) :
    ∀ x, aft (out ++ [(s, p)] ++ ringM H L) x = if x ∈ L then (H x).getD 0 else if x = s then p else aft out x := by
  have hns : ∀ {x}, H x ≠ none → x ≠ s := fun {x} hx e => hx (e ▸ hs)
  have hpH : H p ≠ none := h.isOn p h.head
  induction h with
  | one h =>
    rename_i q
    intro x
    have hqs : q ≠ s := hns (hon _ _ h)
    show aft (out ++ [(s, p)] ++ [(p, (H p).getD 0)]) x = _
    rw [aft_snoc, aft_snoc, aft_snoc, h]
    have := ho q (hon _ _ h)
    by_cases e1 : x = p
    · subst e1; simp [hqs, this, h]
    · by_cases e2 : x = s
      · subst e2; simp [e1, ho p hpH]
      · simp [e1, e2]
  | snoc h1 h2 ih =>
    rename_i L u q
    intro x
    have hn' := hn
    rw [List.nodup_append] at hn'
    have hu : u ∉ L := fun hu => hn'.2.2 u hu u (by simp) rfl
    have hup : u ≠ p := fun e => hu (e ▸ h1.head)
    have hqL : q ∉ L ++ [u] := fun hm => hq ((h1.snoc h2).fresh ht hn hm)
    have hqs : q ≠ s := hns (hon _ _ h2)
    have ih := ih hn'.1 hup
    have e : out ++ [(s, p)] ++ ringM H (L ++ [u]) = (out ++ [(s, p)] ++ ringM H L) ++ [(u, (H u).getD 0)] := by simp [ringM]
    rw [e, aft_snoc, h2]
    dsimp only [Option.getD_some]
    have hqq := ih q
    rw [if_neg (fun hm => hqL (by simp [hm])), if_neg hqs, ho q (hon _ _ h2)] at hqq
    by_cases ex : x = u
    · subst ex; rw [if_pos rfl, hqq, if_pos (by simp), h2]; rfl
    · rw [if_neg ex, ih x]
      by_cases hxL : x ∈ L
      · rw [if_pos hxL, if_pos (by simp [hxL])]
      · have hm : x ∉ L ++ [u] := by simp [hxL, ex]
        simp only [if_neg hxL, if_neg hm]

/-- The moves of a whole ring. -/
def turnM (H : PF) (s p : Int) (L : List Int) : List (Int × Int) := (s, p) :: (ringM H L.dropLast ++ [(L.getLastD 0, s)])
theorem ring_whole {H : PF} {p s : Int} {L : List Int} (h : Path H p L p) (hn : L.Nodup) (ht : Turns H) {out : List (Int × Int)}
    (hs : H s = none) (ho : ∀ x, H x ≠ none → aft out x = x) :
    ∀ x, x ≠ s → aft (out ++ turnM H s p L) x = if x ∈ L then (H x).getD 0 else aft out x := by
  have hns : ∀ {x}, H x ≠ none → x ≠ s := fun {x} hx e => hx (e ▸ hs)
  have hpH : H p ≠ none := h.isOn p h.head
  suffices hw : ∀ q, q = p → Path H p L q → ∀ x, x ≠ s → aft (out ++ turnM H s p L) x = if x ∈ L then (H x).getD 0 else aft out x from hw p rfl h
  clear h
  intro q hq' h
  cases h with
  | one h =>
    intro x hx
    show aft (out ++ [(s, p), (p, s)]) x = _
    have e : out ++ [(s, p), (p, s)] = out ++ [(s, p)] ++ [(p, s)] := by simp
    rw [e, aft_snoc, aft_snoc, aft_snoc]
    rw [hq'] at h
    by_cases e1 : x = p
    · subst e1; simp [h, ho x hpH]
    · simp [e1, hx]
  | snoc h1 h2 =>
    rename_i L u
    intro x hx
    rw [List.nodup_append] at hn
    have hu : u ∉ L := fun hu => hn.2.2 u hu u (by simp) rfl
    have hup : u ≠ p := fun e => hu (e ▸ h1.head)
    have hrp := ring_part h1 hn.1 ht.inj ht.on hs ho hup
    have hsL : s ∉ L := fun hm => h1.isOn s hm hs
    have e : out ++ turnM H s p (L ++ [u]) = (out ++ [(s, p)] ++ ringM H L) ++ [(u, s)] := by simp [turnM]
    rw [e, aft_snoc]
    dsimp only
    have h3 := hrp s
    rw [if_neg hsL, if_pos rfl] at h3
    by_cases ex : x = u
    · subst ex; rw [if_pos rfl, h3, if_pos (by simp), h2, hq']; rfl
    · rw [if_neg ex, hrp x]
      by_cases hxL : x ∈ L
      · rw [if_pos hxL, if_pos (by simp [hxL])]
      · have hm : x ∉ L ++ [u] := by simp [hxL, ex]
        simp only [if_neg hxL, if_neg hx, if_neg hm]

theorem turnM_length {H : PF} {s p : Int} {L : List Int} (h : L ≠ []) : (turnM H s p L).length = L.length + 1 := by
  have := List.length_pos_iff.2 h
  simp [turnM, ringM]; omega

/-- Some rings have been turned. -/
structure SInv (l : List (Int × Int)) (s : Int) (G : PF) (xs : List Int) (H : PF) (n : Nat) (out : List (Int × Int)) : Prop where
  c : CInv G xs H n
  aft : ∀ x, x ≠ s → (H x = none → ∀ y, fromS l x = some y → aft out x = y) ∧ ((H x ≠ none ∨ fromS l x = none) → aft out x = x)
  len : out.length + num (ordS l) H = (ordS l).length + n
  dst : ∀ m ∈ out, m.1 ∈ ordS l ∨ m.1 = s
  zero : n = 0 → ∀ m ∈ out, m.1 ∈ ordS l

theorem SInv.start {l : List (Int × Int)} {G : PF} {out : List (Int × Int)} (ho : Once l) (h : FDone l G out) (s : Int) : SInv l s G [] G 0 out where
  c := CInv.start G (h.turns ho)
  aft x _ := h.aft x
  len := h.len
  dst m hm := .inl (h.dst m hm)
  zero _ := h.dst
theorem SInv.skip {l : List (Int × Int)} {s : Int} {G : PF} {xs : List Int} {H : PF} {n : Nat} {out : List (Int × Int)} (h : SInv l s G xs H n out) {p : Int} (hp : H p = none) : SInv l s G (xs ++ [p]) H n out where
  c := h.c.skip hp
  aft := h.aft
  len := h.len
  dst := h.dst
  zero := h.zero
theorem SInv.take {l : List (Int × Int)} {s : Int} {G : PF} {xs : List Int} {H : PF} {n : Nat} {out out0 : List (Int × Int)} (ho : Once l) (hd : FDone l G out0) (hs : fromS l s = none) (h : SInv l s G xs H n out) {p : Int} {L : List Int} (hp : Path H p L p) (hn : L.Nodup) :
    SInv l s G (xs ++ [p]) (delL H L) (n + 1) (out ++ turnM H s p L) := by
  have ht := hd.turns ho
  have hGs : G s = none := by
    rcases hd.sub s with h1 | h1
    · exact h1
    · rw [h1, hs]
  have hHs : H s = none := by
    rcases h.c.eq s with h1 | h1
    · exact h1
    · rw [h1, hGs]
  have hHF : ∀ x y, H x = some y → fromS l x = some y := fun x y hx => by
    have := h.c.ofH hx
    rcases hd.sub x with h1 | h1
    · rw [h1] at this; simp at this
    · rw [← h1]; exact this
  have hns : ∀ {x}, H x ≠ none → x ≠ s := fun {x} hx e => hx (e ▸ hHs)
  have hw := ring_whole (s := s) hp hn (h.c.turns ht) (out := out) hHs (fun x hx => (h.aft x (hns hx)).2 (.inl hx))
  have hin : ∀ x ∈ L, x ∈ ordS l ∧ H x ≠ none := fun x hx => by
    have := hp.isOn x hx
    obtain ⟨y, hy⟩ := Option.ne_none_iff_exists'.1 this
    exact ⟨(fromS_dom ho).1 (by rw [hHF x y hy]; simp), this⟩
  refine ⟨h.c.take ht hp, fun x hx => ?_, ?_, fun m hm => ?_, fun h0 => by omega⟩
  · rw [hw x hx]
    by_cases hxL : x ∈ L
    · rw [if_pos hxL, delL_mem _ hxL]
      obtain ⟨y, hy⟩ := Option.ne_none_iff_exists'.1 (hp.isOn x hxL)
      refine ⟨fun _ y' hy' => ?_, fun hn => ?_⟩
      · rw [hHF x y hy] at hy'; rw [hy]; simpa using hy'
      · rw [hHF x y hy] at hn; simp at hn
    · rw [if_neg hxL, delL_not _ hxL]; exact h.aft x hx
  · have h1 := num_delL (ordS_nodup ho) (G := H) hn hin
    have h2 := turnM_length (H := H) (s := s) (p := p) (List.ne_nil_of_mem hp.head)
    have := h.len
    rw [List.length_append, h2]
    omega
  · rcases List.mem_append.1 hm with hm | hm
    · exact h.dst m hm
    · unfold turnM ringM at hm
      rcases List.mem_cons.1 hm with rfl | hm
      · exact .inr rfl
      · rcases List.mem_append.1 hm with hm | hm
        · obtain ⟨x, hx, rfl⟩ := List.mem_map.1 hm
          exact .inl (hin x (List.dropLast_subset L hx)).1
        · simp at hm; subst hm
          have hne := List.ne_nil_of_mem hp.head
          rw [List.getLast?_eq_some_getLast hne]
          exact .inl (hin _ (List.getLast_mem hne)).1
end Mv
end Go.Proofs.Ytjgnailkfmgikaa
