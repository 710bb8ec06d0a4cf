/- What the reference's count of rings is, in plain Lean. -/
import Derived.Test.YtjgnailkfmgikaaMvL
namespace Go.Proofs.Ytjgnailkfmgikaa.Mv

/-- The places of moves by their numbers. -/
def dsts (l : List (Int × Int)) (rr : List Nat) : List Int := rr.map fun i => (l.getD i (0, 0)).1
/-- The last of the first k moves of unlike places that writes a place; -1: none. -/
def nextS (l : List (Int × Int)) (q : Int) : Nat → Int
  | 0 => -1
  | k + 1 => if (l.getD k (0, 0)).1 = q ∧ (l.getD k (0, 0)).1 ≠ (l.getD k (0, 0)).2 then k else nextS l q k
theorem nextS_spec {l : List (Int × Int)} {q : Int} : ∀ {k : Nat}, k ≤ l.length → (nextS l q k = -1 ∧ ∀ j (hj : j < l.length), j < k → ¬ (l[j].1 = q ∧ l[j].1 ≠ l[j].2)) ∨ (∃ j : Nat, ∃ hj : j < l.length, nextS l q k = j ∧ j < k ∧ l[j].1 = q ∧ l[j].1 ≠ l[j].2) := by
  intro k
  induction k with
  | zero => intro _; exact .inl ⟨rfl, fun j _ h => by omega⟩
  | succ k ih =>
    intro hk
    have hkl : k < l.length := by omega
    have hg : l.getD k (0, 0) = l[k] := by simp [List.getD, hkl]
    unfold nextS
    rw [hg]
    by_cases h : l[k].1 = q ∧ l[k].1 ≠ l[k].2
    · rw [if_pos h]
      exact .inr ⟨k, hkl, rfl, by omega, h.1, h.2⟩
    · rw [if_neg h]
      rcases ih (by omega) with ⟨h1, h2⟩ | ⟨j, hj, h1, h2, h3, h4⟩
      · refine .inl ⟨h1, fun j hj hjk => ?_⟩
        by_cases e : j = k
        · subst e; exact h
        · exact h2 j hj (by omega)
      · exact .inr ⟨j, hj, h1, by omega, h3, h4⟩

theorem once_inj {l : List (Int × Int)} (h : Once l) {i j : Nat} (hi : i < l.length) (hj : j < l.length) (e : l[i].1 = l[j].1) : i = j := by
  have := List.pairwise_map.1 h
  rcases Nat.lt_trichotomy i j with hij | hij | hij
  · exact absurd e (List.pairwise_iff_getElem.1 this i j hi hj hij)
  · exact hij
  · exact absurd e.symm (List.pairwise_iff_getElem.1 this j i hj hi hij)
theorem from_at {l : List (Int × Int)} (h : Once l) {i : Nat} (hi : i < l.length) (hn : l[i].1 ≠ l[i].2) : fromS l l[i].1 = some l[i].2 := (fromS_iff h).2 ⟨List.getElem_mem hi, hn⟩
theorem ordS_take {l : List (Int × Int)} {k : Nat} (hk : k < l.length) : ordS (l.take (k + 1)) = if l[k].1 = l[k].2 then ordS (l.take k) else ordS (l.take k) ++ [l[k].1] := by
  rw [List.take_succ_eq_append_getElem hk, ordS_snoc]

/-- The reference's count so far. -/
structure RInv (l : List (Int × Int)) (G : PF) (k : Nat) (used : List Bool) (n : Nat) : Prop where
  len : used.length = l.length
  use : ∀ i (h : i < l.length), G l[i].1 ≠ none → (used.getD i false = true ↔ ∃ y ∈ ordS (l.take k), G y ≠ none ∧ Reach G y l[i].1)
  cnt : Cnt G (ordS (l.take k)) n

section
variable {l : List (Int × Int)} {G : PF} {out : List (Int × Int)} {used : List Bool} {k n : Nat}
theorem RInv.start (l : List (Int × Int)) (G : PF) : RInv l G 0 (List.replicate l.length false) 0 where
  len := by simp
  use i hi _ := by
    have : ordS (l.take 0) = [] := by simp [ordS, unl]
    rw [this]; simp [List.getD, hi]
  cnt := by
    have : ordS (l.take 0) = [] := by simp [ordS, unl]
    rw [this]; exact .nil
theorem RInv.still (h : RInv l G k used n) (hk : k < l.length) (hs : l[k].1 = l[k].2) : RInv l G (k + 1) used n := by
  have e : ordS (l.take (k + 1)) = ordS (l.take k) := by rw [ordS_take hk, if_pos hs]
  exact ⟨h.len, by rw [e]; exact h.use, by rw [e]; exact h.cnt⟩
theorem RInv.skipU (h : RInv l G k used n) (hk : k < l.length) (hs : l[k].1 ≠ l[k].2) (hu : used.getD k false = true) : RInv l G (k + 1) used n := by
  have e : ordS (l.take (k + 1)) = ordS (l.take k) ++ [l[k].1] := by rw [ordS_take hk, if_neg hs]
  refine ⟨h.len, fun i hi hG => ?_, by
    rw [e]
    exact .no h.cnt fun ⟨h1, h2⟩ => by
      obtain ⟨y, hy, h3, h4⟩ := (h.use k hk h1).1 hu
      exact h2 y hy h3 h4⟩
  rw [h.use i hi hG, e]
  constructor
  · rintro ⟨y, hy, h2⟩; exact ⟨y, by simp [hy], h2⟩
  · rintro ⟨y, hy, h2, h3⟩
    rcases List.mem_append.1 hy with hy | hy
    · exact ⟨y, hy, h2, h3⟩
    · simp at hy; subst hy
      obtain ⟨z, hz, h4, h5⟩ := (h.use k hk h2).1 hu
      exact ⟨z, hz, h4, h5.trans h3⟩
theorem RInv.none (h : RInv l G k used n) (hk : k < l.length) (hs : l[k].1 ≠ l[k].2) (hG : G l[k].1 = none) : RInv l G (k + 1) used n := by
  have e : ordS (l.take (k + 1)) = ordS (l.take k) ++ [l[k].1] := by rw [ordS_take hk, if_neg hs]
  refine ⟨h.len, fun i hi hGi => ?_, by rw [e]; exact .no h.cnt fun ⟨h1, _⟩ => h1 hG⟩
  rw [h.use i hi hGi, e]
  constructor
  · rintro ⟨y, hy, h2⟩; exact ⟨y, by simp [hy], h2⟩
  · rintro ⟨y, hy, h2, h3⟩
    rcases List.mem_append.1 hy with hy | hy
    · exact ⟨y, hy, h2, h3⟩
    · simp at hy; subst hy; exact absurd hG h2

theorem G_from (hd : FDone l G out) {x y : Int} (h : G x = some y) : fromS l x = some y := by
  rcases hd.sub x with h1 | h1
  · rw [h1] at h; simp at h
  · rw [← h1]; exact h
/-- A way of the moves from a place that is left is one of what is left. -/
theorem path_left (ho : Once l) (hd : FDone l G out) {p q : Int} {L : List Int} (h : Path (fromS l) p L q) (hp : G p ≠ none) : Path G p L q ∧ G q ≠ none := by
  have ht := hd.turns ho
  have hstep : ∀ {x y}, G x ≠ none → fromS l x = some y → G x = some y := fun {x y} hx hy => by
    rcases hd.sub x with h1 | h1
    · exact absurd h1 hx
    · rw [h1, hy]
  induction h with
  | one h => have := hstep hp h; exact ⟨.one this, ht.on _ _ this⟩
  | snoc h1 h2 ih => have := hstep ih.2 h2; exact ⟨ih.1.snoc this, ht.on _ _ this⟩
/-- .. and one that leads to a place that is left comes from one. -/
theorem path_back (hd : FDone l G out) {p q : Int} {L : List Int} (h : Path (fromS l) p L q) : (∀ z ∈ L, G z ≠ none → G p ≠ none) ∧ (G q ≠ none → G p ≠ none) := by
  induction h with
  | one h =>
    refine ⟨fun z hz hG => by simp at hz; rw [← hz]; exact hG, fun hG => (hd.rdrs _ hG).2 _ h⟩
  | snoc h1 h2 ih =>
    refine ⟨fun z hz hG => ?_, fun hG => ih.2 ((hd.rdrs _ hG).2 _ h2)⟩
    rcases List.mem_append.1 hz with hz | hz
    · exact ih.1 z hz hG
    · simp at hz; subst hz; exact ih.2 hG
/-- A way that does not come back is none of what is left. -/
theorem path_open (ho : Once l) (hd : FDone l G out) {p q : Int} {L : List Int} (h : Path (fromS l) p L q) (hn : L.Nodup) (hq : q ≠ p) (he : q ∈ L ∨ fromS l q = none) : G p = none := by
  by_cases hp : G p = none
  · exact hp
  · obtain ⟨h1, h2⟩ := path_left ho hd h hp
    rcases he with he | he
    · exact absurd (h1.fresh (hd.turns ho).inj hn he) hq
    · obtain ⟨y, hy⟩ := Option.ne_none_iff_exists'.1 h2
      rw [G_from hd hy] at he; simp at he

/-- A ring has been gone round: it counts if nothing else reads of it. -/
theorem RInv.ring (ho : Once l) (hd : FDone l G out) (h : RInv l G k used n) (hk : k < l.length) (hs : l[k].1 ≠ l[k].2) (hu : used.getD k false = false) {L : List Int} (hp : Path (fromS l) l[k].1 L l[k].1)
    {used' : List Bool} (hl : used'.length = l.length) (hus : ∀ i (h : i < l.length), l[i].1 ≠ l[i].2 → (used'.getD i false = true ↔ used.getD i false = true ∨ l[i].1 ∈ L))
    {alone : Bool} (ha : alone = true ↔ ∀ m (h : m < l.length), l[m].1 ≠ l[m].2 → l[m].2 ∈ L → l[m].1 ∈ L) : RInv l G (k + 1) used' (if alone then n + 1 else n) := by
  have e : ordS (l.take (k + 1)) = ordS (l.take k) ++ [l[k].1] := by rw [ordS_take hk, if_neg hs]
  have ht := hd.turns ho
  have hwhen : G l[k].1 ≠ Option.none ↔ alone = true := by
    constructor
    · intro hG
      obtain ⟨hPG, _⟩ := path_left ho hd hp hG
      rw [ha]
      intro m hm hne hmL
      have hGm := (hd.rdrs _ (hPG.isOn _ hmL)).2 _ (from_at ho hm hne)
      have hGm2 : G l[m].1 = some l[m].2 := by
        rcases hd.sub l[m].1 with h1 | h1
        · exact absurd h1 hGm
        · rw [h1, from_at ho hm hne]
      rcases hPG.prev _ hmL with h1 | ⟨z, hz, h1⟩
      · obtain ⟨v, hv, h2⟩ := hPG.last
        rw [h1] at hGm2
        exact ht.inj _ _ _ h2 hGm2 ▸ hv
      · exact ht.inj _ _ _ h1 hGm2 ▸ hz
    · intro hal
      have hal := ha.1 hal
      refine hd.gr (· ∈ L) (fun x hx => ⟨hp.isOn x hx, ?_, fun z hz => ?_⟩) _ hp.head
      · rcases hp.prev x hx with h1 | ⟨z, hz, h1⟩
        · obtain ⟨v, hv, h2⟩ := hp.last
          exact ⟨v, hv, by rw [h1]; exact h2⟩
        · exact ⟨z, hz, h1⟩
      · obtain ⟨hm, hne⟩ := (fromS_iff ho).1 hz
        obtain ⟨m, hm, em⟩ := List.mem_iff_getElem.1 hm
        have h1 : l[m].1 = z := by rw [em]
        have h2 : l[m].2 = x := by rw [em]
        rw [← h1]
        exact hal m hm (by rw [h1, h2]; exact hne) (by rw [h2]; exact hx)
  by_cases hG : G l[k].1 = Option.none
  · have hal : alone = false := by
      cases hb : alone
      · rfl
      · exact absurd hG (hwhen.2 hb)
    have h0 := h.none hk hs hG
    rw [hal]
    refine ⟨hl, fun i hi hGi => ?_, h0.cnt⟩
    have hne : l[i].1 ≠ l[i].2 := by
      obtain ⟨y, hy⟩ := Option.ne_none_iff_exists'.1 hGi
      obtain ⟨hm, hne⟩ := (fromS_iff ho).1 (G_from hd hy)
      obtain ⟨m, hm, em⟩ := List.mem_iff_getElem.1 hm
      have h1 : l[m].1 = l[i].1 := by rw [em]
      have := once_inj ho hm hi h1
      subst this
      rw [em]; exact hne
    rw [hus i hi hne, ← h0.use i hi hGi]
    constructor
    · rintro (h1 | h1)
      · exact h1
      · exact absurd hG ((path_back hd hp).1 _ h1 hGi)
    · exact .inl
  · have hal := hwhen.1 hG
    obtain ⟨hPG, _⟩ := path_left ho hd hp hG
    rw [hal]
    refine ⟨hl, fun i hi hGi => ?_, ?_⟩
    · have hne : l[i].1 ≠ l[i].2 := by
        obtain ⟨y, hy⟩ := Option.ne_none_iff_exists'.1 hGi
        obtain ⟨hm, hne⟩ := (fromS_iff ho).1 (G_from hd hy)
        obtain ⟨m, hm, em⟩ := List.mem_iff_getElem.1 hm
        have h1 : l[m].1 = l[i].1 := by rw [em]
        have := once_inj ho hm hi h1
        subst this
        rw [em]; exact hne
      rw [hus i hi hne, h.use i hi hGi, e]
      constructor
      · rintro (⟨y, hy, h2⟩ | h2)
        · exact ⟨y, by simp [hy], h2⟩
        · exact ⟨l[k].1, by simp, hG, hPG.reach.1 _ h2⟩
      · rintro ⟨y, hy, h2, h3⟩
        rcases List.mem_append.1 hy with hy | hy
        · exact .inl ⟨y, hy, h2, h3⟩
        · simp at hy; subst hy; exact .inr (hPG.all h3)
    · rw [e]
      refine .yes h.cnt ⟨hG, fun y hy hGy hr => ?_⟩
      have := (h.use k hk hG).2 ⟨y, hy, hGy, hr⟩
      rw [hu] at this; simp at this
end
end Go.Proofs.Ytjgnailkfmgikaa.Mv
