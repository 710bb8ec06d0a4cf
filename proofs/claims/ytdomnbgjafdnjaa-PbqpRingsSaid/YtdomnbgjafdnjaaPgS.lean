/- The general solver in plain Lean: what holds on the way through all nodes, and what is done behind. -/
import Derived.Test.YtdomnbgjafdnjaaPgO
namespace Go.Proofs.Ytdomnbgjafdnjaa
open Go.RowKit Go.Maps

/-- Who is near whom, of those that are there. -/
def nrE (S : PS) : Nat → Nat → Bool := fun x y => !S.gone x && (S.near x y).isSome
theorem nrE_iff {S : PS} {x y : Nat} : nrE S x y = true ↔ S.gone x = false ∧ S.near x y ≠ none := by
  unfold nrE
  cases S.gone x <;> cases S.near x y <;> simp
/-- What is done behind. -/
def undoS (S : PS) (us : List (Nat × List Int)) (l : List Int) : List Int := us.foldr (fun u l => l.set u.1 (leastS (accS (fun m => (S.near u.1 m.toNat).getD []) l (S.nodes u.1) u.2) : Nat)) l
section
variable {cs : Nat → Nat} {n k : Nat} {S S' S0 : PS} {us : List (Nat × List Int)} {l : List Int}
theorem undoS_length : (undoS S us l).length = l.length := by
  unfold undoS
  induction us with
  | nil => rfl
  | cons u us ih => rw [List.foldr_cons, List.length_set]; exact ih
theorem undoS_congr (h : ∀ u ∈ us, S'.nodes u.1 = S.nodes u.1 ∧ ∀ x, S'.near u.1 x = S.near u.1 x) : undoS S' us l = undoS S us l := by
  unfold undoS
  induction us with
  | nil => rfl
  | cons u us ih =>
    rw [List.foldr_cons, List.foldr_cons, ih (fun v hv => h v (List.mem_cons_of_mem _ hv))]
    obtain ⟨h1, h2⟩ := h u (List.mem_cons_self ..)
    have e : (fun m : Int => (S'.near u.1 m.toNat).getD []) = fun m => (S.near u.1 m.toNat).getD [] := funext fun m => by rw [h2]
    rw [h1, e]
theorem undoS_snoc (u : Nat × List Int) : undoS S (us ++ [u]) l = undoS S us (l.set u.1 (leastS (accS (fun m => (S.near u.1 m.toNat).getD []) l (S.nodes u.1) u.2) : Nat)) := by
  unfold undoS
  rw [List.foldr_append]; rfl
theorem WfS.wfE (h : WfS n S) : WfE n (nrE S) S.gone := by
  refine ⟨fun x y => ?_, fun x => ?_, fun x y he => ?_⟩
  · rw [Bool.eq_iff_iff, nrE_iff, nrE_iff]
    constructor
    · rintro ⟨h1, h2⟩
      obtain ⟨-, h3⟩ := h.al x y h1 h2
      exact ⟨h3, fun e => h2 (h.no y x h3 h1 e)⟩
    · rintro ⟨h1, h2⟩
      obtain ⟨-, h3⟩ := h.al y x h1 h2
      exact ⟨h3, fun e => h2 (h.no x y h3 h1 e)⟩
  · cases he : nrE S x x with
    | false => rfl
    | true =>
      obtain ⟨h1, h2⟩ := nrE_iff.1 he
      exact absurd rfl (h.al x x h1 h2).1
  · obtain ⟨h1, h2⟩ := nrE_iff.1 he
    exact ⟨h1, (h.rg x y h1 h2).1⟩
theorem nb_len (hg : S.gone k = false) : (nbE n (nrE S) k).length = (nsS S n k).length := by
  unfold nbE nsS
  rw [List.filter_map, List.length_map]
  congr 1
  refine List.filter_congr fun x _ => ?_
  simp [nrE, hg]
theorem WfS.mem_ns (h : WfS n S) (hg : S.gone k = false) {x : Nat} (hx : S.gone x = false) (he : S.near x k ≠ none) : (x : Int) ∈ nsS S n k := by
  obtain ⟨h1, -⟩ := h.rg x k hx he
  have h3 : S.near k x ≠ none := fun e => he (h.no k x hg hx e)
  exact mem_nsS.2 ⟨by omega, by rw [Int.toNat_natCast]; exact Option.isSome_iff_ne_none.2 h3⟩
theorem WfS.mem_ns2 (h : WfS n S) (hg : S.gone k = false) {x : Nat} (he : S.near k x ≠ none) : (x : Int) ∈ nsS S n k :=
  mem_nsS.2 ⟨by have := (h.rg k x hg he).2; omega, by rw [Int.toNat_natCast]; exact Option.isSome_iff_ne_none.2 he⟩
theorem nrE_take (hc : TkC S cs n k S') (h : WfS n S) (hg : S.gone k = false) : nrE S' = elimE (nrE S) k := by
  have hgn := (hc.like h hg).gn
  have hds := dropS_same k (nsS S n k) S
  funext x y
  rw [Bool.eq_iff_iff, nrE_iff]
  unfold elimE
  simp only [Bool.and_eq_true, Bool.or_eq_true, decide_eq_true_eq, nrE_iff]
  rw [hgn]
  by_cases hxk : x = k
  · subst hxk; simp [PS.out]
  by_cases hgx : S.gone x = false
  case neg =>
    constructor
    · rintro ⟨h1, -⟩; exact absurd (out_gone h1).2 hgx
    · rintro ⟨-, h1 | h1⟩
      · exact absurd h1.1 hgx
      · exact absurd h1.1.1.1 hgx
  have hox : (S.out k).gone x = false := by simp only [PS.out]; rw [if_neg hxk]; exact hgx
  have hdn : y ≠ k → (dropS S k (nsS S n k)).near x y = S.near x y := fun hy => dropS_gone k x y _ S hy
  have hdk : (dropS S k (nsS S n k)).near x k = none := h.drop hg hgx
  by_cases hyk : y = k
  · subst hyk
    refine ⟨fun h1 => absurd ?_ h1.2, fun h1 => absurd rfl h1.1.2⟩
    cases hc with
    | none _ => exact hdk
    | one _ _ _ _ => exact hdk
    | two a b MA MB hns hA hB =>
      have ga := h.ns hg (m := a) (by rw [hns]; simp)
      have gb := h.ns hg (m := b) (by rw [hns]; simp)
      simp only [Int.toNat_natCast] at ga gb
      simp only [PS.edge]
      rw [if_neg (fun e => gb.2 e.2.symm), if_neg (fun e => ga.2 e.2.symm)]
      exact hdk
  have hrs : ∀ {ns : List Int}, nsS S n k = ns → ((((x ≠ k ∧ y ≠ k) ∧ ((S.gone x = false ∧ S.near x y ≠ none) ∨ ((S.gone x = false ∧ S.near x k ≠ none) ∧ S.gone k = false ∧ S.near k y ≠ none) ∧ x ≠ y))) ↔ (S.near x y ≠ none ∨ ((x : Int) ∈ ns ∧ (y : Int) ∈ ns ∧ x ≠ y))) := fun he => by
    subst he
    constructor
    · rintro ⟨-, h1 | h1⟩
      · exact .inl h1.2
      · exact .inr ⟨h.mem_ns hg hgx h1.1.1.2, h.mem_ns2 hg h1.1.2.2, h1.2⟩
    · rintro (h1 | ⟨h1, h2, h3⟩)
      · exact ⟨⟨hxk, hyk⟩, .inl ⟨hgx, h1⟩⟩
      · have e1 := (mem_nsS.1 h1).2
        have e2 := (mem_nsS.1 h2).2
        rw [Int.toNat_natCast] at e1 e2
        exact ⟨⟨hxk, hyk⟩, .inr ⟨⟨⟨hgx, fun e => by rw [h.no x k hgx hg e] at e1; cases e1⟩, hg, Option.isSome_iff_ne_none.1 e2⟩, h3⟩⟩
  cases hc with
  | none hns =>
    rw [hrs hns]
    simp only [PS.out, List.not_mem_nil, false_and, or_false]
    rw [hdn hyk]
    exact ⟨fun h1 => h1.2, fun h1 => ⟨hox, h1⟩⟩
  | one a M hns hM =>
    rw [hrs hns]
    simp only [List.mem_singleton]
    have e : ((dropS S k (nsS S n k)).out k |>.vec a (oneS (S.nodes k) M (S.nodes a))).near x y = S.near x y := hdn hyk
    rw [e]
    constructor
    · exact fun h1 => .inl h1.2
    · rintro (h1 | ⟨h1, h2, h3⟩)
      · exact ⟨hox, h1⟩
      · omega
  | two a b MA MB hns hA hB =>
    rw [hrs hns]
    simp only [PS.edge]
    have hnd := nsS_nodup S n k
    rw [hns] at hnd
    have hab : a ≠ b := by intro e; subst e; simp at hnd
    by_cases e1 : x = a ∧ y = b
    · rw [if_pos e1]
      obtain ⟨rfl, rfl⟩ := e1
      exact ⟨fun _ => .inr ⟨by simp, by simp, hab⟩, fun _ => ⟨hox, by simp⟩⟩
    · rw [if_neg e1]
      by_cases e2 : x = b ∧ y = a
      · rw [if_pos e2]
        obtain ⟨rfl, rfl⟩ := e2
        exact ⟨fun _ => .inr ⟨by simp, by simp, Ne.symm hab⟩, fun _ => ⟨hox, by simp⟩⟩
      · rw [if_neg e2]
        have e : ((dropS S k (nsS S n k)).out k).near x y = S.near x y := hdn hyk
        rw [e]
        constructor
        · exact fun h1 => .inl h1.2
        · rintro (h1 | ⟨h1, h2, h3⟩)
          · exact ⟨hox, h1⟩
          · simp only [List.mem_cons, List.not_mem_nil, or_false] at h1 h2
            omega
/-- What holds on the way. -/
structure SolI (cs : Nat → Nat) (n : Nat) (S0 S : PS) (us : List (Nat × List Int)) : Prop where
  wf : WfS n S
  hv : ∀ u ∈ us, u.1 < n ∧ S.gone u.1 = true ∧ u.2.length ≤ 300 ∧ ∀ m ∈ u.2, (0 ≤ m ∧ m < n) ∧ (S.near u.1 m.toNat).isSome = true
  ul : us.length + (alS S n).length ≤ n
  ez : RedP n (nrE S0) S0.gone → RedP n (nrE S) S.gone ∧ ∀ l, l.length = n → OptS S cs n l → OptS S0 cs n (undoS S us l)
theorem SolI.init (h : WfS n S0) : SolI cs n S0 S0 [] :=
  ⟨h, fun u hu => by simp at hu, by
    have := List.length_filter_le (fun v => !S0.gone v) (List.range n)
    rw [List.length_range] at this
    show 0 + (alS S0 n).length ≤ n
    rw [Nat.zero_add]; exact this, fun hr => ⟨hr, fun _ _ ho => ho⟩⟩
theorem alS_less (hk : k < n) (hg : S.gone k = false) (hg' : S'.gone = (S.out k).gone) : (alS S' n).length + 1 = (alS S n).length := by
  have := (alS_perm (S' := S') hk hg hg').length_eq
  simpa using this
theorem SolI.take (h : SolI cs n S0 S us) (hO : OkS cs n S) (hO' : OkS cs n (takeS S cs n k)) (hk : k < n) (hg : S.gone k = false) (h1 : (nsS S n k).length ≤ 2) : SolI cs n S0 (takeS S cs n k) (us ++ [(k, nsS S n k)]) ∧ (alS (takeS S cs n k) n).length + 1 = (alS S n).length := by
  have hc := takeC (cs := cs) h1
  obtain ⟨S', hS'⟩ : ∃ S', takeS S cs n k = S' := ⟨_, rfl⟩
  rw [hS'] at hc hO' ⊢
  have hL := hc.like h.wf hg
  have hw' := hc.wf h.wf hO hk hg
  have hal := alS_less hk hg hL.gn
  have hfz : ∀ u ∈ us, S'.nodes u.1 = S.nodes u.1 ∧ ∀ x, S'.near u.1 x = S.near u.1 x := fun u hu => hL.fz u.1 (.inr (h.hv u hu).2.1)
  refine ⟨⟨hw', fun u hu => ?_, ?_, fun hr => ⟨?_, fun l hl ho => ?_⟩⟩, hal⟩
  · rcases List.mem_append.1 hu with hu | hu
    · obtain ⟨a1, a2, a3, a4⟩ := h.hv u hu
      refine ⟨a1, ?_, a3, fun m hm => ?_⟩
      · rw [hL.gn]; simp only [PS.out]; rw [a2]; simp
      · rw [(hfz u hu).2]; exact a4 m hm
    · rw [List.mem_singleton] at hu
      subst hu
      refine ⟨hk, ?_, Nat.le_trans h1 (by omega), fun m hm => ?_⟩
      · rw [hL.gn]; simp [PS.out]
      · show _ ∧ (S'.near k m.toNat).isSome = true
        rw [(hL.fz k (.inl rfl)).2]
        exact mem_nsS.1 hm
  · have := h.ul
    rw [List.length_append, List.length_singleton]
    omega
  · have h2 := (h.ez hr).1.take h.wf.wfE hk hg (by rw [nb_len hg]; exact h1)
    rw [nrE_take hc h.wf hg, hL.gn]
    exact h2
  · have h2 := take_opt hO h.wf hO' hw' hk hg hc hl ho
    have h3 := (h.ez hr).2 _ (by rw [List.length_set]; exact hl) h2
    rw [undoS_snoc, undoS_congr hfz]
    have e : pick S n k l = leastS (accS (fun m => (S'.near k m.toNat).getD []) l (S'.nodes k) (nsS S n k)) := by
      unfold pick
      rw [(hL.fz k (.inl rfl)).1]
      have e : (fun m : Int => (S'.near k m.toNat).getD []) = fun m => (S.near k m.toNat).getD [] := funext fun m => by rw [(hL.fz k (.inl rfl)).2]
      rw [e]
    rw [e] at h3
    exact h3
theorem SolI.fix (h : SolI cs n S0 S us) (hR : FixR S S' cs n k) (hk : k < n) (hg : S.gone k = false) (h2 : ∀ j, j < n → S.gone j = false → 2 < (nsS S n j).length) : SolI cs n S0 S' us ∧ (alS S' n).length + 1 = (alS S n).length := by
  obtain ⟨r1, r2, -⟩ := hR
  have hal := alS_less hk hg r2
  refine ⟨⟨h.wf.goes hg r2 r1, fun u hu => ?_, by have := h.ul; omega, fun hr => ?_⟩, hal⟩
  · obtain ⟨a1, a2, a3, a4⟩ := h.hv u hu
    refine ⟨a1, ?_, a3, fun m hm => ?_⟩
    · rw [r2]; simp only [PS.out]; rw [a2]; simp
    · rw [r1, h.wf.fz hg (.inr a2)]; exact a4 m hm
  · have := (h.ez hr).1.stuck (fun v hv hgv => by rw [nb_len hgv]; exact h2 v hv hgv) k hk
    rw [hg] at this; cases this
theorem SolI.range (h : SolI cs n S0 S us) (hO : OkS cs n S) {vs : List (Nat × List Int)} (hv : ∀ u ∈ vs, u ∈ us) (hl : ∀ i, i < n → 0 ≤ l.getD i 0 ∧ l.getD i 0 < cs i) (hll : l.length = n) : ∀ i, i < n → 0 ≤ (undoS S vs l).getD i 0 ∧ (undoS S vs l).getD i 0 < cs i := by
  induction vs with
  | nil => exact hl
  | cons u vs ih =>
    intro i hi
    have h1 := ih (fun v hv2 => hv v (List.mem_cons_of_mem _ hv2)) i hi
    obtain ⟨a1, -, -, a4⟩ := h.hv u (hv u (List.mem_cons_self ..))
    have hacc := (accS_ok (E := fun m => (S.near u.1 m.toNat).getD []) (l := undoS S vs l) (n := cs u.1) u.2 (S.nodes u.1) (hO.nd u.1 a1).1 (hO.nd u.1 a1).2 (fun m hm => by
      obtain ⟨b1, b2⟩ := a4 m hm
      obtain ⟨M, hM⟩ := Option.isSome_iff_exists.1 b2
      refine ⟨cs m.toNat, ?_⟩
      rw [hM]
      exact hO.ed u.1 m.toNat M a1 (by omega) hM)).1
    have h3 : undoS S (u :: vs) l = (undoS S vs l).set u.1 (leastS (accS (fun m => (S.near u.1 m.toNat).getD []) (undoS S vs l) (S.nodes u.1) u.2) : Nat) := rfl
    rw [h3, List.getD_eq_getElem?_getD, List.getElem?_set]
    by_cases e : u.1 = i
    · rw [if_pos e, if_pos (by rw [undoS_length]; omega)]
      simp only [Option.getD_some]
      have := leastS_lt (v := accS (fun m => (S.near u.1 m.toNat).getD []) (undoS S vs l) (S.nodes u.1) u.2) (by rw [hacc]; exact hO.ps _ a1)
      rw [hacc] at this
      subst e
      omega
    · rw [if_neg e, ← List.getD_eq_getElem?_getD]; exact h1
/-- All is gone: nothing is left to choose. -/
theorem OptS.all (h : ∀ j, j < n → S.gone j = true) : OptS S cs n l := by
  have : alS S n = [] := by
    unfold alS
    rw [List.filter_eq_nil_iff]
    intro j hj
    rw [h j (List.mem_range.1 hj)]; simp
  unfold OptS
  rw [this]
  exact ⟨fun u hu => by simp at hu, fun g _ => Int.le_refl _⟩
end
end Go.Proofs.Ytdomnbgjafdnjaa
