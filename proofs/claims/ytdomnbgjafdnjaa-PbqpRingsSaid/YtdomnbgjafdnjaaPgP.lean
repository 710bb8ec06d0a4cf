/- The general solver in plain Lean: what a step leaves; that a least choice of what is left makes a least choice of all. -/
import Derived.Test.YtdomnbgjafdnjaaPgFx
import Derived.Test.YtdomnbgjafdnjaaPgBg
import Derived.Test.YtdomnbgjafdnjaaPzO
namespace Go.Proofs.Ytdomnbgjafdnjaa

theorem dropS_eq (k x y : Nat) (ns : List Int) : ∀ S : PS, (dropS S k ns).near x y = if y = k ∧ ∃ m ∈ ns, m.toNat = x then none else S.near x y := by
  unfold dropS
  induction ns with
  | nil => intro S; simp
  | cons m ns ih =>
    intro S
    refine (ih (S.drop m.toNat k)).trans ?_
    simp only [PS.drop, List.mem_cons]
    by_cases h1 : y = k ∧ ∃ m ∈ ns, m.toNat = x
    · rw [if_pos h1, if_pos]
      obtain ⟨h2, m', h3, h4⟩ := h1
      exact ⟨h2, m', List.mem_cons_of_mem _ h3, h4⟩
    · rw [if_neg h1]
      by_cases h2 : x = m.toNat ∧ y = k
      · rw [if_pos h2, if_pos]
        exact ⟨h2.2, m, List.mem_cons_self .., h2.1.symm⟩
      · rw [if_neg h2, if_neg]
        rintro ⟨h3, m', h4, h5⟩
        rcases List.mem_cons.1 h4 with h4 | h4
        · subst h4; exact h2 ⟨h5.symm, h3⟩
        · exact h1 ⟨h3, m', h4, h5⟩
/-- What a pair of choices costs. -/
def mget (S : PS) (a b i j : Nat) : Int := (((S.near a b).getD []).getD i []).getD j 0
/-- Costs and lengths are as they should be. -/
structure OkS (cs : Nat → Nat) (n : Nat) (S : PS) : Prop where
  nd : ∀ k, k < n → (S.nodes k).length = cs k ∧ OkV (S.nodes k)
  ed : ∀ a b M, a < n → b < n → S.near a b = some M → OkM M (cs a) (cs b)
  ps : ∀ k, k < n → 0 < cs k
/-- The edges are among those that are there, and the same from both ends. -/
structure WfS (n : Nat) (S : PS) : Prop where
  rg : ∀ a b, S.gone a = false → S.near a b ≠ none → a < n ∧ b < n
  al : ∀ a b, S.gone a = false → S.near a b ≠ none → b ≠ a ∧ S.gone b = false
  no : ∀ a b, S.gone a = false → S.gone b = false → S.near a b = none → S.near b a = none
  sy : ∀ a b i j, S.gone a = false → S.gone b = false → mget S a b i j = mget S b a j i
theorem SS.okS {w W : World} {L : Pl} {ow : Nat → Tg} {n : Nat} {S : PS} {us : List (Nat × List Int)} {uv : Value} {uvs : List Value} (h : SS w L ow n S us uv uvs W) : OkS L.cs n S := by
  refine ⟨fun k hk => ⟨(h.vr k hk).len, (h.vr k hk).ok⟩, fun a b M ha hb hM => ?_, fun k hk => (h.vr k hk).cap.2.1⟩
  obtain ⟨f, hf⟩ := h.pr a ha
  obtain ⟨_, _, _, _, -, -, h3⟩ := hf.yes b hb M hM
  exact h3
theorem turn_get {M : List (List Int)} {n m : Nat} (h : OkM M n m) (i j : Nat) : ((turnS M m).getD j []).getD i 0 = (M.getD i []).getD j 0 := by
  have hz : ∀ i j, m ≤ j → (M.getD i []).getD j 0 = 0 := fun i j hj => by
    by_cases hi : i < n
    · rw [List.getD_eq_getElem?_getD, List.getElem?_eq_none (by rw [h.cols i hi]; exact hj)]; rfl
    · have : M.getD i [] = [] := by rw [List.getD_eq_getElem?_getD, List.getElem?_eq_none (by rw [h.rows]; omega)]; rfl
      rw [this]; rfl
  by_cases hj : j < m
  · rw [turnS_get hj]
    unfold colS
    rw [List.getD_eq_getElem?_getD, List.getElem?_map, List.getD_eq_getElem?_getD (l := M)]
    cases hM : M[i]? with
    | none => rfl
    | some r => rfl
  · rw [hz i j (by omega)]
    have : (turnS M m).getD j [] = [] := by rw [List.getD_eq_getElem?_getD, List.getElem?_eq_none (by rw [turnS_length]; omega)]; rfl
    rw [this]; rfl
section
variable {cs : Nat → Nat} {n k : Nat} {S S' : PS}
theorem WfS.ns (h : WfS n S) (hg : S.gone k = false) {m : Int} (hm : m ∈ nsS S n k) : S.gone m.toNat = false ∧ m.toNat ≠ k := by
  have h1 := (mem_nsS.1 hm).2
  have h2 := h.al k m.toNat hg (by intro e; rw [e] at h1; simp at h1)
  exact ⟨h2.2, h2.1⟩
/-- Of the rows of those that stay, what told of k is gone. -/
theorem WfS.drop (h : WfS n S) (hg : S.gone k = false) {x : Nat} (hx : S.gone x = false) : (dropS S k (nsS S n k)).near x k = none := by
  rw [dropS_eq]
  by_cases he : S.near x k = none
  · rw [he]; simp
  · rw [if_pos]
    obtain ⟨h1, h2⟩ := h.rg x k hx he
    have h3 : S.near k x ≠ none := fun e => he (h.no k x hg hx e)
    exact ⟨rfl, (x : Int), mem_nsS.2 ⟨by omega, by rw [Int.toNat_natCast]; exact Option.isSome_iff_ne_none.2 h3⟩, by simp⟩
theorem out_gone {x : Nat} (h : (S.out k).gone x = false) : x ≠ k ∧ S.gone x = false := by
  simp only [PS.out] at h
  by_cases e : x = k
  · rw [if_pos e] at h; cases h
  · rw [if_neg e] at h; exact ⟨e, h⟩
/-- A node goes, and nothing else turns among the others. -/
theorem WfS.goes (h : WfS n S) (hg : S.gone k = false) (hg' : S'.gone = (S.out k).gone) (hn : S'.near = (dropS S k (nsS S n k)).near) : WfS n S' := by
  have key : ∀ a b, S'.gone a = false → (b ≠ k → S'.near a b = S.near a b) ∧ (b = k → S'.near a b = none) := fun a b ha => by
    rw [hg'] at ha
    obtain ⟨h1, h2⟩ := out_gone ha
    refine ⟨fun hb => by rw [hn]; exact dropS_gone k a b _ S hb, fun hb => by rw [hb, hn]; exact h.drop hg h2⟩
  have al : ∀ a, S'.gone a = false → a ≠ k ∧ S.gone a = false := fun a ha => out_gone (by rw [← hg']; exact ha)
  refine ⟨fun a b ha hne => ?_, fun a b ha hne => ?_, fun a b ha hb hne => ?_, fun a b i j ha hb => ?_⟩
  · by_cases e : b = k
    · exact absurd ((key a b ha).2 e) hne
    · rw [(key a b ha).1 e] at hne
      exact h.rg a b (al a ha).2 hne
  · by_cases e : b = k
    · exact absurd ((key a b ha).2 e) hne
    · rw [(key a b ha).1 e] at hne
      obtain ⟨h1, h2⟩ := h.al a b (al a ha).2 hne
      refine ⟨h1, ?_⟩
      rw [hg']
      simp only [PS.out]
      rw [if_neg e]; exact h2
  · rw [(key a b ha).1 (al b hb).1] at hne
    rw [(key b a hb).1 (al a ha).1]
    exact h.no a b (al a ha).2 (al b hb).2 hne
  · unfold mget
    rw [(key a b ha).1 (al b hb).1, (key b a hb).1 (al a ha).1]
    exact h.sy a b i j (al a ha).2 (al b hb).2
/-- An edge more, or a turned one. -/
theorem WfS.edge {a b cm : Nat} {M : List (List Int)} {ca : Nat} (h : WfS n S) (ha : a < n) (hb : b < n) (hab : a ≠ b) (hga : S.gone a = false) (hgb : S.gone b = false) (hM : OkM M ca cm) : WfS n (S.edge a b cm M) := by
  have ne : ∀ x y, (S.edge a b cm M).near x y = if x = a ∧ y = b then some M else if x = b ∧ y = a then some (turnS M cm) else S.near x y := fun _ _ => rfl
  refine ⟨fun x y hx hne => ?_, fun x y hx hne => ?_, fun x y hx hy hne => ?_, fun x y i j hx hy => ?_⟩
  · rw [ne] at hne
    by_cases e1 : x = a ∧ y = b
    · exact ⟨by omega, by omega⟩
    · rw [if_neg e1] at hne
      by_cases e2 : x = b ∧ y = a
      · exact ⟨by omega, by omega⟩
      · rw [if_neg e2] at hne; exact h.rg x y hx hne
  · rw [ne] at hne
    by_cases e1 : x = a ∧ y = b
    · obtain ⟨rfl, rfl⟩ := e1; exact ⟨Ne.symm hab, hgb⟩
    · rw [if_neg e1] at hne
      by_cases e2 : x = b ∧ y = a
      · obtain ⟨rfl, rfl⟩ := e2; exact ⟨hab, hga⟩
      · rw [if_neg e2] at hne; exact h.al x y hx hne
  · rw [ne] at hne ⊢
    by_cases e1 : x = a ∧ y = b
    · rw [if_pos e1] at hne; cases hne
    · rw [if_neg e1] at hne
      by_cases e2 : x = b ∧ y = a
      · rw [if_pos e2] at hne; cases hne
      · rw [if_neg e2] at hne
        rw [if_neg (fun e => e2 ⟨e.2, e.1⟩), if_neg (fun e => e1 ⟨e.2, e.1⟩)]
        exact h.no x y hx hy hne
  · unfold mget
    rw [ne, ne]
    by_cases e1 : x = a ∧ y = b
    · obtain ⟨rfl, rfl⟩ := e1
      rw [if_pos ⟨rfl, rfl⟩, if_neg (fun e => hab e.2), if_pos ⟨rfl, rfl⟩]
      exact (turn_get hM i j).symm
    · by_cases e2 : x = b ∧ y = a
      · obtain ⟨rfl, rfl⟩ := e2
        rw [if_neg e1, if_pos ⟨rfl, rfl⟩, if_pos ⟨rfl, rfl⟩]
        exact turn_get hM j i
      · rw [if_neg e1, if_neg e2, if_neg (fun e => e2 ⟨e.2, e.1⟩), if_neg (fun e => e1 ⟨e.2, e.1⟩)]
        exact h.sy x y i j hx hy
theorem sumJ_ok {a b ca cb : Nat} {M : List (List Int)} (hO : ∀ O, S.near a b = some O → OkM O ca cb) (hM : OkM M ca cb) : OkM (sumJ S a b ca M) ca cb := by
  unfold sumJ
  cases h : S.near a b with
  | none => exact hM
  | some O => exact (hO O h).addM hM ca
/-- What 'take' leaves, told apart by the neighbours. -/
inductive TkC (S : PS) (cs : Nat → Nat) (n k : Nat) : PS → Prop
  | none (h : nsS S n k = []) : TkC S cs n k ((dropS S k (nsS S n k)).out k)
  | one (a : Nat) (M : List (List Int)) (h : nsS S n k = [(a : Int)]) (hM : S.near k a = some M) : TkC S cs n k (((dropS S k (nsS S n k)).out k).vec a (oneS (S.nodes k) M (S.nodes a)))
  | two (a b : Nat) (MA MB : List (List Int)) (h : nsS S n k = [(a : Int), (b : Int)]) (hA : S.near k a = some MA) (hB : S.near k b = some MB) :
    TkC S cs n k (((dropS S k (nsS S n k)).out k).edge a b (cs b) (sumJ ((dropS S k (nsS S n k)).out k) a b (cs a) (twoM (S.nodes k) MA MB (cs a) (cs b))))
theorem takeC (h1 : (nsS S n k).length ≤ 2) : TkC S cs n k (takeS S cs n k) := by
  have hm : ∀ x : Int, x ∈ nsS S n k → ∃ a M, x = ((a : Nat) : Int) ∧ S.near k a = some M := fun x hx => by
    obtain ⟨hr, hs⟩ := mem_nsS.1 hx
    obtain ⟨M, hM⟩ := Option.isSome_iff_exists.1 hs
    exact ⟨x.toNat, M, by omega, hM⟩
  match hns : nsS S n k, h1 with
  | [], _ =>
    have : takeS S cs n k = (dropS S k (nsS S n k)).out k := by unfold takeS; rw [hns]
    rw [this]; exact .none hns
  | [x], _ =>
    obtain ⟨a, M, rfl, hM⟩ := hm x (by rw [hns]; simp)
    have : takeS S cs n k = ((dropS S k (nsS S n k)).out k).vec a (oneS (S.nodes k) M (S.nodes a)) := by unfold takeS; rw [hns]; simp only [Int.toNat_natCast, hM, Option.getD_some]
    rw [this]; exact .one a M hns hM
  | [x, y], _ =>
    obtain ⟨a, MA, rfl, hA⟩ := hm x (by rw [hns]; simp)
    obtain ⟨b, MB, rfl, hB⟩ := hm y (by rw [hns]; simp)
    have : takeS S cs n k = ((dropS S k (nsS S n k)).out k).edge a b (cs b) (sumJ ((dropS S k (nsS S n k)).out k) a b (cs a) (twoM (S.nodes k) MA MB (cs a) (cs b))) := by unfold takeS; rw [hns]; simp only [Int.toNat_natCast, hA, hB, Option.getD_some]
    rw [this]; exact .two a b MA MB hns hA hB
/-- What is alike in all of them. -/
structure TkL (S S' : PS) (n k : Nat) : Prop where
  gn : S'.gone = (S.out k).gone
  l : S'.l = S.l
  fz : ∀ j, (j = k ∨ S.gone j = true) → S'.nodes j = S.nodes j ∧ ∀ x, S'.near j x = S.near j x
theorem WfS.fz (h : WfS n S) (hg : S.gone k = false) {j : Nat} (hj : j = k ∨ S.gone j = true) (x : Nat) : (dropS S k (nsS S n k)).near j x = S.near j x := by
  rw [dropS_eq, if_neg]
  rintro ⟨-, m, hm, he⟩
  obtain ⟨h1, h2⟩ := h.ns hg hm
  rw [he] at h1 h2
  rcases hj with hj | hj
  · exact h2 hj
  · rw [hj] at h1; cases h1
theorem TkC.like (hc : TkC S cs n k S') (h : WfS n S) (hg : S.gone k = false) : TkL S S' n k := by
  have hd := dropS_same k (nsS S n k) S
  have hl : ∀ (ns : List Int) (S : PS), (dropS S k ns).l = S.l := fun ns => by
    unfold dropS
    induction ns with
    | nil => intro S; rfl
    | cons m ns ih => intro S; exact ih (S.drop m.toNat k)
  have hgn : ((dropS S k (nsS S n k)).out k).gone = (S.out k).gone := by simp only [PS.out, hd.1]
  have hal : ∀ {a : Nat} {ns : List Int}, nsS S n k = ns → (a : Int) ∈ ns → ∀ j, (j = k ∨ S.gone j = true) → j ≠ a := fun he hm j hj e => by
    obtain ⟨h1, h2⟩ := h.ns hg (by rw [he]; exact hm)
    simp only [Int.toNat_natCast] at h1 h2
    rcases hj with hj | hj
    · exact h2 (e ▸ hj)
    · rw [e, h1] at hj; cases hj
  cases hc with
  | none h1 => exact ⟨hgn, hl _ S, fun j hj => ⟨by show (dropS S k (nsS S n k)).nodes j = _; rw [hd.2.1], fun x => h.fz hg hj x⟩⟩
  | one a M h1 hM =>
    refine ⟨hgn, hl _ S, fun j hj => ⟨?_, fun x => h.fz hg hj x⟩⟩
    simp only [PS.vec]
    rw [if_neg (hal h1 (by simp) j hj)]
    show (dropS S k (nsS S n k)).nodes j = _; rw [hd.2.1]
  | two a b MA MB h1 hA hB =>
    refine ⟨hgn, hl _ S, fun j hj => ⟨by show (dropS S k (nsS S n k)).nodes j = _; rw [hd.2.1], fun x => ?_⟩⟩
    simp only [PS.edge]
    rw [if_neg (fun e => hal h1 (by simp) j hj e.1), if_neg (fun e => hal h1 (by simp) j hj e.1)]
    exact h.fz hg hj x
theorem TkC.wf (hc : TkC S cs n k S') (h : WfS n S) (hO : OkS cs n S) (hk : k < n) (hg : S.gone k = false) : WfS n S' := by
  have hd := dropS_same k (nsS S n k) S
  have hgn : ((dropS S k (nsS S n k)).out k).gone = (S.out k).gone := by simp only [PS.out, hd.1]
  have h1 : WfS n ((dropS S k (nsS S n k)).out k) := h.goes hg hgn rfl
  cases hc with
  | none _ => exact h1
  | one a M _ _ => exact ⟨h1.rg, h1.al, h1.no, h1.sy⟩
  | two a b MA MB hns hA hB =>
    have hma : (a : Int) ∈ nsS S n k := by rw [hns]; simp
    have hmb : (b : Int) ∈ nsS S n k := by rw [hns]; simp
    have ha := (mem_nsS.1 hma).1
    have hb := (mem_nsS.1 hmb).1
    have ga := h.ns hg hma
    have gb := h.ns hg hmb
    have hnd := nsS_nodup S n k
    rw [hns] at hnd
    have hab : a ≠ b := by intro e; subst e; simp at hnd
    simp only [Int.toNat_natCast] at ga gb
    have hal : ∀ x, S.gone x = false → x ≠ k → ((dropS S k (nsS S n k)).out k).gone x = false := fun x hx hne => by
      rw [hgn]; simp only [PS.out]; rw [if_neg hne]; exact hx
    have hOA := hO.ed k a MA hk (by omega) hA
    have hOB := hO.ed k b MB hk (by omega) hB
    refine h1.edge (ca := cs a) (by omega) (by omega) hab (hal a ga.1 ga.2) (hal b gb.1 gb.2) (sumJ_ok (fun O hOO => ?_) (twoM_ok (hO.nd k hk).2 hOA hOB))
    refine hO.ed a b O (by omega) (by omega) ?_
    rw [← hOO]
    exact (dropS_gone k a b _ S gb.2).symm
end
end Go.Proofs.Ytdomnbgjafdnjaa
