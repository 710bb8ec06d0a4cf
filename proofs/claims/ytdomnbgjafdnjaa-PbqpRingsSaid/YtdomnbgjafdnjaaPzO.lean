/- Nodes of at most two neighbours are taken away one by one: whether all can be does not depend on the order. Plain Lean. -/
import Derived.ProofKit
namespace Go.Proofs.Ytdomnbgjafdnjaa

section
theorem sub_len {α : Type} [DecidableEq α] : ∀ {l T : List α}, l.Nodup → (∀ x ∈ l, x ∈ T) → l.length ≤ T.length
  | [], _, _, _ => Nat.zero_le _
  | x :: l, T, hn, h => by
    rw [List.nodup_cons] at hn
    have h1 := sub_len (T := T.erase x) hn.2 (fun y hy => (List.mem_erase_of_ne (fun (e : y = x) => hn.1 (e ▸ hy))).2 (h y (List.mem_cons_of_mem _ hy)))
    rw [List.length_erase_of_mem (h x (by simp))] at h1
    have := List.length_pos_of_mem (h x (by simp))
    rw [List.length_cons]
    omega

/-- Node v is taken away: its neighbours become neighbours of each other. -/
def elimE (E : Nat → Nat → Bool) (v : Nat) : Nat → Nat → Bool := fun x y => decide (x ≠ v) && decide (y ≠ v) && (E x y || (E x v && E v y && decide (x ≠ y)))
def outE (g : Nat → Bool) (v : Nat) : Nat → Bool := fun u => if u = v then true else g u
def nbE (n : Nat) (E : Nat → Nat → Bool) (v : Nat) : List Nat := (List.range n).filter (E v)
structure WfE (n : Nat) (E : Nat → Nat → Bool) (g : Nat → Bool) : Prop where
  sym : ∀ x y, E x y = E y x
  irr : ∀ x, E x x = false
  al : ∀ x y, E x y = true → g x = false ∧ x < n
/-- All that are left can be taken away. -/
inductive RedP (n : Nat) : (Nat → Nat → Bool) → (Nat → Bool) → Prop
  | done {E : Nat → Nat → Bool} {g : Nat → Bool} (h : ∀ v, v < n → g v = true) : RedP n E g
  | step {E : Nat → Nat → Bool} {g : Nat → Bool} {v : Nat} (hv : v < n) (hg : g v = false) (hd : (nbE n E v).length ≤ 2) (h : RedP n (elimE E v) (outE g v)) : RedP n E g
section
variable {n : Nat} {E : Nat → Nat → Bool} {g : Nat → Bool} {u v : Nat}
theorem WfE.elim (h : WfE n E g) (v : Nat) : WfE n (elimE E v) (outE g v) := by
  refine ⟨fun x y => ?_, fun x => ?_, fun x y he => ?_⟩
  · unfold elimE
    rw [h.sym x y, h.sym x v, h.sym v y]
    have e : decide (x ≠ y) = decide (y ≠ x) := by rw [Bool.eq_iff_iff]; simp [ne_comm]
    rw [e]
    cases decide (x ≠ v) <;> cases decide (y ≠ v) <;> cases E y x <;> cases E v x <;> cases E y v <;> cases decide (y ≠ x) <;> rfl
  · unfold elimE
    rw [h.irr x]
    simp
  · unfold elimE at he
    simp only [Bool.and_eq_true, Bool.or_eq_true, decide_eq_true_eq] at he
    obtain ⟨⟨h1, -⟩, h3⟩ := he
    have h4 : g x = false ∧ x < n := h3.elim (h.al x y) fun h3 => h.al x v h3.1.1
    exact ⟨by unfold outE; rw [if_neg h1]; exact h4.1, h4.2⟩
theorem elim_comm (h : WfE n E g) (huv : u ≠ v) : elimE (elimE E u) v = elimE (elimE E v) u := by
  funext x y
  unfold elimE
  by_cases h1 : x = u
  · subst h1; simp
  by_cases h2 : x = v
  · subst h2; simp
  by_cases h3 : y = u
  · subst h3; simp
  by_cases h4 : y = v
  · subst h4; simp
  have e1 := h.sym v u
  by_cases h5 : x = y
  · subst h5
    simp [h1, h2, huv, Ne.symm huv]
  · simp only [h1, h2, h3, h4, h5, huv, Ne.symm huv, Ne.symm h3, Ne.symm h4, ne_eq, not_false_eq_true, decide_true, Bool.true_and, Bool.and_true, e1]
    cases E x y <;> cases E x u <;> cases E u y <;> cases E x v <;> cases E v y <;> cases E u v <;> rfl
theorem out_comm (g : Nat → Bool) (u v : Nat) : outE (outE g u) v = outE (outE g v) u := by
  funext x
  unfold outE
  by_cases h1 : x = u <;> by_cases h2 : x = v <;> simp [h1, h2]
theorem nbE_nodup (n : Nat) (E : Nat → Nat → Bool) (v : Nat) : (nbE n E v).Nodup := List.nodup_range.filter _
theorem mem_nbE {x : Nat} : x ∈ nbE n E v ↔ x < n ∧ E v x = true := by unfold nbE; rw [List.mem_filter, List.mem_range]
theorem deg_elim (h : WfE n E g) (_huv : u ≠ v) (hd : (nbE n E u).length ≤ 2) : (nbE n (elimE E u) v).length ≤ (nbE n E v).length := by
  by_cases hvu : E v u = true
  · have hu : u ∈ nbE n E v := mem_nbE.2 ⟨(h.al u v (by rw [h.sym]; exact hvu)).2, hvu⟩
    have hv : v ∈ nbE n E u := mem_nbE.2 ⟨(h.al v u hvu).2, by rw [h.sym]; exact hvu⟩
    have h1 := sub_len (T := (nbE n E v).erase u ++ (nbE n E u).erase v) (nbE_nodup n (elimE E u) v) (fun x hx => by
      obtain ⟨hxn, he⟩ := mem_nbE.1 hx
      unfold elimE at he
      simp only [Bool.and_eq_true, Bool.or_eq_true, decide_eq_true_eq] at he
      obtain ⟨⟨-, h2⟩, h3⟩ := he
      rw [List.mem_append]
      rcases h3 with h3 | h3
      · exact .inl ((List.mem_erase_of_ne h2).2 (mem_nbE.2 ⟨hxn, h3⟩))
      · exact .inr ((List.mem_erase_of_ne (Ne.symm h3.2)).2 (mem_nbE.2 ⟨hxn, h3.1.2⟩)))
    rw [List.length_append, List.length_erase_of_mem hu, List.length_erase_of_mem hv] at h1
    have := List.length_pos_of_mem hu
    omega
  · refine sub_len (nbE_nodup n _ v) fun x hx => ?_
    obtain ⟨hxn, he⟩ := mem_nbE.1 hx
    unfold elimE at he
    have : E v u = false := by simpa using hvu
    rw [this] at he
    simp only [Bool.and_eq_true, Bool.false_and, Bool.or_false] at he
    exact mem_nbE.2 ⟨hxn, he.2⟩
/-- Whatever node of at most two neighbours is taken away next: the others can still be. -/
theorem RedP.take (hr : RedP n E g) : WfE n E g → ∀ {v : Nat}, v < n → g v = false → (nbE n E v).length ≤ 2 → RedP n (elimE E v) (outE g v) := by
  induction hr with
  | done h => intro _ v hv hg; rw [h v hv] at hg; cases hg
  | @step E g u hu hgu hdu hr ih =>
    intro hw v hv hg hd
    by_cases e : v = u
    · subst e; exact hr
    · have h1 := ih (hw.elim u) hv (by unfold outE; rw [if_neg e]; exact hg) (Nat.le_trans (deg_elim hw (Ne.symm e) hdu) hd)
      rw [elim_comm hw (Ne.symm e), out_comm] at h1
      exact .step hu (by unfold outE; rw [if_neg (Ne.symm e)]; exact hgu) (Nat.le_trans (deg_elim hw e hd) hdu) h1
/-- Where none has at most two neighbours, and one is left, it cannot go on. -/
theorem RedP.stuck (hr : RedP n E g) (hs : ∀ v, v < n → g v = false → 2 < (nbE n E v).length) : ∀ v, v < n → g v = true := by
  cases hr with
  | done h => exact h
  | step hv hg hd _ => have := hs _ hv hg; omega
end
end

section
/- Where a node of at most two neighbours is taken away, the least cost stays, and a least choice of the others makes a least choice of all. Plain Lean. -/
abbrev infZ : Int := 1099511627776
/-- A sum that stops. -/
def capZ (x : Int) : Int := min x infZ
theorem capZ_le (x : Int) : capZ x ≤ x ∧ capZ x ≤ infZ := by unfold capZ; omega
theorem capZ_mono {x y : Int} (h : x ≤ y) : capZ x ≤ capZ y := by unfold capZ; omega
theorem capZ_add {x y : Int} (hx : 0 ≤ x) : capZ (x + capZ y) = capZ (x + y) := by unfold capZ; omega
theorem capZ_capZ (x : Int) : capZ (capZ x) = capZ x := by unfold capZ; omega
theorem capZ_nn {x : Int} (h : 0 ≤ x) : 0 ≤ capZ x := by unfold capZ infZ; omega
theorem capZ_both {x y x' y' : Int} (hx : 0 ≤ x) (hy : 0 ≤ y) (hx' : 0 ≤ x') (hy' : 0 ≤ y') (h1 : capZ x ≤ capZ x') (h2 : capZ y ≤ capZ y') : capZ (x + y) ≤ capZ (x' + y') := by unfold capZ at *; omega

/-- What nodes' choices cost, what pairs of choices cost (naught where there is no edge), how many choices there are. -/
structure AP where
  nv : Nat → Nat → Int
  ne : Nat → Nat → Nat → Nat → Int
  c : Nat → Nat
structure AP.Ok (P : AP) : Prop where
  nn : ∀ v k, 0 ≤ P.nv v k
  en : ∀ a b i j, 0 ≤ P.ne a b i j
  sy : ∀ a b i j, P.ne a b i j = P.ne b a j i
/-- What node v costs with the nodes of the list. -/
def AP.with (P : AP) (v : Nat) (f : Nat → Nat) : List Nat → Int
  | [] => 0
  | u :: us => P.ne v u (f v) (f u) + P.with v f us
def AP.cost (P : AP) (f : Nat → Nat) : List Nat → Int
  | [] => 0
  | v :: vs => P.nv v (f v) + P.with v f vs + P.cost f vs
def AP.Fits (P : AP) (vs : List Nat) (f : Nat → Nat) : Prop := ∀ v ∈ vs, f v < P.c v
/-- None costs less. -/
def AP.Opt (P : AP) (vs : List Nat) (f : Nat → Nat) : Prop := P.Fits vs f ∧ ∀ g, P.Fits vs g → capZ (P.cost f vs) ≤ capZ (P.cost g vs)
section
variable {P P' : AP} {f g : Nat → Nat} {vs ws : List Nat} {v a b : Nat}
theorem with_nn (h : P.Ok) (v : Nat) (f : Nat → Nat) (vs : List Nat) : 0 ≤ P.with v f vs := by
  induction vs with
  | nil => exact Int.le_refl _
  | cons u us ih => unfold AP.with; have := h.en v u (f v) (f u); omega
theorem cost_nn (h : P.Ok) (f : Nat → Nat) (vs : List Nat) : 0 ≤ P.cost f vs := by
  induction vs with
  | nil => exact Int.le_refl _
  | cons u us ih => unfold AP.cost; have := h.nn u (f u); have := with_nn h u f us; omega
theorem with_perm (hp : vs.Perm ws) : P.with v f vs = P.with v f ws := by
  induction hp with
  | nil => rfl
  | cons x _ ih => unfold AP.with; rw [ih]
  | swap x y l => simp only [AP.with]; omega
  | trans _ _ ih1 ih2 => exact ih1.trans ih2
theorem cost_perm (h : P.Ok) (hp : vs.Perm ws) : P.cost f vs = P.cost f ws := by
  induction hp with
  | nil => rfl
  | cons x hl ih => unfold AP.cost; rw [ih, with_perm hl]
  | swap x y l => simp only [AP.cost, AP.with]; rw [h.sy x y]; omega
  | trans _ _ ih1 ih2 => exact ih1.trans ih2
theorem with_congr (h : ∀ u ∈ vs, P'.ne v u (f v) (g u) = P.ne v u (f v) (f u)) (hv : g v = f v) : P'.with v g vs = P.with v f vs := by
  induction vs with
  | nil => rfl
  | cons u us ih =>
    unfold AP.with
    rw [ih (fun u hu => h u (by simp [hu])), hv, h u (by simp)]
/-- The cost looks at the nodes of the list alone. -/
theorem cost_look (h : ∀ u ∈ vs, g u = f u) : P.cost g vs = P.cost f vs := by
  induction vs with
  | nil => rfl
  | cons u us ih =>
    unfold AP.cost
    rw [ih (fun x hx => h x (by simp [hx])), h u (by simp), with_congr (P' := P) (fun x hx => by rw [h x (by simp [hx])]) (h u (by simp))]
theorem with_look (h : ∀ u ∈ vs, g u = f u) (hv : g v = f v) : P.with v g vs = P.with v f vs := with_congr (P' := P) (fun x hx => by rw [h x hx]) hv
theorem with_none (h : ∀ u ∈ vs, ∀ i j, P.ne v u i j = 0) : P.with v f vs = 0 := by
  induction vs with
  | nil => rfl
  | cons u us ih => unfold AP.with; rw [ih (fun x hx => h x (by simp [hx])), h u (by simp)]; rfl
theorem with_one (hn : vs.Nodup) (ha : a ∈ vs) (h : ∀ u ∈ vs, u ≠ a → ∀ i j, P.ne v u i j = 0) : P.with v f vs = P.ne v a (f v) (f a) := by
  have hp := List.perm_cons_erase ha
  rw [with_perm hp]
  unfold AP.with
  rw [with_none (fun u hu => h u (List.mem_of_mem_erase hu) (fun e => by rw [e] at hu; exact (List.Nodup.not_mem_erase hn) hu))]
  omega
theorem with_two (hn : vs.Nodup) (ha : a ∈ vs) (hb : b ∈ vs) (hab : a ≠ b) (h : ∀ u ∈ vs, u ≠ a → u ≠ b → ∀ i j, P.ne v u i j = 0) : P.with v f vs = P.ne v a (f v) (f a) + P.ne v b (f v) (f b) := by
  have hp := List.perm_cons_erase ha
  rw [with_perm hp]
  unfold AP.with
  rw [with_one (hn.erase a) ((List.mem_erase_of_ne (Ne.symm hab)).2 hb) (fun u hu hub => h u (List.mem_of_mem_erase hu) (fun e => by rw [e] at hu; exact (List.Nodup.not_mem_erase hn) hu) hub)]
theorem cost_congr (h1 : ∀ u ∈ vs, ∀ k, P'.nv u k = P.nv u k) (h2 : ∀ x ∈ vs, ∀ y ∈ vs, ∀ i j, P'.ne x y i j = P.ne x y i j) : P'.cost f vs = P.cost f vs := by
  induction vs with
  | nil => rfl
  | cons u us ih =>
    unfold AP.cost
    rw [ih (fun x hx => h1 x (by simp [hx])) (fun x hx y hy => h2 x (by simp [hx]) y (by simp [hy])), h1 u (by simp), with_congr (P' := P') (P := P) (fun x hx => h2 u (by simp) x (by simp [hx]) _ _) rfl]
/-- One node's costs turn. -/
theorem cost_node (hk : P.Ok) (hk' : P'.Ok) (hn : vs.Nodup) (ha : a ∈ vs) (h1 : ∀ u ∈ vs, u ≠ a → ∀ k, P'.nv u k = P.nv u k) (h2 : ∀ x ∈ vs, ∀ y ∈ vs, ∀ i j, P'.ne x y i j = P.ne x y i j) : P'.cost f vs + P.nv a (f a) = P.cost f vs + P'.nv a (f a) := by
  have hp := List.perm_cons_erase ha
  have hm : ∀ x ∈ vs.erase a, x ∈ vs ∧ x ≠ a := fun x hx => ⟨List.mem_of_mem_erase hx, fun e => by rw [e] at hx; exact (List.Nodup.not_mem_erase hn) hx⟩
  rw [cost_perm hk hp, cost_perm hk' hp]
  unfold AP.cost
  rw [cost_congr (P' := P') (P := P) (fun u hu => h1 u (hm u hu).1 (hm u hu).2) (fun x hx y hy => h2 x (hm x hx).1 y (hm y hy).1), with_congr (P' := P') (P := P) (v := a) (f := f) (fun x hx => h2 a ha x (hm x hx).1 _ _) rfl]
  omega
/-- One pair's costs turn. -/
theorem cost_edge (hk : P.Ok) (hk' : P'.Ok) (hn : vs.Nodup) (ha : a ∈ vs) (hb : b ∈ vs) (hab : a ≠ b) (h1 : ∀ u ∈ vs, ∀ k, P'.nv u k = P.nv u k) (h2 : ∀ x ∈ vs, ∀ y ∈ vs, ¬ (x = a ∧ y = b) → ¬ (x = b ∧ y = a) → ∀ i j, P'.ne x y i j = P.ne x y i j) : P'.cost f vs + P.ne a b (f a) (f b) = P.cost f vs + P'.ne a b (f a) (f b) := by
  have hp := List.perm_cons_erase ha
  have hb2 : b ∈ vs.erase a := (List.mem_erase_of_ne (Ne.symm hab)).2 hb
  have hp2 := hp.trans ((List.perm_cons_erase hb2).cons a)
  have hm : ∀ x ∈ (vs.erase a).erase b, x ∈ vs ∧ x ≠ a ∧ x ≠ b := fun x hx => by
    have h3 := List.mem_of_mem_erase hx
    exact ⟨List.mem_of_mem_erase h3, fun e => by rw [e] at h3; exact (List.Nodup.not_mem_erase hn) h3, fun e => by rw [e] at hx; exact (List.Nodup.not_mem_erase (hn.erase a)) hx⟩
  rw [cost_perm hk hp2, cost_perm hk' hp2]
  simp only [AP.cost, AP.with]
  rw [cost_congr (P' := P') (P := P) (fun u hu => h1 u (hm u hu).1) (fun x hx y hy => h2 x (hm x hx).1 y (hm y hy).1 (fun e => (hm x hx).2.1 e.1) (fun e => (hm x hx).2.2 e.1)),
    with_congr (P' := P') (P := P) (v := a) (f := f) (fun x hx => h2 a ha x (hm x hx).1 (fun e => (hm x hx).2.2 e.2) (fun e => hab e.1) _ _) rfl,
    with_congr (P' := P') (P := P) (v := b) (f := f) (fun x hx => h2 b hb x (hm x hx).1 (fun e => hab e.1.symm) (fun e => (hm x hx).2.1 e.2) _ _) rfl, h1 a ha, h1 b hb]
  omega

/-- The rule: what the others cost behind it is what they cost ahead of it and m, where m is the least that v can cost with them. -/
theorem opt_of (hk : P.Ok) {m : (Nat → Nat) → Int} (hc : ∀ u ∈ vs, P'.c u = P.c u) (hm : ∀ g, P.Fits vs g → 0 ≤ m g ∧ capZ (P'.cost g vs) = capZ (P.cost g vs + m g))
    (h1 : ∀ g, P.Fits (v :: vs) g → m g ≤ P.nv v (g v) + P.with v g vs) (h2 : capZ (P.nv v (f v) + P.with v f vs) = capZ (m f)) (hv : f v < P.c v) (ho : P'.Opt vs f) : P.Opt (v :: vs) f := by
  have hfit : P.Fits vs f := fun u hu => by rw [← hc u hu]; exact ho.1 u hu
  refine ⟨fun u hu => (List.mem_cons.1 hu).elim (fun e => by rw [e]; exact hv) (hfit u), fun g hg => ?_⟩
  have hgv : P.Fits vs g := fun u hu => hg u (by simp [hu])
  have h3 := ho.2 g (fun u hu => by rw [hc u hu]; exact hgv u hu)
  rw [(hm g hgv).2, (hm f hfit).2] at h3
  unfold AP.cost
  have hR := cost_nn hk f vs
  have hR2 := cost_nn hk g vs
  have e1 : capZ (P.nv v (f v) + P.with v f vs + P.cost f vs) = capZ (P.cost f vs + m f) := by
    rw [Int.add_comm, ← capZ_add hR, h2, capZ_add hR]
  rw [e1]
  refine Int.le_trans h3 ?_
  have := h1 g hg
  exact capZ_mono (by omega)
/-- Nobody is near: the node's own least does. -/
theorem opt_none (hk : P.Ok) (hw : ∀ u ∈ vs, ∀ i j, P.ne v u i j = 0) (hv : f v < P.c v) (hl : ∀ k, k < P.c v → P.nv v (f v) ≤ P.nv v k) (ho : P.Opt vs f) : P.Opt (v :: vs) f := by
  refine ⟨fun u hu => (List.mem_cons.1 hu).elim (fun e => by rw [e]; exact hv) (ho.1 u), fun g hg => ?_⟩
  unfold AP.cost
  rw [with_none hw, with_none hw]
  have h1 := ho.2 g (fun u hu => hg u (by simp [hu]))
  have h2 := hl (g v) (hg v (by simp))
  have := hk.nn v (f v)
  have := hk.nn v (g v)
  exact capZ_both (by omega) (cost_nn hk f vs) (by omega) (cost_nn hk g vs) (capZ_mono (by omega)) h1
theorem cost_ge_node (hk : P.Ok) (ha : a ∈ vs) : P.nv a (f a) ≤ P.cost f vs := by
  rw [cost_perm hk (List.perm_cons_erase ha)]
  unfold AP.cost
  have := with_nn hk a f (vs.erase a)
  have := cost_nn hk f (vs.erase a)
  omega
theorem cost_ge_edge (hk : P.Ok) (ha : a ∈ vs) (hb : b ∈ vs) (hab : a ≠ b) : P.ne a b (f a) (f b) ≤ P.cost f vs := by
  have hb2 : b ∈ vs.erase a := (List.mem_erase_of_ne (Ne.symm hab)).2 hb
  rw [cost_perm hk ((List.perm_cons_erase ha).trans ((List.perm_cons_erase hb2).cons a))]
  simp only [AP.cost, AP.with]
  have := with_nn hk a f ((vs.erase a).erase b)
  have := with_nn hk b f ((vs.erase a).erase b)
  have := cost_nn hk f ((vs.erase a).erase b)
  have := hk.nn a (f a)
  have := hk.nn b (f b)
  omega
/-- One neighbour: it takes over the least that v can cost with it. -/
theorem opt_one (hk : P.Ok) (hk' : P'.Ok) (hn : vs.Nodup) (ha : a ∈ vs) (hw : ∀ u ∈ vs, u ≠ a → ∀ i j, P.ne v u i j = 0) {t : Nat → Nat}
    (hc : ∀ u ∈ vs, P'.c u = P.c u) (h1 : ∀ u ∈ vs, u ≠ a → ∀ k, P'.nv u k = P.nv u k) (h2 : ∀ x ∈ vs, ∀ y ∈ vs, ∀ i j, P'.ne x y i j = P.ne x y i j)
    (h3 : ∀ k, k < P.c a → P'.nv a k = capZ (P.nv a k + capZ (P.nv v (t k) + P.ne v a (t k) k))) (ht : ∀ k, k < P.c a → t k < P.c v ∧ ∀ j, j < P.c v → capZ (P.nv v (t k) + P.ne v a (t k) k) ≤ capZ (P.nv v j + P.ne v a j k))
    (hf : f v = t (f a)) (ho : P'.Opt vs f) : P.Opt (v :: vs) f := by
  have hfa : f a < P.c a := by rw [← hc a ha]; exact ho.1 a ha
  refine opt_of hk (m := fun g => capZ (P.nv v (t (g a)) + P.ne v a (t (g a)) (g a))) hc (fun g hg => ?_) (fun g hg => ?_) ?_ (by rw [hf]; exact (ht _ hfa).1) ho
  · have h4 := hk.nn v (t (g a))
    have h5 := hk.en v a (t (g a)) (g a)
    refine ⟨capZ_nn (by omega), ?_⟩
    have h6 := cost_node (f := g) hk hk' hn ha h1 h2
    have h7 := cost_ge_node (f := g) hk ha
    have h8 := h3 (g a) (hg a ha)
    have h9 := hk.nn a (g a)
    rw [show P'.cost g vs = (P.cost g vs - P.nv a (g a)) + P'.nv a (g a) by omega, h8, capZ_add (by omega)]
    congr 1
    omega
  · rw [with_one hn ha hw]
    have h4 := (ht (g a) (hg a (by simp [ha]))).2 (g v) (hg v (by simp))
    have := (capZ_le (P.nv v (g v) + P.ne v a (g v) (g a))).1
    omega
  · rw [with_one hn ha hw, hf]
    rw [capZ_capZ]
/-- Two neighbours: their pair takes it over. -/
theorem opt_two (hk : P.Ok) (hk' : P'.Ok) (hn : vs.Nodup) (ha : a ∈ vs) (hb : b ∈ vs) (hab : a ≠ b) (hw : ∀ u ∈ vs, u ≠ a → u ≠ b → ∀ i j, P.ne v u i j = 0) {t : Nat → Nat → Nat}
    (hc : ∀ u ∈ vs, P'.c u = P.c u) (h1 : ∀ u ∈ vs, ∀ k, P'.nv u k = P.nv u k) (h2 : ∀ x ∈ vs, ∀ y ∈ vs, ¬ (x = a ∧ y = b) → ¬ (x = b ∧ y = a) → ∀ i j, P'.ne x y i j = P.ne x y i j)
    (h3 : ∀ i j, i < P.c a → j < P.c b → P'.ne a b i j = capZ (P.ne a b i j + capZ (P.nv v (t i j) + P.ne v a (t i j) i + P.ne v b (t i j) j))) (ht : ∀ i j, i < P.c a → j < P.c b → t i j < P.c v ∧ ∀ k, k < P.c v → capZ (P.nv v (t i j) + P.ne v a (t i j) i + P.ne v b (t i j) j) ≤ capZ (P.nv v k + P.ne v a k i + P.ne v b k j))
    (hf : f v = t (f a) (f b)) (ho : P'.Opt vs f) : P.Opt (v :: vs) f := by
  have hfa : f a < P.c a := by rw [← hc a ha]; exact ho.1 a ha
  have hfb : f b < P.c b := by rw [← hc b hb]; exact ho.1 b hb
  refine opt_of hk (m := fun g => capZ (P.nv v (t (g a) (g b)) + P.ne v a (t (g a) (g b)) (g a) + P.ne v b (t (g a) (g b)) (g b))) hc (fun g hg => ?_) (fun g hg => ?_) ?_ (by rw [hf]; exact (ht _ _ hfa hfb).1) ho
  · have h4 := hk.nn v (t (g a) (g b))
    have h5 := hk.en v a (t (g a) (g b)) (g a)
    have h5' := hk.en v b (t (g a) (g b)) (g b)
    refine ⟨capZ_nn (by omega), ?_⟩
    have h6 := cost_edge (f := g) hk hk' hn ha hb hab h1 h2
    have h7 := cost_ge_edge (f := g) hk ha hb hab
    have h8 := h3 (g a) (g b) (hg a ha) (hg b hb)
    rw [show P'.cost g vs = (P.cost g vs - P.ne a b (g a) (g b)) + P'.ne a b (g a) (g b) by omega, h8, capZ_add (by omega)]
    congr 1
    omega
  · rw [with_two hn ha hb hab hw]
    have h4 := (ht (g a) (g b) (hg a (by simp [ha])) (hg b (by simp [hb]))).2 (g v) (hg v (by simp))
    have := (capZ_le (P.nv v (g v) + P.ne v a (g v) (g a) + P.ne v b (g v) (g b))).1
    omega
  · rw [with_two hn ha hb hab hw, hf]
    rw [capZ_capZ, Int.add_assoc]
end
end
end Go.Proofs.Ytdomnbgjafdnjaa
