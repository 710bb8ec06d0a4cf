/- What the colouring answers, in plain Lean: every node is taken away once; the sums are those of the nodes that are still there; the colours are good; where all can be taken away as safe ones none is left out. -/
import Derived.Test.YtinbfnabngdemaaCoP
namespace Go.Proofs.Ytinbfnabngdemaa

theorem co_revind {α : Type} {P : List α → Prop} (h0 : P []) (hs : ∀ l a, P l → P (l ++ [a])) (l : List α) : P l := by
  rw [← l.reverse_reverse]
  induction l.reverse with
  | nil => exact h0
  | cons a r ih => rw [List.reverse_cons]; exact hs _ _ ih
/-- The sum of what the nodes of a list take away. -/
def sumL (f : Nat → Nat) (l : List Nat) : Nat := l.foldl (fun s m => s + f m) 0
theorem foldl_add (f : Nat → Nat) (l : List Nat) : ∀ s, l.foldl (fun s m => s + f m) s = s + sumL f l := by
  induction l with
  | nil => intro s; rfl
  | cons m l ih =>
    intro s
    unfold sumL
    rw [List.foldl_cons, List.foldl_cons, ih, ih (0 + f m)]
    omega
theorem sumL_cons (f : Nat → Nat) (m : Nat) (l : List Nat) : sumL f (m :: l) = f m + sumL f l := by
  show List.foldl _ (0 + f m) l = _
  rw [foldl_add]; omega
theorem sumL_nil (f : Nat → Nat) : sumL f [] = 0 := rfl
theorem sumL_perm {f : Nat → Nat} {l l' : List Nat} (h : l.Perm l') : sumL f l = sumL f l' := by
  induction h with
  | nil => rfl
  | cons x _ ih => rw [sumL_cons, sumL_cons, ih]
  | swap x y l => rw [sumL_cons, sumL_cons, sumL_cons, sumL_cons]; omega
  | trans _ _ h1 h2 => exact h1.trans h2
theorem sumL_le_sub {f : Nat → Nat} {l : List Nat} {p q : Nat → Bool} (h : ∀ m ∈ l, p m = true → q m = true) : sumL f (l.filter p) ≤ sumL f (l.filter q) := by
  induction l with
  | nil => exact Nat.le_refl _
  | cons m l ih =>
    have ih := ih (fun m hm => h m (List.mem_cons_of_mem _ hm))
    simp only [List.filter_cons]
    by_cases hp : p m = true
    · rw [if_pos hp, if_pos (h m (by simp) hp), sumL_cons, sumL_cons]; omega
    · rw [if_neg hp]
      split
      · rw [sumL_cons]; omega
      · exact ih
theorem sumL_drop {f : Nat → Nat} {l : List Nat} (hn : l.Nodup) {p q : Nat → Bool} {v : Nat} (hv : v ∈ l) (hpv : p v = true) (hq : ∀ m, q m = (p m && !decide (m = v))) : sumL f (l.filter q) + f v = sumL f (l.filter p) := by
  induction l with
  | nil => simp at hv
  | cons m l ih =>
    obtain ⟨h1, h2⟩ := List.nodup_cons.1 hn
    simp only [List.filter_cons]
    by_cases e : m = v
    · subst e
      rw [if_neg (by rw [hq]; simp), if_pos hpv, sumL_cons]
      have : l.filter q = l.filter p := List.filter_congr fun u hu => by
        rw [hq]
        have : u ≠ m := fun e => h1 (e ▸ hu)
        simp [this]
      rw [this]; omega
    · have hvl : v ∈ l := by rcases List.mem_cons.1 hv with h | h; exact absurd h.symm e; exact h
      have ih := ih h2 hvl
      have hqm : q m = p m := by rw [hq]; simp [e]
      rw [hqm]
      cases p m
      · simpa using ih
      · simp only [if_true, sumL_cons]; omega
theorem range_nodup (n : Nat) : (List.range n).Nodup := List.nodup_range
theorem nearL_nodup (G : GD) (v : Nat) : (nearL G v).Nodup := (range_nodup _).filter _
theorem mem_nearL {G : GD} {v m : Nat} : m ∈ nearL G v ↔ m < G.A.length ∧ adjS G.E v m = true := by
  unfold nearL; rw [List.mem_filter, List.mem_range]
theorem mem_moveL {G : GD} {v m : Nat} : m ∈ moveL G v ↔ m < G.A.length ∧ adjS G.M v m = true := by
  unfold moveL; rw [List.mem_filter, List.mem_range]
/-- The sum over those neighbours that are still there. -/
def sumG (G : GD) (gone : Nat → Bool) (v : Nat) : Nat := sumL (mostS G v) ((nearL G v).filter fun m => !gone m)
theorem nbs_eq (G : GD) (S : CS) (v : Nat) : nbsS G S v = (nearL G v).filter fun m => !S.gone m := by
  unfold nbsS nearL
  rw [List.filter_filter]
  congr 1; funext m; exact Bool.and_comm _ _

/-- The sums behind some of the neighbours. -/
theorem fold_sums (G : GD) (v : Nat) (ms : List Nat) : ∀ S, ms.Nodup → (ms.foldl (lessS G v) S).sums = fun u => if u ∈ ms then S.sums u - (mostS G u v : Int) else S.sums u := by
  induction ms with
  | nil => intro S _; funext u; simp
  | cons m ms ih =>
    intro S hn
    obtain ⟨h1, h2⟩ := List.nodup_cons.1 hn
    rw [List.foldl_cons, ih _ h2]
    funext u
    unfold lessS
    rw [askS_sums]
    dsimp only
    by_cases e : u = m
    · subst e; simp [h1]
    · simp [e]
/-- What holds of every state on the way. -/
structure StOk (G : GD) (S : CS) : Prop where
  nd : S.order.Nodup
  mem : ∀ v, v ∈ S.order ↔ S.gone v = true
  lt : ∀ v, v ∈ S.order → v < G.A.length
  sum : ∀ v, v < G.A.length → S.gone v = false → S.sums v = (sumG G S.gone v : Int)
  sf : ∀ v ∈ S.safe, v < G.A.length
theorem sumG_le (G : GD) (gone : Nat → Bool) (v : Nat) : sumG G gone v ≤ sumG G (fun _ => false) v := by
  unfold sumG; exact sumL_le_sub fun m _ _ => rfl
theorem fold_sf (G : GD) (v : Nat) (ms : List Nat) (hm : ∀ m ∈ ms, m < G.A.length) : ∀ S : CS, (∀ u ∈ S.safe, u < G.A.length) → ∀ u ∈ (ms.foldl (lessS G v) S).safe, u < G.A.length := by
  induction ms with
  | nil => intro S h; exact h
  | cons m ms ih =>
    intro S h
    rw [List.foldl_cons]
    refine ih (fun u hu => hm u (List.mem_cons_of_mem _ hu)) _ ?_
    unfold lessS askS
    split
    · intro u hu
      rcases List.mem_append.1 hu with hu | hu
      · exact h u hu
      · rw [List.mem_singleton.1 hu]; exact hm m (by simp)
    · exact h
theorem sumG_gone {G : GD} (_hG : OkG G) {gone : Nat → Bool} {u v : Nat} (hv : v < G.A.length) (hg : gone v = false) (_hu : u ≠ v) :
    sumG G gone u = sumG G (fun x => if x = v then true else gone x) u + (if adjS G.E u v then mostS G u v else 0) := by
  unfold sumG
  by_cases h : adjS G.E u v = true
  · rw [if_pos h]
    exact (sumL_drop (nearL_nodup G u) (v := v) (p := fun m => !gone m) (mem_nearL.2 ⟨hv, h⟩) (by simp [hg]) (fun m => by
      by_cases e : m = v
      · simp [e]
      · simp [e])).symm
  · rw [if_neg h, Nat.add_zero]
    congr 1
    refine List.filter_congr fun m hm => ?_
    have : m ≠ v := fun e => h (e ▸ (mem_nearL.1 hm).2)
    simp [this]
theorem StOk.take {G : GD} (hG : OkG G) {S : CS} (h : StOk G S) {v : Nat} (hv : v < G.A.length) : StOk G (takeS G S v) := by
  unfold takeS
  split
  · exact h
  · rename_i hn
    have hg : S.gone v = false := by
      cases e : S.gone v with
      | false => rfl
      | true => exact absurd (.inl e) hn
    have hnd : (nbsS G (goneS S v) v).Nodup := by rw [nbs_eq]; exact (nearL_nodup G v).filter _
    have hgo : ((nbsS G (goneS S v) v).foldl (lessS G v) (goneS S v)).gone = fun u => if u = v then true else S.gone u := by rw [fold_gone]; rfl
    have hor : ((nbsS G (goneS S v) v).foldl (lessS G v) (goneS S v)).order = S.order ++ [v] := by rw [fold_order]; rfl
    refine ⟨?_, ?_, ?_, ?_, ?_⟩
    · rw [hor, List.nodup_append]
      refine ⟨h.nd, by simp, fun a ha b hb => ?_⟩
      rw [List.mem_singleton.1 hb]
      rintro rfl
      rw [(h.mem a).1 ha] at hg
      cases hg
    · intro u
      rw [hor, hgo, List.mem_append, List.mem_singleton, h.mem]
      by_cases e : u = v
      · simp [e]
      · simp [e]
    · intro u hu
      rw [hor] at hu
      rcases List.mem_append.1 hu with hu | hu
      · exact h.lt u hu
      · rw [List.mem_singleton.1 hu]; exact hv
    · intro u hu hgu
      rw [hgo] at hgu ⊢
      have hne : u ≠ v := fun e => by simp [e] at hgu
      have hgu' : S.gone u = false := by simpa [hne] using hgu
      rw [fold_sums G v _ _ hnd]
      have h1 := h.sum u hu hgu'
      have h2 := sumG_gone hG hv hg hne
      have hmem : u ∈ nbsS G (goneS S v) v ↔ adjS G.E u v = true := by
        rw [nbs_eq, List.mem_filter, mem_nearL, adjS_symm]
        show (_ ∧ _) ∧ (!(if u = v then true else S.gone u)) = true ↔ _
        rw [if_neg hne, hgu']
        simp [hu]
      dsimp only
      by_cases ha : adjS G.E u v = true
      · rw [if_pos (hmem.2 ha)]
        rw [if_pos ha] at h2
        show S.sums u - _ = _
        omega
      · rw [if_neg (fun e => ha (hmem.1 e))]
        rw [if_neg ha] at h2
        show S.sums u = _
        omega
    · refine fold_sf G v _ (fun m hm => ?_) _ h.sf
      rw [nbs_eq] at hm
      exact (mem_nearL.1 (List.mem_filter.1 hm).1).1
theorem StOk.pop {G : GD} {S : CS} (h : StOk G S) {l : List Nat} {v : Nat} (hs : S.safe = l ++ [v]) : StOk G { S with safe := l } ∧ v < G.A.length :=
  ⟨⟨h.nd, h.mem, h.lt, h.sum, fun u hu => h.sf u (by rw [hs]; exact List.mem_append_left _ hu)⟩, h.sf v (by rw [hs]; simp)⟩
theorem StOk.ask {G : GD} {S : CS} (h : StOk G S) {v : Nat} (hv : v < G.A.length) : StOk G (askS G S v) := by
  refine ⟨by rw [askS_order]; exact h.nd, by rw [askS_order, askS_gone]; exact h.mem, by rw [askS_order]; exact h.lt, by rw [askS_gone, askS_sums]; exact h.sum, ?_⟩
  unfold askS
  split
  · intro u hu
    rcases List.mem_append.1 hu with hu | hu
    · exact h.sf u hu
    · rw [List.mem_singleton.1 hu]; exact hv
  · exact h.sf
theorem StOk.beg0 (G : GD) : StOk G (beg0 G) := by
  refine ⟨by simp [Go.Proofs.Ytinbfnabngdemaa.beg0], by simp [Go.Proofs.Ytinbfnabngdemaa.beg0], by simp [Go.Proofs.Ytinbfnabngdemaa.beg0], fun v _ _ => ?_, by simp [Go.Proofs.Ytinbfnabngdemaa.beg0]⟩
  show ((sumTo G v G.A.length : Nat) : Int) = _
  unfold sumG
  rw [show ((nearL G v).filter fun m => !(Go.Proofs.Ytinbfnabngdemaa.beg0 G).gone m) = nearL G v from List.filter_eq_self.2 (fun m _ => rfl)]
  rfl
theorem StOk.begD (G : GD) : ∀ j, j ≤ G.A.length → StOk G (begD G j)
  | 0, _ => StOk.beg0 G
  | j + 1, h => (StOk.begD G j (by omega)).ask (by omega)
theorem StOk.beg (G : GD) : StOk G (begS G) := StOk.begD G _ (Nat.le_refl _)
theorem StOk.sim {G : GD} (hG : OkG G) {S : CS} (h : StOk G S) : StOk G (simS G S) := (simS_ind (fun _S _l _v hs h => (StOk.pop h hs).1.take hG (StOk.pop h hs).2) S h).1
theorem StOk.main {G : GD} (hG : OkG G) {S : CS} (h : StOk G S) : StOk G (mainS G S) ∧ heavyS G (mainS G S) = -1 :=
  mainS_ind (fun _ _ hv _ h => h.take hG hv) (fun _S _l _v hs h => (StOk.pop h hs).1.take hG (StOk.pop h hs).2) S h
/-- In the end each node has been taken away, once. -/
theorem ord_ok {G : GD} (hG : OkG G) : (ordS G).Nodup ∧ ∀ v, v ∈ ordS G ↔ v < G.A.length := by
  obtain ⟨h, hh⟩ := ((StOk.beg G).sim hG).main hG
  refine ⟨h.nd, fun v => ⟨h.lt v, fun hv => (h.mem v).2 (heavyK_none hh v hv)⟩⟩

/-! ### The colours are good -/
theorem mem_freeS {G : GD} {col : Nat → Int} {v : Nat} {c : Int} : c ∈ freeS G col v ↔ c ∈ alw G v ∧ ∀ m, m < G.A.length → adjS G.E v m = true → 0 ≤ col m → c ∉ lpS G (col m) := by
  unfold freeS freeK
  rw [List.mem_filter, List.all_eq_true]
  refine and_congr Iff.rfl ⟨fun h m hm ha h0 hc => ?_, fun h m hm => ?_⟩
  · have := h m (mem_nearL.2 ⟨hm, ha⟩)
    simp [h0, hc] at this
  · obtain ⟨h1, h2⟩ := mem_nearL.1 hm
    have := h m h1 h2
    by_cases h0 : 0 ≤ col m
    · simp [this h0]
    · simp [h0]
theorem pick_cases (G : GD) (col : Nat → Int) (v : Nat) : pickS G col v ∈ freeS G col v ∨ (pickS G col v = -1 ∧ freeS G col v = []) := by
  unfold pickS
  split
  · rename_i m hm
    have := List.find?_some hm
    simp at this
    exact .inl this.2
  · cases h : freeS G col v with
    | nil => exact .inr ⟨rfl, rfl⟩
    | cons c l => exact .inl (by simp)
/-- The colours while the nodes of a list are coloured. -/
theorem colF_snoc (G : GD) (vs : List Nat) (v : Nat) : colF G (vs ++ [v]) = colK G (colF G vs) v := by unfold colF; rw [List.foldl_append]; rfl
theorem colF_out (G : GD) (vs : List Nat) : ∀ u, u ∉ vs → colF G vs u = -1 := by
  induction vs using co_revind with
  | h0 => intro u _; rfl
  | hs l a ih =>
    intro u hu
    rw [colF_snoc]
    unfold colK
    rw [if_neg (fun e => hu (by simp [e]))]
    exact ih u (fun h => hu (by simp [h]))
structure ColOk (G : GD) (vs : List Nat) (col : Nat → Int) : Prop where
  out : ∀ u, u ∉ vs → col u = -1
  okc : ∀ u, u < G.A.length → col u = -1 ∨ col u ∈ alw G u
  lap : ∀ u m, u < G.A.length → m < G.A.length → adjS G.E u m = true → 0 ≤ col u → 0 ≤ col m → col u ∉ lpS G (col m)
  lft : ∀ u ∈ vs, u < G.A.length → col u = -1 → ∀ c ∈ alw G u, ∃ m, m < G.A.length ∧ adjS G.E u m = true ∧ 0 ≤ col m ∧ c ∈ lpS G (col m)
theorem OkG.alw_rng {G : GD} (hG : OkG G) {v : Nat} {c : Int} (h : c ∈ alw G v) : 0 ≤ c ∧ c < (G.Lp.length : Int) := by
  unfold alw List.getD at h
  cases e : G.A[v]? with
  | none => rw [e] at h; simp at h
  | some l =>
    rw [e] at h
    exact (hG.a l (List.mem_of_getElem? e)).2 c h
theorem lpS_nat (G : GD) {c : Nat} (h : c < G.Lp.length) : lpS G (c : Int) = G.Lp[c] := by unfold lpS; rw [Int.toNat_natCast]; simp [List.getD, h]
theorem OkG.lap_rng {G : GD} (hG : OkG G) {c d : Int} (h : d ∈ lpS G c) (hc : 0 ≤ c ∧ c < (G.Lp.length : Int)) : 0 ≤ d ∧ d < (G.Lp.length : Int) := by
  obtain ⟨k, rfl⟩ : ∃ k : Nat, c = (k : Int) := ⟨c.toNat, by omega⟩
  have hk : k < G.Lp.length := by omega
  rw [lpS_nat G hk] at h
  exact (hG.l k hk).1.2 d h
theorem OkG.lap_symm {G : GD} (hG : OkG G) {c d : Int} (h : d ∈ lpS G c) (hc : 0 ≤ c ∧ c < (G.Lp.length : Int)) : c ∈ lpS G d := by
  obtain ⟨k, rfl⟩ : ∃ k : Nat, c = (k : Int) := ⟨c.toNat, by omega⟩
  have hk : k < G.Lp.length := by omega
  rw [lpS_nat G hk] at h
  exact hG.s k hk d h
theorem OkG.lap_self {G : GD} (hG : OkG G) {c : Int} (hc : 0 ≤ c ∧ c < (G.Lp.length : Int)) : c ∈ lpS G c := by
  obtain ⟨k, rfl⟩ : ∃ k : Nat, c = (k : Int) := ⟨c.toNat, by omega⟩
  have hk : k < G.Lp.length := by omega
  rw [lpS_nat G hk]
  exact (hG.l k hk).2
theorem ColOk.step {G : GD} (hG : OkG G) {vs : List Nat} {col : Nat → Int} (h : ColOk G vs col) {v : Nat} (hv : v < G.A.length) (hn : v ∉ vs) : ColOk G (vs ++ [v]) (colK G col v) := by
  have hc := pick_cases G col v
  have hself : ∀ m, adjS G.E v m = true → m ≠ v := fun m ha e => (hG.lt_of_adj ha).2.2 e.symm
  have hrng : ∀ u, u < G.A.length → 0 ≤ col u → col u < (G.Lp.length : Int) := fun u hu h0 => by
    rcases h.okc u hu with e | e
    · omega
    · exact (hG.alw_rng e).2
  refine ⟨fun u hu => ?_, fun u hu => ?_, fun u m hu hm ha => ?_, fun u hu hul => ?_⟩
  · have e : u ≠ v := fun e => hu (by simp [e])
    unfold colK
    rw [if_neg e]
    exact h.out u (fun h => hu (by simp [h]))
  · unfold colK
    by_cases e : u = v
    · rw [if_pos e, e]
      rcases hc with hc | hc
      · exact .inr (mem_freeS.1 hc).1
      · exact .inl hc.1
    · rw [if_neg e]; exact h.okc u hu
  · unfold colK
    by_cases e : u = v
    · subst e
      have hmu : m ≠ u := hself m ha
      rw [if_pos rfl, if_neg hmu]
      intro h0 h1
      rcases hc with hc | hc
      · exact (mem_freeS.1 hc).2 m hm ha h1
      · rw [hc.1] at h0; omega
    · by_cases e2 : m = v
      · subst e2
        rw [if_neg e, if_pos rfl]
        intro h0 h1 hl
        rcases hc with hc | hc
        · have := (mem_freeS.1 hc).2 u hu (by rw [adjS_symm]; exact ha) h0
          exact this (hG.lap_symm hl (hG.alw_rng (mem_freeS.1 hc).1))
        · rw [hc.1] at h1; omega
      · rw [if_neg e, if_neg e2]
        exact h.lap u m hu hm ha
  · unfold colK
    have hkeep : ∀ m, 0 ≤ col m → (if m = v then pickS G col v else col m) = col m := fun m h0 => by
      by_cases e : m = v
      · subst e; rw [h.out m hn] at h0; omega
      · rw [if_neg e]
    by_cases e : u = v
    · subst e
      rw [if_pos rfl]
      intro h1 c hca
      rcases hc with hc | hc
      · have := hG.alw_rng (mem_freeS.1 hc).1; omega
      · have h2 : c ∉ freeS G col u := by rw [hc.2]; simp
        rw [mem_freeS] at h2
        have h3 := Classical.not_forall.1 (fun h' => h2 ⟨hca, h'⟩)
        obtain ⟨m, h3⟩ := h3
        have hm : m < G.A.length := Classical.byContradiction fun h' => h3 (fun h'' => absurd h'' h')
        have ha : adjS G.E u m = true := Classical.byContradiction fun h' => h3 (fun _ h'' => absurd h'' h')
        have h0 : 0 ≤ col m := Classical.byContradiction fun h' => h3 (fun _ _ h'' => absurd h'' h')
        have hl : c ∈ lpS G (col m) := Classical.byContradiction fun h' => h3 (fun _ _ _ => h')
        exact ⟨m, hm, ha, by rw [hkeep m h0]; exact h0, by rw [hkeep m h0]; exact hl⟩
    · rw [if_neg e]
      intro h1 c hca
      have huv : u ∈ vs := by
        rcases List.mem_append.1 hu with h | h
        · exact h
        · exact absurd (List.mem_singleton.1 h) e
      obtain ⟨m, hm, ha, h0, hl⟩ := h.lft u huv hul h1 c hca
      exact ⟨m, hm, ha, by rw [hkeep m h0]; exact h0, by rw [hkeep m h0]; exact hl⟩
theorem colF_ok {G : GD} (hG : OkG G) (vs : List Nat) : vs.Nodup → (∀ v ∈ vs, v < G.A.length) → ColOk G vs (colF G vs) := by
  induction vs using co_revind with
  | h0 => intro _ _; exact ⟨fun _ _ => rfl, fun _ _ => .inl rfl, fun u m _ _ _ h => by have : (-1 : Int) ≥ 0 := h; omega, fun u hu => by simp at hu⟩
  | hs l a ih =>
    intro hn hl
    rw [List.nodup_append] at hn
    rw [colF_snoc]
    exact (ih hn.1 (fun v hv => hl v (by simp [hv]))).step hG (hl a (by simp)) (fun h => hn.2.2 a h a (by simp) rfl)
/-- What an answer must be. -/
structure GoodP (G : GD) (l : List Int) : Prop where
  len : l.length = G.A.length
  okc : ∀ v, v < l.length → l.getD v (-1) = -1 ∨ l.getD v (-1) ∈ alw G v
  lap : ∀ v m, v < l.length → m < l.length → adjS G.E v m = true → 0 ≤ l.getD v (-1) → 0 ≤ l.getD m (-1) → l.getD v (-1) ∉ lpS G (l.getD m (-1))
  lft : ∀ v, v < l.length → l.getD v (-1) = -1 → ∀ c ∈ alw G v, ∃ m, m < l.length ∧ adjS G.E v m = true ∧ 0 ≤ l.getD m (-1) ∧ c ∈ lpS G (l.getD m (-1))
theorem colS_length (G : GD) : (colS G).length = G.A.length := by simp [colS]
theorem colS_get {G : GD} {v : Nat} (h : v < G.A.length) : (colS G).getD v (-1) = colF G (ordS G).reverse v := by simp [colS, List.getD, h]
theorem colS_good {G : GD} (hG : OkG G) : GoodP G (colS G) := by
  obtain ⟨hn, hm⟩ := ord_ok hG
  have h := colF_ok hG (ordS G).reverse ((List.reverse_perm _).nodup_iff.2 hn) (fun v hv => (hm v).1 (List.mem_reverse.1 hv))
  have hl := colS_length G
  refine ⟨hl, fun v hv => ?_, fun v m hv hm ha => ?_, fun v hv => ?_⟩
  · rw [colS_get (by omega)]; exact h.okc v (by omega)
  · rw [colS_get (by omega), colS_get (by omega)]; exact h.lap v m (by omega) (by omega) ha
  · rw [colS_get (by omega)]
    intro h1 c hc
    obtain ⟨m, h2, h3, h4, h5⟩ := h.lft v (List.mem_reverse.2 ((hm v).2 (by omega))) (by omega) h1 c hc
    exact ⟨m, by omega, h3, by rw [colS_get h2]; exact h4, by rw [colS_get h2]; exact h5⟩
end Go.Proofs.Ytinbfnabngdemaa
