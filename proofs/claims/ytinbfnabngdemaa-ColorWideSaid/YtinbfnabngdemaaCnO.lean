/- Operations that each make something of their own, in every order: what each yields stays as it is when the others come. -/
import Derived.Orders
import Derived.OrdersHeld
import Derived.Test.YtinbfnabngdemaaCnD
import Derived.Test.YtinbfnabngdemaaCoV
namespace Go.Proofs.Ytinbfnabngdemaa
open Go

section
variable {P : Program} {ops : Array Oper} {md : Region.Mode} {Q : Exit → Act → World → Prop}
/-- What an operation yields, and where. -/
def Oper.gives (P : Program) (o : Oper) (a : Act) (w : World) (R : Value → World → Prop) : Prop :=
  match (execOp a.eval o).run P w with
  | .ok (.value v) w' => R v w'
  | .ok (.enter f args) w' => Calls P f args w' fun e w'' => ∃ v, e = .returned v ∧ R v w''
  | _ => False
theorem gives_value {o : Oper} {a : Act} {w w' : World} {v : Value} {R : Value → World → Prop} (h : (execOp a.eval o).run P w = .ok (.value v) w') (hR : R v w') : Oper.gives P o a w R := by unfold Oper.gives; rw [h]; exact hR
theorem gives_call {o : Oper} {a : Act} {w w' : World} {f : Nat} {args : Array Value} {R : Value → World → Prop} (h : (execOp a.eval o).run P w = .ok (.enter f args) w') (hR : Calls P f args w' fun e w'' => ∃ v, e = .returned v ∧ R v w'') : Oper.gives P o a w R := by unfold Oper.gives; rw [h]; exact hR
theorem Oper.wp_of_gives {o : Oper} {a b : Act} {w : World} {R : Value → World → Prop} {K : Act → World → Prop} (h : Oper.gives P o b w R) (he : execOp a.eval o = execOp b.eval o) (hK : ∀ v w', R v w' → K (a.put o.dst v) w') : o.wp P a w K Q := by
  unfold Oper.gives at h
  unfold Oper.wp
  rw [he]
  revert h
  generalize (execOp b.eval o).run P w = r
  intro h
  cases r with
  | ok n w' =>
    cases n <;> simp only [Oper.upon] <;> dsimp only at h
    · exact hK _ _ h
    · exact h.mono (by rintro e w'' ⟨v, rfl, h2⟩; exact hK _ _ h2)
    all_goals exact h.elim
  | halt x w' => exact h.elim

def setT (l : Array Bool) (D : List Nat) : Array Bool := D.foldl (fun l i => l.setIfInBounds i true) l
theorem setT_not {j : Nat} {D : List Nat} : ∀ {l : Array Bool}, j ∉ D → ∀ d, (setT l D).getD j d = l.getD j d := by
  induction D with
  | nil => intro l _ d; rfl
  | cons x D ih =>
    intro l h d
    rw [List.mem_cons, not_or] at h
    show (setT (l.setIfInBounds x true) D).getD j d = _
    rw [ih h.2, getD_set_ne d (Ne.symm h.1)]
theorem setT_mem {j : Nat} {D : List Nat} : ∀ {l : Array Bool}, j ∈ D → j < l.size → ∀ d, (setT l D).getD j d = true := by
  induction D with
  | nil => intro l h; cases h
  | cons x D ih =>
    intro l h hs d
    show (setT (l.setIfInBounds x true) D).getD j d = _
    by_cases hD : j ∈ D
    · exact ih hD (by simpa using hs) d
    · rcases List.mem_cons.1 h with e | e
      · subst e
        rw [setT_not hD]
        simp [hs]
      · exact absurd e hD
def dstOf (ops : Array Oper) (i : Nat) : Option Tmp := (ops[i]?).bind (·.dst)
def fillT (ops : Array Oper) (t : List (Nat × Value)) (a : Act) : Act := t.foldl (fun a p => a.put (dstOf ops p.1) p.2) a

/-- The operations of E are those that may come up, in any order, until all have come up. -/
def effB (md : Region.Mode) (ops : Array Oper) (l1 : Array Bool) (E : List Nat) : Bool :=
  Region.noSelect ops && (E.all fun i => (ops[i]?).isSome && !(l1.getD i true)) &&
  (E.all fun i => E.all fun j => i == j || (match ops[i]?, ops[j]? with | some x, some y => x.apart ops y | _, _ => false)) &&
  (E.all fun i => match ops[i]? with | some o => o.guard.isNone && o.after.all fun e => !Region.binds md e || l1.getD e.on false || (E.contains e.on && decide (e.on < i)) | none => false) &&
  ((List.range ops.size).all fun j => E.contains j || l1.getD j true || (match ops[j]? with
    | some o => (o.after.any fun e => Region.binds md e && !(E.contains e.on) && !(l1.getD e.on false)) || (E.all fun i => o.after.any fun e => Region.binds md e && e.on == i)
    | none => true))

variable {E : List Nat} {l1 : Array Bool} {a1 : Act}
theorem eff_ready (hB : effB md ops l1 E = true) {D : List Nat} (hD : D ⊆ E) {i0 : Nat} (h0 : i0 ∈ E) (h1 : i0 ∉ D) {j : Nat} (h : j ∈ Region.ready md ops (setT l1 D)) : j ∈ E ∧ j ∉ D := by
  simp only [effB, Bool.and_eq_true, List.all_eq_true] at hB
  obtain ⟨⟨⟨⟨b1, b2⟩, b3⟩, b4⟩, b5⟩ := hB
  have hsz : ∀ i ∈ E, i < l1.size := fun i hi => by
    have := (b2 i hi).2
    rcases Nat.lt_or_ge i l1.size with h | h
    · exact h
    · simp [Array.getElem?_eq_none h] at this
  rw [mem_ready] at h
  obtain ⟨g1, o, ho, hall⟩ := h
  have hjD : j ∉ D := fun h => by rw [setT_mem h (hsz j (hD h))] at g1; cases g1
  rw [setT_not hjD] at g1
  refine ⟨?_, hjD⟩
  have hjs : j < ops.size := by
    rcases Nat.lt_or_ge j ops.size with h | h
    · exact h
    · rw [Array.getElem?_eq_none h] at ho; cases ho
  have := b5 j (List.mem_range.2 hjs)
  rw [ho] at this
  simp only [Bool.or_eq_true] at this
  rcases this with (h | h) | h | h
  · simpa using h
  · rw [g1] at h; cases h
  · obtain ⟨e, he, h⟩ := Array.any_eq_true'.1 h
    simp only [Bool.and_eq_true, Bool.not_eq_true'] at h
    have h2 := hall e he h.1.1
    rw [setT_not (fun hd => by have := hD hd; have h3 := h.1.2; simp at h3; exact h3 this)] at h2
    rw [h2] at h
    exact absurd h.2 (by simp)
  · simp only [List.all_eq_true] at h
    obtain ⟨e, he, h⟩ := Array.any_eq_true'.1 (h i0 h0)
    simp only [Bool.and_eq_true, beq_iff_eq] at h
    have h2 := hall e he h.1
    rw [h.2, setT_not h1] at h2
    have := (b2 i0 h0).2
    rcases Nat.lt_or_ge i0 l1.size with h' | h'
    · simp [h'] at this h2; rw [this] at h2; cases h2
    · simp [Array.getElem?_eq_none h'] at h2
theorem eff_some (hB : effB md ops l1 E = true) {D : List Nat} (hD : D ⊆ E) (i0 : Nat) : i0 ∈ E → i0 ∉ D → Region.ready md ops (setT l1 D) ≠ [] := by
  simp only [effB, Bool.and_eq_true, List.all_eq_true] at hB
  obtain ⟨⟨⟨⟨b1, b2⟩, b3⟩, b4⟩, b5⟩ := hB
  have hsz : ∀ i ∈ E, i < l1.size := fun i hi => by
    have := (b2 i hi).2
    rcases Nat.lt_or_ge i l1.size with h | h
    · exact h
    · simp [Array.getElem?_eq_none h] at this
  induction i0 using Nat.strongRecOn with
  | ind j ih =>
    intro hj hjD he
    have h4 := b4 j hj
    cases ho : ops[j]? with
    | none => rw [ho] at h4; cases h4
    | some o =>
      rw [ho] at h4
      simp only [Bool.and_eq_true] at h4
      by_cases hall : ∀ e ∈ o.after, Region.binds md e = true → (setT l1 D).getD e.on false = true
      · have : j ∈ Region.ready md ops (setT l1 D) := by
          rw [mem_ready, setT_not hjD]
          exact ⟨by have := (b2 j hj).2; simpa using this, o, ho, hall⟩
        rw [he] at this
        cases this
      · obtain ⟨e, hn⟩ := Classical.not_forall.1 hall
        have hea : e ∈ o.after := Classical.byContradiction fun h => hn fun h2 => absurd h2 h
        have hbi : Region.binds md e = true := Classical.byContradiction fun h => hn fun _ h2 => absurd h2 h
        have hnl : ¬ (setT l1 D).getD e.on false = true := fun h => hn fun _ _ => h
        have h3 := Array.all_eq_true'.1 h4.2 e hea
        rw [hbi] at h3
        simp only [Bool.not_true, Bool.false_or, Bool.or_eq_true, Bool.and_eq_true, decide_eq_true_eq] at h3
        have hnD : e.on ∉ D := fun h => hnl (setT_mem h (hsz _ (hD h)) _)
        rw [setT_not hnD] at hnl
        rcases h3 with h3 | h3
        · exact hnl h3
        · exact ih e.on h3.2 (by simpa using h3.1) hnD he
theorem setT_perm {D D' : List Nat} (h : D.Perm D') (l : Array Bool) : setT l D = setT l D' := by
  refine h.foldl_eq' (fun x _ y _ z => ?_) l
  by_cases e : x = y
  · subst e; rfl
  · exact Array.setIfInBounds_comm _ _ e
theorem putT_comm {t : List (Nat × Value)} (hn : (t.map Prod.fst).Nodup) (hd : ∀ i ∈ t.map Prod.fst, ∀ j ∈ t.map Prod.fst, i ≠ j → ∀ d, dstOf ops i = some d → dstOf ops j ≠ some d) : ∀ x ∈ t, ∀ y ∈ t, ∀ z : Act, (z.put (dstOf ops x.1) x.2).put (dstOf ops y.1) y.2 = (z.put (dstOf ops y.1) y.2).put (dstOf ops x.1) x.2 := by
  intro x hx y hy z
  by_cases e : x.1 = y.1
  · have : x = y := by
      have hp : t.Pairwise (fun a b => a.1 ≠ b.1) := List.pairwise_map.1 hn
      obtain ⟨i, hi, rfl⟩ := List.getElem_of_mem hx
      obtain ⟨j, hj, rfl⟩ := List.getElem_of_mem hy
      rw [List.pairwise_iff_getElem] at hp
      rcases Nat.lt_trichotomy i j with h | h | h
      · exact absurd e (hp i j hi hj h)
      · subst h; rfl
      · exact absurd e.symm (hp j i hj hi h)
    rw [this]
  · exact Act.put_comm z _ _ (hd _ (List.mem_map_of_mem hx) _ (List.mem_map_of_mem hy) e)
theorem val_of : ∀ {t : List (Nat × Value)}, (t.map Prod.fst).Nodup → ∀ p ∈ t, ((t.lookup p.1).getD undef) = p.2
  | [], _, p, hp => by cases hp
  | q :: t, hn, p, hp => by
    rw [List.map_cons, List.nodup_cons] at hn
    rcases List.mem_cons.1 hp with e | e
    · subst e; simp [List.lookup]
    · have hne : ¬ p.1 = q.1 := fun e2 => hn.1 (e2 ▸ List.mem_map_of_mem e)
      have h2 : (p.1 == q.1) = false := by simpa using hne
      simp only [List.lookup, h2]
      exact val_of hn.2 p e
theorem exec_fill {o : Oper} (hs : ∀ cs b, o.op ≠ .select cs b) {t : List (Nat × Value)} (h : ∀ p ∈ t, ∀ d, dstOf ops p.1 = some d → d ∉ o.looksAt ops) : ∀ a : Act, execOp (fillT ops t a).eval o = execOp a.eval o := by
  induction t with
  | nil => intro a; rfl
  | cons p t ih =>
    intro a
    show execOp (fillT ops t (a.put (dstOf ops p.1) p.2)).eval o = _
    rw [ih (fun q hq => h q (List.mem_cons_of_mem _ hq)), execOp_put o hs a _ _ (h p (by simp))]
theorem wpAnyH_eff {S : World → Prop} (hB : effB md ops l1 E = true) (hEn : E.Nodup) {g : Nat} {w0 : World} (hS : ∀ w, BkS w0 w → S w) (Rl : Nat → Value → World → Prop) (own : Nat → Value → Nat → Prop)
    (hRl : ∀ i v w w', Rl i v w → BkS w w' → Rl i v w') (hown : ∀ i v w b, Rl i v w → own i v b → b < w.heap.size)
    (hstep : ∀ i ∈ E, ∀ w, BkS w0 w → ∃ o, ops[i]? = some o ∧ Oper.gives P o a1 w (fun v w' => BkS w w' ∧ Rl i v w' ∧ ∀ b, own i v b → w.heap.size ≤ b))
    (hend : ∀ (val : Nat → Value) w, BkS w0 w → (∀ i ∈ E, Rl i (val i) w) → (∀ i ∈ E, ∀ j ∈ E, i ≠ j → ∀ b, own i (val i) b → ¬ own j (val j) b) → wpAnyH P md ops Q S g (setT l1 E) (fillT ops (E.map fun i => (i, val i)) a1) w) :
    wpAnyH P md ops Q S (g + E.length) l1 a1 w0 := by
  have hB0 := hB
  simp only [effB, Bool.and_eq_true, List.all_eq_true] at hB
  obtain ⟨⟨⟨⟨b1, b2⟩, b3⟩, b4⟩, b5⟩ := hB
  have hap : ∀ i ∈ E, ∀ j ∈ E, i ≠ j → ∃ x y, ops[i]? = some x ∧ ops[j]? = some y ∧ x.apart ops y = true := fun i hi j hj e => by
    have := b3 i hi j hj
    simp only [Bool.or_eq_true, beq_iff_eq] at this
    rcases this with h | h
    · exact absurd h e
    · cases hx : ops[i]? with
      | none => rw [hx] at h; cases h
      | some x => cases hy : ops[j]? with
        | none => rw [hx, hy] at h; cases h
        | some y => rw [hx, hy] at h; exact ⟨x, y, rfl, rfl, h⟩
  have hdst : ∀ i ∈ E, ∀ j ∈ E, i ≠ j → ∀ d, dstOf ops i = some d → dstOf ops j ≠ some d := fun i hi j hj e d hd => by
    obtain ⟨x, y, h1, h2, h3⟩ := hap i hi j hj e
    unfold dstOf at *
    rw [h1] at hd
    rw [h2]
    exact (Oper.apart_spec h3).2.1 d hd
  suffices key : ∀ k (t : List (Nat × Value)) w, t.length + k = E.length → (t.map Prod.fst).Nodup → t.map Prod.fst ⊆ E → BkS w0 w → (∀ p ∈ t, Rl p.1 p.2 w) → (∀ p ∈ t, ∀ q ∈ t, p.1 ≠ q.1 → ∀ b, own p.1 p.2 b → ¬ own q.1 q.2 b) → wpAnyH P md ops Q S (g + k) (setT l1 (t.map Prod.fst)) (fillT ops t a1) w from
    key E.length [] w0 (by simp) .nil (by simp) (bk_refl _) (by simp) (by simp)
  intro k
  induction k with
  | zero =>
    intro t w hk hn hs hb hr ho
    have hsub : E ⊆ t.map Prod.fst := fun i hi => by
      by_cases h : i ∈ t.map Prod.fst
      · exact h
      · exfalso
        have := nodup_sub (T := E.erase i) hn (fun j hj => (List.mem_erase_of_ne (fun (e : j = i) => h (by rw [← e]; exact hj))).2 (hs hj))
        rw [List.length_map, List.length_erase_of_mem hi] at this
        have := List.length_pos_of_mem hi
        omega
    have hp : (t.map Prod.fst).Perm E := (List.perm_ext_iff_of_nodup hn hEn).2 fun x => ⟨fun h => hs h, fun h => hsub h⟩
    obtain ⟨val, hval⟩ : ∃ val : Nat → Value, ∀ p ∈ t, val p.1 = p.2 := ⟨fun i => (t.lookup i).getD undef, val_of hn⟩
    have ht : t = (t.map Prod.fst).map fun i => (i, val i) := by
      rw [List.map_map]
      conv => lhs; rw [← List.map_id t]
      exact List.map_congr_left fun p hp => by show p = (p.1, val p.1); rw [hval p hp]
    have hf : fillT ops t a1 = fillT ops (E.map fun i => (i, val i)) a1 := by
      have : t.Perm (E.map fun i => (i, val i)) := by rw [ht]; exact hp.map _
      exact this.foldl_eq' (putT_comm hn fun i hi j hj => hdst i (hs hi) j (hs hj)) a1
    rw [hf, setT_perm hp]
    have hmem : ∀ i ∈ E, (i, val i) ∈ t := fun i hi => by rw [ht]; exact List.mem_map_of_mem (hsub hi)
    exact hend val w hb (fun i hi => hr _ (hmem i hi)) (fun i hi j hj e => ho _ (hmem i hi) _ (hmem j hj) e)
  | succ k ih =>
    intro t w hk hn hs hb hr ho
    obtain ⟨i0, h0, h1⟩ : ∃ i0, i0 ∈ E ∧ i0 ∉ t.map Prod.fst := by
      refine Classical.byContradiction fun h => ?_
      have := nodup_sub (T := t.map Prod.fst) hEn (fun j hj => Classical.byContradiction fun h2 => h ⟨j, hj, h2⟩)
      rw [List.length_map] at this
      omega
    refine ⟨fun h => ?_, fun i hi => ?_⟩
    · exact absurd h (eff_some hB0 hs i0 h0 h1)
    · obtain ⟨hiE, hiD⟩ := eff_ready hB0 hs h0 h1 hi
      obtain ⟨o, ho1, hg⟩ := hstep i hiE w hb
      have hgd : o.guard = none := by
        have := b4 i hiE
        rw [ho1] at this
        simp only [Bool.and_eq_true, Option.isNone_iff_eq_none] at this
        exact this.1
      have hl : setT l1 (t.map Prod.fst ++ [i]) = (setT l1 (t.map Prod.fst)).setIfInBounds i true := by simp [setT]
      have hfl : ∀ v, fillT ops (t ++ [(i, v)]) a1 = (fillT ops t a1).put o.dst v := fun v => by simp [fillT, dstOf, ho1]
      have hsel := Region.noSelect_spec b1
      unfold wpOp
      rw [ho1]
      dsimp only
      rw [if_pos (by simp [Region.wanted, hgd])]
      refine .inl (Oper.wp_of_gives hg (exec_fill (fun cs b => hsel i o cs b ho1) (fun p hp d hd => ?_) _) ?_)
      · have hpE := hs (List.mem_map_of_mem hp)
        obtain ⟨x, y, g1, g2, g3⟩ := hap p.1 hpE i hiE (fun e => hiD (e ▸ List.mem_map_of_mem hp))
        rw [ho1] at g2
        cases g2
        unfold dstOf at hd
        rw [g1] at hd
        exact (Oper.apart_spec g3).1 d hd
      · rintro v w' ⟨g1, g2, g3⟩
        have := ih (t ++ [(i, v)]) w' (by simp; omega) (by
          rw [List.map_append]
          refine List.nodup_append.2 ⟨hn, by simp, ?_⟩
          intro x hx y hy
          simp at hy
          subst hy
          exact fun e => hiD (e ▸ hx)) (by
          rw [List.map_append]
          exact List.append_subset.2 ⟨hs, by simpa using hiE⟩) (bel_call hb g1) (by
          intro p hp
          rcases List.mem_append.1 hp with hp | hp
          · exact hRl _ _ _ _ (hr p hp) g1
          · simp at hp; subst hp; exact g2) (by
          intro p hp q hq e b h1 h2
          rcases List.mem_append.1 hp with hp | hp <;> rcases List.mem_append.1 hq with hq | hq
          · exact ho p hp q hq e b h1 h2
          · simp at hq; subst hq
            have := g3 b h2
            have := hown _ _ _ _ (hr p hp) h1
            omega
          · simp at hp; subst hp
            have := g3 b h1
            have := hown _ _ _ _ (hr q hq) h2
            omega
          · simp at hp hq; subst hp; subst hq; exact e rfl)
        rw [List.map_append] at this
        rw [← hl, ← hfl]
        exact ⟨hS _ (bel_call hb g1), this⟩
end
end Go.Proofs.Ytinbfnabngdemaa
