/- What stands over each block, in plain Lean: by sweeps, the greatest answer. -/
import Derived.Test.YtcihobmjohpnkaaLvB
import Derived.Test.YtcihobmjohpnkaaOwn
namespace Go.Proofs.Ytcihobmjohpnkaa

section
/-- Is block a on every way to block b? -/
def Dm (l : List (List InsD)) (a b : Int) : Prop := Way (succS l) 0 b ∧ (a = b ∨ a = 0 ∨ ¬ Way (succX l a) 0 b)
theorem way_off (l : List (List InsD)) (a : Int) {x b : Int} (h : Way (succS l) x b) : Way (succX l a) x b ∨ Way (succS l) x a := by
  induction h with
  | here => exact .inl (.here _)
  | @on y z hw hz ih =>
    by_cases e : z = a
    · subst e; exact .inr (.on hw hz)
    · rcases ih with ih | ih
      · exact .inl (.on ih (List.mem_filter.2 ⟨hz, by simpa using e⟩))
      · exact .inr ih
theorem way_in (l : List (List InsD)) (a : Int) {x b : Int} (h : Way (succX l a) x b) : Way (succS l) x b := by
  induction h with
  | here => exact .here _
  | on _ hz ih => exact .on ih (List.mem_filter.1 hz).1
theorem Dm.reach {l : List (List InsD)} {a b : Int} (h : Dm l a b) : Way (succS l) 0 a := by
  obtain ⟨h1, rfl | rfl | h2⟩ := h
  · exact h1
  · exact .here _
  · exact (way_off l a h1).resolve_left h2
theorem Dm.pred {l : List (List InsD)} {a b p : Int} (h : Dm l a b) (hne : a ≠ b) (hp : Way (succS l) 0 p) (hb : b ∈ succS l p) : Dm l a p := by
  obtain ⟨-, h2⟩ := h
  refine ⟨hp, ?_⟩
  rcases h2 with h2 | h2 | h2
  · exact absurd h2 hne
  · exact .inr (.inl h2)
  · exact .inr (.inr fun hw => h2 (.on hw (List.mem_filter.2 ⟨hb, by simpa using fun e => hne e.symm⟩)))

/-- One block of a sweep. -/
def stepD (R : List (List Int)) (al : List Nat) (D : List (List Nat)) (b : Int) : List Nat := Bit.orW ((R.getD b.toNat []).foldl (fun s p => Bit.andW s (D.getD p.toNat [])) al) (Bit.ofW [b])
def oneD (R : List (List Int)) (al : List Nat) (s : List (List Nat) × Bool) (b : Int) : List (List Nat) × Bool :=
  (s.1.set b.toNat (stepD R al s.1 b), s.2 || decide (stepD R al s.1 b ≠ s.1.getD b.toNat []))
def sweepD (R : List (List Int)) (al : List Nat) (D : List (List Nat)) (bs : List Int) : List (List Nat) × Bool := bs.foldl (oneD R al) (D, false)
theorem sweepD_snoc (R : List (List Int)) (al : List Nat) (D : List (List Nat)) (bs : List Int) (b : Int) : sweepD R al D (bs ++ [b]) = oneD R al (sweepD R al D bs) b := by unfold sweepD; rw [List.foldl_append]; rfl
theorem good_and {a b : List Nat} (ha : Good1 a) (hb : Good1 b) : Good1 (Bit.andW a b) := ⟨Bit.and_can ha.1.1 hb.1.1, zip_trim_length _ ha.2 hb.2⟩
theorem good_of (xs : List Int) : Good1 (Bit.ofW xs) := ⟨Bit.of_can _, Nat.le_trans (Bit.trim_length _) (Bit.rawOf_ok _).2⟩
theorem good_foldA {D : List (List Nat)} (h : ∀ ws ∈ D, Good1 ws) (ps : List Int) : ∀ s, Good1 s → Good1 (ps.foldl (fun s p => Bit.andW s (D.getD p.toNat [])) s) := by
  induction ps with
  | nil => exact fun s hs => hs
  | cons p ps ih => exact fun s hs => ih _ (good_and hs (good_getD h _))
theorem good_stepD (R : List (List Int)) {al : List Nat} (ha : Good1 al) {D : List (List Nat)} (h : ∀ ws ∈ D, Good1 ws) (b : Int) : Good1 (stepD R al D b) := good_or (good_foldA h _ _ ha) (good_of _)
theorem has_foldA (D : List (List Nat)) (m : Nat) (ps : List Int) : ∀ s, Bit.has (ps.foldl (fun s p => Bit.andW s (D.getD p.toNat [])) s) m = true ↔ Bit.has s m = true ∧ ∀ p ∈ ps, Bit.has (D.getD p.toNat []) m = true := by
  induction ps with
  | nil => intro s; simp
  | cons p ps ih =>
    intro s
    rw [List.foldl_cons, ih, Bit.has_and, Bool.and_eq_true]
    simp only [List.mem_cons, forall_eq_or_imp]
    exact and_assoc
theorem has_stepD (R : List (List Int)) (al : List Nat) (D : List (List Nat)) (b : Int) (m : Nat) : Bit.has (stepD R al D b) m = true ↔ (Bit.has al m = true ∧ ∀ p ∈ R.getD b.toNat [], Bit.has (D.getD p.toNat []) m = true) ∨ ((m : Int) = b ∧ m ≤ 65535) := by
  unfold stepD
  rw [Bit.has_or, Bool.or_eq_true, has_foldA, Bit.has_of]
  simp
theorem stepD_mono (R : List (List Int)) (al : List Nat) {D E : List (List Nat)} (h : Sub D E) (b : Int) (m : Nat) (hm : Bit.has (stepD R al D b) m = true) : Bit.has (stepD R al E b) m = true := by
  rw [has_stepD] at hm ⊢
  exact hm.imp (fun ⟨h1, h2⟩ => ⟨h1, fun p hp => h _ _ (h2 p hp)⟩) id

theorem rev_ind {α : Type} {P : List α → Prop} (h0 : P []) (hs : ∀ l a, P l → P (l ++ [a])) (l : List α) : P l := by
  have h : ∀ r : List α, P r.reverse := by
    intro r
    induction r with
    | nil => exact h0
    | cons a r ih => rw [List.reverse_cons]; exact hs _ _ ih
  have := h l.reverse
  rwa [List.reverse_reverse] at this

/-- The blocks reached, block 0 first. -/
structure Ord (l : List (List InsD)) (T : List Int) : Prop where
  eq : orderS l = 0 :: T
  nd : (0 :: T).Nodup
  rg : ∀ x ∈ (0 :: T : List Int), 0 ≤ x ∧ x < l.length
  way : ∀ x, x ∈ (0 :: T : List Int) ↔ Way (succS l) 0 x
theorem ord_ex {l : List (List InsD)} (h : 0 < l.length) : ∃ T, Ord l T := by
  obtain ⟨new, e, nd, rg, way, -⟩ := orderS_post l h
  have he : ∃ T, orderS l = 0 :: T := by
    unfold orderS
    rw [if_neg (by omega)]
    obtain ⟨f, hf⟩ : ∃ f, l.length = f + 1 := ⟨l.length - 1, by omega⟩
    rw [hf, dfs_succ]
    exact ⟨_, by rw [List.reverse_append]; rfl⟩
  obtain ⟨T, hT⟩ := he
  have hm : ∀ x, x ∈ (0 :: T : List Int) ↔ x ∈ new := fun x => by rw [← hT, e, List.mem_reverse]
  refine ⟨T, hT, by rw [← hT, e]; exact List.pairwise_reverse.2 (List.Pairwise.imp (fun h => h.symm) nd), fun x hx => rg x ((hm x).1 hx), fun x => (hm x).trans (way x)⟩

/-- From where the reached blocks are come to. -/
def PredOk (l : List (List InsD)) (R : List (List Int)) : Prop := ∀ s p : Int, 0 ≤ s → s < l.length → (p ∈ R.getD s.toNat [] ↔ p ∈ orderS l ∧ s ∈ succS l p)

/-- What holds of the sets at each step. -/
structure DomAt (l : List (List InsD)) (T : List Int) (R : List (List Int)) (al : List Nat) (D : List (List Nat)) : Prop where
  len : D.length = l.length
  good : ∀ ws ∈ D, Good1 ws
  zero : D.getD 0 [] = Bit.ofW [0]
  out : ∀ k, k < l.length → (k : Int) ∉ (0 :: T : List Int) → D.getD k [] = []
  lo : ∀ b ∈ T, ∀ a : Nat, Dm l a b → Bit.has (D.getD b.toNat []) a = true
  dn : ∀ b ∈ T, ∀ a, Bit.has (stepD R al D b) a = true → Bit.has (D.getD b.toNat []) a = true

section
variable {l : List (List InsD)} {T : List Int} {R : List (List Int)} {al : List Nat} {D : List (List Nat)}
theorem DomAt.step (hO : Ord l T) (hR : PredOk l R) (hl : l.length ≤ 1000) (ha : al = Bit.ofW (orderS l)) (h : DomAt l T R al D) {b : Int} (hb : b ∈ T) : DomAt l T R al (D.set b.toNat (stepD R al D b)) ∧ Sub (D.set b.toNat (stepD R al D b)) D := by
  have hb1 := hO.rg b (List.mem_cons_of_mem _ hb)
  have hb0 : b ≠ 0 := fun e => (List.nodup_cons.1 hO.nd).1 (e ▸ hb)
  have hga : Good1 al := ha ▸ good_of _
  have s1 : Sub (D.set b.toNat (stepD R al D b)) D := fun k m hm => by
    rw [getD_set] at hm
    split at hm
    · rename_i hh; obtain ⟨rfl, -⟩ := hh; exact h.dn b hb m hm
    · exact hm
  refine ⟨⟨by rw [List.length_set]; exact h.len, good_set h.good (good_stepD R hga h.good b) _, ?_, fun k hk hkn => ?_, fun c hc a hd => ?_, fun c hc a hm => ?_⟩, s1⟩
  · rw [getD_set, if_neg (by omega)]; exact h.zero
  · have : b.toNat ≠ k := fun e => hkn (by rw [← e, Int.toNat_of_nonneg hb1.1]; exact List.mem_cons_of_mem _ hb)
    rw [getD_set, if_neg (by omega)]; exact h.out k hk hkn
  · rw [getD_set]
    split
    · rename_i hh
      have hc1 := hO.rg c (List.mem_cons_of_mem _ hc)
      obtain rfl : b = c := by omega
      rw [has_stepD]
      by_cases e : (a : Int) = b
      · exact .inr ⟨e, by omega⟩
      · refine .inl ⟨?_, fun p hp => ?_⟩
        · have hr := (hO.way _).2 hd.reach
          have := hO.rg _ hr
          rw [ha, Bit.has_of, hO.eq]
          exact ⟨hr, by omega⟩
        · obtain ⟨p1, p2⟩ := (hR b p hb1.1 hb1.2).1 hp
          rw [hO.eq] at p1
          have hd2 := hd.pred e ((hO.way _).1 p1) p2
          rcases List.mem_cons.1 p1 with rfl | p1
          · have := hd2.2
            have ha0 : (a : Int) = 0 := by
              rcases this with h1 | h1 | h1
              · exact h1
              · exact h1
              · exact absurd (.here _) h1
            show Bit.has (D.getD 0 []) a = true
            rw [h.zero, Bit.has_of]
            simp; omega
          · exact h.lo p p1 a hd2
    · exact h.lo c hc a hd
  · have h2 := stepD_mono R al s1 c a hm
    rw [getD_set]
    split
    · rename_i hh
      have hc1 := hO.rg c (List.mem_cons_of_mem _ hc)
      obtain rfl : b = c := by omega
      exact h2
    · exact h.dn c hc a h2
theorem DomAt.sweep (hO : Ord l T) (hR : PredOk l R) (hl : l.length ≤ 1000) (ha : al = Bit.ofW (orderS l)) (h : DomAt l T R al D) (bs : List Int) (hbs : ∀ b ∈ bs, b ∈ T) : DomAt l T R al (sweepD R al D bs).1 ∧ tot (sweepD R al D bs).1 + (if (sweepD R al D bs).2 = true then 1 else 0) ≤ tot D := by
  revert hbs
  refine rev_ind (P := fun bs => (∀ b ∈ bs, b ∈ T) → DomAt l T R al (sweepD R al D bs).1 ∧ tot (sweepD R al D bs).1 + (if (sweepD R al D bs).2 = true then 1 else 0) ≤ tot D) (fun _ => ⟨h, by simp [sweepD]⟩) ?_ bs
  · intro bs b ih hbs
    obtain ⟨i1, i2⟩ := ih fun c hc => hbs c (by simp [hc])
    have hb := hbs b (by simp)
    obtain ⟨j1, j2⟩ := i1.step hO hR hl ha hb
    rw [sweepD_snoc]
    unfold oneD
    dsimp only
    refine ⟨j1, ?_⟩
    have hb1 := hO.rg b (List.mem_cons_of_mem _ hb)
    have hbl : b.toNat < (sweepD R al D bs).1.length := by rw [i1.len]; omega
    have t1 := tot_set (stepD R al (sweepD R al D bs).1 b) hbl
    have hga : Good1 al := ha ▸ good_of _
    by_cases e : stepD R al (sweepD R al D bs).1 b = (sweepD R al D bs).1.getD b.toNat []
    · rw [e] at t1 ⊢
      simp only [ne_eq, not_true_eq_false, decide_false, Bool.or_false]
      omega
    · have t2 := cnt_lt (good_stepD R hga i1.good b) (good_getD i1.good _) (fun m => i1.dn b hb m) e
      have : (if ((sweepD R al D bs).2 || decide (stepD R al (sweepD R al D bs).1 b ≠ (sweepD R al D bs).1.getD b.toNat [])) = true then 1 else 0) ≤ 1 := by split <;> omega
      omega
/-- A sweep that turns nothing. -/
theorem sweepD_still (bs : List Int) (hs : (sweepD R al D bs).2 = false) : (sweepD R al D bs).1 = D ∧ ∀ b ∈ bs, stepD R al D b = D.getD b.toNat [] := by
  revert hs
  refine rev_ind (P := fun bs => (sweepD R al D bs).2 = false → (sweepD R al D bs).1 = D ∧ ∀ b ∈ bs, stepD R al D b = D.getD b.toNat []) (fun _ => ⟨rfl, fun b hb => by simp at hb⟩) ?_ bs
  · intro bs b ih hs
    rw [sweepD_snoc] at hs ⊢
    unfold oneD at hs ⊢
    dsimp only at hs ⊢
    rw [Bool.or_eq_false_iff] at hs
    obtain ⟨i1, i2⟩ := ih hs.1
    have e : stepD R al D b = D.getD b.toNat [] := by have := hs.2; rw [i1] at this; simpa using this
    rw [i1, e, set_same]
    refine ⟨rfl, fun c hc => ?_⟩
    rcases List.mem_append.1 hc with hc | hc
    · exact i2 c hc
    · rw [List.mem_singleton] at hc; rw [hc]; exact e

/-- What the sets over blocks are, in the end. -/
structure OverOk (l : List (List InsD)) (D : List (List Nat)) : Prop where
  len : D.length = l.length
  good : ∀ ws ∈ D, Good1 ws
  out : ∀ k, k < l.length → (k : Int) ∉ orderS l → D.getD k [] = []
  mem : ∀ b ∈ orderS l, ∀ a : Nat, Bit.has (D.getD b.toNat []) a = true ↔ Dm l a b
theorem DomAt.done (hO : Ord l T) (hR : PredOk l R) (h : DomAt l T R al D) (hs : (sweepD R al D T).2 = false) : OverOk l (sweepD R al D T).1 := by
  obtain ⟨e1, e2⟩ := sweepD_still T hs
  rw [e1]
  refine ⟨h.len, h.good, fun k hk hn => h.out k hk (by rw [← hO.eq]; exact hn), fun b hb a => ?_⟩
  rw [hO.eq] at hb
  have hb1 := hO.rg b hb
  have hbw := (hO.way b).1 hb
  have h0 : Bit.has (D.getD 0 []) a = true ↔ (a : Int) = 0 := by rw [h.zero, Bit.has_of]; simp; omega
  constructor
  · intro hm
    refine ⟨hbw, ?_⟩
    by_cases e : (a : Int) = b
    · exact .inl e
    by_cases e0 : (a : Int) = 0
    · exact .inr (.inl e0)
    refine .inr (.inr fun hw => ?_)
    have key : ∀ x, Way (succX l a) 0 x → Bit.has (D.getD x.toNat []) a = true → False := by
      intro x hx
      induction hx with
      | here => exact fun hh => e0 (h0.1 hh)
      | @on y z hy hz ih =>
        intro hh
        obtain ⟨z1, z2⟩ := List.mem_filter.1 hz
        have hyr := (hO.way y).2 (way_in l a hy)
        have hzr := (hO.way z).2 (.on (way_in l a hy) z1)
        have hz1 := hO.rg z hzr
        rcases List.mem_cons.1 hzr with rfl | hzT
        · exact e0 (h0.1 hh)
        · rw [← e2 z hzT, has_stepD] at hh
          rcases hh with ⟨-, hh⟩ | ⟨hh, -⟩
          · exact ih (hh y ((hR z y hz1.1 hz1.2).2 ⟨by rw [hO.eq]; exact hyr, z1⟩))
          · have : z ≠ (a : Int) := by simpa using z2
            exact this hh.symm
    exact key b hw hm
  · intro hd
    rcases List.mem_cons.1 hb with rfl | hbT
    · have := hd.2
      refine h0.2 ?_
      rcases this with h1 | h1 | h1
      · exact h1
      · exact h1
      · exact absurd (.here _) h1
    · exact h.lo b hbT a hd

/-- The sets ahead of the first sweep. -/
theorem DomAt.start (hO : Ord l T) (hl : l.length ≤ 1000) (ha : al = Bit.ofW (orderS l)) (hn : 0 < l.length) (hlen : D.length = l.length) (hD : ∀ j, j < l.length → D.getD j [] = if (j : Int) ∈ orderS l then al else []) : DomAt l T R al (D.set 0 (Bit.ofW [0])) := by
  have hga : Good1 al := ha ▸ good_of _
  have hT : ∀ b ∈ T, 0 ≤ b ∧ b < l.length ∧ b ≠ 0 ∧ (D.set 0 (Bit.ofW [0])).getD b.toNat [] = al := fun b hb => by
    have h1 := hO.rg b (List.mem_cons_of_mem _ hb)
    have h0 : b ≠ 0 := fun e => (List.nodup_cons.1 hO.nd).1 (e ▸ hb)
    refine ⟨h1.1, h1.2, h0, ?_⟩
    rw [getD_set, if_neg (by omega), hD _ (by omega), Int.toNat_of_nonneg h1.1, if_pos (by rw [hO.eq]; exact List.mem_cons_of_mem _ hb)]
  have hin : ∀ m : Nat, (m : Int) ∈ (0 :: T : List Int) → Bit.has al m = true := fun m hm => by
    have := hO.rg _ hm
    rw [ha, Bit.has_of, hO.eq]; exact ⟨hm, by omega⟩
  refine ⟨by rw [List.length_set]; exact hlen, good_set (fun ws hw => ?_) (good_of _) _, ?_, fun k hk hkn => ?_, fun b hb a hd => ?_, fun b hb a hm => ?_⟩
  · obtain ⟨j, hj, rfl⟩ := List.getElem_of_mem hw
    have := hD j (by omega)
    rw [List.getD_eq_getElem?_getD, List.getElem?_eq_getElem hj, Option.getD_some] at this
    rw [this]
    split
    · exact hga
    · exact good_nil
  · rw [getD_set, if_pos ⟨rfl, by omega⟩]
  · have : k ≠ 0 := fun e => hkn (by subst e; simp)
    rw [getD_set, if_neg (by omega), hD k hk, if_neg (by rw [hO.eq]; exact hkn)]
  · rw [(hT b hb).2.2.2]
    exact hin a ((hO.way _).2 hd.reach)
  · rw [(hT b hb).2.2.2]
    rw [has_stepD] at hm
    rcases hm with ⟨hm, -⟩ | ⟨hm, -⟩
    · exact hm
    · exact hin a (by rw [hm]; exact List.mem_cons_of_mem _ hb)
end

/-- What has been told of the rows 'preds': of the first k blocks of the order, and of the first m places where the next one goes on. -/
structure Acc (l : List (List InsD)) (os : List Int) (k m : Nat) (R : List (List Int)) : Prop where
  len : R.length = l.length
  sz : ∀ s, (R.getD s []).length ≤ 2 * k + m
  mem : ∀ (s : Nat) (p : Int), s < l.length → (p ∈ R.getD s [] ↔ (p ∈ os.take k ∧ (s : Int) ∈ succS l p) ∨ (k < os.length ∧ p = os.getD k 0 ∧ (s : Int) ∈ (succS l p).take m))
theorem Acc.start (l : List (List InsD)) (os : List Int) : Acc l os 0 0 (List.replicate l.length []) := by
  have e : ∀ s, (List.replicate l.length ([] : List Int)).getD s [] = [] := fun s => by rw [List.getD_eq_getElem?_getD, List.getElem?_replicate]; split <;> rfl
  exact ⟨by simp, fun s => by rw [e]; simp, fun s p _ => by rw [e]; simp⟩
theorem getDL_set {R : List (List Int)} (b k : Nat) (x : List Int) : (R.set b x).getD k [] = if b = k ∧ k < R.length then x else R.getD k [] := by
  rw [List.getD_eq_getElem?_getD, List.getElem?_set, List.getD_eq_getElem?_getD]
  by_cases h1 : b = k
  · by_cases h2 : k < R.length
    · subst h1; simp [h2]
    · subst h1; simp [h2]
  · simp [h1]
theorem Acc.put {l : List (List InsD)} {os : List Int} {k m : Nat} {R : List (List Int)} (h : Acc l os k m R) (hk : k < os.length) {b : Int} (hb : os.getD k 0 = b) {sN : Nat} (hm : m < (succS l b).length) (hs : (succS l b)[m] = (sN : Int)) : Acc l os k (m + 1) (R.set sN (R.getD sN [] ++ [b])) := by
  have hsl : sN < l.length := by have := succS_range l b _ (List.getElem_mem hm); rw [hs] at this; omega
  refine ⟨by rw [List.length_set]; exact h.len, fun s => ?_, fun s p hsn => ?_⟩
  · rw [getDL_set]
    have h1 := h.sz s
    have h2 := h.sz sN
    split
    · rw [List.length_append, List.length_singleton]; omega
    · omega
  · rw [getDL_set]
    have ht : ∀ x : Int, x ∈ (succS l b).take (m + 1) ↔ x ∈ (succS l b).take m ∨ x = (sN : Int) := fun x => by
      rw [List.take_succ_eq_append_getElem hm, List.mem_append, List.mem_singleton, hs]
    have hmem := h.mem s p hsn
    split
    · rename_i hh
      obtain ⟨rfl, -⟩ := hh
      rw [List.mem_append, List.mem_singleton, hmem]
      constructor
      · rintro ((h1 | ⟨h1, h2, h3⟩) | rfl)
        · exact .inl h1
        · subst h2
          refine .inr ⟨h1, rfl, ?_⟩
          rw [hb] at h3 ⊢
          exact (ht _).2 (.inl h3)
        · exact .inr ⟨hk, hb.symm, (ht _).2 (.inr rfl)⟩
      · rintro (h1 | ⟨h1, h2, h3⟩)
        · exact .inl (.inl h1)
        · rw [hb] at h2; exact .inr h2
    · rename_i hh
      rw [hmem]
      have hne : s ≠ sN := fun e => hh ⟨e.symm, by rw [h.len]; exact hsn⟩
      constructor
      · rintro (h1 | ⟨h1, h2, h3⟩)
        · exact .inl h1
        · refine .inr ⟨h1, h2, ?_⟩
          rw [hb] at h2
          subst h2
          exact (ht _).2 (.inl h3)
      · rintro (h1 | ⟨h1, h2, h3⟩)
        · exact .inl h1
        · refine .inr ⟨h1, h2, ?_⟩
          rw [hb] at h2
          subst h2
          rcases (ht _).1 h3 with h4 | h4
          · exact h4
          · omega
theorem Acc.close {l : List (List InsD)} {os : List Int} {k : Nat} {R : List (List Int)} {b : Int} (h : Acc l os k (succS l b).length R) (hk : k < os.length) (hb : os.getD k 0 = b) (h2 : (succS l b).length ≤ 2) : Acc l os (k + 1) 0 R := by
  refine ⟨h.len, fun s => by have := h.sz s; omega, fun s p hs => ?_⟩
  rw [h.mem s p hs, List.take_succ_eq_append_getElem hk, List.mem_append, List.mem_singleton]
  have e : os[k] = b := by rw [← hb]; simp [List.getD, hk]
  rw [e, hb]
  constructor
  · rintro (h1 | ⟨-, h3, h4⟩)
    · exact .inl ⟨.inl h1.1, h1.2⟩
    · subst h3; exact .inl ⟨.inr rfl, by rw [List.take_length] at h4; exact h4⟩
  · rintro (⟨h1 | h1, h3⟩ | ⟨-, -, h4⟩)
    · exact .inl ⟨h1, h3⟩
    · subst h1; exact .inr ⟨hk, rfl, by rw [List.take_length]; exact h3⟩
    · simp at h4
theorem Acc.done {l : List (List InsD)} {R : List (List Int)} (h : Acc l (orderS l) (orderS l).length 0 R) : PredOk l R := fun s p h0 hs => by
  have := h.mem s.toNat p (by omega)
  rw [Int.toNat_of_nonneg h0, List.take_length] at this
  rw [this]
  simp
theorem PredOk.perm {l : List (List InsD)} {R : List (List Int)} (h : PredOk l R) {j : Nat} {ys : List Int} (hp : ys.Perm (R.getD j [])) : PredOk l (R.set j ys) := fun s p h0 hs => by
  rw [← h s p h0 hs, getDL_set]
  split
  · rename_i hh; obtain ⟨rfl, -⟩ := hh; exact hp.mem_iff
  · rfl
/-- The sets over the first k blocks of the order are all of them. -/
structure Fil (n : Nat) (os : List Int) (al : List Nat) (k : Nat) (D : List (List Nat)) : Prop where
  len : D.length = n
  at' : ∀ j, j < n → D.getD j [] = if (j : Int) ∈ os.take k then al else []
theorem Fil.start (n : Nat) (os : List Int) (al : List Nat) : Fil n os al 0 (List.replicate n []) := ⟨by simp, fun j _ => by rw [replicate_getD]; simp⟩
theorem Fil.put {n : Nat} {os : List Int} {al : List Nat} {k : Nat} {D : List (List Nat)} (h : Fil n os al k D) (hk : k < os.length) {bN : Nat} (hb : os[k] = (bN : Int)) : Fil n os al (k + 1) (D.set bN al) := by
  refine ⟨by rw [List.length_set]; exact h.len, fun j hj => ?_⟩
  rw [getD_set, List.take_succ_eq_append_getElem hk, h.at' j hj, hb, h.len]
  by_cases e : bN = j
  · subst e; simp [hj]
  · have e2 : (j : Int) ≠ (bN : Int) := by omega
    rw [if_neg (fun hh => e hh.1)]
    simp [e2]
end

section
/- Rows of ints that are appended to where they lie (dom's preds); and 'slices.Sort' of a row of the call's own. -/
open Go.RowKit Go.Sort

/-- Rows each in a block of its own, of which q holds; the row of rows lies in block G. -/
structure PRow (B : Nat) (G : Nat) (q : Nat → Prop) (R : List (List Int)) (W : World) : Prop where
  ex : ∃ vs : List Value, Row W G 25 vs ∧ vs.length = R.length ∧
    (∀ j (h : j < vs.length), W.ownsRow B 3 1 vs[j] (R.getD j []).length (ints (R.getD j []))) ∧
    (∀ j (h : j < vs.length) b, vs[j].ownBlock = some b → (b ≠ G ∧ q b) ∧ ∀ i (hi : i < vs.length), vs[i].ownBlock = some b → i = j)

section
variable {B G : Nat} {q : Nat → Prop} {R : List (List Int)} {W W' W1 w' : World}
theorem PRow.lt (h : PRow B G q R W) : G < W.heap.size := let ⟨_, h1, _⟩ := h.ex; h1.lt
theorem PRow.frozen (h : PRow B G q R W) (k : Nat) : W.frozen? ⟨G, k, none⟩ = false := let ⟨_, h1, _⟩ := h.ex; h1.frozen k
theorem PRow.below (h : PRow B G q R W) (hb : Below W.heap.size W W') : PRow B G q R W' :=
  let ⟨vs, h1, h2, h3, h4⟩ := h.ex; ⟨vs, h1.keep (hb.block G h1.lt), h2, fun j hj => owns_below (h3 j hj) hb, h4⟩
/-- A store into a block that is none of these. -/
theorem PRow.other (h : PRow B G q R W) {a : Addr} (hG : G ≠ a.block) (ha : a.block < B ∨ ¬ q a.block) (u : Value) : PRow B G q R (W.setCell a u) := by
  obtain ⟨vs, h1, h2, h3, h4⟩ := h.ex
  refine ⟨vs, h1.other hG u, h2, fun j hj => (h3 j hj).kept (World.ownsRow.kept_set a u) ?_, h4⟩
  cases hob : vs[j].ownBlock with
  | none => exact .inl rfl
  | some b =>
    refine .inr fun e => ?_
    have h5 := ((h3 j hj).lt b hob).1
    have h6 := (h4 j hj b hob).1.2
    simp only [Option.some.injEq] at e
    rcases ha with ha | ha
    · omega
    · exact ha (e ▸ h6)
theorem PRow.bound (h : PRow B G q R W) : PRow B G (fun b => B ≤ b ∧ b < W.heap.size) R W :=
  let ⟨vs, h1, h2, h3, h4⟩ := h.ex
  ⟨vs, h1, h2, h3, fun j hj b hb => ⟨⟨(h4 j hj b hb).1.1, (h3 j hj).lt b hb⟩, (h4 j hj b hb).2⟩⟩
theorem PRow.start {n : Nat} (h : Row W G 25 (List.replicate n (.slice none 0 0))) : PRow B G q (List.replicate n []) W := by
  refine ⟨_, h, by simp, fun j hj => ?_, fun j hj b hb => ?_⟩
  · have e : (List.replicate n ([] : List Int)).getD j [] = [] := by rw [List.getD_eq_getElem?_getD, List.getElem?_replicate]; split <;> rfl
    rw [List.getElem_replicate, e]
    exact World.ownsRow_nil _ _ _ _
  · rw [List.getElem_replicate] at hb; simp [Value.ownBlock] at hb
theorem PRow.get (h : PRow B G q R W) {j : Nat} (hj : j < R.length) : ∃ a c, W.cell? ⟨G, j, none⟩ = some (.slice a (R.getD j []).length c) ∧ W.ownsRow B 3 1 (.slice a (R.getD j []).length c) (R.getD j []).length (ints (R.getD j [])) ∧
    ∀ b, (Value.slice a (R.getD j []).length c).ownBlock = some b → b ≠ G ∧ q b := by
  obtain ⟨vs, h1, h2, h3, h4⟩ := h.ex
  have hj' : j < vs.length := by omega
  have hw := h3 j hj'
  have hc := h1.cell (k := j) (v := vs[j]) (by simp [hj'])
  have hG := fun b hb => (h4 j hj' b hb).1
  obtain ⟨a, c, e, -⟩ := owns_slice hw
  rw [e] at hc hw hG
  exact ⟨a, c, hc, hw, hG⟩
/-- 'p[j] = append(p[j], ..)': the row's new value, its ints, and what has turned. -/
theorem PRow.put (h : PRow B G q R W) {j : Nat} {v v' : Value} {xs : List Int} (hj : j < R.length) (hc : W.cell? ⟨G, j, none⟩ = some v) (hb : Below W.heap.size W W1)
    (ho : w'.ownsRow B 3 1 v' xs.length (ints xs)) (hgr : W1.grownBy w' v.ownBlock) (hv : v'.ownBlock = v.ownBlock ∨ v'.ownBlock = some W1.heap.size) (hq : q W1.heap.size) :
    PRow B G q (R.set j xs) (w'.setCell ⟨G, j, none⟩ v') := by
  obtain ⟨vs, h1, h2, h3, h4⟩ := h.ex
  have hj' : j < vs.length := by omega
  have hvj : vs[j] = v := by
    have := h1.cell (k := j) (v := vs[j]) (by simp [hj'])
    rw [hc] at this; exact (Option.some.inj this).symm
  have hsz := hb.size
  have hGl := h1.lt
  have hGv : v.ownBlock ≠ some G := fun e => (h4 j hj' G (by rw [hvj]; exact e)).1.1 rfl
  have r1 : Row w' G 25 vs := (h1.keep (hb.block G h1.lt)).keep (hgr.block G (by omega) (fun e => hGv e.symm))
  have hv2 : ∀ b, v'.ownBlock = some b → v.ownBlock = some b ∨ b = W1.heap.size := fun b hb' => by
    rcases hv with e | e
    · exact .inl (e ▸ hb')
    · rw [e] at hb'; simp at hb'; exact .inr hb'.symm
  refine ⟨vs.set j v', r1.set j v', by simp [h2], fun i hi => ?_, fun i hi b hib => ?_⟩
  · have hi' : i < vs.length := by simpa using hi
    have eD : (R.set j xs).getD i [] = if j = i then xs else R.getD i [] := by
      rw [List.getD_eq_getElem?_getD, List.getElem?_set, List.getD_eq_getElem?_getD]
      by_cases e : j = i
      · subst e; simp [hj]
      · simp [e]
    rw [List.getElem_set, eD]
    by_cases e : j = i
    · rw [if_pos e, if_pos e]
      refine ho.kept (World.ownsRow.kept_set _ _) ?_
      cases hob : v'.ownBlock with
      | none => exact .inl rfl
      | some b =>
        refine .inr fun e2 => ?_
        simp at e2
        rcases hv2 b hob with e3 | e3
        · exact hGv (by rw [e3, ← e2])
        · omega
    · rw [if_neg e, if_neg e]
      refine ((owns_below (h3 i hi') hb).kept hgr ?_).kept (World.ownsRow.kept_set _ _) ?_
      · cases hob : vs[i].ownBlock with
        | none => exact .inl rfl
        | some b => exact .inr fun e2 => e ((h4 i hi' b hob).2 j hj' (by rw [hvj]; exact e2.symm))
      · cases hob : vs[i].ownBlock with
        | none => exact .inl rfl
        | some b => exact .inr fun e2 => by simp at e2; exact (h4 i hi' b hob).1.1 e2
  · have hi' : i < vs.length := by simpa using hi
    have lt_i : ∀ i (hi : i < vs.length) b, vs[i].ownBlock = some b → b < W1.heap.size := fun i hi b hh => by have := ((h3 i hi).lt b hh).2; omega
    rw [List.getElem_set] at hib
    have hother : ∀ k (hk : k < vs.length), k ≠ j → vs[k].ownBlock = some b → v'.ownBlock = some b → False := fun k hk hne h5 h6 => by
      rcases hv2 b h6 with e3 | e3
      · exact hne ((h4 j hj' b (by rw [hvj]; exact e3)).2 k hk h5)
      · have := lt_i k hk b h5; omega
    constructor
    · split at hib
      · rcases hv2 b hib with e3 | e3
        · exact ⟨fun e4 => hGv (by rw [e3, e4]), (h4 j hj' b (by rw [hvj]; exact e3)).1.2⟩
        · exact ⟨by omega, by rw [e3]; exact hq⟩
      · exact (h4 i hi' b hib).1
    · intro k hk hkb
      have hk' : k < vs.length := by simpa using hk
      rw [List.getElem_set] at hkb
      by_cases e1 : j = i
      · by_cases e2 : j = k
        · omega
        · rw [if_pos e1] at hib
          rw [if_neg e2] at hkb
          exact (hother k hk' (fun e => e2 e.symm) hkb hib).elim
      · rw [if_neg e1] at hib
        by_cases e2 : j = k
        · rw [if_pos e2] at hkb
          exact (hother i hi' (fun e => e1 e.symm) hib hkb).elim
        · rw [if_neg e2] at hkb
          exact (h4 i hi' b hib).2 k hk' hkb
/-- A row's ints are turned where they lie. -/
theorem PRow.turn (h : PRow B G q R W) {j : Nat} {v : Value} {xs : List Int} (hj : j < R.length) (hc : W.cell? ⟨G, j, none⟩ = some v)
    (ho : w'.ownsRow B 3 1 v xs.length (ints xs)) (hgr : W.grownBy w' v.ownBlock) : PRow B G q (R.set j xs) w' := by
  obtain ⟨vs, h1, h2, h3, h4⟩ := h.ex
  have hj' : j < vs.length := by omega
  have hvj : vs[j] = v := by
    have := h1.cell (k := j) (v := vs[j]) (by simp [hj'])
    rw [hc] at this; exact (Option.some.inj this).symm
  have hGv : v.ownBlock ≠ some G := fun e => (h4 j hj' G (by rw [hvj]; exact e)).1.1 rfl
  refine ⟨vs, h1.keep (hgr.block G h1.lt (fun e => hGv e.symm)), by simp [h2], fun i hi => ?_, h4⟩
  have eD : (R.set j xs).getD i [] = if j = i then xs else R.getD i [] := by
    rw [List.getD_eq_getElem?_getD, List.getElem?_set, List.getD_eq_getElem?_getD]
    by_cases e : j = i
    · subst e; simp [hj]
    · simp [e]
  rw [eD]
  by_cases e : j = i
  · subst e; rw [if_pos rfl, hvj]; exact ho
  · rw [if_neg e]
    refine (h3 i hi).kept hgr ?_
    cases hob : vs[i].ownBlock with
    | none => exact .inl rfl
    | some b => exact .inr fun e2 => e ((h4 i hi b hob).2 j hj' (by rw [hvj]; exact e2.symm))
theorem PRow.rows {p : Nat → Prop} (h : PRow B G q R W) (hp : ∀ b, B ≤ b → p b) (hG : p G) (hl : R.length ≤ 100000) (hx : ∀ xs ∈ R, xs.length ≤ 140737488351232) : IsRows p W (.slice (some ⟨G, 0, none⟩) R.length R.length) R := by
  obtain ⟨vs, h1, h2, h3, h4⟩ := h.ex
  refine ⟨_, _, rfl, ⟨Nat.le_refl _, by omega⟩, .inr ⟨G, 0, rfl, hG, fun j hj => ⟨vs[j], h1.cell (by simp [h2, hj]), ?_⟩⟩⟩
  have := h3 j (by omega)
  have e : R.getD j [] = R[j] := by simp [List.getD, hj]
  rw [e] at this
  exact ints_of_owns this (hx _ (List.getElem_mem hj)) fun _ _ hb _ => hp _ hb
end

theorem insertionSort_nil (p : Option Addr) (cap : Nat) (w : World) :
    Calls Try.prog 133 #[.slice p 0 cap, .int .i64 0, .int .i64 0] w fun e w' => e = .returned (.tuple #[]) ∧ w' = w := by
  go_enter Try.func133, Try.ntmps133
  go_wp2
  refine wp_loop_rounds 1 ?_
  rw [rounds_succ]
  go_wp2
  go_end0
  exact ⟨rfl, rfl⟩
set_option maxRecDepth 100000 in
theorem pdqsort_nil (p : Option Addr) (cap : Nat) (w : World) :
    Calls Try.prog 127 #[.slice p 0 cap, .int .i64 0, .int .i64 0, .int .i64 0] w fun e w' => e = .returned (.tuple #[]) ∧ w' = w := by
  go_enter Try.func127, Try.ntmps127
  go_wp2
  refine wp_loop_rounds 1 ?_
  rw [rounds_succ]
  go_wp2_with (first | (go_at_call 133; refine (insertionSort_nil p cap _).mono ?_; rintro e w' ⟨rfl, rfl⟩))
  refine bodyPost_ret (results_none rfl _ _ _) rfl ?_
  exact ⟨rfl, rfl⟩
set_option maxRecDepth 100000 in
theorem sort_nil (p : Option Addr) (cap : Nat) (w : World) :
    Calls Try.prog 114 #[.slice p 0 cap] w fun e w' => e = .returned (.tuple #[]) ∧ w' = w := by
  have hLen : ∀ w, Calls Try.prog 128 #[.int .u64 0] w fun e w' => e = .returned (.int .i64 0) ∧ w' = w := fun w => Try.bits_Len 0 w (by omega) (by omega)
  go_enter Try.func114, Try.ntmps114
  go_wp2_with (first
    | (go_at_call 128; refine (hLen _).mono ?_; rintro e w' ⟨rfl, rfl⟩)
    | (go_at_call 127; refine (pdqsort_nil p cap _).mono ?_; rintro e w' ⟨rfl, rfl⟩))
  go_end0
  exact ⟨rfl, rfl⟩

/-- 'slices.Sort' of a row of the call's own: the same ints in some order. -/
theorem sort_c {base : Nat} {e : TypeId} {v : Value} {zs : List Int} (w : World) (h : w.ownsRow base e 1 v zs.length (ints zs)) (hs : zs.length ≤ 140737488351232) :
    Calls Try.prog 114 #[v] w fun e' w' => e' = .returned (.tuple #[]) ∧ ∃ ys : List Int, ys.Perm zs ∧ w'.ownsRow base e 1 v ys.length (ints ys) ∧ w.grownBy w' v.ownBlock := by
  rcases owns_nilcase h with ⟨rfl, h0, hx⟩ | ⟨g, cap, rfl⟩
  · have hz : zs = [] := List.length_eq_zero_iff.1 h0
    subst hz
    refine (sort_nil none 0 w).mono ?_
    rintro e' w' ⟨rfl, rfl⟩
    exact ⟨rfl, [], .refl _, by simpa using h, World.grownBy.refl _ _⟩
  · have hg := (h.lt g rfl).2
    refine (Try.slices_Sort_int g 0 cap zs w (owns_holds h) hg (by omega)).mono ?_
    rintro e' w' ⟨rfl, q, os, rfl⟩
    have hlen : (zs.mergeSort fun x y => decide (x ≤ y)).length = zs.length := List.length_mergeSort _
    obtain ⟨o, hgr⟩ := owns_put (ys := zs.mergeSort fun x y => decide (x ≤ y)) h hlen q
    have hb : Below (putRow (Value.int .i64) (Sort.ahead w q) g 0 (zs.mergeSort fun x y => decide (x ≤ y)).toArray).heap.size (putRow (Value.int .i64) (Sort.ahead w q) g 0 (zs.mergeSort fun x y => decide (x ≤ y)).toArray) (grow (putRow (Value.int .i64) (Sort.ahead w q) g 0 (zs.mergeSort fun x y => decide (x ≤ y)).toArray) os) :=
      ⟨rfl, rfl, rfl, by simp, fun k hk => heap_grow_old _ _ hk⟩
    have o2 := owns_below o hb
    exact ⟨rfl, _, List.mergeSort_perm _ _, by simpa [hlen] using o2, grown_trans hgr ⟨rfl, rfl, rfl, by simp, fun k hk _ => heap_grow_old _ _ hk⟩⟩

section
/- What 'dom.Of' has in memory while it runs. -/
open Go.RowKit

/-- The four blocks are different ones, older than the rows. -/
structure Spc (B M sv gP gO gA : Nat) : Prop where
  lo : B ≤ sv ∧ B ≤ gP ∧ B ≤ gO ∧ B ≤ gA
  hi : sv < M ∧ gP < M ∧ gO < M ∧ gA < M
  ne : sv ≠ gP ∧ sv ≠ gO ∧ sv ≠ gA ∧ gP ≠ gO ∧ gP ≠ gA ∧ gO ≠ gA
/-- None of the four. -/
def NoS (sv gP gO gA b : Nat) : Prop := b ≠ sv ∧ b ≠ gP ∧ b ≠ gO ∧ b ≠ gA

structure DoSt (w : World) (n M sv gP gO gA : Nat) (ord za : Value) (os : List Int) (al : List Nat) (p q : Nat → Prop) (R : List (List Int)) (D : List (List Nat)) (W : World) : Prop where
  tb : Row W sv 102 [ord, .slice (some ⟨gP, 0, none⟩) n n, .slice (some ⟨gO, 0, none⟩) n n]
  ab : Row W gA 96 [za]
  rP : PRow M gP q R W
  rO : SetRow p gO D W
  oi : IsInts p W ord os
  ai : IsWords p W za al
  bel : Below w.heap.size w W
  sz : M ≤ W.heap.size
  sp : Spc w.heap.size M sv gP gO gA
  np : ∀ b, p b → NoS sv gP gO gA b
  pq : ∀ b, p b → ¬ q b

section
variable {w : World} {n M sv gP gO gA : Nat} {ord za : Value} {os : List Int} {al : List Nat} {p p' q : Nat → Prop} {R : List (List Int)} {D : List (List Nat)} {W W' W1 w' : World}
theorem DoSt.below (h : DoSt w n M sv gP gO gA ord za os al p q R D W) (hb : Below W.heap.size W W') : DoSt w n M sv gP gO gA ord za os al p q R D W' :=
  ⟨h.tb.keep (hb.block _ h.tb.lt), h.ab.keep (hb.block _ h.ab.lt), h.rP.below hb, h.rO.below hb, h.oi.keep (Keep.below hb), h.ai.keep (Keep.below hb), bel_call h.bel hb, Nat.le_trans h.sz hb.size, h.sp, h.np, h.pq⟩
theorem DoSt.re (h : DoSt w n M sv gP gO gA ord za os al p q R D W) (hp : ∀ b, p b → b < W.heap.size → p' b) (np : ∀ b, p' b → NoS sv gP gO gA b) (pq : ∀ b, p' b → ¬ q b) : DoSt w n M sv gP gO gA ord za os al p' q R D W :=
  ⟨h.tb, h.ab, h.rP, h.rO.keep rfl (Keep.refl W hp) (fun hh => (np _ hh).2.2.1 rfl), h.oi.keep (Keep.refl W hp), h.ai.keep (Keep.refl W hp), h.bel, h.sz, h.sp, np, pq⟩
/-- The rows lie in blocks below what is made from now on. -/
theorem DoSt.top (h : DoSt w n M sv gP gO gA ord za os al p q R D W) (hp : ∀ b, p b → b < M ∧ w.heap.size ≤ b) : DoSt w n M sv gP gO gA ord za os al (fun b => NoS sv gP gO gA b ∧ (b < M ∨ W.heap.size ≤ b) ∧ w.heap.size ≤ b) (fun b => M ≤ b ∧ b < W.heap.size) R D W :=
  have hk : ∀ b, p b → b < W.heap.size → NoS sv gP gO gA b ∧ (b < M ∨ W.heap.size ≤ b) ∧ w.heap.size ≤ b := fun b hb _ => ⟨h.np b hb, .inl (hp b hb).1, (hp b hb).2⟩
  ⟨h.tb, h.ab, h.rP.bound, h.rO.keep rfl (Keep.refl W hk) (fun hh => hh.1.2.2.1 rfl), h.oi.keep (Keep.refl W hk), h.ai.keep (Keep.refl W hk), h.bel, h.sz, h.sp, fun b hb => hb.1, fun b hb hh => by have := hb.2; omega⟩
theorem DoSt.setO (h : DoSt w n M sv gP gO gA ord za os al p q R D W) {z : Value} {ws : List Nat} (hz : IsWords p W z ws) (j : Nat) : DoSt w n M sv gP gO gA ord za os al p q R (D.set j ws) (W.setCell ⟨gO, j, none⟩ z) := by
  have s := h.sp.ne
  have s2 := h.sp.hi
  have s3 := h.sp.lo
  have hk : Keep p p W (W.setCell ⟨gO, j, none⟩ z) := Keep.setCell fun b hb _ => ⟨hb, (h.np b hb).2.2.1⟩
  exact ⟨h.tb.other (by show sv ≠ gO; omega) z, h.ab.other (by show gA ≠ gO; omega) z, h.rP.other (by show gP ≠ gO; omega) (.inl (by show gO < M; omega)) z, h.rO.set hz j, h.oi.keep hk, h.ai.keep hk, h.bel.setCell (by show w.heap.size ≤ gO; omega) z, by simpa using h.sz, h.sp, h.np, h.pq⟩
/-- A store into a block that is none of these. -/
theorem DoSt.cell (h : DoSt w n M sv gP gO gA ord za os al p q R D W) {a : Addr} (ha : M ≤ a.block) (hp : ¬ p a.block) (hq : ¬ q a.block) (u : Value) : DoSt w n M sv gP gO gA ord za os al p q R D (W.setCell a u) := by
  have s2 := h.sp.hi
  have s3 := h.sp.lo
  have hk : Keep p p W (W.setCell a u) := Keep.setCell fun b hb _ => ⟨hb, fun e => hp (e ▸ hb)⟩
  exact ⟨h.tb.other (by omega) u, h.ab.other (by omega) u, h.rP.other (by omega) (.inr hq) u, h.rO.other (by omega) hp u, h.oi.keep hk, h.ai.keep hk, h.bel.setCell (by omega) u, by simpa using h.sz, h.sp, h.np, h.pq⟩
/-- 'preds[j] = append(preds[j], ..)'. -/
theorem DoSt.put (h : DoSt w n M sv gP gO gA ord za os al p q R D W) {j : Nat} {v v' : Value} {xs : List Int} (hj : j < R.length) (hc : W.cell? ⟨gP, j, none⟩ = some v) (hv0 : ∀ b, v.ownBlock = some b → M ≤ b ∧ q b) (hb : Below W.heap.size W W1)
    (ho : w'.ownsRow M 3 1 v' xs.length (ints xs)) (hgr : W1.grownBy w' v.ownBlock) (hv : v'.ownBlock = v.ownBlock ∨ v'.ownBlock = some W1.heap.size) (hq : q W1.heap.size) :
    DoSt w n M sv gP gO gA ord za os al p q (R.set j xs) D (w'.setCell ⟨gP, j, none⟩ v') := by
  have s := h.sp.ne
  have s2 := h.sp.hi
  have s3 := h.sp.lo
  have h1 := h.below hb
  have hs1 := h1.sz
  have hm : ∀ b, b < M → w'.heap[b]? = W1.heap[b]? := fun b hlt => hgr.block b (by omega) (fun e => by have := (hv0 b e.symm).1; omega)
  have hk : Keep p p W1 w' := Keep.grown hgr fun b hb _ => ⟨hb, fun e => h.pq b hb (hv0 b e.symm).2⟩
  have hk2 : Keep p p w' (w'.setCell ⟨gP, j, none⟩ v') := Keep.setCell fun b hb _ => ⟨hb, (h.np b hb).2.1⟩
  refine ⟨(h1.tb.keep (hm _ s2.1)).other (by show sv ≠ gP; omega) v', (h1.ab.keep (hm _ s2.2.2.2)).other (by show gA ≠ gP; omega) v', h.rP.put hj hc hb ho hgr hv hq, (h1.rO.keep (hm _ s2.2.2.1) hk h.rO.np).other (by show gO ≠ gP; omega) (fun hh => (h.np _ hh).2.1 rfl) v', (h1.oi.keep hk).keep hk2, (h1.ai.keep hk).keep hk2, ?_, ?_, h.sp, h.np, h.pq⟩
  · exact (bel_grown h1.bel hgr (fun b e => by have := (hv0 b e).1; omega)).setCell (by show w.heap.size ≤ gP; omega) v'
  · have := hgr.size; simp; omega
/-- A row's ints are turned where they lie. -/
theorem DoSt.turn (h : DoSt w n M sv gP gO gA ord za os al p q R D W) {j : Nat} {v : Value} {xs : List Int} (hj : j < R.length) (hc : W.cell? ⟨gP, j, none⟩ = some v) (hv0 : ∀ b, v.ownBlock = some b → M ≤ b ∧ q b)
    (ho : w'.ownsRow M 3 1 v xs.length (ints xs)) (hgr : W.grownBy w' v.ownBlock) : DoSt w n M sv gP gO gA ord za os al p q (R.set j xs) D w' := by
  have s2 := h.sp.hi
  have s3 := h.sp.lo
  have hs1 := h.sz
  have hm : ∀ b, b < M → w'.heap[b]? = W.heap[b]? := fun b hlt => hgr.block b (by omega) (fun e => by have := (hv0 b e.symm).1; omega)
  have hk : Keep p p W w' := Keep.grown hgr fun b hb _ => ⟨hb, fun e => h.pq b hb (hv0 b e.symm).2⟩
  exact ⟨h.tb.keep (hm _ s2.1), h.ab.keep (hm _ s2.2.2.2), h.rP.turn hj hc ho hgr, h.rO.keep (hm _ s2.2.2.1) hk h.rO.np, h.oi.keep hk, h.ai.keep hk, bel_grown h.bel hgr (fun b e => by have := (hv0 b e).1; omega), by have := hgr.size; omega, h.sp, h.np, h.pq⟩
theorem DoSt.getP (h : DoSt w n M sv gP gO gA ord za os al p q R D W) {j : Nat} (hj : j < R.length) : ∃ a c, W.cell? ⟨gP, j, none⟩ = some (.slice a (R.getD j []).length c) ∧ W.ownsRow M 3 1 (.slice a (R.getD j []).length c) (R.getD j []).length (ints (R.getD j [])) ∧
    ∀ b, (Value.slice a (R.getD j []).length c).ownBlock = some b → M ≤ b ∧ q b := by
  obtain ⟨a, c, h1, h2, h3⟩ := h.rP.get hj
  exact ⟨a, c, h1, h2, fun b hb => ⟨(h2.lt b hb).1, (h3 b hb).2⟩⟩
/-- What it is in the end. -/
theorem DoSt.out (h : DoSt w n M sv gP gO gA ord za os al p q R D W) (hp : ∀ b, p b → w.heap.size ≤ b) (hR : R.length = n) (hD : D.length = n) (hn : n ≤ 100000) (hx : ∀ s, (R.getD s []).length ≤ 3000) :
    w.heap.size ≤ sv ∧ Row W sv 102 [ord, .slice (some ⟨gP, 0, none⟩) n n, .slice (some ⟨gO, 0, none⟩) n n] ∧ IsRows (w.heap.size ≤ ·) W (.slice (some ⟨gP, 0, none⟩) n n) R ∧ IsSets (w.heap.size ≤ ·) W (.slice (some ⟨gO, 0, none⟩) n n) D ∧ Below w.heap.size w W := by
  have s3 := h.sp.lo
  have s2 := h.sp.hi
  have h1 := h.rP.rows (p := (w.heap.size ≤ ·)) (fun b hb => by omega) (by omega) (by omega) (fun xs hxs => by
    obtain ⟨j, hj, rfl⟩ := List.getElem_of_mem hxs
    have := hx j
    simp [List.getD, hj] at this
    omega)
  have h2 := h.rO.sets (p' := (w.heap.size ≤ ·)) (by omega) hp (by omega)
  rw [hR] at h1
  rw [hD] at h2
  exact ⟨s3.1, h.tb, h1, h2, h.bel⟩
theorem DoSt.requ {q' : Nat → Prop} (h : DoSt w n M sv gP gO gA ord za os al p q R D W) (hq : ∀ b, q b → M ≤ b → b < W.heap.size → q' b) (pq : ∀ b, p b → ¬ q' b) : DoSt w n M sv gP gO gA ord za os al p q' R D W :=
  let ⟨vs, h1, h2, h3, h4⟩ := h.rP.ex
  ⟨h.tb, h.ab, ⟨vs, h1, h2, h3, fun j hj b hb => ⟨⟨(h4 j hj b hb).1.1, hq b (h4 j hj b hb).1.2 ((h3 j hj).lt b hb).1 ((h3 j hj).lt b hb).2⟩, (h4 j hj b hb).2⟩⟩, h.rO, h.oi, h.ai, h.bel, h.sz, h.sp, h.np, pq⟩
/-- What an append to one of the rows leaves alone. -/
theorem DoSt.put_keep (h : DoSt w n M sv gP gO gA ord za os al p q R D W) {v v' : Value} {r : Nat → Prop} (j : Nat) (hv0 : ∀ b, v.ownBlock = some b → M ≤ b ∧ q b) (hb : Below W.heap.size W W1) (hgr : W1.grownBy w' v.ownBlock) (hr : ∀ b, r b → ¬ q b ∧ M ≤ b) : Keep r r W (w'.setCell ⟨gP, j, none⟩ v') := by
  have s2 := h.sp.hi
  have hk1 : Keep r r W W1 := Keep.below hb
  have hk : Keep r r W1 w' := Keep.grown hgr fun b hh _ => ⟨hh, fun e => (hr b hh).1 (hv0 b e.symm).2⟩
  have hk2 : Keep r r w' (w'.setCell ⟨gP, j, none⟩ v') := Keep.setCell fun b hh _ => ⟨hh, by have := (hr b hh).2; show b ≠ gP; omega⟩
  exact (hk1.trans hk hb.size).trans hk2 (Nat.le_trans hb.size hgr.size)
/-- Behind the append, ahead of the store. -/
theorem DoSt.mid (h : DoSt w n M sv gP gO gA ord za os al p q R D W) {j : Nat} {v : Value} (hc : W.cell? ⟨gP, j, none⟩ = some v) (hv0 : ∀ b, v.ownBlock = some b → M ≤ b ∧ q b) (hb : Below W.heap.size W W1) (hgr : W1.grownBy w' v.ownBlock) :
    Row w' sv 102 [ord, .slice (some ⟨gP, 0, none⟩) n n, .slice (some ⟨gO, 0, none⟩) n n] ∧ w'.cell? ⟨gP, j, none⟩ = some v ∧ w'.frozen? ⟨gP, j, none⟩ = false := by
  have s2 := h.sp.hi
  have h1 := h.below hb
  have hs1 := h1.sz
  have hm : ∀ b, b < M → w'.heap[b]? = W1.heap[b]? := fun b hlt => hgr.block b (by omega) (fun e => by have := (hv0 b e.symm).1; omega)
  have e1 := (hm _ s2.2.1).trans (hb.block gP h.rP.lt)
  exact ⟨h1.tb.keep (hm _ s2.1), (World.cell?_of_block (a := ⟨gP, j, none⟩) e1).trans hc, (World.frozen?_of_block (a := ⟨gP, j, none⟩) e1).trans (h.rP.frozen j)⟩
end
end
end
end Go.Proofs.Ytcihobmjohpnkaa
