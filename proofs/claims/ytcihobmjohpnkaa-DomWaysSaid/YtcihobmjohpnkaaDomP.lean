/- What stands over each block, in plain Lean: by sweeps, the greatest answer. -/
import Derived.Test.YtcihobmjohpnkaaLvP
import Derived.Test.YtcihobmjohpnkaaFromP
namespace Go.Proofs.Ytcihobmjohpnkaa

/-- Is block a on every way to block b? -/
def Dm (l : List (List InsD)) (a b : Int) : Prop := Way (succS l) 0 b ∧ (a = b ∨ a = 0 ∨ ¬ Way (succX l a) 0 b)
theorem way_off (l : List (List InsD)) (a : Int) {x b : Int} (h : Way (succS l) x b) : Way (succX l a) x b ∨ Way (succS l) x a := by
  induction h with
  | here => exact .inl (.here _)
  | @on y z hw hz ih =>
    by_cases e : z = a
    · subst e; exact .inr (.on hw hz)
    · rcases ih with ih | ih
      · exact .inl (.on ih (List.mem_filter.2 ⟨hz, by simpa using e⟩))
      · exact .inr ih
theorem way_in (l : List (List InsD)) (a : Int) {x b : Int} (h : Way (succX l a) x b) : Way (succS l) x b := by
  induction h with
  | here => exact .here _
  | on _ hz ih => exact .on ih (List.mem_filter.1 hz).1
theorem Dm.reach {l : List (List InsD)} {a b : Int} (h : Dm l a b) : Way (succS l) 0 a := by
  obtain ⟨h1, rfl | rfl | h2⟩ := h
  · exact h1
  · exact .here _
  · exact (way_off l a h1).resolve_left h2
theorem Dm.pred {l : List (List InsD)} {a b p : Int} (h : Dm l a b) (hne : a ≠ b) (hp : Way (succS l) 0 p) (hb : b ∈ succS l p) : Dm l a p := by
  obtain ⟨-, h2⟩ := h
  refine ⟨hp, ?_⟩
  rcases h2 with h2 | h2 | h2
  · exact absurd h2 hne
  · exact .inr (.inl h2)
  · exact .inr (.inr fun hw => h2 (.on hw (List.mem_filter.2 ⟨hb, by simpa using fun e => hne e.symm⟩)))

/-- One block of a sweep. -/
def stepD (R : List (List Int)) (al : List Nat) (D : List (List Nat)) (b : Int) : List Nat := Bit.orW ((R.getD b.toNat []).foldl (fun s p => Bit.andW s (D.getD p.toNat [])) al) (Bit.ofW [b])
def oneD (R : List (List Int)) (al : List Nat) (s : List (List Nat) × Bool) (b : Int) : List (List Nat) × Bool :=
  (s.1.set b.toNat (stepD R al s.1 b), s.2 || decide (stepD R al s.1 b ≠ s.1.getD b.toNat []))
def sweepD (R : List (List Int)) (al : List Nat) (D : List (List Nat)) (bs : List Int) : List (List Nat) × Bool := bs.foldl (oneD R al) (D, false)
theorem sweepD_snoc (R : List (List Int)) (al : List Nat) (D : List (List Nat)) (bs : List Int) (b : Int) : sweepD R al D (bs ++ [b]) = oneD R al (sweepD R al D bs) b := by unfold sweepD; rw [List.foldl_append]; rfl
theorem good_and {a b : List Nat} (ha : Good1 a) (hb : Good1 b) : Good1 (Bit.andW a b) := ⟨Bit.and_can ha.1.1 hb.1.1, zip_trim_length _ ha.2 hb.2⟩
theorem good_of (xs : List Int) : Good1 (Bit.ofW xs) := ⟨Bit.of_can _, Nat.le_trans (Bit.trim_length _) (Bit.rawOf_ok _).2⟩
theorem good_foldA {D : List (List Nat)} (h : ∀ ws ∈ D, Good1 ws) (ps : List Int) : ∀ s, Good1 s → Good1 (ps.foldl (fun s p => Bit.andW s (D.getD p.toNat [])) s) := by
  induction ps with
  | nil => exact fun s hs => hs
  | cons p ps ih => exact fun s hs => ih _ (good_and hs (good_getD h _))
theorem good_stepD (R : List (List Int)) {al : List Nat} (ha : Good1 al) {D : List (List Nat)} (h : ∀ ws ∈ D, Good1 ws) (b : Int) : Good1 (stepD R al D b) := good_or (good_foldA h _ _ ha) (good_of _)
theorem has_foldA (D : List (List Nat)) (m : Nat) (ps : List Int) : ∀ s, Bit.has (ps.foldl (fun s p => Bit.andW s (D.getD p.toNat [])) s) m = true ↔ Bit.has s m = true ∧ ∀ p ∈ ps, Bit.has (D.getD p.toNat []) m = true := by
  induction ps with
  | nil => intro s; simp
  | cons p ps ih =>
    intro s
    rw [List.foldl_cons, ih, Bit.has_and, Bool.and_eq_true]
    simp only [List.mem_cons, forall_eq_or_imp]
    exact and_assoc
theorem has_stepD (R : List (List Int)) (al : List Nat) (D : List (List Nat)) (b : Int) (m : Nat) : Bit.has (stepD R al D b) m = true ↔ (Bit.has al m = true ∧ ∀ p ∈ R.getD b.toNat [], Bit.has (D.getD p.toNat []) m = true) ∨ ((m : Int) = b ∧ m ≤ 65535) := by
  unfold stepD
  rw [Bit.has_or, Bool.or_eq_true, has_foldA, Bit.has_of]
  simp
theorem stepD_mono (R : List (List Int)) (al : List Nat) {D E : List (List Nat)} (h : Sub D E) (b : Int) (m : Nat) (hm : Bit.has (stepD R al D b) m = true) : Bit.has (stepD R al E b) m = true := by
  rw [has_stepD] at hm ⊢
  exact hm.imp (fun ⟨h1, h2⟩ => ⟨h1, fun p hp => h _ _ (h2 p hp)⟩) id

theorem rev_ind {α : Type} {P : List α → Prop} (h0 : P []) (hs : ∀ l a, P l → P (l ++ [a])) (l : List α) : P l := by
  have h : ∀ r : List α, P r.reverse := by
    intro r
    induction r with
    | nil => exact h0
    | cons a r ih => rw [List.reverse_cons]; exact hs _ _ ih
  have := h l.reverse
  rwa [List.reverse_reverse] at this

/-- The blocks reached, block 0 first. -/
structure Ord (l : List (List InsD)) (T : List Int) : Prop where
  eq : orderS l = 0 :: T
  nd : (0 :: T).Nodup
  rg : ∀ x ∈ (0 :: T : List Int), 0 ≤ x ∧ x < l.length
  way : ∀ x, x ∈ (0 :: T : List Int) ↔ Way (succS l) 0 x
theorem ord_ex {l : List (List InsD)} (h : 0 < l.length) : ∃ T, Ord l T := by
  obtain ⟨new, e, nd, rg, way, -⟩ := orderS_post l h
  have he : ∃ T, orderS l = 0 :: T := by
    unfold orderS
    rw [if_neg (by omega)]
    obtain ⟨f, hf⟩ : ∃ f, l.length = f + 1 := ⟨l.length - 1, by omega⟩
    rw [hf, dfs_succ]
    exact ⟨_, by rw [List.reverse_append]; rfl⟩
  obtain ⟨T, hT⟩ := he
  have hm : ∀ x, x ∈ (0 :: T : List Int) ↔ x ∈ new := fun x => by rw [← hT, e, List.mem_reverse]
  refine ⟨T, hT, by rw [← hT, e]; exact List.pairwise_reverse.2 (List.Pairwise.imp (fun h => h.symm) nd), fun x hx => rg x ((hm x).1 hx), fun x => (hm x).trans (way x)⟩

/-- From where the reached blocks are come to. -/
def PredOk (l : List (List InsD)) (R : List (List Int)) : Prop := ∀ s p : Int, 0 ≤ s → s < l.length → (p ∈ R.getD s.toNat [] ↔ p ∈ orderS l ∧ s ∈ succS l p)

/-- What holds of the sets at each step. -/
structure DomAt (l : List (List InsD)) (T : List Int) (R : List (List Int)) (al : List Nat) (D : List (List Nat)) : Prop where
  len : D.length = l.length
  good : ∀ ws ∈ D, Good1 ws
  zero : D.getD 0 [] = Bit.ofW [0]
  out : ∀ k, k < l.length → (k : Int) ∉ (0 :: T : List Int) → D.getD k [] = []
  lo : ∀ b ∈ T, ∀ a : Nat, Dm l a b → Bit.has (D.getD b.toNat []) a = true
  dn : ∀ b ∈ T, ∀ a, Bit.has (stepD R al D b) a = true → Bit.has (D.getD b.toNat []) a = true

section
variable {l : List (List InsD)} {T : List Int} {R : List (List Int)} {al : List Nat} {D : List (List Nat)}
theorem DomAt.step (hO : Ord l T) (hR : PredOk l R) (hl : l.length ≤ 1000) (ha : al = Bit.ofW (orderS l)) (h : DomAt l T R al D) {b : Int} (hb : b ∈ T) : DomAt l T R al (D.set b.toNat (stepD R al D b)) ∧ Sub (D.set b.toNat (stepD R al D b)) D := by
  have hb1 := hO.rg b (List.mem_cons_of_mem _ hb)
  have hb0 : b ≠ 0 := fun e => (List.nodup_cons.1 hO.nd).1 (e ▸ hb)
  have hga : Good1 al := ha ▸ good_of _
  have s1 : Sub (D.set b.toNat (stepD R al D b)) D := fun k m hm => by
    rw [getD_set] at hm
    split at hm
    · rename_i hh; obtain ⟨rfl, -⟩ := hh; exact h.dn b hb m hm
    · exact hm
  refine ⟨⟨by rw [List.length_set]; exact h.len, good_set h.good (good_stepD R hga h.good b) _, ?_, fun k hk hkn => ?_, fun c hc a hd => ?_, fun c hc a hm => ?_⟩, s1⟩
  · rw [getD_set, if_neg (by omega)]; exact h.zero
  · have : b.toNat ≠ k := fun e => hkn (by rw [← e, Int.toNat_of_nonneg hb1.1]; exact List.mem_cons_of_mem _ hb)
    rw [getD_set, if_neg (by omega)]; exact h.out k hk hkn
  · rw [getD_set]
    split
    · rename_i hh
      have hc1 := hO.rg c (List.mem_cons_of_mem _ hc)
      obtain rfl : b = c := by omega
      rw [has_stepD]
      by_cases e : (a : Int) = b
      · exact .inr ⟨e, by omega⟩
      · refine .inl ⟨?_, fun p hp => ?_⟩
        · have hr := (hO.way _).2 hd.reach
          have := hO.rg _ hr
          rw [ha, Bit.has_of, hO.eq]
          exact ⟨hr, by omega⟩
        · obtain ⟨p1, p2⟩ := (hR b p hb1.1 hb1.2).1 hp
          rw [hO.eq] at p1
          have hd2 := hd.pred e ((hO.way _).1 p1) p2
          rcases List.mem_cons.1 p1 with rfl | p1
          · have := hd2.2
            have ha0 : (a : Int) = 0 := by
              rcases this with h1 | h1 | h1
              · exact h1
              · exact h1
              · exact absurd (.here _) h1
            show Bit.has (D.getD 0 []) a = true
            rw [h.zero, Bit.has_of]
            simp; omega
          · exact h.lo p p1 a hd2
    · exact h.lo c hc a hd
  · have h2 := stepD_mono R al s1 c a hm
    rw [getD_set]
    split
    · rename_i hh
      have hc1 := hO.rg c (List.mem_cons_of_mem _ hc)
      obtain rfl : b = c := by omega
      exact h2
    · exact h.dn c hc a h2
theorem DomAt.sweep (hO : Ord l T) (hR : PredOk l R) (hl : l.length ≤ 1000) (ha : al = Bit.ofW (orderS l)) (h : DomAt l T R al D) (bs : List Int) (hbs : ∀ b ∈ bs, b ∈ T) : DomAt l T R al (sweepD R al D bs).1 ∧ tot (sweepD R al D bs).1 + (if (sweepD R al D bs).2 = true then 1 else 0) ≤ tot D := by
  revert hbs
  refine rev_ind (P := fun bs => (∀ b ∈ bs, b ∈ T) → DomAt l T R al (sweepD R al D bs).1 ∧ tot (sweepD R al D bs).1 + (if (sweepD R al D bs).2 = true then 1 else 0) ≤ tot D) (fun _ => ⟨h, by simp [sweepD]⟩) ?_ bs
  · intro bs b ih hbs
    obtain ⟨i1, i2⟩ := ih fun c hc => hbs c (by simp [hc])
    have hb := hbs b (by simp)
    obtain ⟨j1, j2⟩ := i1.step hO hR hl ha hb
    rw [sweepD_snoc]
    unfold oneD
    dsimp only
    refine ⟨j1, ?_⟩
    have hb1 := hO.rg b (List.mem_cons_of_mem _ hb)
    have hbl : b.toNat < (sweepD R al D bs).1.length := by rw [i1.len]; omega
    have t1 := tot_set (stepD R al (sweepD R al D bs).1 b) hbl
    have hga : Good1 al := ha ▸ good_of _
    by_cases e : stepD R al (sweepD R al D bs).1 b = (sweepD R al D bs).1.getD b.toNat []
    · rw [e] at t1 ⊢
      simp only [ne_eq, not_true_eq_false, decide_false, Bool.or_false]
      omega
    · have t2 := cnt_lt (good_stepD R hga i1.good b) (good_getD i1.good _) (fun m => i1.dn b hb m) e
      have : (if ((sweepD R al D bs).2 || decide (stepD R al (sweepD R al D bs).1 b ≠ (sweepD R al D bs).1.getD b.toNat [])) = true then 1 else 0) ≤ 1 := by split <;> omega
      omega
/-- A sweep that turns nothing. -/
theorem sweepD_still (bs : List Int) (hs : (sweepD R al D bs).2 = false) : (sweepD R al D bs).1 = D ∧ ∀ b ∈ bs, stepD R al D b = D.getD b.toNat [] := by
  revert hs
  refine rev_ind (P := fun bs => (sweepD R al D bs).2 = false → (sweepD R al D bs).1 = D ∧ ∀ b ∈ bs, stepD R al D b = D.getD b.toNat []) (fun _ => ⟨rfl, fun b hb => by simp at hb⟩) ?_ bs
  · intro bs b ih hs
    rw [sweepD_snoc] at hs ⊢
    unfold oneD at hs ⊢
    dsimp only at hs ⊢
    rw [Bool.or_eq_false_iff] at hs
    obtain ⟨i1, i2⟩ := ih hs.1
    have e : stepD R al D b = D.getD b.toNat [] := by have := hs.2; rw [i1] at this; simpa using this
    rw [i1, e, set_same]
    refine ⟨rfl, fun c hc => ?_⟩
    rcases List.mem_append.1 hc with hc | hc
    · exact i2 c hc
    · rw [List.mem_singleton] at hc; rw [hc]; exact e

/-- What the sets over blocks are, in the end. -/
structure OverOk (l : List (List InsD)) (D : List (List Nat)) : Prop where
  len : D.length = l.length
  good : ∀ ws ∈ D, Good1 ws
  out : ∀ k, k < l.length → (k : Int) ∉ orderS l → D.getD k [] = []
  mem : ∀ b ∈ orderS l, ∀ a : Nat, Bit.has (D.getD b.toNat []) a = true ↔ Dm l a b
theorem DomAt.done (hO : Ord l T) (hR : PredOk l R) (h : DomAt l T R al D) (hs : (sweepD R al D T).2 = false) : OverOk l (sweepD R al D T).1 := by
  obtain ⟨e1, e2⟩ := sweepD_still T hs
  rw [e1]
  refine ⟨h.len, h.good, fun k hk hn => h.out k hk (by rw [← hO.eq]; exact hn), fun b hb a => ?_⟩
  rw [hO.eq] at hb
  have hb1 := hO.rg b hb
  have hbw := (hO.way b).1 hb
  have h0 : Bit.has (D.getD 0 []) a = true ↔ (a : Int) = 0 := by rw [h.zero, Bit.has_of]; simp; omega
  constructor
  · intro hm
    refine ⟨hbw, ?_⟩
    by_cases e : (a : Int) = b
    · exact .inl e
    by_cases e0 : (a : Int) = 0
    · exact .inr (.inl e0)
    refine .inr (.inr fun hw => ?_)
    have key : ∀ x, Way (succX l a) 0 x → Bit.has (D.getD x.toNat []) a = true → False := by
      intro x hx
      induction hx with
      | here => exact fun hh => e0 (h0.1 hh)
      | @on y z hy hz ih =>
        intro hh
        obtain ⟨z1, z2⟩ := List.mem_filter.1 hz
        have hyr := (hO.way y).2 (way_in l a hy)
        have hzr := (hO.way z).2 (.on (way_in l a hy) z1)
        have hz1 := hO.rg z hzr
        rcases List.mem_cons.1 hzr with rfl | hzT
        · exact e0 (h0.1 hh)
        · rw [← e2 z hzT, has_stepD] at hh
          rcases hh with ⟨-, hh⟩ | ⟨hh, -⟩
          · exact ih (hh y ((hR z y hz1.1 hz1.2).2 ⟨by rw [hO.eq]; exact hyr, z1⟩))
          · have : z ≠ (a : Int) := by simpa using z2
            exact this hh.symm
    exact key b hw hm
  · intro hd
    rcases List.mem_cons.1 hb with rfl | hbT
    · have := hd.2
      refine h0.2 ?_
      rcases this with h1 | h1 | h1
      · exact h1
      · exact h1
      · exact absurd (.here _) h1
    · exact h.lo b hbT a hd

/-- The sets ahead of the first sweep. -/
theorem DomAt.start (hO : Ord l T) (hl : l.length ≤ 1000) (ha : al = Bit.ofW (orderS l)) (hn : 0 < l.length) (hlen : D.length = l.length) (hD : ∀ j, j < l.length → D.getD j [] = if (j : Int) ∈ orderS l then al else []) : DomAt l T R al (D.set 0 (Bit.ofW [0])) := by
  have hga : Good1 al := ha ▸ good_of _
  have hT : ∀ b ∈ T, 0 ≤ b ∧ b < l.length ∧ b ≠ 0 ∧ (D.set 0 (Bit.ofW [0])).getD b.toNat [] = al := fun b hb => by
    have h1 := hO.rg b (List.mem_cons_of_mem _ hb)
    have h0 : b ≠ 0 := fun e => (List.nodup_cons.1 hO.nd).1 (e ▸ hb)
    refine ⟨h1.1, h1.2, h0, ?_⟩
    rw [getD_set, if_neg (by omega), hD _ (by omega), Int.toNat_of_nonneg h1.1, if_pos (by rw [hO.eq]; exact List.mem_cons_of_mem _ hb)]
  have hin : ∀ m : Nat, (m : Int) ∈ (0 :: T : List Int) → Bit.has al m = true := fun m hm => by
    have := hO.rg _ hm
    rw [ha, Bit.has_of, hO.eq]; exact ⟨hm, by omega⟩
  refine ⟨by rw [List.length_set]; exact hlen, good_set (fun ws hw => ?_) (good_of _) _, ?_, fun k hk hkn => ?_, fun b hb a hd => ?_, fun b hb a hm => ?_⟩
  · obtain ⟨j, hj, rfl⟩ := List.getElem_of_mem hw
    have := hD j (by omega)
    rw [List.getD_eq_getElem?_getD, List.getElem?_eq_getElem hj, Option.getD_some] at this
    rw [this]
    split
    · exact hga
    · exact good_nil
  · rw [getD_set, if_pos ⟨rfl, by omega⟩]
  · have : k ≠ 0 := fun e => hkn (by subst e; simp)
    rw [getD_set, if_neg (by omega), hD k hk, if_neg (by rw [hO.eq]; exact hkn)]
  · rw [(hT b hb).2.2.2]
    exact hin a ((hO.way _).2 hd.reach)
  · rw [(hT b hb).2.2.2]
    rw [has_stepD] at hm
    rcases hm with ⟨hm, -⟩ | ⟨hm, -⟩
    · exact hm
    · exact hin a (by rw [hm]; exact List.mem_cons_of_mem _ hb)
end

/-- What has been told of the rows 'preds': of the first k blocks of the order, and of the first m places where the next one goes on. -/
structure Acc (l : List (List InsD)) (os : List Int) (k m : Nat) (R : List (List Int)) : Prop where
  len : R.length = l.length
  sz : ∀ s, (R.getD s []).length ≤ 2 * k + m
  mem : ∀ (s : Nat) (p : Int), s < l.length → (p ∈ R.getD s [] ↔ (p ∈ os.take k ∧ (s : Int) ∈ succS l p) ∨ (k < os.length ∧ p = os.getD k 0 ∧ (s : Int) ∈ (succS l p).take m))
theorem Acc.start (l : List (List InsD)) (os : List Int) : Acc l os 0 0 (List.replicate l.length []) := by
  have e : ∀ s, (List.replicate l.length ([] : List Int)).getD s [] = [] := fun s => by rw [List.getD_eq_getElem?_getD, List.getElem?_replicate]; split <;> rfl
  exact ⟨by simp, fun s => by rw [e]; simp, fun s p _ => by rw [e]; simp⟩
theorem getDL_set {R : List (List Int)} (b k : Nat) (x : List Int) : (R.set b x).getD k [] = if b = k ∧ k < R.length then x else R.getD k [] := by
  rw [List.getD_eq_getElem?_getD, List.getElem?_set, List.getD_eq_getElem?_getD]
  by_cases h1 : b = k
  · by_cases h2 : k < R.length
    · subst h1; simp [h2]
    · subst h1; simp [h2]
  · simp [h1]
theorem Acc.put {l : List (List InsD)} {os : List Int} {k m : Nat} {R : List (List Int)} (h : Acc l os k m R) (hk : k < os.length) {b : Int} (hb : os.getD k 0 = b) {sN : Nat} (hm : m < (succS l b).length) (hs : (succS l b)[m] = (sN : Int)) : Acc l os k (m + 1) (R.set sN (R.getD sN [] ++ [b])) := by
  have hsl : sN < l.length := by have := succS_range l b _ (List.getElem_mem hm); rw [hs] at this; omega
  refine ⟨by rw [List.length_set]; exact h.len, fun s => ?_, fun s p hsn => ?_⟩
  · rw [getDL_set]
    have h1 := h.sz s
    have h2 := h.sz sN
    split
    · rw [List.length_append, List.length_singleton]; omega
    · omega
  · rw [getDL_set]
    have ht : ∀ x : Int, x ∈ (succS l b).take (m + 1) ↔ x ∈ (succS l b).take m ∨ x = (sN : Int) := fun x => by
      rw [List.take_succ_eq_append_getElem hm, List.mem_append, List.mem_singleton, hs]
    have hmem := h.mem s p hsn
    split
    · rename_i hh
      obtain ⟨rfl, -⟩ := hh
      rw [List.mem_append, List.mem_singleton, hmem]
      constructor
      · rintro ((h1 | ⟨h1, h2, h3⟩) | rfl)
        · exact .inl h1
        · subst h2
          refine .inr ⟨h1, rfl, ?_⟩
          rw [hb] at h3 ⊢
          exact (ht _).2 (.inl h3)
        · exact .inr ⟨hk, hb.symm, (ht _).2 (.inr rfl)⟩
      · rintro (h1 | ⟨h1, h2, h3⟩)
        · exact .inl (.inl h1)
        · rw [hb] at h2; exact .inr h2
    · rename_i hh
      rw [hmem]
      have hne : s ≠ sN := fun e => hh ⟨e.symm, by rw [h.len]; exact hsn⟩
      constructor
      · rintro (h1 | ⟨h1, h2, h3⟩)
        · exact .inl h1
        · refine .inr ⟨h1, h2, ?_⟩
          rw [hb] at h2
          subst h2
          exact (ht _).2 (.inl h3)
      · rintro (h1 | ⟨h1, h2, h3⟩)
        · exact .inl h1
        · refine .inr ⟨h1, h2, ?_⟩
          rw [hb] at h2
          subst h2
          rcases (ht _).1 h3 with h4 | h4
          · exact h4
          · omega
theorem Acc.close {l : List (List InsD)} {os : List Int} {k : Nat} {R : List (List Int)} {b : Int} (h : Acc l os k (succS l b).length R) (hk : k < os.length) (hb : os.getD k 0 = b) (h2 : (succS l b).length ≤ 2) : Acc l os (k + 1) 0 R := by
  refine ⟨h.len, fun s => by have := h.sz s; omega, fun s p hs => ?_⟩
  rw [h.mem s p hs, List.take_succ_eq_append_getElem hk, List.mem_append, List.mem_singleton]
  have e : os[k] = b := by rw [← hb]; simp [List.getD, hk]
  rw [e, hb]
  constructor
  · rintro (h1 | ⟨-, h3, h4⟩)
    · exact .inl ⟨.inl h1.1, h1.2⟩
    · subst h3; exact .inl ⟨.inr rfl, by rw [List.take_length] at h4; exact h4⟩
  · rintro (⟨h1 | h1, h3⟩ | ⟨-, -, h4⟩)
    · exact .inl ⟨h1, h3⟩
    · subst h1; exact .inr ⟨hk, rfl, by rw [List.take_length]; exact h3⟩
    · simp at h4
theorem Acc.done {l : List (List InsD)} {R : List (List Int)} (h : Acc l (orderS l) (orderS l).length 0 R) : PredOk l R := fun s p h0 hs => by
  have := h.mem s.toNat p (by omega)
  rw [Int.toNat_of_nonneg h0, List.take_length] at this
  rw [this]
  simp
theorem PredOk.perm {l : List (List InsD)} {R : List (List Int)} (h : PredOk l R) {j : Nat} {ys : List Int} (hp : ys.Perm (R.getD j [])) : PredOk l (R.set j ys) := fun s p h0 hs => by
  rw [← h s p h0 hs, getDL_set]
  split
  · rename_i hh; obtain ⟨rfl, -⟩ := hh; exact hp.mem_iff
  · rfl
/-- The sets over the first k blocks of the order are all of them. -/
structure Fil (n : Nat) (os : List Int) (al : List Nat) (k : Nat) (D : List (List Nat)) : Prop where
  len : D.length = n
  at' : ∀ j, j < n → D.getD j [] = if (j : Int) ∈ os.take k then al else []
theorem Fil.start (n : Nat) (os : List Int) (al : List Nat) : Fil n os al 0 (List.replicate n []) := ⟨by simp, fun j _ => by rw [replicate_getD]; simp⟩
theorem Fil.put {n : Nat} {os : List Int} {al : List Nat} {k : Nat} {D : List (List Nat)} (h : Fil n os al k D) (hk : k < os.length) {bN : Nat} (hb : os[k] = (bN : Int)) : Fil n os al (k + 1) (D.set bN al) := by
  refine ⟨by rw [List.length_set]; exact h.len, fun j hj => ?_⟩
  rw [getD_set, List.take_succ_eq_append_getElem hk, h.at' j hj, hb, h.len]
  by_cases e : bN = j
  · subst e; simp [hj]
  · have e2 : (j : Int) ≠ (bN : Int) := by omega
    rw [if_neg (fun hh => e hh.1)]
    simp [e2]
end Go.Proofs.Ytcihobmjohpnkaa
