/- Whether all nodes can be taken away: what the program and the reference step through, in plain Lean. -/
import Derived.Test.YtdomnbgjafdnjaaPeA
import Derived.Test.YtdomnbgjafdnjaaPgC
namespace Go.Proofs.Ytdomnbgjafdnjaa

section
open Go.RowKit

/-- Who is near whom by the edges. -/
def edE (Es : List EdgeD) (x y : Nat) : Bool := Es.any fun e => (decide (e.a.toNat = x) && decide (e.b.toNat = y)) || (decide (e.b.toNat = x) && decide (e.a.toNat = y))
theorem edE_snoc (Es : List EdgeD) (e : EdgeD) (x y : Nat) : edE (Es ++ [e]) x y = (edE Es x y || ((decide (e.a.toNat = x) && decide (e.b.toNat = y)) || (decide (e.b.toNat = x) && decide (e.a.toNat = y)))) := by
  unfold edE; rw [List.any_append]; simp
theorem edE_take {Es : List EdgeD} {i : Nat} (h : i < Es.length) (x y : Nat) : edE (Es.take (i + 1)) x y = (edE (Es.take i) x y || ((decide (Es[i].a.toNat = x) && decide (Es[i].b.toNat = y)) || (decide (Es[i].b.toNat = x) && decide (Es[i].a.toNat = y)))) := by
  rw [List.take_succ_eq_append_getElem h, edE_snoc]
theorem begin_edE (N : List (List Int)) (Es : List EdgeD) : nrE (beginS N Es) = edE Es := by
  have key : ∀ (Es : List EdgeD) (S : PS) x y, ((Es.foldl (edgeS N) S).near x y).isSome = ((S.near x y).isSome || edE Es x y) := fun Es => by
    induction Es with
    | nil => intro S x y; simp [edE]
    | cons e Es ih =>
      intro S x y
      have h1 := ih (edgeS N S e) x y
      rw [List.foldl_cons, h1]
      have h2 : edE (e :: Es) x y = (((decide (e.a.toNat = x) && decide (e.b.toNat = y)) || (decide (e.b.toNat = x) && decide (e.a.toNat = y))) || edE Es x y) := rfl
      rw [h2, ← Bool.or_assoc]
      congr 1
      unfold edgeS PS.edge
      dsimp only
      by_cases e1 : x = e.a.toNat ∧ y = e.b.toNat
      · rw [if_pos e1]; obtain ⟨rfl, rfl⟩ := e1; simp
      · rw [if_neg e1]
        by_cases e2 : x = e.b.toNat ∧ y = e.a.toNat
        · rw [if_pos e2]; obtain ⟨rfl, rfl⟩ := e2; simp
        · rw [if_neg e2]
          have e3 : (decide (e.a.toNat = x) && decide (e.b.toNat = y)) = false := by
            rw [Bool.and_eq_false_iff, decide_eq_false_iff_not, decide_eq_false_iff_not]
            by_cases h3 : e.a.toNat = x
            · exact .inr fun h4 => e1 ⟨h3.symm, h4.symm⟩
            · exact .inl h3
          have e4 : (decide (e.b.toNat = x) && decide (e.a.toNat = y)) = false := by
            rw [Bool.and_eq_false_iff, decide_eq_false_iff_not, decide_eq_false_iff_not]
            by_cases h3 : e.b.toNat = x
            · exact .inr fun h4 => e2 ⟨h3.symm, h4.symm⟩
            · exact .inl h3
          rw [e3, e4]; simp
  funext x y
  unfold nrE
  rw [begin_gone]
  have := key Es (initS N) x y
  unfold beginS
  rw [this]
  simp [initS]
/-- How many are left. -/
def cntE (n : Nat) (g : Nat → Bool) : Nat := ((List.range n).filter fun v => !g v).length
theorem cnt_le (n : Nat) (g : Nat → Bool) : cntE n g ≤ n := by
  have := List.length_filter_le (fun v => !g v) (List.range n)
  rw [List.length_range] at this; exact this
theorem cnt_out {n v : Nat} {g : Nat → Bool} (hv : v < n) (hg : g v = false) : cntE n (outE g v) + 1 = cntE n g := by
  unfold cntE
  have h1 : v ∈ (List.range n).filter fun v => !g v := List.mem_filter.2 ⟨List.mem_range.2 hv, by rw [hg]; rfl⟩
  have h2 : (List.range n).filter (fun u => !outE g v u) = ((List.range n).filter fun u => !g u).erase v := by
    rw [List.Nodup.erase_eq_filter (List.nodup_range.filter _), List.filter_filter]
    refine List.filter_congr fun u _ => ?_
    unfold outE
    by_cases e : u = v
    · subst e; simp
    · simp [e]
  rw [h2, List.length_erase_of_mem h1]
  have := List.length_pos_of_mem h1
  omega
theorem cnt_zero {n : Nat} {g : Nat → Bool} : cntE n g = 0 ↔ ∀ v, v < n → g v = true := by
  unfold cntE
  rw [List.length_eq_zero_iff, List.filter_eq_nil_iff]
  constructor
  · intro h v hv
    have := h v (List.mem_range.2 hv)
    simpa using this
  · intro h v hv
    rw [h v (List.mem_range.1 hv)]; simp
/-- What holds on the way: whether all can be taken away is what it was. -/
structure EzI (n : Nat) (E0 E : Nat → Nat → Bool) (g : Nat → Bool) : Prop where
  wf : WfE n E g
  rd : RedP n E0 (fun _ => false) ↔ RedP n E g
theorem EzI.step {n v : Nat} {E0 E : Nat → Nat → Bool} {g : Nat → Bool} (h : EzI n E0 E g) (hv : v < n) (hg : g v = false) (hd : (nbE n E v).length ≤ 2) : EzI n E0 (elimE E v) (outE g v) :=
  ⟨h.wf.elim v, h.rd.trans ⟨fun hr => hr.take h.wf hv hg hd, fun hr => .step hv hg hd hr⟩⟩
theorem EzI.stuck {n : Nat} {E0 E : Nat → Nat → Bool} {g : Nat → Bool} (h : EzI n E0 E g) (hs : ∀ v, v < n → g v = false → 2 < (nbE n E v).length) : RedP n E0 (fun _ => false) ↔ ∀ v, v < n → g v = true :=
  h.rd.trans ⟨fun hr => hr.stuck hs, fun hr => .done hr⟩
theorem ez_init {N : List (List Int)} {Es : List EdgeD} (hc : chkS N Es = 0) : EzI N.length (edE Es) (edE Es) (fun _ => false) := by
  have h := (begin_ok hc Es.length (Nat.le_refl _)).2
  rw [List.take_length] at h
  have h1 := h.wfE
  rw [begin_edE] at h1
  have e : (beginS N Es).gone = fun _ => false := funext fun q => begin_gone N Es q
  rw [e] at h1
  exact ⟨h1, Iff.rfl⟩

/-- The numbers below n of which P tells, rising. -/
def rL (n : Nat) (P : Nat → Bool) : List Int := ((List.range n).filter P).map fun (m : Nat) => (m : Int)
theorem rL_congr {n : Nat} {P P' : Nat → Bool} (h : ∀ m, m < n → P m = P' m) : rL n P = rL n P' := by
  unfold rL; congr 1; exact List.filter_congr fun m hm => h m (List.mem_range.1 hm)
theorem mem_rL {n : Nat} {P : Nat → Bool} {x : Int} : x ∈ rL n P ↔ 0 ≤ x ∧ x.toNat < n ∧ P x.toNat = true := by
  unfold rL
  rw [List.mem_map]
  constructor
  · rintro ⟨m, hm, rfl⟩
    have := List.mem_filter.1 hm
    exact ⟨by omega, by simpa using List.mem_range.1 this.1, by simpa using this.2⟩
  · rintro ⟨h0, h1, h2⟩
    exact ⟨x.toNat, List.mem_filter.2 ⟨List.mem_range.2 h1, h2⟩, by omega⟩
theorem rL_ris (n : Nat) (P : Nat → Bool) : (rL n P).Pairwise (· < ·) := by
  unfold rL
  rw [List.pairwise_map]
  exact (List.pairwise_lt_range.filter _).imp fun h => by omega
theorem rL_len (n : Nat) (P : Nat → Bool) : (rL n P).length ≤ n := by unfold rL; rw [List.length_map]; exact Nat.le_trans (List.length_filter_le _ _) (by simp)
theorem rL_nb (n : Nat) (E : Nat → Nat → Bool) (v : Nat) : (rL n (E v)).length = (nbE n E v).length := by unfold rL nbE; rw [List.length_map]
theorem ris_ext : ∀ {a b : List Int}, a.Pairwise (· < ·) → b.Pairwise (· < ·) → (∀ x, x ∈ a ↔ x ∈ b) → a = b
  | [], [], _, _, _ => rfl
  | [], y :: b, _, _, h => by have := (h y).2 (by simp); simp at this
  | x :: a, [], _, _, h => by have := (h x).1 (by simp); simp at this
  | x :: a, y :: b, ha, hb, h => by
    obtain ⟨a1, a2⟩ := List.pairwise_cons.1 ha
    obtain ⟨b1, b2⟩ := List.pairwise_cons.1 hb
    have e : x = y := by
      have h1 := (h x).1 (by simp)
      have h2 := (h y).2 (by simp)
      rcases List.mem_cons.1 h1 with h1 | h1
      · exact h1
      · rcases List.mem_cons.1 h2 with h2 | h2
        · exact h2.symm
        · have := a1 y h2; have := b1 x h1; omega
    subst e
    congr 1
    refine ris_ext a2 b2 fun z => ⟨fun hz => ?_, fun hz => ?_⟩
    · have h1 := (h z).1 (List.mem_cons_of_mem _ hz)
      rcases List.mem_cons.1 h1 with h1 | h1
      · have := a1 z hz; omega
      · exact h1
    · have h1 := (h z).2 (List.mem_cons_of_mem _ hz)
      rcases List.mem_cons.1 h1 with h1 | h1
      · have := b1 z hz; omega
      · exact h1
/-- A number put into a rising list. -/
theorem putS_ris {l : List Int} (hl : l.Pairwise (· < ·)) {n : Int} (hn : 0 ≤ n ∧ n ≤ 65535) : (putS l n).Pairwise (· < ·) ∧ ∀ x, x ∈ putS l n ↔ x = n ∨ x ∈ l := by
  have hf : Bit.fits n = true := by unfold Bit.fits; simp; omega
  unfold putS
  rw [if_pos hf]
  have htw : ∀ x ∈ l.takeWhile (fun x => decide (x < n)), x < n := fun x hx => by
    have := List.all_takeWhile (p := fun x : Int => decide (x < n)) (l := l)
    rw [List.all_eq_true] at this
    simpa using this x hx
  have hsp : l.takeWhile (fun x => decide (x < n)) ++ l.dropWhile (fun x => decide (x < n)) = l := List.takeWhile_append_dropWhile
  have hdw : ∀ y r, l.dropWhile (fun x => decide (x < n)) = y :: r → n ≤ y := fun y r e => by
    have := List.head?_dropWhile_not (p := fun x : Int => decide (x < n)) l
    rw [e] at this
    simpa using this
  generalize l.takeWhile (fun x => decide (x < n)) = a at *
  generalize l.dropWhile (fun x => decide (x < n)) = b at *
  subst hsp
  rw [List.pairwise_append] at hl
  obtain ⟨h1, h2, h3⟩ := hl
  cases b with
  | nil =>
    refine ⟨List.pairwise_append.2 ⟨h1, by simp, fun x hx y hy => by rw [List.mem_singleton.1 hy]; exact htw x hx⟩, fun x => by simp [or_comm]⟩
  | cons y r =>
    have hy := hdw y r rfl
    dsimp only
    by_cases e : y = n
    · rw [if_pos e]
      refine ⟨List.pairwise_append.2 ⟨h1, h2, h3⟩, fun x => ?_⟩
      subst e
      simp
      exact fun h => .inr (.inl h)
    · rw [if_neg e]
      obtain ⟨h4, h5⟩ := List.pairwise_cons.1 h2
      refine ⟨List.pairwise_append.2 ⟨h1, List.pairwise_cons.2 ⟨fun z hz => ?_, h2⟩, fun x hx z hz => ?_⟩, fun x => ?_⟩
      · rcases List.mem_cons.1 hz with rfl | hz
        · omega
        · have := h4 z hz; omega
      · rcases List.mem_cons.1 hz with rfl | hz
        · exact htw x hx
        · exact h3 x hx z hz
      · simp only [List.mem_append, List.mem_cons]
        constructor
        · rintro (h | h | h | h)
          · exact .inr (.inl h)
          · exact .inl h
          · exact .inr (.inr (.inl h))
          · exact .inr (.inr (.inr h))
        · rintro (h | h | h | h)
          · exact .inr (.inl h)
          · exact .inl h
          · exact .inr (.inr (.inl h))
          · exact .inr (.inr (.inr h))
theorem putS_rL {n y : Nat} (hy : y < n) (hn : n ≤ 1000) (P : Nat → Bool) : putS (rL n P) (y : Int) = rL n fun m => P m || decide (m = y) := by
  obtain ⟨h1, h2⟩ := putS_ris (rL_ris n P) (n := (y : Int)) (by omega)
  refine ris_ext h1 (rL_ris _ _) fun x => ?_
  rw [h2, mem_rL, mem_rL]
  constructor
  · rintro (rfl | ⟨h3, h4, h5⟩)
    · exact ⟨by omega, by simpa using hy, by simp⟩
    · exact ⟨h3, h4, by rw [h5]; rfl⟩
  · rintro ⟨h3, h4, h5⟩
    rw [Bool.or_eq_true, decide_eq_true_eq] at h5
    rcases h5 with h5 | h5
    · exact .inr ⟨h3, h4, h5⟩
    · exact .inl (by omega)
theorem filterS_rL (n v : Nat) (P : Nat → Bool) : filterS (rL n P) [(v : Int)] false = rL n fun m => P m && decide (m ≠ v) := by
  unfold filterS rL
  rw [List.filter_map, List.filter_filter]
  congr 1
  refine List.filter_congr fun m _ => ?_
  have e : inS [(v : Int)] (m : Int) = decide (m = v) := by
    unfold inS
    simp
    omega
  simp only [Function.comp_apply, e]
  cases P m <;> by_cases h : m = v <;> simp [h]
/-- Rows of rising lists. -/
def rowsQ (n : Nat) (Q : Nat → Nat → Bool) : List (List Int) := (List.range n).map fun k => rL n (Q k)
def updQ (Q : Nat → Nat → Bool) (k : Nat) (P : Nat → Bool) : Nat → Nat → Bool := fun x => if x = k then P else Q x
theorem rowsQ_get {n k : Nat} (h : k < n) (Q : Nat → Nat → Bool) : (rowsQ n Q).getD k [] = rL n (Q k) := by simp [rowsQ, List.getD, h]
theorem rowsQ_set (n k : Nat) (Q : Nat → Nat → Bool) (P : Nat → Bool) : (rowsQ n Q).set k (rL n P) = rowsQ n (updQ Q k P) := by
  unfold rowsQ
  refine List.ext_getElem (by simp) fun j h1 h2 => ?_
  rw [List.getElem_set]
  by_cases e : k = j
  · subst e; simp [updQ]
  · have e2 : ¬ j = k := fun h => e h.symm
    simp [updQ, e, e2]
end

section
/- The reference's elimination, row by row: in plain Lean. -/
theorem updQ_same (Q : Nat → Nat → Bool) (k : Nat) (P : Nat → Bool) : updQ Q k P k = P := if_pos rfl
theorem updQ_ne (Q : Nat → Nat → Bool) {k x : Nat} (P : Nat → Bool) (h : x ≠ k) : updQ Q k P x = Q x := if_neg h
/-- Of the nodes that are there each row tells the neighbours. -/
def RowsE (n : Nat) (E : Nat → Nat → Bool) (g : Nat → Bool) (Q : Nat → Nat → Bool) : Prop := ∀ k, k < n → g k = false → ∀ y, y < n → Q k y = E k y
/-- Behind i of v's neighbours. -/
structure IL (n : Nat) (E : Nat → Nat → Bool) (g : Nat → Bool) (v i : Nat) (Q : Nat → Nat → Bool) : Prop where
  own : ∀ y, y < n → Q v y = E v y
  oth : ∀ k, k < n → g k = false → k ≠ v → ∀ y, y < n → Q k y = if (k : Int) ∈ (rL n (E v)).take i then elimE E v k y else E k y
/-- Behind i of v's neighbours, and at the next one, u, behind j of them. -/
structure KL (n : Nat) (E : Nat → Nat → Bool) (g : Nat → Bool) (v i u j : Nat) (Q : Nat → Nat → Bool) : Prop where
  own : ∀ y, y < n → Q v y = E v y
  oth : ∀ k, k < n → g k = false → k ≠ v → k ≠ u → ∀ y, y < n → Q k y = if (k : Int) ∈ (rL n (E v)).take i then elimE E v k y else E k y
  mid : ∀ y, y < n → Q u y = ((E u y && decide (y ≠ v)) || (decide ((y : Int) ∈ (rL n (E v)).take j) && decide (y ≠ u)))
section
variable {n v i j u w : Nat} {E Q : Nat → Nat → Bool} {g : Nat → Bool}
theorem RowsE.il (h : RowsE n E g Q) (hv : v < n) (hg : g v = false) : IL n E g v 0 Q :=
  ⟨h v hv hg, fun k hk hgk _ y hy => by rw [List.take_zero, if_neg (by simp)]; exact h k hk hgk y hy⟩
theorem rL_at (hi : i < (rL n (E v)).length) (hu : (rL n (E v))[i] = (u : Int)) : u < n ∧ E v u = true ∧ (u : Int) ∉ (rL n (E v)).take i := by
  have h1 : (u : Int) ∈ rL n (E v) := by rw [← hu]; exact List.getElem_mem hi
  obtain ⟨-, h2, h3⟩ := mem_rL.1 h1
  rw [Int.toNat_natCast] at h2 h3
  refine ⟨h2, h3, fun h4 => ?_⟩
  obtain ⟨q, hq, he⟩ := List.mem_iff_getElem.1 h4
  rw [List.getElem_take] at he
  have hq2 : q < i := by simp at hq; omega
  have := List.pairwise_iff_getElem.1 (rL_ris n (E v)) q i (by omega) hi hq2
  omega
theorem IL.row (h : IL n E g v i Q) (hg : g u = false) (huv : u ≠ v) (hi : i < (rL n (E v)).length) (hu : (rL n (E v))[i] = (u : Int)) {y : Nat} (hy : y < n) : Q u y = E u y := by
  obtain ⟨h1, -, h3⟩ := rL_at hi hu
  rw [h.oth u h1 hg huv y hy, if_neg h3]
theorem IL.kl (h : IL n E g v i Q) (hg : g u = false) (huv : u ≠ v) (hi : i < (rL n (E v)).length) (hu : (rL n (E v))[i] = (u : Int)) : KL n E g v i u 0 (updQ Q u fun m => Q u m && decide (m ≠ v)) := by
  refine ⟨fun y hy => ?_, fun k hk hgk hkv hku y hy => ?_, fun y hy => ?_⟩
  · rw [updQ_ne _ _ (Ne.symm huv)]; exact h.own y hy
  · rw [updQ_ne _ _ hku]; exact h.oth k hk hgk hkv y hy
  · rw [updQ_same]; rw [h.row hg huv hi hu hy]; simp
theorem KL.put (h : KL n E g v i u j Q) (huv : u ≠ v) (hj : j < (rL n (E v)).length) (hw : (rL n (E v))[j] = (w : Int)) (hwu : w ≠ u) : KL n E g v i u (j + 1) (updQ Q u fun m => Q u m || decide (m = w)) := by
  refine ⟨fun y hy => ?_, fun k hk hgk hkv hku y hy => ?_, fun y hy => ?_⟩
  · rw [updQ_ne _ _ (Ne.symm huv)]; exact h.own y hy
  · rw [updQ_ne _ _ hku]; exact h.oth k hk hgk hkv hku y hy
  · rw [updQ_same]
    rw [h.mid y hy, List.take_succ_eq_append_getElem hj, hw]
    by_cases e : y = w
    · subst e; simp [hwu]
    · have e2 : ¬ (y : Int) = (w : Int) := by omega
      simp [e, e2]
theorem KL.skip (h : KL n E g v i u j Q) (hj : j < (rL n (E v)).length) (hw : (rL n (E v))[j] = (u : Int)) : KL n E g v i u (j + 1) Q := by
  refine ⟨h.own, h.oth, fun y hy => ?_⟩
  rw [h.mid y hy, List.take_succ_eq_append_getElem hj, hw]
  by_cases e : y = u
  · subst e; simp
  · have e2 : ¬ (y : Int) = (u : Int) := by omega
    simp [e, e2]
theorem KL.done (h : KL n E g v i u (rL n (E v)).length Q) (hwf : WfE n E g) (hi : i < (rL n (E v)).length) (hu : (rL n (E v))[i] = (u : Int)) : IL n E g v (i + 1) Q := by
  obtain ⟨hun, hev, -⟩ := rL_at hi hu
  refine ⟨h.own, fun k hk hgk hkv y hy => ?_⟩
  rw [List.take_succ_eq_append_getElem hi, hu]
  by_cases hku : k = u
  · subst hku
    rw [if_pos (by simp), h.mid y hy, List.take_length]
    unfold elimE
    have e1 : E k v = true := by rw [hwf.sym]; exact hev
    have e2 : decide ((y : Int) ∈ rL n (E v)) = E v y := by
      rw [Bool.eq_iff_iff, decide_eq_true_eq, mem_rL, Int.toNat_natCast]
      exact ⟨fun h => h.2.2, fun h => ⟨by omega, hy, h⟩⟩
    rw [e2, e1]
    by_cases e3 : y = v
    · subst e3; rw [hwf.irr]; simp
    · by_cases e4 : y = k
      · subst e4; simp [hkv]
      · simp [hkv, e3, e4, Ne.symm e4]
  · have e5 : ¬ (k : Int) = (u : Int) := by omega
    have e6 : ((k : Int) ∈ (rL n (E v)).take i ++ [(u : Int)]) ↔ (k : Int) ∈ (rL n (E v)).take i := by simp [e5]
    rw [h.oth k hk hgk hkv hku y hy]
    by_cases e7 : (k : Int) ∈ (rL n (E v)).take i
    · rw [if_pos e7, if_pos (e6.2 e7)]
    · rw [if_neg e7, if_neg (fun h => e7 (e6.1 h))]
theorem IL.done (h : IL n E g v (rL n (E v)).length Q) (hwf : WfE n E g) : RowsE n (elimE E v) (outE g v) Q := by
  intro k hk hgk y hy
  unfold outE at hgk
  by_cases hkv : k = v
  · rw [if_pos hkv] at hgk; cases hgk
  rw [if_neg hkv] at hgk
  rw [h.oth k hk hgk hkv y hy, List.take_length]
  by_cases e1 : (k : Int) ∈ rL n (E v)
  · rw [if_pos e1]
  · rw [if_neg e1]
    have e2 : E k v = false := by
      rw [hwf.sym]
      cases h2 : E v k with
      | false => rfl
      | true => exact absurd (mem_rL.2 ⟨by omega, by simpa using hk, by simpa using h2⟩) e1
    unfold elimE
    rw [e2]
    by_cases e3 : y = v
    · subst e3; simp [e2]
    · simp [hkv, e3]
end
end
end Go.Proofs.Ytdomnbgjafdnjaa
