/- The colouring of a graph, as the program does it, in plain Lean. Nothing here names the program. -/
import Derived.ProofKit
namespace Go.Proofs.Ytinbfnabngdemaa

/-- A graph: edges, moves, what is allowed, what laps. -/
structure GD where
  E : List (Int × Int)
  M : List (Int × Int)
  A : List (List Int)
  Lp : List (List Int)

def alw (G : GD) (v : Nat) : List Int := G.A.getD v []
def lpS (G : GD) (c : Int) : List Int := G.Lp.getD c.toNat []
/-- A list of numbers below n that rises. -/
def RisP (l : List Int) (n : Nat) : Prop := l.Pairwise (· < ·) ∧ ∀ x ∈ l, 0 ≤ x ∧ x < (n : Int)
instance (l : List Int) (n : Nat) : Decidable (RisP l n) := inferInstanceAs (Decidable (_ ∧ _))
def EndP (p : Int × Int) (n : Nat) : Prop := 0 ≤ p.1 ∧ 0 ≤ p.2 ∧ p.1 < (n : Int) ∧ p.2 < (n : Int) ∧ p.1 ≠ p.2
instance (p : Int × Int) (n : Nat) : Decidable (EndP p n) := inferInstanceAs (Decidable (_ ∧ _))
structure OkG (G : GD) : Prop where
  e : ∀ p ∈ G.E, EndP p G.A.length
  m : ∀ p ∈ G.M, EndP p G.A.length
  a : ∀ l ∈ G.A, RisP l G.Lp.length
  l : ∀ c (h : c < G.Lp.length), RisP G.Lp[c] G.Lp.length ∧ (c : Int) ∈ G.Lp[c]
  s : ∀ c (h : c < G.Lp.length), ∀ d ∈ G.Lp[c], (c : Int) ∈ lpS G d
/-- Not too much. -/
structure Few (G : GD) : Prop where
  n : G.A.length ≤ 100
  k : G.Lp.length ≤ 60
  e : G.E.length ≤ 1500
  m : G.M.length ≤ 1500
  a : ∀ l ∈ G.A, l.length ≤ 5000
  l : ∀ l ∈ G.Lp, l.length ≤ 5000

/-- Are two nodes paired? -/
def adjS (E : List (Int × Int)) (v m : Nat) : Bool := E.any fun p => p == ((v : Int), (m : Int)) || p == ((m : Int), (v : Int))
theorem adjS_symm (E : List (Int × Int)) (v m : Nat) : adjS E v m = adjS E m v := by
  unfold adjS; congr 1; funext p; exact Bool.or_comm _ _
theorem adjS_iff {E : List (Int × Int)} {v m : Nat} : adjS E v m = true ↔ ((v : Int), (m : Int)) ∈ E ∨ ((m : Int), (v : Int)) ∈ E := by
  unfold adjS
  rw [List.any_eq_true]
  constructor
  · rintro ⟨p, hp, h⟩
    rcases Bool.or_eq_true_iff.1 h with h | h
    · exact .inl (by rw [← eq_of_beq h]; exact hp)
    · exact .inr (by rw [← eq_of_beq h]; exact hp)
  · rintro (h | h)
    · exact ⟨_, h, by simp⟩
    · exact ⟨_, h, by simp⟩
theorem adjS_snoc (E : List (Int × Int)) (p : Int × Int) (v m : Nat) : adjS (E ++ [p]) v m = (adjS E v m || (p == ((v : Int), (m : Int)) || p == ((m : Int), (v : Int)))) := by
  unfold adjS; simp
theorem OkG.lt_of_adj {G : GD} (h : OkG G) {v m : Nat} (ha : adjS G.E v m = true) : v < G.A.length ∧ m < G.A.length ∧ v ≠ m := by
  rcases adjS_iff.1 ha with ha | ha
  · have := h.e _ ha; unfold EndP at this; dsimp only at this; omega
  · have := h.e _ ha; unfold EndP at this; dsimp only at this; omega
theorem OkG.lt_of_mv {G : GD} (h : OkG G) {v m : Nat} (ha : adjS G.M v m = true) : v < G.A.length ∧ m < G.A.length ∧ v ≠ m := by
  rcases adjS_iff.1 ha with ha | ha
  · have := h.m _ ha; unfold EndP at this; dsimp only at this; omega
  · have := h.m _ ha; unfold EndP at this; dsimp only at this; omega

/-- How many of a list's numbers a colour laps with. -/
def cntS (G : GD) (l : List Int) (c : Int) : Nat := (l.filter fun d => decide (d ∈ lpS G c)).length
/-- How many of node v's colours node m may take away at most. -/
def maxL (f : Int → Nat) : List Int → Nat
  | [] => 0
  | c :: cs => max (f c) (maxL f cs)
def maxK (f : Int → Nat) (l : List Int) : Nat := l.foldl (fun k c => max k (f c)) 0
theorem maxK_nil (f : Int → Nat) : maxK f [] = 0 := rfl
theorem maxK_snoc (f : Int → Nat) (l : List Int) (c : Int) : maxK f (l ++ [c]) = max (maxK f l) (f c) := by unfold maxK; rw [List.foldl_append]; rfl
theorem maxK_le_of {f : Int → Nat} {B : Nat} (h : ∀ c, f c ≤ B) (l : List Int) : maxK f l ≤ B := by
  unfold maxK
  suffices H : ∀ (l : List Int) (k : Nat), k ≤ B → l.foldl (fun k c => max k (f c)) k ≤ B from H l 0 (Nat.zero_le _)
  intro l
  induction l with
  | nil => intro k hk; exact hk
  | cons c l ih => intro k hk; exact ih _ (Nat.max_le.2 ⟨hk, h c⟩)
theorem le_maxK {f : Int → Nat} {l : List Int} {c : Int} (h : c ∈ l) : f c ≤ maxK f l := by
  unfold maxK
  suffices H : ∀ (l : List Int) (k : Nat), k ≤ l.foldl (fun k c => max k (f c)) k ∧ (∀ c ∈ l, f c ≤ l.foldl (fun k c => max k (f c)) k) from (H l 0).2 c h
  intro l
  induction l with
  | nil => intro k; exact ⟨Nat.le_refl _, by simp⟩
  | cons c l ih =>
    intro k
    obtain ⟨h1, h2⟩ := ih (max k (f c))
    refine ⟨Nat.le_trans (Nat.le_max_left _ _) h1, fun d hd => ?_⟩
    rcases List.mem_cons.1 hd with rfl | hd
    · exact Nat.le_trans (Nat.le_max_right _ _) h1
    · exact h2 d hd
def mostS (G : GD) (v m : Nat) : Nat := maxK (cntS G (alw G v)) (alw G m)
theorem cntS_le (G : GD) (l : List Int) (c : Int) : cntS G l c ≤ l.length := List.length_filter_le _ _
theorem mostS_le (G : GD) (v m : Nat) : mostS G v m ≤ (alw G v).length := maxK_le_of (cntS_le G _) _

/-- What is known while nodes are taken away: what is gone, the sums, the order so far, those that are safe (the last one comes first). -/
structure CS where
  gone : Nat → Bool
  sums : Nat → Int
  order : List Nat
  safe : List Nat

def askS (G : GD) (S : CS) (v : Nat) : CS := if S.gone v = false ∧ S.sums v < ((alw G v).length : Int) then { S with safe := S.safe ++ [v] } else S
def nbsS (G : GD) (S : CS) (v : Nat) : List Nat := (List.range G.A.length).filter fun m => adjS G.E v m && !S.gone m
def lessS (G : GD) (v : Nat) (S : CS) (m : Nat) : CS := askS G { S with sums := fun u => if u = m then S.sums m - (mostS G m v : Int) else S.sums u } m
def goneS (S : CS) (v : Nat) : CS := { S with gone := fun u => if u = v then true else S.gone u, order := S.order ++ [v] }
def takeS (G : GD) (S : CS) (v : Nat) : CS := if S.gone v = true ∨ G.A.length ≤ v then S else (nbsS G (goneS S v) v).foldl (lessS G v) (goneS S v)
def leftS (G : GD) (S : CS) : Nat := ((List.range G.A.length).filter fun v => !S.gone v).length
theorem askS_gone (G : GD) (S : CS) (v : Nat) : (askS G S v).gone = S.gone := by unfold askS; split <;> rfl
theorem askS_sums (G : GD) (S : CS) (v : Nat) : (askS G S v).sums = S.sums := by unfold askS; split <;> rfl
theorem askS_order (G : GD) (S : CS) (v : Nat) : (askS G S v).order = S.order := by unfold askS; split <;> rfl
theorem askS_safe_len (G : GD) (S : CS) (v : Nat) : (askS G S v).safe.length ≤ S.safe.length + 1 := by unfold askS; split <;> simp
theorem fold_gone (G : GD) (v : Nat) (ms : List Nat) : ∀ S, (ms.foldl (lessS G v) S).gone = S.gone := by
  induction ms with
  | nil => intro S; rfl
  | cons m ms ih => intro S; rw [List.foldl_cons, ih]; unfold lessS; rw [askS_gone]
theorem fold_order (G : GD) (v : Nat) (ms : List Nat) : ∀ S, (ms.foldl (lessS G v) S).order = S.order := by
  induction ms with
  | nil => intro S; rfl
  | cons m ms ih => intro S; rw [List.foldl_cons, ih]; unfold lessS; rw [askS_order]
theorem fold_safe_len (G : GD) (v : Nat) (ms : List Nat) : ∀ S, (ms.foldl (lessS G v) S).safe.length ≤ S.safe.length + ms.length := by
  induction ms with
  | nil => intro S; simp
  | cons m ms ih =>
    intro S
    rw [List.foldl_cons]
    have h1 := ih (lessS G v S m)
    have h2 : (lessS G v S m).safe.length ≤ S.safe.length + 1 := by unfold lessS; exact askS_safe_len G _ m
    rw [List.length_cons]; omega
theorem nbs_len (G : GD) (S : CS) (v : Nat) : (nbsS G S v).length ≤ G.A.length := Nat.le_trans (List.length_filter_le _ _) (by simp)
theorem left_gone {G : GD} {S : CS} {v : Nat} (hv : v < G.A.length) (h : S.gone v = false) : leftS G (goneS S v) < leftS G S := by
  unfold leftS goneS
  dsimp only
  suffices H : ∀ (l : List Nat), ((l.filter fun u => !(if u = v then true else S.gone u)).length ≤ (l.filter fun u => !S.gone u).length) ∧ (v ∈ l → (l.filter fun u => !(if u = v then true else S.gone u)).length < (l.filter fun u => !S.gone u).length) from (H _).2 (List.mem_range.2 hv)
  intro l
  induction l with
  | nil => exact ⟨Nat.le_refl _, by simp⟩
  | cons u l ih =>
    obtain ⟨h1, h2⟩ := ih
    by_cases e : u = v
    · subst e
      simp only [List.filter_cons, if_true, h, Bool.not_true, Bool.not_false, if_false, List.length_cons, Bool.false_eq_true]
      exact ⟨by omega, fun _ => by omega⟩
    · have hm : v ∈ u :: l ↔ v ∈ l := by
        rw [List.mem_cons]
        exact ⟨fun h => h.resolve_left (fun h => e h.symm), .inr⟩
      simp only [List.filter_cons, if_neg e, hm]
      cases S.gone u
      · simp only [Bool.not_false, if_true, List.length_cons]
        exact ⟨by omega, fun hv => by have := h2 hv; omega⟩
      · simp only [Bool.not_true, Bool.false_eq_true, if_false]
        exact ⟨h1, h2⟩
theorem left_take {G : GD} {S : CS} {v : Nat} (h : ¬ (S.gone v = true ∨ G.A.length ≤ v)) : leftS G (takeS G S v) < leftS G S := by
  unfold takeS
  rw [if_neg h]
  have h1 : leftS G ((nbsS G (goneS S v) v).foldl (lessS G v) (goneS S v)) = leftS G (goneS S v) := by unfold leftS; rw [fold_gone]
  rw [h1]
  exact left_gone (by omega) (by simpa using fun e => h (.inl e))
def measS (G : GD) (S : CS) : Nat := leftS G S * (G.A.length + 1) + S.safe.length
theorem meas_take (G : GD) (S : CS) (v : Nat) (l : List Nat) (hs : S.safe = l ++ [v]) : measS G (takeS G { S with safe := l } v) < measS G S := by
  by_cases h : S.gone v = true ∨ G.A.length ≤ v
  · unfold takeS
    rw [if_pos h]
    unfold measS
    show leftS G S * _ + l.length < _
    rw [hs, List.length_append]
    simp
  · have h1 := left_take (S := { S with safe := l }) h
    have h2 : (takeS G { S with safe := l } v).safe.length ≤ l.length + G.A.length := by
      unfold takeS
      rw [if_neg h]
      refine Nat.le_trans (fold_safe_len G v _ _) ?_
      have := nbs_len G (goneS { S with safe := l } v) v
      show l.length + _ ≤ _
      omega
    have h3 : leftS G { S with safe := l } = leftS G S := rfl
    rw [h3] at h1
    unfold measS
    rw [hs, List.length_append, List.length_singleton]
    have h4 := Nat.mul_le_mul_right (G.A.length + 1) (Nat.succ_le_of_lt h1)
    rw [Nat.succ_mul] at h4
    omega
/-- All that are safe are taken away. -/
def simS (G : GD) (S : CS) : CS :=
  match _h : S.safe.getLast? with
  | none => S
  | some v => simS G (takeS G { S with safe := S.safe.dropLast } v)
termination_by measS G S
decreasing_by
  exact meas_take G S v _ (by
    have hne : S.safe ≠ [] := by intro e; rw [e] at _h; simp at _h
    rw [List.getLast?_eq_some_getLast hne] at _h
    rw [← Option.some.inj _h, List.dropLast_concat_getLast hne])
theorem simS_stop {G : GD} {S : CS} (h : S.safe = []) : simS G S = S := by
  rw [simS]
  split
  · rfl
  · rename_i v hv; rw [h] at hv; simp at hv
theorem simS_step {G : GD} {S : CS} {l : List Nat} {v : Nat} (h : S.safe = l ++ [v]) : simS G S = simS G (takeS G { S with safe := l } v) := by
  rw [simS]
  split
  · rename_i hv; rw [h] at hv; simp at hv
  · rename_i u hu
    rw [h, List.getLast?_append] at hu
    simp at hu
    subst hu
    rw [h, List.dropLast_concat]
theorem takeS_left_le (G : GD) (S : CS) (v : Nat) : leftS G (takeS G S v) ≤ leftS G S := by
  by_cases h : S.gone v = true ∨ G.A.length ≤ v
  · unfold takeS; rw [if_pos h]; exact Nat.le_refl _
  · exact Nat.le_of_lt (left_take h)
/-- What holds of one state and stays so where a node is taken away holds behind 'simS'. -/
theorem simS_ind {G : GD} {P : CS → Prop} (hp : ∀ S l v, S.safe = l ++ [v] → P S → P (takeS G { S with safe := l } v)) : ∀ S, P S → P (simS G S) ∧ (simS G S).safe = [] := by
  intro S
  induction hm : measS G S using Nat.strongRecOn generalizing S with
  | ind m ih =>
    intro h
    rcases List.eq_nil_or_concat S.safe with e | ⟨l, v, e⟩
    · rw [simS_stop e]; exact ⟨h, e⟩
    · rw [List.concat_eq_append] at e
      rw [simS_step e]
      exact ih _ (by rw [← hm]; exact meas_take G S v l e) _ rfl (hp S l v e h)
theorem simS_left_le (G : GD) (S : CS) : leftS G (simS G S) ≤ leftS G S :=
  (simS_ind (G := G) (P := fun T => leftS G T ≤ leftS G S) (fun _ _ v _ h => Nat.le_trans (takeS_left_le G _ v) h) S (Nat.le_refl _)).1
/-- The node that is worst off, of the first k; none: -1. -/
def heavyK (G : GD) (S : CS) : Nat → Int
  | 0 => -1
  | k + 1 => if S.gone k = false ∧ (heavyK G S k < 0 ∨ S.sums k - ((alw G k).length : Int) > S.sums (heavyK G S k).toNat - ((alw G (heavyK G S k).toNat).length : Int)) then (k : Int) else heavyK G S k
def heavyS (G : GD) (S : CS) : Int := heavyK G S G.A.length
theorem heavyK_lt (G : GD) (S : CS) (k : Nat) : heavyK G S k = -1 ∨ ∃ v : Nat, heavyK G S k = (v : Int) ∧ v < k ∧ S.gone v = false := by
  induction k with
  | zero => exact .inl rfl
  | succ k ih =>
    unfold heavyK
    split
    · rename_i h; exact .inr ⟨k, rfl, Nat.lt_succ_self _, h.1⟩
    · rcases ih with h | ⟨v, h1, h2, h3⟩
      · exact .inl h
      · exact .inr ⟨v, h1, by omega, h3⟩
theorem heavyK_none {G : GD} {S : CS} {k : Nat} (h : heavyK G S k = -1) : ∀ v, v < k → S.gone v = true := by
  induction k with
  | zero => intro v hv; omega
  | succ k ih =>
    unfold heavyK at h
    split at h
    · omega
    · rename_i hn
      intro v hv
      by_cases e : v = k
      · subst e
        cases hg : S.gone v with
        | true => rfl
        | false => exact absurd ⟨hg, .inl (by omega)⟩ hn
      · exact ih h v (by omega)
/-- All are taken away: where none is safe, the one that is worst off. -/
def mainS (G : GD) (S : CS) : CS :=
  if _h : 0 ≤ heavyS G S then mainS G (simS G (takeS G S (heavyS G S).toNat)) else S
termination_by leftS G S
decreasing_by
  rcases heavyK_lt G S G.A.length with h1 | ⟨v, h1, h2, h3⟩
  · unfold heavyS at _h; omega
  · refine Nat.lt_of_le_of_lt (simS_left_le G _) (left_take ?_)
    unfold heavyS
    rw [h1, Int.toNat_natCast]
    rintro (h4 | h4)
    · rw [h3] at h4; cases h4
    · omega
theorem mainS_stop {G : GD} {S : CS} (h : heavyS G S = -1) : mainS G S = S := by rw [mainS, dif_neg (by omega)]
theorem mainS_step {G : GD} {S : CS} {v : Nat} (h : heavyS G S = (v : Int)) : mainS G S = mainS G (simS G (takeS G S v)) := by
  rw [mainS, dif_pos (by omega), h, Int.toNat_natCast]
theorem heavyS_lt (G : GD) (S : CS) : heavyS G S = -1 ∨ ∃ v : Nat, heavyS G S = (v : Int) ∧ v < G.A.length ∧ S.gone v = false := heavyK_lt G S G.A.length
theorem mainS_ind {G : GD} {P : CS → Prop} (hs : ∀ S v, v < G.A.length → S.gone v = false → P S → P (takeS G S v)) (hp : ∀ S l v, S.safe = l ++ [v] → P S → P (takeS G { S with safe := l } v)) : ∀ S, P S → P (mainS G S) ∧ heavyS G (mainS G S) = -1 := by
  intro S
  induction hm : leftS G S using Nat.strongRecOn generalizing S with
  | ind m ih =>
    intro h
    rcases heavyS_lt G S with e | ⟨v, e, hv, hg⟩
    · rw [mainS_stop e]; exact ⟨h, e⟩
    · rw [mainS_step e]
      refine ih _ ?_ _ rfl (simS_ind hp _ (hs S v hv hg h)).1
      rw [← hm]
      refine Nat.lt_of_le_of_lt (simS_left_le G _) (left_take ?_)
      rintro (h4 | h4)
      · rw [hg] at h4; cases h4
      · omega

/-- The sums at the beginning. -/
def sumTo (G : GD) (v k : Nat) : Nat := ((List.range k).filter fun m => adjS G.E v m).foldl (fun s m => s + mostS G v m) 0
def beg0 (G : GD) : CS := { gone := fun _ => false, sums := fun v => (sumTo G v G.A.length : Int), order := [], safe := [] }
/-- The nodes from n down to k are asked. -/
def begD (G : GD) : Nat → CS
  | 0 => beg0 G
  | j + 1 => askS G (begD G j) (G.A.length - 1 - j)
def begS (G : GD) : CS := begD G G.A.length

/-- What is left of a node's colours. -/
def freeK (G : GD) (col : Nat → Int) (v : Nat) (ms : List Nat) : List Int := (alw G v).filter fun c => ms.all fun m => !(decide (0 ≤ col m) && decide (c ∈ lpS G (col m)))
def nearL (G : GD) (v : Nat) : List Nat := (List.range G.A.length).filter fun m => adjS G.E v m
def moveL (G : GD) (v : Nat) : List Nat := (List.range G.A.length).filter fun m => adjS G.M v m
def freeS (G : GD) (col : Nat → Int) (v : Nat) : List Int := freeK G col v (nearL G v)
def pickS (G : GD) (col : Nat → Int) (v : Nat) : Int :=
  match (moveL G v).find? fun m => decide (0 ≤ col m) && decide (col m ∈ freeS G col v) with
  | some m => col m
  | none => (freeS G col v).headD (-1)
def colK (G : GD) (col : Nat → Int) (v : Nat) : Nat → Int := fun u => if u = v then pickS G col v else col u
def colF (G : GD) (vs : List Nat) : Nat → Int := vs.foldl (colK G) (fun _ => -1)
/-- The colours. -/
def ordS (G : GD) : List Nat := (mainS G (simS G (begS G))).order
def colS (G : GD) : List Int := (List.range G.A.length).map (colF G (ordS G).reverse)
def sureS (G : GD) : Bool := decide ((simS G (begS G)).order.length = G.A.length)
end Go.Proofs.Ytinbfnabngdemaa
