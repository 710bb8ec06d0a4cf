/- Loops, in plain Lean: heads, bodies, how deep a block is. -/
import Derived.Test.YtcihobmjohpnkaaDomU
namespace Go.Proofs.Ytcihobmjohpnkaa

/-- Does block p go back to head h? -/
def tailB (L : List (List InsD)) (h p : Int) : Bool := decide (h ∈ succS L p) && overS L h p
def headB (L : List (List InsD)) (h : Int) : Bool := (orderS L).any (tailB L h)
/-- Is block b in the body of h? -/
def bodyB (L : List (List InsD)) (h b : Int) : Bool := headB L h && (decide (b = h) || (orderS L).any fun p => tailB L h p && sn (fromS L b h) p)
def headsP (L : List (List InsD)) (k : Nat) : List Int := ((List.range k).map fun (i : Nat) => (i : Int)).filter (headB L)
def headsS (L : List (List InsD)) : List Int := headsP L L.length
def bodyP (L : List (List InsD)) (h : Int) (k : Nat) : List Int := ((List.range k).map fun (i : Nat) => (i : Int)).filter (bodyB L h)
def bodyS (L : List (List InsD)) (h : Int) : List Int := bodyP L h L.length
/-- How deep block b is, by the first k heads. -/
def depthK (L : List (List InsD)) (k b : Nat) : Nat := if (b : Int) ∈ orderS L then (((headsS L).take k).filter fun h => bodyB L h b).length else 0
def depthS (L : List (List InsD)) (b : Nat) : Nat := depthK L (headsS L).length b

theorem range_filter_succ (f : Int → Bool) (k : Nat) : ((List.range (k + 1)).map fun (i : Nat) => (i : Int)).filter f = ((List.range k).map fun (i : Nat) => (i : Int)).filter f ++ if f k then [(k : Int)] else [] := by
  rw [List.range_succ, List.map_append, List.filter_append, List.map_singleton]
  congr 1
  cases h : f (k : Int) <;> simp [h]
theorem range_filter_length (f : Int → Bool) (k : Nat) : (((List.range k).map fun (i : Nat) => (i : Int)).filter f).length ≤ k := Nat.le_trans (List.length_filter_le _ _) (by simp)
theorem mem_range_filter {f : Int → Bool} {k : Nat} {x : Int} : x ∈ ((List.range k).map fun (i : Nat) => (i : Int)).filter f ↔ (0 ≤ x ∧ x < k) ∧ f x = true := by
  rw [List.mem_filter, List.mem_map]
  refine and_congr ⟨?_, fun h => ⟨x.toNat, List.mem_range.2 (by omega), by omega⟩⟩ Iff.rfl
  rintro ⟨i, hi, rfl⟩
  have := List.mem_range.1 hi
  omega
theorem headsP_succ (L : List (List InsD)) (k : Nat) : headsP L (k + 1) = headsP L k ++ if headB L k then [(k : Int)] else [] := range_filter_succ _ _
theorem bodyP_succ (L : List (List InsD)) (h : Int) (k : Nat) : bodyP L h (k + 1) = bodyP L h k ++ if bodyB L h k then [(k : Int)] else [] := range_filter_succ _ _
theorem headsP_length (L : List (List InsD)) (k : Nat) : (headsP L k).length ≤ k := range_filter_length _ _
theorem bodyP_length (L : List (List InsD)) (h : Int) (k : Nat) : (bodyP L h k).length ≤ k := range_filter_length _ _

section
variable {L : List (List InsD)} {h b p : Int}
theorem tail_mem (ht : tailB L h p = true) : h ∈ succS L p ∧ overS L h p = true := by unfold tailB at ht; rw [Bool.and_eq_true, decide_eq_true_eq] at ht; exact ht
theorem tail_order (ht : tailB L h p = true) : p ∈ orderS L := (over_mem (tail_mem ht).2).2
theorem headB_iff : headB L h = true ↔ ∃ p, tailB L h p = true := by
  unfold headB
  rw [List.any_eq_true]
  exact ⟨fun ⟨p, _, hp⟩ => ⟨p, hp⟩, fun ⟨p, hp⟩ => ⟨p, tail_order hp, hp⟩⟩
theorem head_order (hh : headB L h = true) : h ∈ orderS L := by
  obtain ⟨p, hp⟩ := headB_iff.1 hh
  exact (over_mem (tail_mem hp).2).1
theorem head_range (hh : headB L h = true) : 0 ≤ h ∧ h < L.length := ⟨(order_range (head_order hh)).1, (order_range (head_order hh)).2.1⟩
/-- In a body: the head, and what comes to a tail without it. -/
theorem bodyB_iff (hb : 0 ≤ b ∧ b < L.length) : bodyB L h b = true ↔ headB L h = true ∧ (b = h ∨ ∃ p, tailB L h p = true ∧ b ≠ h ∧ Way (succX L h) b p) := by
  unfold bodyB
  rw [Bool.and_eq_true, Bool.or_eq_true, decide_eq_true_eq, List.any_eq_true]
  refine and_congr Iff.rfl ?_
  by_cases e : b = h
  · simp [e]
  constructor
  · rintro (h1 | ⟨p, hp, h1⟩)
    · exact absurd h1 e
    · rw [Bool.and_eq_true] at h1
      have := order_range hp
      exact .inr ⟨p, h1.1, e, (fromS_way L ⟨hb.1, hb.2, e⟩ p ⟨this.1, this.2.1⟩).1 h1.2⟩
  · rintro (h1 | ⟨p, hp, -, hw⟩)
    · exact absurd h1 e
    · have := order_range (tail_order hp)
      refine .inr ⟨p, tail_order hp, ?_⟩
      rw [Bool.and_eq_true]
      exact ⟨hp, (fromS_way L ⟨hb.1, hb.2, e⟩ p ⟨this.1, this.2.1⟩).2 hw⟩
theorem bodyB_range (hb : 0 ≤ b ∧ b < L.length) (h1 : bodyB L h b = true) : headB L h = true := ((bodyB_iff hb).1 h1).1
theorem mem_predS {L : List (List InsD)} {b p : Int} : p ∈ predS L b ↔ (0 ≤ p ∧ p < L.length) ∧ b ∈ succS L p := by
  unfold predS
  rw [List.mem_map]
  constructor
  · rintro ⟨i, hi, rfl⟩
    obtain ⟨h1, h2⟩ := List.mem_filter.1 hi
    have := List.mem_range.1 h1
    unfold inS at h2
    exact ⟨by omega, by simpa using h2⟩
  · rintro ⟨h1, h2⟩
    exact ⟨p.toNat, List.mem_filter.2 ⟨List.mem_range.2 (by omega), by unfold inS; rw [Int.toNat_of_nonneg h1.1]; simpa using h2⟩, by omega⟩
theorem succ_from {L : List (List InsD)} {a y : Int} (hy : y ∈ succS L a) : 0 ≤ a ∧ a < L.length := by
  unfold succS at hy
  split at hy
  · rename_i h0
    refine ⟨h0, ?_⟩
    apply Classical.byContradiction
    intro hn
    unfold succN at hy
    have e : L.getD a.toNat [] = [] := by rw [List.getD_eq_getElem?_getD, List.getElem?_eq_none (by omega)]; rfl
    rw [e] at hy
    simp at hy
  · simp at hy
theorem way_cons {nt x y z : Int} (hy : y ∈ succX L nt x) (hw : Way (succX L nt) y z) : Way (succX L nt) x z := (Way.on (.here x) hy).trans hw
end

/-- While a body is gathered: the set S, and what is still to be gone back from. -/
structure BoAt (L : List (List InsD)) (h : Int) (S : List Nat) (T : List Int) : Prop where
  good : Good1 S
  hd : hasI S h = true
  rg : ∀ x, hasI S x = true → 0 ≤ x ∧ x < L.length
  trg : ∀ x ∈ T, 0 ≤ x ∧ x < L.length
  sound : ∀ x, x ∈ T ∨ hasI S x = true → x = h ∨ ∃ p, tailB L h p = true ∧ Way (succX L h) x p
  closed : ∀ x, hasI S x = true → x ≠ h → ∀ y, x ∈ succS L y → y ∈ T ∨ hasI S y = true
  tl : ∀ p, tailB L h p = true → p ∈ T ∨ hasI S p = true
theorem hasI_with {S : List Nat} {x b : Int} (hb : 0 ≤ b ∧ b ≤ 65535) : hasI (Bit.orW S (Bit.ofW [b])) x = true ↔ hasI S x = true ∨ x = b := by
  unfold hasI
  rw [Bool.and_eq_true, Bool.and_eq_true, decide_eq_true_eq, Bit.has_or, Bool.or_eq_true, Bit.has_of]
  simp only [List.mem_singleton]
  constructor
  · rintro ⟨h0, h1 | h1⟩
    · exact .inl ⟨h0, h1⟩
    · exact .inr (by omega)
  · rintro (⟨h0, h1⟩ | rfl)
    · exact ⟨h0, .inl h1⟩
    · exact ⟨hb.1, .inr (by omega)⟩
section
variable {L : List (List InsD)} {h : Int} {S : List Nat} {T : List Int}
theorem BoAt.start (hl : L.length ≤ 1000) (hh : headB L h = true) (hT : ∀ p, p ∈ T ↔ tailB L h p = true) : BoAt L h (Bit.orW [] (Bit.ofW [h])) T := by
  have hr := head_range hh
  have hs : ∀ x, hasI (Bit.orW [] (Bit.ofW [h])) x = true ↔ x = h := fun x => by
    rw [hasI_with (by omega)]
    constructor
    · rintro (h1 | h1)
      · unfold hasI at h1; simp [Bit.has] at h1
      · exact h1
    · exact .inr
  refine ⟨good_or good_nil (good_of _), (hs h).2 rfl, fun x hx => by rw [(hs x).1 hx]; exact hr, fun x hx => ?_, fun x hx => ?_, fun x hx hne => absurd ((hs x).1 hx) hne, fun p hp => .inl ((hT p).2 hp)⟩
  · have := order_range (tail_order ((hT x).1 hx)); omega
  · rcases hx with hx | hx
    · exact .inr ⟨x, (hT x).1 hx, .here _⟩
    · exact .inl ((hs x).1 hx)
theorem BoAt.skip {b : Int} (hI : BoAt L h S (T ++ [b])) (hb : hasI S b = true) : BoAt L h S T := by
  have key : ∀ y, y ∈ T ++ [b] ∨ hasI S y = true → y ∈ T ∨ hasI S y = true := fun y hy => by
    rcases hy with hy | hy
    · rcases List.mem_append.1 hy with hy | hy
      · exact .inl hy
      · rw [List.mem_singleton] at hy; rw [hy]; exact .inr hb
    · exact .inr hy
  refine ⟨hI.good, hI.hd, hI.rg, fun x hx => hI.trg x (by simp [hx]), fun x hx => hI.sound x (hx.imp (fun h => by simp [h]) id), fun x hx hne y hy => key y (hI.closed x hx hne y hy), fun p hp => key p (hI.tl p hp)⟩
theorem BoAt.take {b : Int} (hI : BoAt L h S (T ++ [b])) (hl : L.length ≤ 1000) (hb : hasI S b = false) : BoAt L h (Bit.orW S (Bit.ofW [b])) (T ++ predS L b) := by
  have hr := hI.trg b (by simp)
  have hs : ∀ x, hasI (Bit.orW S (Bit.ofW [b])) x = true ↔ hasI S x = true ∨ x = b := fun x => hasI_with (by omega)
  have hne : b ≠ h := fun e => by rw [e, hI.hd] at hb; cases hb
  have key : ∀ y, y ∈ T ++ [b] ∨ hasI S y = true → y ∈ T ++ predS L b ∨ hasI (Bit.orW S (Bit.ofW [b])) y = true := fun y hy => by
    rcases hy with hy | hy
    · rcases List.mem_append.1 hy with hy | hy
      · exact .inl (List.mem_append.2 (.inl hy))
      · rw [List.mem_singleton] at hy; exact .inr ((hs y).2 (.inr hy))
    · exact .inr ((hs y).2 (.inl hy))
  have hbs := hI.sound b (.inl (by simp))
  refine ⟨good_or hI.good (good_of _), (hs h).2 (.inl hI.hd), fun x hx => ?_, fun x hx => ?_, fun x hx => ?_, fun x hx hxh y hy => ?_, fun p hp => key p (hI.tl p hp)⟩
  · rcases (hs x).1 hx with hx | rfl
    · exact hI.rg x hx
    · exact hr
  · rcases List.mem_append.1 hx with hx | hx
    · exact hI.trg x (by simp [hx])
    · exact (mem_predS.1 hx).1
  · have hx2 : (x ∈ T ++ [b] ∨ hasI S x = true) ∨ x ∈ predS L b := by
      rcases hx with hx | hx
      · rcases List.mem_append.1 hx with hx | hx
        · exact .inl (.inl (by simp [hx]))
        · exact .inr hx
      · rcases (hs x).1 hx with hx | hx
        · exact .inl (.inr hx)
        · exact .inl (.inl (by simp [hx]))
    rcases hx2 with hx | hx
    · exact hI.sound x hx
    · rcases hbs with e | ⟨p, hp, hw⟩
      · exact absurd e hne
      · exact .inr ⟨p, hp, way_cons (succX_mem.2 ⟨(mem_predS.1 hx).2, hne⟩) hw⟩
  · rcases (hs x).1 hx with hx | rfl
    · exact key y (hI.closed x hx hxh y hy)
    · exact .inl (List.mem_append.2 (.inr (mem_predS.2 ⟨succ_from hy, hy⟩)))
theorem BoAt.done (hI : BoAt L h S []) (hh : headB L h = true) {b : Nat} (hb : b < L.length) : Bit.has S b = bodyB L h b := by
  have e0 : hasI S b = Bit.has S b := by unfold hasI; simp
  rw [← e0, Bool.eq_iff_iff, bodyB_iff (by omega)]
  constructor
  · intro hx
    refine ⟨hh, ?_⟩
    by_cases e : (b : Int) = h
    · exact .inl e
    · rcases hI.sound b (.inr hx) with h1 | ⟨p, hp, hw⟩
      · exact absurd h1 e
      · exact .inr ⟨p, hp, e, hw⟩
  · rintro ⟨-, e | ⟨p, hp, hne, hw⟩⟩
    · rw [e]; exact hI.hd
    · have hp2 : hasI S p = true := (hI.tl p hp).resolve_left (by simp)
      have key : ∀ z, Way (succX L h) b z → hasI S z = true → hasI S b = true := fun z hz => by
        induction hz with
        | here => exact id
        | @on y z _ hz ih =>
          intro hh2
          obtain ⟨z1, z2⟩ := succX_mem.1 hz
          exact ih ((hI.closed z hh2 z2 y z1).resolve_left (by simp))
      exact key p hw hp2
/-- How many numbers a set has, below n. -/
def cntS (n : Nat) (S : List Nat) : Nat := ((List.range n).filter fun m => Bit.has S m).length
theorem cntS_le (n : Nat) (S : List Nat) : cntS n S ≤ n := Nat.le_trans (List.length_filter_le _ _) (by simp)
theorem cntS_with {n : Nat} {S : List Nat} {b : Nat} (hbn : b < n) (hb : b ≤ 65535) (hs : Bit.has S b = false) : cntS n (Bit.orW S (Bit.ofW [(b : Int)])) = cntS n S + 1 := by
  have hh : ∀ m, Bit.has (Bit.orW S (Bit.ofW [(b : Int)])) m = (Bit.has S m || decide (m = b)) := fun m => by
    rw [Bit.has_or]
    congr 1
    rw [Bool.eq_iff_iff, Bit.has_of, decide_eq_true_eq]
    simp
    omega
  unfold cntS
  have hf : ((List.range n).filter fun m => Bit.has (Bit.orW S (Bit.ofW [(b : Int)])) m) = (List.range n).filter fun m => (Bit.has S m || decide (m = b)) := List.filter_congr fun m _ => hh m
  rw [hf]
  clear hf hh
  induction n with
  | zero => omega
  | succ n ih =>
    rw [List.range_succ, List.filter_append, List.filter_append, List.length_append, List.length_append]
    by_cases e : b = n
    · subst e
      have h1 : ((List.range b).filter fun m => (Bit.has S m || decide (m = b))) = (List.range b).filter fun m => Bit.has S m := List.filter_congr fun m hm => by
        have := List.mem_range.1 hm
        simp [show m ≠ b by omega]
      rw [h1]
      simp [hs]
    · rw [ih (by omega)]
      have : ([n].filter fun m => (Bit.has S m || decide (m = b))) = [n].filter fun m => Bit.has S m := List.filter_congr fun m hm => by
        rw [List.mem_singleton] at hm
        simp [hm, show n ≠ b by omega]
      rw [this]
      omega
end
/-- The numbers of a body's set. -/
theorem body_list {L : List (List InsD)} {h : Int} {S : List Nat} (hr : ∀ x, hasI S x = true → 0 ≤ x ∧ x < L.length) (hs : ∀ b : Nat, b < L.length → Bit.has S b = bodyB L h b) : listI S = bodyS L h := by
  refine rising_ext (listI_rising _) ((range_rising _).filter _) fun x => ?_
  unfold bodyS bodyP
  rw [mem_range_filter, mem_listI]
  constructor
  · rintro ⟨h0, h1⟩
    have hx : hasI S x = true := by unfold hasI; simp [h0, h1]
    have := hr x hx
    refine ⟨this, ?_⟩
    have h2 := hs x.toNat (by omega)
    rw [Int.toNat_of_nonneg h0] at h2
    rw [← h2]; exact h1
  · rintro ⟨hx, h1⟩
    refine ⟨hx.1, ?_⟩
    have h2 := hs x.toNat (by omega)
    rw [Int.toNat_of_nonneg hx.1] at h2
    rw [h2]; exact h1
end Go.Proofs.Ytcihobmjohpnkaa
