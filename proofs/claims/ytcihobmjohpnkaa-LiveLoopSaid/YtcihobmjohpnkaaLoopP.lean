/- A ring of blocks: what is wanted around it, in plain Lean; and blocks that a law makes. -/
import Derived.Test.YtcihobmjohpnkaaLvWy
namespace Go.Proofs.Ytcihobmjohpnkaa
open Go.RowKit Go.Sort

/-- Block i of the ring: block 'at' reads 5, block 0 goes out, too. -/
def ringA (at' i : Nat) : List InsD := if i = at' then [⟨5, 0, 5, 5, 0, ⟨#[]⟩, [], 0, 0⟩] else []
def ringE (n i : Nat) : InsD := if i = 0 then ⟨7, 0, 1, 0, 0, ⟨#[]⟩, [], 1, n⟩ else ⟨8, 0, 0, 0, 0, ⟨#[]⟩, [], (((i + 1) % n : Nat) : Int), 0⟩
def ringB (n at' i : Nat) : List InsD := ringA at' i ++ [ringE n i]
def ringP (n at' k : Nat) : List (List InsD) := (List.range k).map (ringB n at')
def ringL (n at' : Nat) : List (List InsD) := ringP n at' n ++ [[⟨9, 0, 2, 0, 0, ⟨#[]⟩, [], 0, 0⟩]]
theorem ringP_succ (n at' k : Nat) : ringP n at' (k + 1) = ringP n at' k ++ [ringB n at' k] := by simp [ringP, List.range_succ]
theorem ringP_length (n at' k : Nat) : (ringP n at' k).length = k := by simp [ringP]
theorem ring_length (n at' : Nat) : (ringL n at').length = n + 1 := by simp [ringL, ringP_length]
theorem ring_get {n at' i : Nat} (h : i < n) : (ringL n at').getD i [] = ringB n at' i := by
  unfold ringL
  rw [List.getD_eq_getElem?_getD, List.getElem?_append_left (by rw [ringP_length]; exact h)]
  simp [ringP, h]
theorem ring_last (n at' : Nat) : (ringL n at').getD n [] = [⟨9, 0, 2, 0, 0, ⟨#[]⟩, [], 0, 0⟩] := by
  unfold ringL
  rw [List.getD_eq_getElem?_getD, List.getElem?_append_right (by rw [ringP_length]; omega), ringP_length]
  simp
theorem ringE_args (n i : Nat) : (ringE n i).args = [] := by unfold ringE; split <;> rfl
theorem ringB_args (n at' i : Nat) : ∀ x ∈ ringB n at' i, x.args = [] := by
  intro x hx
  simp only [ringB, ringA, List.mem_append, List.mem_singleton] at hx
  rcases hx with hx | rfl
  · split at hx
    · rw [List.mem_singleton] at hx; rw [hx]
    · simp at hx
  · exact ringE_args n i
theorem ringA_length (at' i : Nat) : (ringA at' i).length ≤ 1 := by unfold ringA; split <;> simp
theorem ring_small (n at' : Nat) : ∀ l ∈ ringL n at', l.length ≤ 2 ∧ ∀ i ∈ l, i.args = [] := by
  intro l hl
  simp only [ringL, ringP, List.mem_append, List.mem_map, List.mem_singleton] at hl
  rcases hl with ⟨i, -, rfl⟩ | rfl
  · refine ⟨?_, ringB_args n at' i⟩
    have := ringA_length at' i
    simp [ringB]; omega
  · simp
/-- Where a block goes on. -/
theorem ring_succ {n at' i : Nat} (h2 : 2 ≤ n) (h : i < n) (x : Int) : x ∈ succS (ringL n at') i ↔ x = (((i + 1) % n : Nat) : Int) ∨ (i = 0 ∧ x = n) := by
  have hm : (i + 1) % n < n := Nat.mod_lt _ (by omega)
  unfold succS succN
  rw [if_pos (by omega), Int.toNat_natCast, ring_get h, ring_length]
  have e : (ringB n at' i).getLast? = some (ringE n i) := by unfold ringB; simp
  rw [e]
  dsimp only
  unfold ringE rawS
  obtain ⟨q, hq⟩ : ∃ q, (i + 1) % n = q := ⟨_, rfl⟩
  rw [hq] at hm ⊢
  by_cases h0 : i = 0
  · subst h0
    have h1 : (0 + 1) % n = 1 := Nat.mod_eq_of_lt (by omega)
    obtain rfl : q = 1 := by omega
    have hne : (1 : Int) ≠ (n : Int) := by omega
    simp [hne, inR]
    omega
  · simp [h0, inR]
    omega
theorem ring_succ_last {n at' : Nat} : succS (ringL n at') n = [] := by
  unfold succS succN
  rw [if_pos (by omega), Int.toNat_natCast, ring_last]
  rfl
/-- What the blocks read and write by themselves. -/
theorem ring_gen {n at' i : Nat} (m : Nat) : Bit.has (genW (ringB n at' i)) m = true ↔ (i = at' ∧ m = 5) ∨ (i = 0 ∧ m = 1) := by
  have h1 : Bit.has (backW [] (ringE n i)) m = true ↔ (i = 0 ∧ m = 1) := by
    rw [has_back, has_nil]
    by_cases h0 : i = 0
    · have : usesS (ringE n i) = [1] := by unfold ringE; rw [if_pos h0]; rfl
      rw [this]; simp [h0]; omega
    · have : usesS (ringE n i) = [] := by unfold ringE; rw [if_neg h0]; rfl
      rw [this]; simp [h0]
  have h2 : genW (ringB n at' i) = (ringA at' i).reverse.foldl backW (backW [] (ringE n i)) := by
    unfold ringB genW
    rw [List.reverse_append, List.reverse_singleton, List.foldl_append, List.foldl_cons, List.foldl_nil]
  rw [h2]
  by_cases h : i = at'
  · have e : ringA at' i = [⟨5, 0, 5, 5, 0, ⟨#[]⟩, [], 0, 0⟩] := by unfold ringA; rw [if_pos h]
    have e1 : usesS ⟨5, 0, 5, 5, 0, ⟨#[]⟩, [], 0, 0⟩ = [5, 5] := rfl
    have e2 : defS ⟨5, 0, 5, 5, 0, ⟨#[]⟩, [], 0, 0⟩ = -1 := rfl
    rw [e, List.reverse_singleton, List.foldl_cons, List.foldl_nil, has_back, h1, e1, e2]
    simp [h]
    omega
  · have e : ringA at' i = [] := by unfold ringA; rw [if_neg h]
    rw [e, List.reverse_nil, List.foldl_nil, h1]
    simp [h]
theorem ring_kill {n at' i : Nat} (m : Nat) : Bit.has (killW (ringB n at' i)) m = false := by
  have hd : ∀ x ∈ ringB n at' i, defS x = -1 := by
    intro x hx
    simp only [ringB, ringA, ringE, List.mem_append, List.mem_singleton] at hx
    rcases hx with hx | hx
    · split at hx
      · rw [List.mem_singleton] at hx; rw [hx]; rfl
      · simp at hx
    · rw [hx]; split <;> rfl
  rw [← Bool.not_eq_true]
  unfold killW
  rw [Bit.has_of]
  rintro ⟨h, -⟩
  obtain ⟨x, hx, he⟩ := List.mem_map.1 h
  rw [hd x (List.mem_reverse.1 hx)] at he
  omega
theorem last_gen (m : Nat) : Bit.has (genW [⟨9, 0, 2, 0, 0, ⟨#[]⟩, [], 0, 0⟩]) m = true ↔ m = 2 := by
  unfold genW
  simp only [List.reverse_cons, List.reverse_nil, List.nil_append, List.foldl_cons, List.foldl_nil]
  simp only [has_back, has_nil, usesS, defS]
  simp
  omega

/-- What is wanted around the ring. -/
theorem ring_live {n at' : Nat} (h2 : 2 ≤ n) (hat : at' < n) {I O : List (List Nat)} (h : IsLive (ringL n at') I O) :
    (∀ b, b < n → listI (I.getD b []) = [1, 2, 5]) ∧ listI (I.getD n []) = [2] := by
  have hl := ring_length n at'
  -- no more than these
  have hup := h.least ((List.range (n + 1)).map fun b => if b < n then Bit.ofW [1, 2, 5] else Bit.ofW [2]) (fun b m hb hm => by
    rw [hl] at hb
    rw [has_in, has_out] at hm
    rw [range_getD, if_pos hb]
    by_cases hbn : b < n
    · rw [if_pos hbn, Bit.has_of]
      rw [ring_get hbn, ring_gen] at hm
      rcases hm with hm | ⟨⟨k, hk, hm⟩, -⟩
      · simp; omega
      · rw [ring_succ h2 hbn] at hk
        have hm1 : (b + 1) % n < n := Nat.mod_lt _ (by omega)
        rcases hk with rfl | ⟨-, rfl⟩
        · rw [Int.toNat_natCast, range_getD, if_pos (by omega), if_pos hm1, Bit.has_of] at hm
          exact hm
        · rw [Int.toNat_natCast, range_getD, if_pos (by omega), if_neg (by omega), Bit.has_of] at hm
          simp at hm ⊢; omega
    · obtain rfl : b = n := by omega
      rw [if_neg (by omega), Bit.has_of]
      rw [ring_last, last_gen] at hm
      rcases hm with rfl | ⟨⟨k, hk, hm⟩, -⟩
      · simp
      · rw [ring_succ_last] at hk; simp at hk)
  -- no less
  have hn : Bit.has (I.getD n []) 2 = true := by
    rw [h.eqI n (by omega), has_in, ring_last, last_gen]; exact .inl rfl
  have hg : ∀ b m, b < n → ((b = at' ∧ m = 5) ∨ (b = 0 ∧ m = 1)) → Bit.has (I.getD b []) m = true := fun b m hb hh => by
    rw [h.eqI b (by omega), has_in, ring_get hb, ring_gen]; exact .inl hh
  have hs : ∀ b m (k : Nat), b < n → ((k : Int) ∈ succS (ringL n at') b) → Bit.has (I.getD k []) m = true → Bit.has (I.getD b []) m = true := fun b m k hb hk hh => by
    rw [h.eqI b (by omega), has_in, ring_get hb]
    exact .inr ⟨by rw [has_out]; exact ⟨_, hk, by rw [Int.toNat_natCast]; exact hh⟩, ring_kill m⟩
  have hstep : ∀ b m, b + 1 < n → Bit.has (I.getD (b + 1) []) m = true → Bit.has (I.getD b []) m = true := fun b m hb hh =>
    hs b m (b + 1) (by omega) (by rw [ring_succ h2 (by omega), Nat.mod_eq_of_lt hb]; exact .inl rfl) hh
  have hwrap : ∀ m, Bit.has (I.getD 0 []) m = true → Bit.has (I.getD (n - 1) []) m = true := fun m hh =>
    hs (n - 1) m 0 (by omega) (by rw [ring_succ h2 (by omega), show n - 1 + 1 = n by omega, Nat.mod_self]; exact .inl rfl) hh
  have hdown : ∀ m d c, c < n → d ≤ c → Bit.has (I.getD c []) m = true → Bit.has (I.getD (c - d) []) m = true := by
    intro m d
    induction d with
    | zero => intro c _ _ hh; exact hh
    | succ d ih =>
      intro c hc hd hh
      refine hstep (c - (d + 1)) m (by omega) ?_
      rw [show c - (d + 1) + 1 = c - d by omega]
      exact ih c hc (by omega) hh
  have hall : ∀ m c, c < n → Bit.has (I.getD c []) m = true → ∀ b, b < n → Bit.has (I.getD b []) m = true := fun m c hc hh b hb => by
    have h0 := hdown m c c hc (Nat.le_refl _) hh
    rw [Nat.sub_self] at h0
    have := hdown m (n - 1 - b) (n - 1) (by omega) (by omega) (hwrap m h0)
    rwa [show n - 1 - (n - 1 - b) = b by omega] at this
  have h5 := hall 5 at' hat (hg at' 5 hat (.inl ⟨rfl, rfl⟩))
  have h1 := hall 1 0 (by omega) (hg 0 1 (by omega) (.inr ⟨rfl, rfl⟩))
  have h22 := hall 2 0 (by omega) (hs 0 2 n (by omega) (by rw [ring_succ h2 (by omega)]; exact .inr ⟨rfl, rfl⟩) hn)
  refine ⟨fun b hb => rising_ext (listI_rising _) (by decide) fun x => ?_, rising_ext (listI_rising _) (by decide) fun x => ?_⟩
  · rw [mem_listI]
    constructor
    · rintro ⟨h0, hh⟩
      have := hup b _ hh
      rw [range_getD, if_pos (by omega), if_pos hb, Bit.has_of, Int.toNat_of_nonneg h0] at this
      exact this.1
    · intro hx
      simp only [List.mem_cons, List.not_mem_nil, or_false] at hx
      rcases hx with rfl | rfl | rfl
      · exact ⟨by decide, h1 b hb⟩
      · exact ⟨by decide, h22 b hb⟩
      · exact ⟨by decide, h5 b hb⟩
  · rw [mem_listI]
    constructor
    · rintro ⟨h0, hh⟩
      have := hup n _ hh
      rw [range_getD, if_pos (by omega), if_neg (by omega), Bit.has_of, Int.toNat_of_nonneg h0] at this
      exact this.1
    · intro hx
      simp only [List.mem_cons, List.not_mem_nil, or_false] at hx
      subst hx
      exact ⟨by decide, hn⟩

/-- Blocks that are being made: rows of instructions, each apart from the row that names them. -/
structure BlkOwn (B : Nat) (Ls : List (List InsD)) (vo : Value) (vals : List Value) (W : World) : Prop where
  own : W.ownsRow B 40 1 vo vals.length vals
  len : vals.length = Ls.length
  el : ∀ j (h : j < vals.length), IsInsL (pFl B vo) W vals[j] (Ls.getD j [])
theorem BlkOwn.nil (B : Nat) (W : World) : BlkOwn B [] (.slice none 0 0) [] W := ⟨World.ownsRow_nil _ _ _ _, rfl, fun j hj => by simp at hj⟩
theorem BlkOwn.snoc {B : Nat} {Ls : List (List InsD)} {vo v' u : Value} {vals : List Value} {W W1 w' : World} {l : List InsD} (h : BlkOwn B Ls vo vals W) (hB : B ≤ W.heap.size) (hb : Below W.heap.size W W1)
    (hr : IsInsL (fun b => W.heap.size ≤ b ∧ b < W1.heap.size) W1 u l)
    (ho : w'.ownsRow B 40 1 v' (vals ++ [u]).length (vals ++ [u])) (hgr : W1.grownBy w' vo.ownBlock) (hv : v'.ownBlock = vo.ownBlock ∨ v'.ownBlock = some W1.heap.size) :
    BlkOwn B (Ls ++ [l]) v' (vals ++ [u]) w' := by
  have hlen := h.len
  have hv2 : ∀ i, v'.ownBlock = some i → vo.ownBlock = some i ∨ W1.heap.size ≤ i := fun i hi => by
    rcases hv with e | e
    · exact .inl (e ▸ hi)
    · rw [e] at hi; simp at hi; right; omega
  have hsz := hb.size
  refine ⟨ho, by simp [hlen], fun j hj => ?_⟩
  by_cases hjl : j < vals.length
  · have e2 : (Ls ++ [l]).getD j [] = Ls.getD j [] := by rw [List.getD_eq_getElem?_getD, List.getElem?_append_left (by omega), List.getD_eq_getElem?_getD]
    rw [List.getElem_append_left hjl, e2]
    refine (h.el j hjl).keep (fun i hi hlt => ⟨⟨hi.1, fun e => ?_⟩, (hgr.block i (by omega) hi.2).trans (hb.block i hlt)⟩)
    rcases hv2 i e.symm with e2 | e2
    · exact hi.2 e2.symm
    · omega
  · have hje : j = vals.length := by simp at hj; omega
    subst hje
    have e2 : (Ls ++ [l]).getD vals.length [] = l := by rw [hlen]; simp [List.getD]
    rw [List.getElem_append_right (Nat.le_refl _), e2]
    simp only [Nat.sub_self, List.getElem_cons_zero]
    refine hr.keep (fun i hi hlt => ⟨⟨by omega, fun e => ?_⟩, hgr.block i hlt (fun e => ?_)⟩)
    · rcases hv2 i e.symm with e2 | e2
      · have := (h.own.lt i e2).2; omega
      · omega
    · have := (h.own.lt i e.symm).2; omega
theorem BlkOwn.below {B : Nat} {Ls : List (List InsD)} {vo : Value} {vals : List Value} {W W1 : World} (h : BlkOwn B Ls vo vals W) (hb : Below W.heap.size W W1) : BlkOwn B Ls vo vals W1 :=
  ⟨owns_below h.own hb, h.len, fun j hj => (h.el j hj).keep (Keep.below hb)⟩
theorem BlkOwn.blocks {B : Nat} {Ls : List (List InsD)} {vo : Value} {vals : List Value} {W : World} (h : BlkOwn B Ls vo vals W) (hs : Ls.length ≤ 1000) : IsBlocks (B ≤ ·) W vo Ls := by
  have hlf := h.len
  rcases owns_nilcase h.own with ⟨rfl, h0, _⟩ | ⟨g, cap, rfl⟩
  · refine ⟨none, 0, by rw [← hlf, h0], ⟨by omega, by omega⟩, .inl (List.length_eq_zero_iff.1 (by omega))⟩
  · obtain ⟨_, hg, _, hc, _⟩ := owns_block h.own
    refine ⟨_, cap, by rw [hlf], ⟨by omega, by omega⟩, .inr ⟨g, 0, rfl, hg, fun j hj => ?_⟩⟩
    have hj' : j < vals.length := by omega
    have hc := h.own.cellAt j (by omega)
    refine ⟨vals[j], ?_, ?_⟩
    · rw [Nat.zero_add, Nat.mul_one, hc]; simp [hj']
    · have e : Ls[j] = Ls.getD j [] := by simp [List.getD, hj]
      rw [e]
      exact (h.el j hj').keep (Keep.refl W fun b hb _ => hb.1)
end Go.Proofs.Ytcihobmjohpnkaa
