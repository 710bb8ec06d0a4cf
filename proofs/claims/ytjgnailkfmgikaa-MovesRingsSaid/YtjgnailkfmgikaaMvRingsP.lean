/- Rings side by side and a chain behind them, in plain Lean. -/
import Derived.Test.YtjgnailkfmgikaaMvL
namespace Go.Proofs.Ytjgnailkfmgikaa.Mv

/-- A ring of n places from one on. -/
def ringS (at_ n : Nat) : List (Int × Int) := (List.range n).map fun k => (((at_ + k : Nat) : Int), ((at_ + (k + 1) % n : Nat) : Int))
/-- The first k moves of a ring. -/
def ringK (at_ n k : Nat) : List (Int × Int) := (List.range k).map fun k => (((at_ + k : Nat) : Int), ((at_ + (k + 1) % n : Nat) : Int))
def chainS (at_ n : Nat) : List (Int × Int) := (List.range n).map fun k => (((at_ + k : Nat) : Int), ((at_ + k + 1 : Nat) : Int))
def sumS (ns : List Nat) : Nat := ns.foldl (· + ·) 0
def moreS (ns : List Nat) : Nat := ns.foldl (fun m n => if 1 < n then m + n + 1 else m) 0
theorem sumS_snoc (ns : List Nat) (n : Nat) : sumS (ns ++ [n]) = sumS ns + n := by simp [sumS, List.foldl_append]
theorem moreS_snoc (ns : List Nat) (n : Nat) : moreS (ns ++ [n]) = if 1 < n then moreS ns + n + 1 else moreS ns := by simp [moreS, List.foldl_append]
/-- All rings. -/
def ringsS (ns : List Nat) : List (Int × Int) := (ns.foldl (fun (p : List (Int × Int) × Nat) n => (p.1 ++ ringS p.2 n, p.2 + n)) ([], 0)).1
theorem ringsS_snd (ns : List Nat) : (ns.foldl (fun (p : List (Int × Int) × Nat) n => (p.1 ++ ringS p.2 n, p.2 + n)) ([], 0)).2 = sumS ns := by
  induction ns using rev_ind with
  | h0 => rfl
  | hs ns n ih => rw [List.foldl_append, sumS_snoc]; simp [ih]
theorem ringsS_snoc (ns : List Nat) (n : Nat) : ringsS (ns ++ [n]) = ringsS ns ++ ringS (sumS ns) n := by
  unfold ringsS
  rw [List.foldl_append]
  simp [ringsS_snd]
theorem ringK_succ (a n k : Nat) : ringK a n (k + 1) = ringK a n k ++ [(((a + k : Nat) : Int), ((a + (k + 1) % n : Nat) : Int))] := by simp [ringK, List.range_succ]
theorem ringK_all (a n : Nat) : ringK a n n = ringS a n := rfl
theorem chainS_succ (a k : Nat) : chainS a (k + 1) = chainS a k ++ [(((a + k : Nat) : Int), ((a + k + 1 : Nat) : Int))] := by simp [chainS, List.range_succ]

theorem ringS_dst (a n : Nat) : (ringS a n).map (·.1) = (List.range n).map fun k => ((a + k : Nat) : Int) := by simp [ringS]
theorem chainS_dst (a n : Nat) : (chainS a n).map (·.1) = (List.range n).map fun k => ((a + k : Nat) : Int) := by simp [chainS]
theorem range_split (a n : Nat) : (List.range (a + n)).map (fun k : Nat => (k : Int)) = (List.range a).map (fun k : Nat => (k : Int)) ++ (List.range n).map fun k => ((a + k : Nat) : Int) := by
  rw [List.range_add, List.map_append, List.map_map]; rfl
theorem ringsS_dst (ns : List Nat) : (ringsS ns).map (·.1) = (List.range (sumS ns)).map fun k : Nat => (k : Int) := by
  induction ns using rev_ind with
  | h0 => rfl
  | hs ns n ih => rw [ringsS_snoc, List.map_append, ih, ringS_dst, sumS_snoc, range_split]
/-- The whole. -/
def rcS (ns : List Nat) (c : Nat) : List (Int × Int) := ringsS ns ++ chainS (sumS ns) c
theorem rcS_dst (ns : List Nat) (c : Nat) : (rcS ns c).map (·.1) = (List.range (sumS ns + c)).map fun k : Nat => (k : Int) := by
  unfold rcS
  rw [List.map_append, ringsS_dst, chainS_dst, range_split]
theorem rcS_once (ns : List Nat) (c : Nat) : Once (rcS ns c) := by
  unfold Once
  rw [rcS_dst]
  have : (List.range (sumS ns + c)).Nodup := List.nodup_range
  refine List.pairwise_map.2 (this.imp fun {a b} h e => h ?_)
  omega
theorem rcS_length (ns : List Nat) (c : Nat) : (rcS ns c).length = sumS ns + c := by
  have := congrArg List.length (rcS_dst ns c)
  simpa using this

/-- What a ring's moves are. -/
theorem ringS_mem {a n : Nat} {m : Int × Int} : m ∈ ringS a n ↔ ∃ k, k < n ∧ m = (((a + k : Nat) : Int), ((a + (k + 1) % n : Nat) : Int)) := by
  unfold ringS; simp [eq_comm]
theorem chainS_mem {a n : Nat} {m : Int × Int} : m ∈ chainS a n ↔ ∃ k, k < n ∧ m = (((a + k : Nat) : Int), ((a + k + 1 : Nat) : Int)) := by
  unfold chainS; simp [eq_comm]
theorem ringsS_mem {ns : List Nat} {m : Int × Int} : m ∈ ringsS ns → ∃ a n k, k < n ∧ a + n ≤ sumS ns ∧ m = (((a + k : Nat) : Int), ((a + (k + 1) % n : Nat) : Int)) ∧ ∀ m', m' ∈ ringS a n → m' ∈ ringsS ns := by
  induction ns using rev_ind with
  | h0 => intro h; simp [ringsS] at h
  | hs ns n ih =>
    rw [ringsS_snoc, sumS_snoc]
    intro h
    rcases List.mem_append.1 h with h | h
    · obtain ⟨a, n', k, h1, h2, h3, h4⟩ := ih h
      exact ⟨a, n', k, h1, by omega, h3, fun m' hm => List.mem_append.2 (.inl (h4 m' hm))⟩
    · obtain ⟨k, hk, rfl⟩ := ringS_mem.1 h
      exact ⟨sumS ns, n, k, hk, by omega, rfl, fun m' hm => List.mem_append.2 (.inr hm)⟩

theorem ordS_append (l l' : List (Int × Int)) : ordS (l ++ l') = ordS l ++ ordS l' := by simp [ordS, unl]
theorem ringS_still {a n k : Nat} (h : k < n) : ((a + k : Nat) : Int) ≠ ((a + (k + 1) % n : Nat) : Int) ↔ 1 < n := by
  by_cases e : k + 1 = n
  · rw [e, Nat.mod_self]; omega
  · rw [Nat.mod_eq_of_lt (by omega)]; omega
theorem ringS_ord (a n : Nat) : ordS (ringS a n) = if 1 < n then (List.range n).map (fun k => ((a + k : Nat) : Int)) else [] := by
  split
  · rename_i h
    have : unl (ringS a n) = ringS a n := by
      unfold unl
      rw [List.filter_eq_self]
      intro m hm
      obtain ⟨k, hk, rfl⟩ := ringS_mem.1 hm
      have := (ringS_still (a := a) hk).2 h
      simpa using this
    unfold ordS; rw [this, ringS_dst]
  · rename_i h
    unfold ordS unl
    rw [List.map_eq_nil_iff, List.filter_eq_nil_iff]
    intro m hm
    obtain ⟨k, hk, rfl⟩ := ringS_mem.1 hm
    have := mt (ringS_still (a := a) hk).1 h
    simpa using this
theorem chainS_ord (a n : Nat) : ordS (chainS a n) = (List.range n).map fun k => ((a + k : Nat) : Int) := by
  have : unl (chainS a n) = chainS a n := by
    unfold unl
    rw [List.filter_eq_self]
    intro m hm
    obtain ⟨k, hk, rfl⟩ := chainS_mem.1 hm
    simp; omega
  unfold ordS; rw [this, chainS_dst]

/-- How many rings there are of more than one. -/
def cntS (ns : List Nat) : Nat := ns.foldl (fun m n => if 1 < n then m + 1 else m) 0
theorem cntS_snoc (ns : List Nat) (n : Nat) : cntS (ns ++ [n]) = if 1 < n then cntS ns + 1 else cntS ns := by simp [cntS, List.foldl_append]
theorem ringsS_ord_len (ns : List Nat) : (ordS (ringsS ns)).length + cntS ns = moreS ns := by
  induction ns using rev_ind with
  | h0 => rfl
  | hs ns n ih =>
    rw [ringsS_snoc, ordS_append, cntS_snoc, moreS_snoc, List.length_append, ringS_ord]
    split <;> simp <;> omega

section
variable {ns : List Nat} {c : Nat} {G : PF} {out : List (Int × Int)}
theorem rc_from {x y : Int} (hd : FDone (rcS ns c) G out) (h : G x = some y) : (x, y) ∈ rcS ns c ∧ x ≠ y := by
  have : fromS (rcS ns c) x = some y := by
    rcases hd.sub x with h1 | h1
    · rw [h1] at h; simp at h
    · rw [← h1]; exact h
  exact (fromS_iff (rcS_once ns c)).1 this
theorem rc_chain (hd : FDone (rcS ns c) G out) (i : Nat) : G ((sumS ns + i : Nat) : Int) = none := by
  induction i with
  | zero =>
    cases e : G ((sumS ns + 0 : Nat) : Int) with
    | none => rfl
    | some y =>
      obtain ⟨⟨z, hz⟩, _⟩ := hd.rdrs _ (by rw [e]; simp)
      rcases List.mem_append.1 (rc_from hd hz).1 with h | h
      · obtain ⟨a, n, k, hk, ha, e, _⟩ := ringsS_mem h
        simp only [Prod.mk.injEq] at e
        have := Nat.mod_lt (k + 1) (show 0 < n by omega)
        omega
      · obtain ⟨k, hk, e⟩ := chainS_mem.1 h
        simp only [Prod.mk.injEq] at e
        omega
  | succ i ih =>
    cases e : G ((sumS ns + (i + 1) : Nat) : Int) with
    | none => rfl
    | some y =>
      obtain ⟨⟨z, hz⟩, _⟩ := hd.rdrs _ (by rw [e]; simp)
      rcases List.mem_append.1 (rc_from hd hz).1 with h | h
      · obtain ⟨a, n, k, hk, ha, e, _⟩ := ringsS_mem h
        simp only [Prod.mk.injEq] at e
        have := Nat.mod_lt (k + 1) (show 0 < n by omega)
        omega
      · obtain ⟨k, hk, e⟩ := chainS_mem.1 h
        simp only [Prod.mk.injEq] at e
        have hk : k = i := by omega
        subst hk
        rw [e.1, ih] at hz; simp at hz
theorem rc_ring (hd : FDone (rcS ns c) G out) {a n k : Nat} (hn : 1 < n) (hk : k < n) (ha : a + n ≤ sumS ns) (hs : ∀ m, m ∈ ringS a n → m ∈ ringsS ns) : G ((a + k : Nat) : Int) = some ((a + (k + 1) % n : Nat) : Int) := by
  have hfr : ∀ {a n k : Nat}, 1 < n → k < n → (∀ m, m ∈ ringS a n → m ∈ ringsS ns) → fromS (rcS ns c) ((a + k : Nat) : Int) = some ((a + (k + 1) % n : Nat) : Int) := fun {a n k} hn hk hs =>
    (fromS_iff (rcS_once ns c)).2 ⟨List.mem_append.2 (.inl (hs _ (ringS_mem.2 ⟨k, hk, rfl⟩))), (ringS_still hk).2 hn⟩
  have hsh : Shut (fromS (rcS ns c)) fun x => ∃ a n k : Nat, 1 < n ∧ k < n ∧ a + n ≤ sumS ns ∧ x = ((a + k : Nat) : Int) ∧ ∀ m, m ∈ ringS a n → m ∈ ringsS ns := by
    rintro x ⟨a, n, k, hn, hk, ha, rfl, hs⟩
    refine ⟨by rw [hfr hn hk hs]; simp, ⟨((a + (k + n - 1) % n : Nat) : Int), ⟨a, n, (k + n - 1) % n, hn, Nat.mod_lt _ (by omega), ha, rfl, hs⟩, ?_⟩, fun z hz => ?_⟩
    · have := hfr (k := (k + n - 1) % n) hn (Nat.mod_lt _ (by omega)) hs
      rw [this]
      congr 2
      congr 1
      by_cases h0 : k = 0
      · subst h0
        have e1 : (0 + n - 1) % n = n - 1 := by rw [Nat.mod_eq_of_lt (by omega)]; omega
        rw [e1]
        have e2 : n - 1 + 1 = n := by omega
        rw [e2, Nat.mod_self]
      · have e1 : (k + n - 1) % n = k - 1 := by
          have : k + n - 1 = (k - 1) + n := by omega
          rw [this, Nat.add_mod_right, Nat.mod_eq_of_lt (by omega)]
        rw [e1]
        have e2 : k - 1 + 1 = k := by omega
        rw [e2, Nat.mod_eq_of_lt hk]
    · obtain ⟨hm, hne⟩ := (fromS_iff (rcS_once ns c)).1 hz
      rcases List.mem_append.1 hm with hm | hm
      · obtain ⟨a', n', k', hk', ha', e, hs'⟩ := ringsS_mem hm
        simp only [Prod.mk.injEq] at e
        refine ⟨a', n', k', ?_, hk', ha', e.1, hs'⟩
        rw [e.1, e.2] at hne
        exact (ringS_still hk').1 hne
      · obtain ⟨k', hk', e⟩ := chainS_mem.1 hm
        simp only [Prod.mk.injEq] at e
        omega
  have h1 := hd.gr _ hsh _ ⟨a, n, k, hn, hk, ha, rfl, hs⟩
  rcases hd.sub ((a + k : Nat) : Int) with h2 | h2
  · exact absurd h2 h1
  · rw [h2]; exact hfr hn hk hs

theorem rc_low (hd : FDone (rcS ns c) G out) {ns' : List Nat} (hsub : ∀ m, m ∈ ringsS ns' → m ∈ ringsS ns) {y z : Int} (hr : Reach G y z) (hy0 : 0 ≤ y) (hy : y < sumS ns') : 0 ≤ z ∧ z < sumS ns' := by
  induction hr with
  | refl => exact ⟨hy0, hy⟩
  | step _ h2 ih =>
    rename_i u v hh
    obtain ⟨hu0, hu⟩ := ih
    have hm : u ∈ (ringsS ns').map (·.1) := by
      rw [ringsS_dst]
      exact List.mem_map.2 ⟨u.toNat, by simp; omega, by omega⟩
    obtain ⟨m, hm, em⟩ := List.mem_map.1 hm
    obtain ⟨hin, hne⟩ := rc_from hd h2
    have heq : m.2 = v := by
      have h3 : (u, m.2) ∈ rcS ns c := by rw [← em]; exact List.mem_append.2 (.inl (hsub _ hm))
      by_cases hs : u = m.2
      · exfalso
        obtain ⟨i, hi, ei⟩ := List.mem_iff_getElem.1 h3
        obtain ⟨j, hj, ej⟩ := List.mem_iff_getElem.1 hin
        have hp := List.pairwise_map.1 (rcS_once ns c)
        rcases Nat.lt_trichotomy i j with hij | hij | hij
        · have := List.pairwise_iff_getElem.1 hp i j hi hj hij
          rw [ei, ej] at this; exact this rfl
        · subst hij; rw [ei] at ej; simp at ej; exact hne (hs.trans ej)
        · have := List.pairwise_iff_getElem.1 hp j i hj hi hij
          rw [ei, ej] at this; exact this rfl
      · have g1 := (fromS_iff (rcS_once ns c)).2 ⟨h3, hs⟩
        have g2 := (fromS_iff (rcS_once ns c)).2 ⟨hin, hne⟩
        rw [g1] at g2; simpa using g2
    obtain ⟨a, n, k, hk, ha, e2, _⟩ := ringsS_mem hm
    have := congrArg Prod.snd e2
    dsimp only at this
    have := Nat.mod_lt (k + 1) (show 0 < n by omega)
    omega

theorem rc_cnt_rings (hd : FDone (rcS ns c) G out) : ∀ (ns' rest : List Nat), ns = ns' ++ rest → Cnt G (ordS (ringsS ns')) (cntS ns') ∧ ∀ m, m ∈ ringsS ns' → m ∈ ringsS ns := by
  have hsub : ∀ (ns' rest : List Nat), ns = ns' ++ rest → ∀ m, m ∈ ringsS ns' → m ∈ ringsS ns := by
    intro ns' rest
    induction rest generalizing ns' with
    | nil => rintro rfl m hm; simpa using hm
    | cons r rest ih =>
      intro e m hm
      exact ih (ns' ++ [r]) (by rw [e]; simp) m (by rw [ringsS_snoc]; exact List.mem_append.2 (.inl hm))
  have hsum : ∀ (ns' rest : List Nat), ns = ns' ++ rest → sumS ns' ≤ sumS ns := by
    intro ns' rest
    induction rest generalizing ns' with
    | nil => rintro rfl; simp
    | cons r rest ih =>
      intro e
      have := ih (ns' ++ [r]) (by rw [e]; simp)
      rw [sumS_snoc] at this; omega
  intro ns'
  induction ns' using rev_ind with
  | h0 => intro rest e; exact ⟨.nil, fun m hm => by simp [ringsS] at hm⟩
  | hs ns' n ih =>
    intro rest e
    have e' : ns = ns' ++ (n :: rest) := by rw [e]; simp
    obtain ⟨hc, hs'⟩ := ih _ e'
    have hS := hsub _ _ e
    refine ⟨?_, hS⟩
    rw [ringsS_snoc, ordS_append, ringS_ord, cntS_snoc]
    by_cases hn : 1 < n
    · rw [if_pos hn, if_pos hn]
      have hring : ∀ m, m ∈ ringS (sumS ns') n → m ∈ ringsS ns := fun m hm => hS m (by rw [ringsS_snoc]; exact List.mem_append.2 (.inr hm))
      have hle : sumS ns' + n ≤ sumS ns := by have := hsum _ _ e; rw [sumS_snoc] at this; exact this
      have hG := fun k (hk : k < n) => rc_ring hd hn hk hle hring
      have hreach : ∀ k, k < n → Reach G ((sumS ns' : Nat) : Int) ((sumS ns' + k : Nat) : Int) := by
        intro k
        induction k with
        | zero => intro _; exact .refl _
        | succ k ihk =>
          intro hk
          have := hG k (by omega)
          rw [Nat.mod_eq_of_lt hk] at this
          exact .step (ihk (by omega)) this
      have hlow : ∀ y ∈ ordS (ringsS ns'), 0 ≤ y ∧ y < sumS ns' := fun y hy => by
        have : y ∈ (ringsS ns').map (·.1) := by
          unfold ordS unl at hy
          obtain ⟨m, hm, rfl⟩ := List.mem_map.1 hy
          exact List.mem_map.2 ⟨m, (List.mem_filter.1 hm).1, rfl⟩
        rw [ringsS_dst] at this
        obtain ⟨k, hk, rfl⟩ := List.mem_map.1 this
        simp at hk; omega
      have hpre : ∀ k, k < n → Cnt G (ordS (ringsS ns') ++ (List.range (k + 1)).map (fun k => ((sumS ns' + k : Nat) : Int))) (cntS ns' + 1) := by
        intro k
        induction k with
        | zero =>
          intro _
          have : (List.range (0 + 1)).map (fun k => ((sumS ns' + k : Nat) : Int)) = [((sumS ns' : Nat) : Int)] := by simp
          rw [this]
          refine .yes hc ⟨?_, fun y hy hGy hr => ?_⟩
          · have := hG 0 (by omega); rw [Nat.add_zero] at this; rw [this]; simp
          · have h1 := hlow y hy
            have := rc_low hd hs' hr h1.1 h1.2
            omega
        | succ k ihk =>
          intro hk
          have hh := ihk (by omega)
          rw [List.range_succ, List.map_append, ← List.append_assoc]
          refine .no hh fun ⟨_, h2⟩ => ?_
          refine h2 ((sumS ns' : Nat) : Int) (List.mem_append.2 (.inr (List.mem_map.2 ⟨0, by simp, by simp⟩))) ?_ (hreach (k + 1) hk)
          have := hG 0 (by omega); rw [Nat.add_zero] at this; rw [this]; simp
      have := hpre (n - 1) (by omega)
      have e2 : n - 1 + 1 = n := by omega
      rw [e2] at this
      exact this
    · rw [if_neg hn, if_neg hn, List.append_nil]; exact hc
theorem rc_cnt (hd : FDone (rcS ns c) G out) : Cnt G (ordS (rcS ns c)) (cntS ns) := by
  unfold rcS
  rw [ordS_append, chainS_ord]
  have h0 := (rc_cnt_rings hd ns [] (by simp)).1
  have : ∀ k, Cnt G (ordS (ringsS ns) ++ (List.range k).map (fun k => ((sumS ns + k : Nat) : Int))) (cntS ns) := by
    intro k
    induction k with
    | zero => simpa using h0
    | succ k ih =>
      rw [List.range_succ, List.map_append, ← List.append_assoc]
      exact .no ih fun ⟨h1, _⟩ => h1 (rc_chain hd k)
  exact this c
theorem rc_len : (ordS (rcS ns c)).length + cntS ns = moreS ns + c := by
  unfold rcS
  rw [ordS_append, chainS_ord, List.length_append]
  have := ringsS_ord_len ns
  simp; omega
end
end Go.Proofs.Ytjgnailkfmgikaa.Mv
