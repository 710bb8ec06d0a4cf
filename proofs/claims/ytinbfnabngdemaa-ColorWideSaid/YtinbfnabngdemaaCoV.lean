/- The graphs that the laws build, in plain Lean: which are sure, what a good answer is there. -/
import Derived.Test.YtinbfnabngdemaaCoQ
namespace Go.Proofs.Ytinbfnabngdemaa

theorem nodup_sub {α : Type} [DecidableEq α] : ∀ {l T : List α}, l.Nodup → (∀ x ∈ l, x ∈ T) → l.length ≤ T.length
  | [], _, _, _ => Nat.zero_le _
  | a :: l, T, hn, hs => by
    obtain ⟨h1, h2⟩ := List.nodup_cons.1 hn
    have ha := hs a (by simp)
    have := nodup_sub (l := l) (T := T.erase a) h2 (fun x hx => by
      have : x ≠ a := fun e => h1 (e ▸ hx)
      exact (List.mem_erase_of_ne this).2 (hs x (by simp [hx])))
    rw [List.length_erase_of_mem ha] at this
    have h0 : 0 < T.length := List.length_pos_of_mem ha
    simp only [List.length_cons]
    omega
theorem split_len (l : List Int) (p : Int → Bool) : l.length = (l.filter p).length + (l.filter fun x => !p x).length := by
  induction l with
  | nil => rfl
  | cons a l ih => simp only [List.filter_cons, List.length_cons]; cases p a <;> simp <;> omega
theorem maxK_le {f : Int → Nat} {B : Nat} {l : List Int} (h : ∀ c ∈ l, f c ≤ B) : maxK f l ≤ B := by
  induction l using co_revind with
  | h0 => exact Nat.zero_le _
  | hs l a ih =>
    rw [maxK_snoc]
    exact Nat.max_le.2 ⟨ih (fun c hc => h c (by simp [hc])), h a (by simp)⟩
theorem sumL_le_mul {f : Nat → Nat} {B : Nat} {l : List Nat} (h : ∀ m ∈ l, f m ≤ B) : sumL f l ≤ l.length * B := by
  induction l with
  | nil => simp [sumL_nil]
  | cons a l ih =>
    have h1 := ih (fun m hm => h m (by simp [hm]))
    have h2 := h a (by simp)
    rw [sumL_cons, List.length_cons, Nat.succ_mul]; omega
/-- The numbers below k. -/
def upI (k : Nat) : List Int := (List.range k).map fun (c : Nat) => (c : Int)
theorem mem_upI {k : Nat} {x : Int} : x ∈ upI k ↔ 0 ≤ x ∧ x < (k : Int) := by
  unfold upI
  rw [List.mem_map]
  constructor
  · rintro ⟨c, hc, rfl⟩; have := List.mem_range.1 hc; omega
  · rintro ⟨h0, h1⟩; exact ⟨x.toNat, List.mem_range.2 (by omega), by omega⟩
theorem upI_len (k : Nat) : (upI k).length = k := by simp [upI]
theorem upI_succ (k : Nat) : upI (k + 1) = upI k ++ [(k : Int)] := by unfold upI; rw [List.range_succ, List.map_append]; rfl
/-- Some of the numbers below k. -/
def selI (P : Nat → Bool) (k : Nat) : List Int := ((List.range k).filter P).map fun (c : Nat) => (c : Int)
theorem mem_selI {P : Nat → Bool} {k : Nat} {x : Int} : x ∈ selI P k ↔ 0 ≤ x ∧ x < (k : Int) ∧ P x.toNat = true := by
  unfold selI
  rw [List.mem_map]
  constructor
  · rintro ⟨c, hc, rfl⟩
    have := List.mem_filter.1 hc
    have h1 := List.mem_range.1 this.1
    exact ⟨by omega, by omega, by rw [Int.toNat_natCast]; exact this.2⟩
  · rintro ⟨h0, h1, h2⟩; exact ⟨x.toNat, List.mem_filter.2 ⟨List.mem_range.2 (by omega), h2⟩, by omega⟩
theorem selI_ris (P : Nat → Bool) (k : Nat) : RisP (selI P k) k := by
  refine ⟨?_, fun x hx => by have := mem_selI.1 hx; omega⟩
  unfold selI
  rw [List.pairwise_map]
  exact (List.pairwise_lt_range.filter _).imp fun h => by omega
theorem upI_eq (k : Nat) : upI k = selI (fun _ => true) k := by unfold upI selI; rw [List.filter_eq_self.2 (fun _ _ => rfl)]
theorem upI_ris (k : Nat) : RisP (upI k) k := by rw [upI_eq]; exact selI_ris _ _
theorem RisP.nodup {l : List Int} {n : Nat} (h : RisP l n) : l.Nodup := h.1.imp fun h => by omega

/-- Where a node's neighbours together can't take all its colours it is sure. -/
theorem sure_small {G : GD} (hG : OkG G) (B : Nat → Nat) (h : ∀ v m, v < G.A.length → m < G.A.length → mostS G v m ≤ B v) (hb : ∀ v, v < G.A.length → (G.A.length - 1) * B v < (alw G v).length) : sureS G = true := by
  have key : ∀ (g : Nat → Bool) v, v < G.A.length → sumG G g v < (alw G v).length := fun g v hv => by
    refine Nat.lt_of_le_of_lt ?_ (hb v hv)
    unfold sumG
    refine Nat.le_trans (sumL_le_mul (B := B v) fun m hm => h v m hv (mem_nearL.1 (List.mem_filter.1 hm).1).1) ?_
    refine Nat.mul_le_mul_right _ ?_
    have h1 : ((nearL G v).filter fun m => !g m).length ≤ ((List.range G.A.length).erase v).length := by
      refine nodup_sub ((nearL_nodup G v).filter _) fun m hm => ?_
      obtain ⟨h2, h3⟩ := mem_nearL.1 (List.mem_filter.1 hm).1
      exact (List.mem_erase_of_ne (hG.lt_of_adj h3).2.2.symm).2 (List.mem_range.2 h2)
    rw [List.length_erase_of_mem (List.mem_range.2 hv), List.length_range] at h1
    exact h1
  have hr : ∀ j, j ≤ G.A.length → Rch G (fun u => decide (u < j)) := by
    intro j
    induction j with
    | zero => intro _; have e : (fun u => decide (u < 0)) = (fun (_ : Nat) => false) := by funext u; simp
              rw [e]; exact .nil
    | succ j ih =>
      intro hj
      have h1 := Rch.step (v := j) (ih (by omega)) (by omega) (by simp) (key _ j (by omega))
      have e : (fun u => decide (u < j + 1)) = (fun u => if u = j then true else decide (u < j)) := by
        funext u
        by_cases e : u = j
        · simp [e]
        · rw [if_neg e]; congr 1; exact propext ⟨fun h => by omega, fun h => by omega⟩
      rw [e]; exact h1
  exact sure_ways hG (hr _ (Nat.le_refl _)) (fun v hv => by simpa using hv)

/-! ### Nodes of k colours that do not lap -/
def plainG (n k : Nat) (E M : List (Int × Int)) : GD := ⟨E, M, List.replicate n (upI k), (List.range k).map fun (c : Nat) => [(c : Int)]⟩
section
variable {n k : Nat} {E M : List (Int × Int)}
theorem plain_n : (plainG n k E M).A.length = n := by simp [plainG]
theorem plain_k : (plainG n k E M).Lp.length = k := by simp [plainG]
theorem plain_alw {v : Nat} (h : v < n) : alw (plainG n k E M) v = upI k := by simp [alw, plainG, List.getD, h]
theorem plain_lp {c : Nat} (h : c < k) : lpS (plainG n k E M) (c : Int) = [(c : Int)] := by simp [lpS, plainG, List.getD, h]
theorem plain_ok (hE : ∀ p ∈ E, EndP p n) (hM : ∀ p ∈ M, EndP p n) : OkG (plainG n k E M) := by
  refine ⟨by rw [plain_n]; exact hE, by rw [plain_n]; exact hM, fun l hl => ?_, fun c h => ?_, fun c h d hd => ?_⟩
  · rw [plain_k]
    rw [(List.mem_replicate.1 hl).2]
    exact upI_ris k
  · rw [plain_k] at h ⊢
    have e : (plainG n k E M).Lp[c]'(by rw [plain_k]; exact h) = [(c : Int)] := by simp [plainG]
    rw [e]
    exact ⟨⟨List.pairwise_singleton _ _, fun x hx => by rw [List.mem_singleton.1 hx]; omega⟩, by simp⟩
  · rw [plain_k] at h
    have e : (plainG n k E M).Lp[c]'(by rw [plain_k]; exact h) = [(c : Int)] := by simp [plainG]
    rw [e] at hd
    rw [List.mem_singleton.1 hd, plain_lp h]
    simp
theorem plain_cnt {c : Int} (h0 : 0 ≤ c) (h1 : c < (k : Int)) (l : List Int) (hn : l.Nodup) : cntS (plainG n k E M) l c ≤ 1 := by
  obtain ⟨c, rfl⟩ : ∃ x : Nat, c = (x : Int) := ⟨c.toNat, by omega⟩
  unfold cntS
  rw [plain_lp (by omega)]
  exact nodup_sub (T := [(c : Int)]) (hn.filter _) fun x hx => by simpa using (List.mem_filter.1 hx).2
theorem plain_most {v m : Nat} (hv : v < n) (hm : m < n) : mostS (plainG n k E M) v m ≤ 1 := by
  unfold mostS
  rw [plain_alw hv, plain_alw hm]
  refine maxK_le fun c hc => ?_
  have := mem_upI.1 hc
  exact plain_cnt this.1 this.2 _ (upI_ris k).nodup
/-- Few nodes of many colours. -/
theorem plain_sure (hE : ∀ p ∈ E, EndP p n) (hM : ∀ p ∈ M, EndP p n) (h : n - 1 < k) : sureS (plainG n k E M) = true := by
  refine sure_small (plain_ok hE hM) (fun _ => 1) (fun v m hv hm => ?_) (fun v hv => ?_)
  · rw [plain_n] at hv hm; exact plain_most hv hm
  · rw [plain_n] at hv ⊢; rw [plain_alw hv, upI_len]; omega
end
theorem getD_of {l : List Int} {v : Nat} (h : v < l.length) : l.getD v (-1) = l[v] := by simp [List.getD, h]

/-! ### Nodes that are all apart -/
theorem clique_out {n k : Nat} {E M : List (Int × Int)} {l : List Int} (h : GoodP (plainG n k E M) l) (ha : ∀ u v, u < n → v < n → u ≠ v → adjS E u v = true) :
    (l.filter fun x => x == -1).length = n - k := by
  have hlen := h.len
  rw [plain_n] at hlen
  have hrg : ∀ x ∈ l, x = -1 ∨ (0 ≤ x ∧ x < (k : Int)) := fun x hx => by
    obtain ⟨v, hv, rfl⟩ := List.getElem_of_mem hx
    rcases h.okc v hv with e | e
    · rw [getD_of hv] at e; exact .inl e
    · rw [getD_of hv, plain_alw (by omega)] at e; exact .inr (mem_upI.1 e)
  have hnd : (l.filter fun x => !(x == -1)).Nodup := by
    show List.Pairwise (· ≠ ·) _
    rw [List.pairwise_filter, List.pairwise_iff_getElem]
    intro i j hi hj hij h1 h2 e
    have e1 : l[i] ≠ -1 := by simpa using h1
    have e2 : l[j] ≠ -1 := by simpa using h2
    have r1 := (hrg _ (List.getElem_mem hi)).resolve_left e1
    have r2 := (hrg _ (List.getElem_mem hj)).resolve_left e2
    have := h.lap i j hi hj (ha i j (by omega) (by omega) (by omega)) (by rw [getD_of hi]; exact r1.1) (by rw [getD_of hj]; exact r2.1)
    rw [getD_of hi, getD_of hj, e] at this
    obtain ⟨c, hc⟩ : ∃ c : Nat, l[j] = (c : Int) := ⟨l[j].toNat, by omega⟩
    rw [hc, plain_lp (by omega)] at this
    exact this (by simp)
  have hsplit : (l.filter fun x => x == -1).length + (l.filter fun x => !(x == -1)).length = l.length := by
    exact (split_len l _).symm
  have hle : (l.filter fun x => !(x == -1)).length ≤ k := by
    have := nodup_sub (T := upI k) hnd fun x hx => by
      have h1 := List.mem_filter.1 hx
      have h2 : x ≠ -1 := by simpa using h1.2
      exact mem_upI.2 ((hrg x h1.1).resolve_left h2)
    rw [upI_len] at this
    exact this
  by_cases h0 : (l.filter fun x => x == -1) = []
  · rw [h0, List.length_nil] at hsplit ⊢; omega
  · obtain ⟨x, hx⟩ := List.exists_mem_of_ne_nil _ h0
    have hx := List.mem_filter.1 hx
    have hx2 : x = -1 := by simpa using hx.2
    obtain ⟨v, hv, hxv⟩ := List.getElem_of_mem hx.1
    have hge : k ≤ (l.filter fun x => !(x == -1)).length := by
      have := nodup_sub (T := l.filter fun x => !(x == -1)) (upI_ris k).nodup fun c hc => by
        obtain ⟨m, hm, hadj, h3, h4⟩ := h.lft v hv (by rw [getD_of hv, hxv, hx2]) c (by rw [plain_alw (by omega)]; exact hc)
        rw [getD_of hm] at h3 h4
        have r := (hrg _ (List.getElem_mem hm)).resolve_left (by omega)
        obtain ⟨d, hd⟩ : ∃ d : Nat, l[m] = (d : Int) := ⟨l[m].toNat, by omega⟩
        rw [hd, plain_lp (by omega)] at h4
        have h5 : c = l[m] := by rw [hd]; simpa using h4
        rw [h5]
        refine List.mem_filter.2 ⟨List.getElem_mem hm, ?_⟩
        simp; omega
      rw [upI_len] at this
      exact this
    omega

/-! ### Trees -/
def treeE (up : List Int) : List (Int × Int) := (List.range up.length).map fun i => (up.getD i 0, ((i : Int) + 1))
theorem treeE_end {up : List Int} (h : ∀ i, i < up.length → 0 ≤ up.getD i 0 ∧ up.getD i 0 ≤ (i : Int)) : ∀ p ∈ treeE up, EndP p (up.length + 1) := by
  intro p hp
  obtain ⟨i, hi, rfl⟩ := List.mem_map.1 hp
  have hi := List.mem_range.1 hi
  have := h i hi
  unfold EndP
  dsimp only
  omega
theorem tree_sure {up : List Int} (h : ∀ i, i < up.length → 0 ≤ up.getD i 0 ∧ up.getD i 0 ≤ (i : Int)) : sureS (plainG (up.length + 1) 2 (treeE up) []) = true := by
  have hG := plain_ok (k := 2) (M := []) (treeE_end h) (by simp)
  have hr : ∀ j, j ≤ up.length + 1 → Rch (plainG (up.length + 1) 2 (treeE up) []) (fun u => decide (up.length + 1 - j ≤ u ∧ u < up.length + 1)) := by
    intro j
    induction j with
    | zero =>
      intro _
      have e : (fun u => decide (up.length + 1 - 0 ≤ u ∧ u < up.length + 1)) = (fun (_ : Nat) => false) := by funext u; exact decide_eq_false (by omega)
      rw [e]; exact .nil
    | succ j ih =>
      intro hj
      have h1 := Rch.step (v := up.length - j) (ih (by omega)) (by rw [plain_n]; omega) (by simp; omega) ?_
      · have e : (fun u => decide (up.length + 1 - (j + 1) ≤ u ∧ u < up.length + 1)) = (fun u => if u = up.length - j then true else decide (up.length + 1 - j ≤ u ∧ u < up.length + 1)) := by
          funext u
          by_cases e : u = up.length - j
          · rw [if_pos e]; simp; omega
          · rw [if_neg e]; congr 1; exact propext ⟨fun h => by omega, fun h => by omega⟩
        rw [e]; exact h1
      · rw [plain_alw (by omega), upI_len]
        unfold sumG
        refine Nat.lt_of_le_of_lt (sumL_le_mul (B := 1) fun m hm => ?_) ?_
        · have := (mem_nearL.1 (List.mem_filter.1 hm).1).1
          rw [plain_n] at this
          exact plain_most (by omega) this
        · refine Nat.lt_of_le_of_lt (m := 1) ?_ (by omega)
          rw [Nat.mul_one]
          refine nodup_sub (T := [(up.getD (up.length - j - 1) 0).toNat]) ((nearL_nodup _ _).filter _) fun m hm => ?_
          obtain ⟨h2, h3⟩ := List.mem_filter.1 hm
          obtain ⟨h4, h5⟩ := mem_nearL.1 h2
          rw [plain_n] at h4
          have h6 : m < up.length + 1 - j := by simp at h3; omega
          have h5 : adjS (treeE up) (up.length - j) m = true := h5
          rw [adjS_iff] at h5
          rw [List.mem_singleton]
          rcases h5 with h5 | h5
          · obtain ⟨i, hi, e⟩ := List.mem_map.1 h5
            have hi := List.mem_range.1 hi
            have := h i hi
            simp only [Prod.mk.injEq] at e
            omega
          · obtain ⟨i, hi, e⟩ := List.mem_map.1 h5
            simp only [Prod.mk.injEq] at e
            have : i = up.length - j - 1 := by omega
            rw [← this]; omega
  refine sure_ways hG (hr _ (Nat.le_refl _)) fun v hv => ?_
  rw [plain_n] at hv
  simp; omega

/-! ### Without edges, all are of colour 0 -/
theorem moves_pick {n k : Nat} {M : List (Int × Int)} (hk : 1 ≤ k) {col : Nat → Int} (hc : ∀ u, col u = 0 ∨ col u = -1) {v : Nat} (hv : v < n) : pickS (plainG n k [] M) col v = 0 := by
  have hnear : nearL (plainG n k [] M) v = [] := by
    unfold nearL
    rw [List.filter_eq_nil_iff]
    intro m _
    have : adjS (plainG n k [] M).E v m = false := rfl
    rw [this]; simp
  have hfree : freeS (plainG n k [] M) col v = upI k := by
    unfold freeS freeK
    rw [hnear, plain_alw hv]
    simp
  unfold pickS
  rw [hfree]
  split
  · rename_i m hm
    have := List.find?_some hm
    simp at this
    rcases hc m with e | e
    · exact e
    · rw [e] at this; omega
  · obtain ⟨j, rfl⟩ : ∃ j, k = j + 1 := ⟨k - 1, by omega⟩
    unfold upI
    rw [List.range_succ_eq_map]
    rfl
theorem moves_zero {n k : Nat} {M : List (Int × Int)} (hk : 1 ≤ k) (hM : ∀ p ∈ M, EndP p n) {v : Nat} (hv : v < n) : (colS (plainG n k [] M)).getD v (-1) = 0 := by
  have hG := plain_ok (n := n) (k := k) (E := []) (M := M) (by simp) hM
  rw [colS_get (by rw [plain_n]; exact hv)]
  have H : ∀ vs : List Nat, (∀ u ∈ vs, u < n) → (∀ u, colF (plainG n k [] M) vs u = 0 ∨ colF (plainG n k [] M) vs u = -1) ∧ ∀ u ∈ vs, colF (plainG n k [] M) vs u = 0 := by
    intro vs
    induction vs using co_revind with
    | h0 => intro _; exact ⟨fun u => .inr rfl, fun u hu => by simp at hu⟩
    | hs l a ih =>
      intro hl
      obtain ⟨h1, h2⟩ := ih (fun u hu => hl u (by simp [hu]))
      rw [colF_snoc]
      have hp := moves_pick (M := M) hk h1 (hl a (by simp))
      unfold colK
      rw [hp]
      refine ⟨fun u => ?_, fun u hu => ?_⟩
      · by_cases e : u = a
        · rw [if_pos e]; exact .inl rfl
        · rw [if_neg e]; exact h1 u
      · by_cases e : u = a
        · rw [if_pos e]
        · rw [if_neg e]; exact h2 u (by simpa [e] using hu)
  obtain ⟨hn, hm⟩ := ord_ok hG
  refine (H _ fun u hu => ?_).2 v (List.mem_reverse.2 ((hm v).2 (by rw [plain_n]; exact hv)))
  have := (hm u).1 (List.mem_reverse.1 hu)
  rw [plain_n] at this
  exact this

/-! ### A star whose middle may be colour 0 alone -/
def starE (n : Nat) : List (Int × Int) := (List.range n).map fun (i : Nat) => (0, ((i : Int) + 1))
def starG (n k : Nat) : GD := ⟨starE n, [], [0] :: List.replicate n (upI k), (List.range k).map fun (c : Nat) => [(c : Int)]⟩
theorem star_alw0 (n k : Nat) : alw (starG n k) 0 = [0] := rfl
theorem star_alw {n k i : Nat} (h : i < n) : alw (starG n k) (i + 1) = upI k := by simp [alw, starG, List.getD, h]
theorem star_lp {n k c : Nat} (h : c < k) : lpS (starG n k) (c : Int) = [(c : Int)] := by simp [lpS, starG, List.getD, h]
theorem star_adj {n k u m : Nat} (h : adjS (starG n k).E u m = true) : (u = 0 ∧ 1 ≤ m) ∨ (m = 0 ∧ 1 ≤ u) := by
  rcases adjS_iff.1 h with h | h
  · obtain ⟨i, hi, e⟩ := List.mem_map.1 h
    simp only [Prod.mk.injEq] at e; omega
  · obtain ⟨i, hi, e⟩ := List.mem_map.1 h
    simp only [Prod.mk.injEq] at e; omega
theorem star_ok {n k : Nat} (hk : 1 ≤ k) : OkG (starG n k) := by
  have hA : (starG n k).A.length = n + 1 := by simp [starG]
  have hL : (starG n k).Lp.length = k := by simp [starG]
  refine ⟨fun p hp => ?_, fun p hp => by simp [starG] at hp, fun l hl => ?_, fun c h => ?_, fun c h d hd => ?_⟩
  · obtain ⟨i, hi, rfl⟩ := List.mem_map.1 hp
    have := List.mem_range.1 hi
    rw [hA]
    unfold EndP
    dsimp only
    omega
  · rw [hL]
    rcases List.mem_cons.1 hl with rfl | hl
    · exact ⟨List.pairwise_singleton _ _, fun x hx => by rw [List.mem_singleton.1 hx]; omega⟩
    · rw [(List.mem_replicate.1 hl).2]; exact upI_ris k
  · rw [hL] at h ⊢
    have e : (starG n k).Lp[c]'(by rw [hL]; exact h) = [(c : Int)] := by simp [starG]
    rw [e]
    exact ⟨⟨List.pairwise_singleton _ _, fun x hx => by rw [List.mem_singleton.1 hx]; omega⟩, by simp⟩
  · rw [hL] at h
    have e : (starG n k).Lp[c]'(by rw [hL]; exact h) = [(c : Int)] := by simp [starG]
    rw [e] at hd
    rw [List.mem_singleton.1 hd, star_lp h]
    simp
/-- The middle is 0 or none; the others are coloured, and not 0 beside 0. -/
theorem star_good {n k : Nat} (hk : 2 ≤ k) {l : List Int} (h : GoodP (starG n k) l) : l.length = n + 1 ∧ (l.getD 0 (-1) = 0 ∨ l.getD 0 (-1) = -1) ∧
    ∀ i, i < n → 0 ≤ l.getD (i + 1) (-1) ∧ ¬ (l.getD 0 (-1) = 0 ∧ l.getD (i + 1) (-1) = 0) := by
  have hl : l.length = n + 1 := by rw [h.len]; simp [starG]
  have h0 : l.getD 0 (-1) = 0 ∨ l.getD 0 (-1) = -1 := by
    rcases h.okc 0 (by omega) with e | e
    · exact .inr e
    · rw [star_alw0] at e; exact .inl (List.mem_singleton.1 e)
  refine ⟨hl, h0, fun i hi => ⟨?_, ?_⟩⟩
  · rcases h.okc (i + 1) (by omega) with e | e
    · obtain ⟨m, hm, ha, h1, h2⟩ := h.lft (i + 1) (by omega) e 1 (by rw [star_alw hi]; exact mem_upI.2 ⟨by omega, by omega⟩)
      have hm0 : m = 0 := by rcases star_adj ha with h | h <;> omega
      subst hm0
      rcases h0 with e0 | e0
      · rw [e0] at h2
        have := star_lp (n := n) (k := k) (c := 0) (by omega)
        rw [show ((0 : Nat) : Int) = 0 from rfl] at this
        rw [this] at h2
        simp at h2
      · rw [e0] at h1; omega
    · rw [star_alw hi] at e; exact (mem_upI.1 e).1
  · rintro ⟨e0, e1⟩
    have ha : adjS (starG n k).E 0 (i + 1) = true := adjS_iff.2 (.inl (List.mem_map.2 ⟨i, List.mem_range.2 hi, by simp⟩))
    have := h.lap 0 (i + 1) (by omega) (by omega) ha (by omega) (by omega)
    rw [e0, e1] at this
    have h3 := star_lp (n := n) (k := k) (c := 0) (by omega)
    rw [show ((0 : Nat) : Int) = 0 from rfl] at h3
    rw [h3] at this
    exact this (by simp)

/-! ### Wide colours and narrow ones -/
def lapW (c : Nat) : List Int := if c % 3 = 0 then [(c : Int), (c : Int) + 1, (c : Int) + 2] else [(c : Int) - ((c % 3 : Nat) : Int), (c : Int)]
def wideL (p : Nat) : List Int := selI (fun c => c % 3 == 0) (3 * p)
def halfL (p : Nat) : List Int := selI (fun c => !(c % 3 == 0)) (3 * p)
def wideE (n : Nat) : List (Int × Int) := (List.range n).flatMap fun i => (List.range i).map fun (k : Nat) => ((k : Int), (i : Int))
def wideG (wd nr p : Nat) : GD := ⟨wideE (wd + nr), [], List.replicate wd (wideL p) ++ List.replicate nr (halfL p), (List.range (3 * p)).map lapW⟩
theorem selI_three (P : Nat → Bool) (p : Nat) : selI P (3 * (p + 1)) = selI P (3 * p) ++ ((([3 * p, 3 * p + 1, 3 * p + 2] : List Nat).filter P).map fun (c : Nat) => (c : Int)) := by
  unfold selI
  rw [show 3 * (p + 1) = 3 * p + 1 + 1 + 1 by omega, List.range_succ, List.range_succ, List.range_succ]
  simp only [List.filter_append, List.map_append, List.append_assoc]
  congr 1
  rw [← List.map_append, ← List.map_append, ← List.filter_append, ← List.filter_append]
  rfl
theorem wideL_succ (p : Nat) : wideL (p + 1) = wideL p ++ [((3 * p : Nat) : Int)] := by
  unfold wideL
  rw [selI_three]
  have h0 : (3 * p) % 3 = 0 := by omega
  have h1 : (3 * p + 1) % 3 = 1 := by omega
  have h2 : (3 * p + 2) % 3 = 2 := by omega
  simp [h0, h1, h2]
theorem halfL_succ (p : Nat) : halfL (p + 1) = halfL p ++ [((3 * p + 1 : Nat) : Int), ((3 * p + 2 : Nat) : Int)] := by
  unfold halfL
  rw [selI_three]
  have h0 : (3 * p) % 3 = 0 := by omega
  have h1 : (3 * p + 1) % 3 = 1 := by omega
  have h2 : (3 * p + 2) % 3 = 2 := by omega
  simp [h0, h1, h2]
theorem wideL_len (p : Nat) : (wideL p).length = p := by
  induction p with
  | zero => rfl
  | succ p ih => rw [wideL_succ, List.length_append, ih]; rfl
theorem halfL_len (p : Nat) : (halfL p).length = 2 * p := by
  induction p with
  | zero => rfl
  | succ p ih => rw [halfL_succ, List.length_append, ih]; simp; omega
section
variable {wd nr p : Nat}
theorem wide_n : (wideG wd nr p).A.length = wd + nr := by simp [wideG]
theorem wide_k : (wideG wd nr p).Lp.length = 3 * p := by simp [wideG]
theorem wide_alw1 {v : Nat} (h : v < wd) : alw (wideG wd nr p) v = wideL p := by
  unfold alw wideG List.getD
  rw [List.getElem?_append_left (by simpa using h)]
  simp [h]
theorem wide_alw2 {v : Nat} (h : wd ≤ v) (h2 : v < wd + nr) : alw (wideG wd nr p) v = halfL p := by
  unfold alw wideG List.getD
  rw [List.getElem?_append_right (by simpa using h)]
  have : v - wd < nr := by omega
  simp [this]
theorem wide_lp {c : Nat} (h : c < 3 * p) : lpS (wideG wd nr p) (c : Int) = lapW c := by simp [lpS, wideG, List.getD, h]
theorem mem_lapW {c d : Nat} : (d : Int) ∈ lapW c ↔ (c % 3 = 0 ∧ (d = c ∨ d = c + 1 ∨ d = c + 2)) ∨ (c % 3 ≠ 0 ∧ (d + c % 3 = c ∨ d = c)) := by
  unfold lapW
  split
  · rename_i h; simp; omega
  · rename_i h; simp; omega
theorem lapW_nat {c : Nat} {d : Int} (h : d ∈ lapW c) : ∃ x : Nat, d = (x : Int) := by
  refine ⟨d.toNat, ?_⟩
  unfold lapW at h
  split at h
  · simp at h; omega
  · simp at h
    have := Nat.mod_le c 3
    omega
theorem wide_end : ∀ q ∈ wideE (wd + nr), EndP q (wd + nr) := by
  intro q hq
  unfold wideE at hq
  obtain ⟨i, hi, hq⟩ := List.mem_flatMap.1 hq
  obtain ⟨k, hk, rfl⟩ := List.mem_map.1 hq
  have := List.mem_range.1 hi
  have := List.mem_range.1 hk
  unfold EndP
  dsimp only
  omega
theorem wide_ok : OkG (wideG wd nr p) := by
  have e : ∀ c (h : c < (wideG wd nr p).Lp.length), (wideG wd nr p).Lp[c] = lapW c := fun c h => by simp [wideG]
  refine ⟨by rw [wide_n]; exact wide_end, fun q hq => by simp [wideG] at hq, fun l hl => ?_, fun c h => ?_, fun c h d hd => ?_⟩
  · rw [wide_k]
    rcases List.mem_append.1 hl with hl | hl
    · rw [(List.mem_replicate.1 hl).2]; exact selI_ris _ _
    · rw [(List.mem_replicate.1 hl).2]; exact selI_ris _ _
  · rw [e c h]
    rw [wide_k] at h ⊢
    refine ⟨⟨?_, fun x hx => ?_⟩, mem_lapW.2 (by omega)⟩
    · unfold lapW
      split
      · simp; omega
      · simp; omega
    · obtain ⟨d, rfl⟩ := lapW_nat hx
      have := mem_lapW.1 hx
      omega
  · rw [e c h] at hd
    rw [wide_k] at h
    obtain ⟨d, rfl⟩ := lapW_nat hd
    have h1 := mem_lapW.1 hd
    rw [wide_lp (by omega)]
    exact mem_lapW.2 (by omega)
theorem wide_cnt1 {c : Int} (h0 : 0 ≤ c) (h1 : c < ((3 * p : Nat) : Int)) : cntS (wideG wd nr p) (wideL p) c ≤ 1 := by
  obtain ⟨c, rfl⟩ : ∃ x : Nat, c = (x : Int) := ⟨c.toNat, by omega⟩
  unfold cntS
  rw [wide_lp (by omega)]
  refine nodup_sub (T := [((c - c % 3 : Nat) : Int)]) ((selI_ris _ _).nodup.filter _) fun x hx => ?_
  obtain ⟨h2, h3⟩ := List.mem_filter.1 hx
  have h2 := mem_selI.1 h2
  obtain ⟨d, rfl⟩ : ∃ y : Nat, x = (y : Int) := ⟨x.toNat, by omega⟩
  have h3 := mem_lapW.1 (of_decide_eq_true h3)
  have h4 : d % 3 = 0 := by simpa using h2.2.2
  rw [List.mem_singleton]
  omega
theorem wide_cnt2 {c : Int} (h0 : 0 ≤ c) (h1 : c < ((3 * p : Nat) : Int)) : cntS (wideG wd nr p) (halfL p) c ≤ 2 := by
  obtain ⟨c, rfl⟩ : ∃ x : Nat, c = (x : Int) := ⟨c.toNat, by omega⟩
  unfold cntS
  rw [wide_lp (by omega)]
  refine Nat.le_trans (nodup_sub (T := if c % 3 = 0 then [((c + 1 : Nat) : Int), ((c + 2 : Nat) : Int)] else [(c : Int), (c : Int)]) ((selI_ris _ _).nodup.filter _) (fun x hx => ?_)) (by split <;> simp)
  obtain ⟨h2, h3⟩ := List.mem_filter.1 hx
  have h2 := mem_selI.1 h2
  obtain ⟨d, rfl⟩ : ∃ y : Nat, x = (y : Int) := ⟨x.toNat, by omega⟩
  have h3 := mem_lapW.1 (of_decide_eq_true h3)
  have h4 : ¬ d % 3 = 0 := by simpa using h2.2.2
  split
  · simp; omega
  · simp; omega
theorem wide_sure (h : wd + nr ≤ p) (h1 : 1 ≤ p) : sureS (wideG wd nr p) = true := by
  have hr : ∀ m, m < wd + nr → ∀ c ∈ alw (wideG wd nr p) m, 0 ≤ c ∧ c < ((3 * p : Nat) : Int) := fun m hm c hc => by
    have := (wide_ok (wd := wd) (nr := nr) (p := p)).alw_rng hc
    rw [wide_k] at this
    exact this
  refine sure_small wide_ok (fun v => if v < wd then 1 else 2) (fun v m hv hm => ?_) (fun v hv => ?_)
  · rw [wide_n] at hv hm
    unfold mostS
    by_cases e : v < wd
    · rw [if_pos e, wide_alw1 e]
      exact maxK_le fun c hc => wide_cnt1 (hr m hm c hc).1 (hr m hm c hc).2
    · rw [if_neg e, wide_alw2 (by omega) hv]
      exact maxK_le fun c hc => wide_cnt2 (hr m hm c hc).1 (hr m hm c hc).2
  · rw [wide_n] at hv ⊢
    by_cases e : v < wd
    · rw [if_pos e, wide_alw1 e, wideL_len]; omega
    · rw [if_neg e, wide_alw2 (by omega) hv, halfL_len]; omega
end
/-- No answer of a sure graph leaves a node out. -/
theorem sure_no {G : GD} (hG : OkG G) (hs : sureS G = true) : (-1 : Int) ∉ colS G := by
  intro h
  obtain ⟨v, hv, e⟩ := List.getElem_of_mem h
  have := colS_sure hG hs v hv
  rw [getD_of hv, e] at this
  have := (hG.alw_rng this).1
  omega
end Go.Proofs.Ytinbfnabngdemaa
