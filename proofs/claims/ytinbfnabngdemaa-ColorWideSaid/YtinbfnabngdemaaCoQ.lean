/- When all nodes can be taken away as safe ones, in plain Lean: the order does not matter; then none is left without a colour. -/
import Derived.Test.YtinbfnabngdemaaCoL
namespace Go.Proofs.Ytinbfnabngdemaa

/-- What can be gone where safe nodes alone are taken away. -/
inductive Rch (G : GD) : (Nat → Bool) → Prop
  | nil : Rch G (fun _ => false)
  | step {g : Nat → Bool} {v : Nat} (h : Rch G g) (hv : v < G.A.length) (hg : g v = false) (hs : sumG G g v < (alw G v).length) : Rch G (fun u => if u = v then true else g u)
/-- No node that is there is safe. -/
def StuckP (G : GD) (g : Nat → Bool) : Prop := ∀ v, v < G.A.length → g v = false → (alw G v).length ≤ sumG G g v
theorem sumG_anti {G : GD} {g g' : Nat → Bool} (h : ∀ u, g u = true → g' u = true) (v : Nat) : sumG G g' v ≤ sumG G g v := by
  unfold sumG
  refine sumL_le_sub fun m _ hm => ?_
  cases e : g m with
  | false => rfl
  | true => rw [h m e] at hm; simp at hm
theorem Rch.sub {G : GD} {g g' : Nat → Bool} (h : Rch G g) (hs : StuckP G g') : ∀ u, g u = true → g' u = true := by
  induction h with
  | nil => intro u hu; cases hu
  | step _ hv hg hlt ih =>
    rename_i v _
    intro u hu
    by_cases e : u = v
    · subst e
      cases e2 : g' u with
      | true => rfl
      | false =>
        have h1 := hs u hv e2
        have h2 := sumG_anti (G := G) ih u
        omega
    · dsimp only at hu
      rw [if_neg e] at hu; exact ih u hu
structure SfOk (G : GD) (S : CS) : Prop where
  st : StOk G S
  dn : ∀ u ∈ S.safe, S.gone u = false → S.sums u < ((alw G u).length : Int)
  up : ∀ u, u < G.A.length → S.gone u = false → S.sums u < ((alw G u).length : Int) → u ∈ S.safe
  rc : Rch G S.gone
  os : ∀ pre v post, S.order = pre ++ v :: post → sumL (mostS G v) ((nearL G v).filter fun m => decide (m ∉ pre)) < (alw G v).length
theorem fold_safe (G : GD) (v : Nat) (ms : List Nat) : ∀ S : CS, ms.Nodup → ∀ u, u ∈ (ms.foldl (lessS G v) S).safe ↔ u ∈ S.safe ∨ (u ∈ ms ∧ S.gone u = false ∧ S.sums u - (mostS G u v : Int) < ((alw G u).length : Int)) := by
  induction ms with
  | nil => intro S _ u; simp
  | cons m ms ih =>
    intro S hn u
    obtain ⟨h1, h2⟩ := List.nodup_cons.1 hn
    rw [List.foldl_cons, ih _ h2]
    have hg : (lessS G v S m).gone = S.gone := by unfold lessS; rw [askS_gone]
    have hsu : (lessS G v S m).sums = fun u => if u = m then S.sums m - (mostS G m v : Int) else S.sums u := by unfold lessS; rw [askS_sums]
    have hsf : u ∈ (lessS G v S m).safe ↔ u ∈ S.safe ∨ (u = m ∧ S.gone m = false ∧ S.sums m - (mostS G m v : Int) < ((alw G m).length : Int)) := by
      unfold lessS askS
      simp only [if_true]
      split
      · rename_i hc
        simp only [List.mem_append, List.mem_singleton]
        exact or_congr Iff.rfl ⟨fun e => ⟨e, hc⟩, fun e => e.1⟩
      · rename_i hc
        exact ⟨.inl, fun e => e.elim id fun e => absurd e.2 hc⟩
    rw [hsf, hg, hsu]
    dsimp only
    by_cases e : u = m
    · subst e
      simp [h1]
    · simp [e]
theorem SfOk.take {G : GD} (hG : OkG G) {S : CS} (h : SfOk G S) {l : List Nat} {v : Nat} (hs : S.safe = l ++ [v]) : SfOk G (takeS G { S with safe := l } v) := by
  obtain ⟨h1, hv⟩ := StOk.pop h.st hs
  have h2 := h1.take hG hv
  by_cases hg : S.gone v = true
  · have e : takeS G { S with safe := l } v = { S with safe := l } := by unfold takeS; rw [if_pos (.inl hg)]
    rw [e] at h2 ⊢
    refine ⟨h2, fun u hu => h.dn u (by rw [hs]; exact List.mem_append_left _ hu), fun u hu hgu hl => ?_, h.rc, h.os⟩
    have := h.up u hu hgu hl
    rw [hs] at this
    rcases List.mem_append.1 this with e | e
    · exact e
    · rw [List.mem_singleton.1 e] at hgu
      have hgu : S.gone v = false := hgu
      rw [hg] at hgu; cases hgu
  · have hgf : S.gone v = false := by simpa using hg
    have e : takeS G { S with safe := l } v = (nbsS G (goneS { S with safe := l } v) v).foldl (lessS G v) (goneS { S with safe := l } v) := by
      unfold takeS
      rw [if_neg]
      rintro (e | e)
      · exact hg e
      · omega
    have hnd : (nbsS G (goneS { S with safe := l } v) v).Nodup := by rw [nbs_eq]; exact (nearL_nodup G v).filter _
    have hgo : (takeS G { S with safe := l } v).gone = fun u => if u = v then true else S.gone u := by rw [e, fold_gone]; rfl
    have hor : (takeS G { S with safe := l } v).order = S.order ++ [v] := by rw [e, fold_order]; rfl
    have hsu : (takeS G { S with safe := l } v).sums = fun u => if u ∈ nbsS G (goneS { S with safe := l } v) v then S.sums u - (mostS G u v : Int) else S.sums u := by rw [e, fold_sums G v _ _ hnd]; rfl
    have hsf : ∀ u, u ∈ (takeS G { S with safe := l } v).safe ↔ u ∈ l ∨ (u ∈ nbsS G (goneS { S with safe := l } v) v ∧ (if u = v then true else S.gone u) = false ∧ S.sums u - (mostS G u v : Int) < ((alw G u).length : Int)) := fun u => by
      rw [e, fold_safe G v _ _ hnd]; rfl
    have hvs : S.sums v < ((alw G v).length : Int) := h.dn v (by rw [hs]; simp) hgf
    have hvm : sumG G S.gone v < (alw G v).length := by have := h.st.sum v hv hgf; omega
    refine ⟨h2, fun u hu hgu => ?_, fun u hu hgu hl => ?_, ?_, fun pre x post he => ?_⟩
    · rw [hgo] at hgu
      rw [hsu]
      dsimp only at hgu ⊢
      rcases (hsf u).1 hu with hu | ⟨hu, -, hl⟩
      · have hne : u ≠ v := fun e => by simp [e] at hgu
        rw [if_neg hne] at hgu
        have := h.dn u (by rw [hs]; exact List.mem_append_left _ hu) hgu
        split
        · omega
        · exact this
      · rw [if_pos hu]; exact hl
    · rw [hgo] at hgu
      rw [hsu] at hl
      rw [hsf]
      dsimp only at hgu hl
      have hne : u ≠ v := fun e => by simp [e] at hgu
      by_cases hm : u ∈ nbsS G (goneS { S with safe := l } v) v
      · rw [if_pos hm] at hl
        exact .inr ⟨hm, hgu, hl⟩
      · rw [if_neg hm] at hl
        rw [if_neg hne] at hgu
        have := h.up u hu hgu hl
        rw [hs] at this
        rcases List.mem_append.1 this with e | e
        · exact .inl e
        · exact absurd (List.mem_singleton.1 e) hne
    · rw [hgo]; exact .step h.rc hv hgf hvm
    · rw [hor] at he
      rcases List.append_eq_append_iff.1 he with ⟨as, h3, h4⟩ | ⟨bs, h3, h4⟩
      · rcases as with _ | ⟨a, as⟩
        · simp at h3 h4
          obtain ⟨rfl, -⟩ := h4
          subst h3
          have : ((nearL G v).filter fun m => decide (m ∉ S.order)) = (nearL G v).filter fun m => !S.gone m := List.filter_congr fun m _ => by
            have := h.st.mem m
            by_cases e : m ∈ S.order
            · simp [e, this.1 e]
            · have : S.gone m = false := by
                cases e2 : S.gone m with
                | false => rfl
                | true => exact absurd (this.2 e2) e
              simp [e, this]
          rw [this]
          exact hvm
        · simp at h4
      · rcases bs with _ | ⟨b, bs⟩
        · simp at h3 h4
          obtain ⟨rfl, -⟩ := h4
          subst h3
          have : ((nearL G x).filter fun m => decide (m ∉ S.order)) = (nearL G x).filter fun m => !S.gone m := List.filter_congr fun m _ => by
            have := h.st.mem m
            by_cases e : m ∈ S.order
            · simp [e, this.1 e]
            · have : S.gone m = false := by
                cases e2 : S.gone m with
                | false => rfl
                | true => exact absurd (this.2 e2) e
              simp [e, this]
          rw [this]
          exact hvm
        · simp at h4
          obtain ⟨rfl, h4⟩ := h4
          exact h.os pre x bs h3
/-- Those that are asked at the beginning. -/
theorem begD_safe (G : GD) : ∀ j, j ≤ G.A.length → (begD G j).gone = (fun _ => false) ∧ (begD G j).sums = (beg0 G).sums ∧ (begD G j).order = [] ∧ ∀ u, u ∈ (begD G j).safe ↔ (G.A.length - j ≤ u ∧ u < G.A.length ∧ (beg0 G).sums u < ((alw G u).length : Int))
  | 0, _ => ⟨rfl, rfl, rfl, fun u => by
      show u ∈ [] ↔ _
      simp; omega⟩
  | j + 1, hj => by
    obtain ⟨h1, h2, h3, h4⟩ := begD_safe G j (by omega)
    refine ⟨by show (askS G _ _).gone = _; rw [askS_gone, h1], by show (askS G _ _).sums = _; rw [askS_sums, h2], by show (askS G _ _).order = _; rw [askS_order, h3], fun u => ?_⟩
    show u ∈ (askS G (begD G j) (G.A.length - 1 - j)).safe ↔ _
    unfold askS
    rw [h1, h2]
    split
    · rename_i hc
      rw [List.mem_append, h4, List.mem_singleton]
      constructor
      · rintro (⟨e1, e2, e3⟩ | rfl)
        · exact ⟨by omega, e2, e3⟩
        · exact ⟨by omega, by omega, hc.2⟩
      · rintro ⟨e1, e2, e3⟩
        by_cases e : u = G.A.length - 1 - j
        · exact .inr e
        · exact .inl ⟨by omega, e2, e3⟩
    · rename_i hc
      rw [h4]
      constructor
      · rintro ⟨e1, e2, e3⟩; exact ⟨by omega, e2, e3⟩
      · rintro ⟨e1, e2, e3⟩
        refine ⟨?_, e2, e3⟩
        have : u ≠ G.A.length - 1 - j := fun e => hc ⟨rfl, by rw [← e]; exact e3⟩
        omega
theorem SfOk.beg (G : GD) : SfOk G (begS G) := by
  obtain ⟨h1, h2, h3, h4⟩ := begD_safe G G.A.length (Nat.le_refl _)
  refine ⟨StOk.beg G, fun u hu _ => ?_, fun u hu _ hl => ?_, ?_, fun pre v post he => ?_⟩
  · show (begD G G.A.length).sums u < _; rw [h2]; exact ((h4 u).1 hu).2.2
  · rw [show (begS G).sums = _ from h2] at hl
    exact (h4 u).2 ⟨by omega, hu, hl⟩
  · rw [show (begS G).gone = _ from h1]; exact .nil
  · rw [show (begS G).order = _ from h3] at he; simp at he
theorem sim_sf {G : GD} (hG : OkG G) : SfOk G (simS G (begS G)) ∧ (simS G (begS G)).safe = [] := simS_ind (fun _ _ _ hs h => h.take hG hs) _ (SfOk.beg G)
theorem sim_stuck {G : GD} (hG : OkG G) : StuckP G (simS G (begS G)).gone := by
  obtain ⟨h, hs⟩ := sim_sf hG
  intro v hv hg
  refine Nat.not_lt.1 fun hl => ?_
  have h1 := h.st.sum v hv hg
  have := h.up v hv hg (by omega)
  rw [hs] at this
  simp at this
theorem nodup_full (n : Nat) (l : List Nat) (hn : l.Nodup) (hl : ∀ v ∈ l, v < n) : l.length = n ↔ ∀ v, v < n → v ∈ l := by
  have H : ∀ (n : Nat) (l : List Nat), l.Nodup → (∀ v ∈ l, v < n) → l.length ≤ n ∧ (l.length = n ↔ ∀ v, v < n → v ∈ l) := by
    intro n
    induction n with
    | zero =>
      intro l _ hl
      cases l with
      | nil => exact ⟨by simp, ⟨fun _ v hv => by omega, fun _ => rfl⟩⟩
      | cons a l => have := hl a (by simp); omega
    | succ n ih =>
      intro l hn hl
      by_cases hm : n ∈ l
      · obtain ⟨i1, i2⟩ := ih (l.erase n) (hn.erase _) (fun v hv => by
          have h2 := (hn.mem_erase_iff).1 hv
          have := hl v h2.2
          have := h2.1
          omega)
        rw [List.length_erase_of_mem hm] at i1 i2
        have h0 : 0 < l.length := List.length_pos_of_mem hm
        refine ⟨by omega, ⟨fun e v hv => ?_, fun h => ?_⟩⟩
        · by_cases e2 : v = n
          · rw [e2]; exact hm
          · exact List.mem_of_mem_erase (i2.1 (by omega) v (by omega))
        · have := i2.2 fun v hv => (hn.mem_erase_iff).2 ⟨by omega, h v (by omega)⟩
          omega
      · obtain ⟨i1, -⟩ := ih l hn (fun v hv => by
          have := hl v hv
          have : v ≠ n := fun e => hm (e ▸ hv)
          omega)
        exact ⟨by omega, ⟨fun e => by omega, fun h => absurd (h n (by omega)) hm⟩⟩
  exact (H n l hn hl).2
theorem sure_iff {G : GD} (hG : OkG G) : sureS G = true ↔ ∀ v, v < G.A.length → (simS G (begS G)).gone v = true := by
  obtain ⟨h, -⟩ := sim_sf hG
  unfold sureS
  rw [decide_eq_true_iff, nodup_full _ _ h.st.nd h.st.lt]
  exact ⟨fun e v hv => (h.st.mem v).1 (e v hv), fun e v hv => (h.st.mem v).2 (e v hv)⟩
/-- Whatever the order: what is left in the end is the same. -/
theorem sure_of {G : GD} (hG : OkG G) {g : Nat → Bool} (hr : Rch G g) (hs : StuckP G g) : sureS G = true ↔ ∀ v, v < G.A.length → g v = true := by
  rw [sure_iff hG]
  obtain ⟨h, -⟩ := sim_sf hG
  exact ⟨fun e v hv => h.rc.sub hs v (e v hv), fun e v hv => hr.sub (sim_stuck hG) v (e v hv)⟩
/-- A way of taking all away. -/
theorem sure_ways {G : GD} (hG : OkG G) {g : Nat → Bool} (hr : Rch G g) (ha : ∀ v, v < G.A.length → g v = true) : sureS G = true :=
  (sure_of hG hr (fun v hv hg => by rw [ha v hv] at hg; cases hg)).2 ha

/-! ### Where it is sure none is left out -/
theorem freeK_len (G : GD) (col : Nat → Int) (v : Nat) (ms : List Nat) : (alw G v).length ≤ (freeK G col v ms).length + sumL (fun m => if 0 ≤ col m then cntS G (alw G v) (col m) else 0) ms := by
  induction ms with
  | nil =>
    unfold freeK
    have e : (alw G v).filter (fun c => ([] : List Nat).all fun m => !(decide (0 ≤ col m) && decide (c ∈ lpS G (col m)))) = alw G v := List.filter_eq_self.2 (fun c _ => rfl)
    rw [e]
    exact Nat.le_add_right _ _
  | cons m ms ih =>
    rw [sumL_cons]
    have e : freeK G col v (m :: ms) = (freeK G col v ms).filter fun c => !(decide (0 ≤ col m) && decide (c ∈ lpS G (col m))) := by
      unfold freeK
      rw [List.filter_filter]
      congr 1
    rw [e]
    have h1 : ∀ (l : List Int) (p : Int → Bool), l.length = (l.filter p).length + (l.filter fun c => !p c).length := by
      intro l p
      induction l with
      | nil => rfl
      | cons a l ih =>
        simp only [List.filter_cons, List.length_cons]
        cases p a <;> simp <;> omega
    have h2 := h1 (freeK G col v ms) fun c => !(decide (0 ≤ col m) && decide (c ∈ lpS G (col m)))
    have h3 : ((freeK G col v ms).filter fun c => !!(decide (0 ≤ col m) && decide (c ∈ lpS G (col m)))).length ≤ if 0 ≤ col m then cntS G (alw G v) (col m) else 0 := by
      by_cases h0 : 0 ≤ col m
      · rw [if_pos h0]
        unfold cntS freeK
        simp only [h0, decide_true, Bool.true_and, Bool.not_not]
        exact ((List.filter_sublist (p := _) (l := alw G v)).filter _).length_le
      · rw [if_neg h0]
        simp [h0]
    omega
theorem sumL_le {f g : Nat → Nat} {l : List Nat} (h : ∀ m ∈ l, f m ≤ g m) : sumL f l ≤ sumL g l := by
  induction l with
  | nil => exact Nat.le_refl _
  | cons m l ih =>
    rw [sumL_cons, sumL_cons]
    have := h m (by simp)
    have := ih (fun m hm => h m (by simp [hm]))
    omega
theorem sumL_filter {f : Nat → Nat} {p : Nat → Bool} {l : List Nat} (h : ∀ m ∈ l, p m = false → f m = 0) : sumL f l = sumL f (l.filter p) := by
  induction l with
  | nil => rfl
  | cons m l ih =>
    have ih := ih (fun m hm => h m (by simp [hm]))
    simp only [List.filter_cons]
    rw [sumL_cons, ih]
    cases hp : p m with
    | false => rw [h m (by simp) hp]; simp
    | true => simp [sumL_cons]
theorem colF_last {G : GD} (vs ws : List Nat) {v : Nat} (hn : v ∉ ws) : colF G (vs ++ [v] ++ ws) v = pickS G (colF G vs) v := by
  induction ws using co_revind with
  | h0 => rw [List.append_nil, colF_snoc]; unfold colK; rw [if_pos rfl]
  | hs l a ih =>
    rw [← List.append_assoc, colF_snoc]
    unfold colK
    rw [if_neg (fun e => hn (by simp [e]))]
    exact ih (fun h => hn (by simp [h]))
theorem colS_sure {G : GD} (hG : OkG G) (hs : sureS G = true) : ∀ v, v < (colS G).length → (colS G).getD v (-1) ∈ alw G v := by
  intro v hv
  rw [colS_length] at hv
  rw [colS_get hv]
  obtain ⟨h, -⟩ := sim_sf hG
  have hall := (sure_iff hG).1 hs
  have hm : mainS G (simS G (begS G)) = simS G (begS G) := by
    refine mainS_stop ?_
    rcases heavyS_lt G (simS G (begS G)) with e | ⟨u, -, hu, hg⟩
    · exact e
    · rw [hall u hu] at hg; cases hg
  obtain ⟨hn, hmem⟩ := ord_ok hG
  have ho : ordS G = (simS G (begS G)).order := by unfold ordS; rw [hm]
  obtain ⟨pre, post, he⟩ := List.append_of_mem ((hmem v).2 hv)
  have hos := h.os pre v post (by rw [← ho]; exact he)
  have hnd := hn
  rw [he, List.nodup_append] at hnd
  obtain ⟨hn1, hn2, hn3⟩ := hnd
  obtain ⟨hn4, hn5⟩ := List.nodup_cons.1 hn2
  rw [he, List.reverse_append, List.reverse_cons]
  rw [colF_last (vs := post.reverse) (ws := pre.reverse) (v := v) (fun hm => hn3 v (List.mem_reverse.1 hm) v (by simp) rfl)]
  have hco := colF_ok hG post.reverse ((List.reverse_perm _).nodup_iff.2 hn5) (fun u hu => (hmem u).1 (by rw [he]; simp [List.mem_reverse.1 hu]))
  have hlen := freeK_len G (colF G post.reverse) v (nearL G v)
  have hsum : sumL (fun m => if 0 ≤ colF G post.reverse m then cntS G (alw G v) (colF G post.reverse m) else 0) (nearL G v) ≤ sumL (mostS G v) ((nearL G v).filter fun m => decide (m ∉ pre)) := by
    rw [sumL_filter (p := fun m => decide (m ∉ pre))]
    · refine sumL_le fun m hm => ?_
      split
      · rename_i h0
        have hmn := (mem_nearL.1 (List.mem_filter.1 hm).1).1
        rcases hco.okc m hmn with e | e
        · omega
        · exact le_maxK e
      · exact Nat.zero_le _
    · intro m _ hp
      have hmp : m ∈ pre := by simpa using hp
      rw [hco.out m (fun hmr => hn3 m hmp m (by simp [List.mem_reverse.1 hmr]) rfl)]
      rfl
  have hne : freeS G (colF G post.reverse) v ≠ [] := by
    intro e
    unfold freeS at e
    rw [e] at hlen
    simp at hlen
    omega
  rcases pick_cases G (colF G post.reverse) v with hc | ⟨-, hc⟩
  · exact (mem_freeS.1 hc).1
  · exact absurd hc hne
end Go.Proofs.Ytinbfnabngdemaa
