/- The general solver in plain Lean: a least choice of what is left behind 'take' makes a least choice of all. -/
import Derived.Test.YtdomnbgjafdnjaaPgP
namespace Go.Proofs.Ytdomnbgjafdnjaa
open Go.RowKit Go.Maps

/-- The problem that is left. -/
def apS (S : PS) (cs : Nat → Nat) (n : Nat) : AP := { nv := fun v k => if v < n then (S.nodes v).getD k 0 else 0, ne := fun a b i j => if S.gone a = false ∧ S.gone b = false then mget S a b i j else 0, c := cs }
def alS (S : PS) (n : Nat) : List Nat := (List.range n).filter fun v => !S.gone v
def chF (l : List Int) (v : Nat) : Nat := (l.getD v 0).toNat
/-- None of what is left costs less. -/
def OptS (S : PS) (cs : Nat → Nat) (n : Nat) (l : List Int) : Prop := (apS S cs n).Opt (alS S n) (chF l)
section
variable {cs : Nat → Nat} {n k : Nat} {S S' : PS}
theorem mem_alS {x : Nat} : x ∈ alS S n ↔ x < n ∧ S.gone x = false := by unfold alS; rw [List.mem_filter, List.mem_range]; simp
theorem alS_nodup (S : PS) (n : Nat) : (alS S n).Nodup := List.nodup_range.filter _
theorem apS_ok (hO : OkS cs n S) (hw : WfS n S) : (apS S cs n).Ok := by
  refine ⟨fun v q => ?_, fun a b i j => ?_, fun a b i j => ?_⟩
  · simp only [apS]
    split
    · rename_i h; exact ((hO.nd v h).2 q).1
    · exact Int.le_refl _
  · simp only [apS]
    split
    · rename_i h
      unfold mget
      cases hM : S.near a b with
      | none => simp
      | some M =>
        obtain ⟨h1, h2⟩ := hw.rg a b h.1 (by rw [hM]; simp)
        exact ((hO.ed a b M h1 h2 hM).ok i j).1
    · exact Int.le_refl _
  · simp only [apS]
    by_cases h : S.gone a = false ∧ S.gone b = false
    · rw [if_pos h, if_pos ⟨h.2, h.1⟩]; exact hw.sy a b i j h.1 h.2
    · rw [if_neg h, if_neg (fun e => h ⟨e.2, e.1⟩)]
theorem leastK_min (v : List Int) : ∀ i j, j < i → v.getD (leastK v i) 0 ≤ v.getD j 0
  | 0, j, h => by omega
  | i + 1, j, h => by
    unfold leastK
    split
    · rename_i h1
      by_cases e : j = i
      · rw [e]; exact Int.le_refl _
      · have := leastK_min v i j (by omega); omega
    · rename_i h1
      by_cases e : j = i
      · rw [e]; omega
      · exact leastK_min v i j (by omega)
theorem leastS_min {v : List Int} {j : Nat} (h : j < v.length) : v.getD (leastS v) 0 ≤ v.getD j 0 := leastK_min v _ j h
theorem addS_at {xs ys : List Int} {q : Nat} (h1 : q < xs.length) (h2 : q < ys.length) : (addS xs ys).getD q 0 = capZ (xs.getD q 0 + ys.getD q 0) := by
  have h3 : q < (List.zipWith (fun a b => min (a + b) infC) xs ys).length := by simp; omega
  unfold addS capZ
  rw [List.getD_eq_getElem?_getD, List.getElem?_eq_getElem h3]
  simp [List.getD, h1, h2, infC, infZ]
theorem colS_at {M : List (List Int)} {n m : Nat} (_ : OkM M n m) (q r : Nat) : (colS M q).getD r 0 = (M.getD r []).getD q 0 := by
  unfold colS
  rw [List.getD_eq_getElem?_getD, List.getElem?_map, List.getD_eq_getElem?_getD (l := M)]
  cases M[r]? <;> rfl
theorem opt_look {P : AP} {vs : List Nat} {f g : Nat → Nat} (h : ∀ u ∈ vs, g u = f u) (ho : P.Opt vs f) : P.Opt vs g :=
  ⟨fun u hu => by rw [h u hu]; exact ho.1 u hu, fun q hq => by rw [cost_look h]; exact ho.2 q hq⟩
theorem opt_perm {P : AP} (hk : P.Ok) {vs ws : List Nat} {f : Nat → Nat} (h : vs.Perm ws) (ho : P.Opt vs f) : P.Opt ws f :=
  ⟨fun u hu => ho.1 u (h.symm.subset hu), fun q hq => by rw [← cost_perm hk h, ← cost_perm hk h]; exact ho.2 q (fun u hu => hq u (h.subset hu))⟩
theorem opt_congr {P P' : AP} {vs : List Nat} {f : Nat → Nat} (hc : ∀ u ∈ vs, P'.c u = P.c u) (h1 : ∀ u ∈ vs, ∀ k, P'.nv u k = P.nv u k) (h2 : ∀ x ∈ vs, ∀ y ∈ vs, ∀ i j, P'.ne x y i j = P.ne x y i j) (ho : P'.Opt vs f) : P.Opt vs f :=
  ⟨fun u hu => by rw [← hc u hu]; exact ho.1 u hu, fun q hq => by rw [← cost_congr h1 h2, ← cost_congr h1 h2]; exact ho.2 q (fun u hu => by rw [hc u hu]; exact hq u hu)⟩
theorem alS_perm (hk : k < n) (hg : S.gone k = false) (hg' : S'.gone = (S.out k).gone) : (k :: alS S' n).Perm (alS S n) := by
  have h1 : k ∉ alS S' n := fun h => by
    have := (mem_alS.1 h).2
    rw [hg'] at this
    exact (out_gone this).1 rfl
  refine (List.perm_ext_iff_of_nodup (List.nodup_cons.2 ⟨h1, alS_nodup _ _⟩) (alS_nodup _ _)).2 fun x => ?_
  rw [List.mem_cons, mem_alS, mem_alS, hg']
  by_cases e : x = k
  · subst e; simp [hk, hg]
  · simp [PS.out, e]
/-- One neighbour more or fewer: none is near. -/
theorem ne_zero {u : Nat} (hu : u < n) (hn : (u : Int) ∉ nsS S n k) (i j : Nat) : (apS S cs n).ne k u i j = 0 := by
  simp only [apS]
  split
  · unfold mget
    have : S.near k u = none := by
      cases h : S.near k u with
      | none => rfl
      | some M => exact absurd (mem_nsS.2 ⟨by omega, by rw [Int.toNat_natCast, h]; rfl⟩) hn
    rw [this]; simp
  · rfl
/-- What node k chooses behind. -/
def pick (S : PS) (n k : Nat) (l : List Int) : Nat := leastS (accS (fun m => (S.near k m.toNat).getD []) l (S.nodes k) (nsS S n k))
theorem take_opt (hO : OkS cs n S) (hw : WfS n S) (hO' : OkS cs n S') (hw' : WfS n S') (hk : k < n) (hg : S.gone k = false) (hc : TkC S cs n k S') {l : List Int} (hl : l.length = n) (h : OptS S' cs n l) : OptS S cs n (l.set k (pick S n k l : Nat)) := by
  have hgn := (hc.like hw hg).gn
  refine opt_perm (apS_ok hO hw) (alS_perm hk hg hgn) ?_
  have hvs : ∀ u ∈ alS S' n, u < n ∧ u ≠ k ∧ S.gone u = false ∧ S'.gone u = false := fun u hu => by
    obtain ⟨h1, h2⟩ := mem_alS.1 hu
    have h3 := h2
    rw [hgn] at h3
    exact ⟨h1, (out_gone h3).1, (out_gone h3).2, h2⟩
  have hfk : chF (l.set k (pick S n k l : Nat)) k = pick S n k l := by
    unfold chF
    rw [List.getD_eq_getElem?_getD, List.getElem?_set, if_pos rfl, if_pos (by omega)]
    simp
  have hfo : ∀ u, u ≠ k → chF (l.set k (pick S n k l : Nat)) u = chF l u := fun u hu => by
    unfold chF
    rw [List.getD_eq_getElem?_getD, List.getElem?_set, if_neg (Ne.symm hu), ← List.getD_eq_getElem?_getD]
  have h2 := opt_look (g := chF (l.set k (pick S n k l : Nat))) (fun u hu => hfo u (hvs u hu).2.1) h
  obtain ⟨f, Hf⟩ : ∃ f, Hid (chF (l.set k (pick S n k l : Nat)) = f) := ⟨_, (rfl : chF (l.set k (pick S n k l : Nat)) = _)⟩
  rw [Hf.out] at hfk h2 ⊢
  have hfl : ∀ u, u ≠ k → f u = chF l u := fun u hu => by rw [← Hf.out]; exact hfo u hu
  have hxl := (hO.nd k hk).1
  have hxo := (hO.nd k hk).2
  have hcp := hO.ps k hk
  have hnvk : ∀ q, (apS S cs n).nv k q = (S.nodes k).getD q 0 := fun q => by simp [apS, hk]
  have hds := dropS_same k (nsS S n k) S
  have hdn : ∀ x y, y ≠ k → (dropS S k (nsS S n k)).near x y = S.near x y := fun x y hy => dropS_gone k x y _ S hy
  have hnek : ∀ {a : Nat} {M : List (List Int)}, S.gone a = false → S.near k a = some M → ∀ i j, (apS S cs n).ne k a i j = (M.getD i []).getD j 0 := fun ha hM i j => by
    simp only [apS]
    rw [if_pos ⟨hg, ha⟩]
    unfold mget
    rw [hM]; rfl
  have hPc : pick S n k l = leastS (accS (fun m => (S.near k m.toNat).getD []) l (S.nodes k) (nsS S n k)) := rfl
  cases hc with
  | none hns =>
    rw [hns] at hPc
    refine opt_none (apS_ok hO hw) (fun u hu i j => ne_zero (hvs u hu).1 (by rw [hns]; simp) i j) ?_ (fun q hq => ?_) (opt_congr (P' := apS ((dropS S k (nsS S n k)).out k) cs n) (fun _ _ => rfl) (fun u hu q => ?_) (fun x hx y hy i j => ?_) h2)
    · rw [hfk, hPc]
      show _ < cs k
      rw [← hxl]
      exact leastS_lt (by simp [accS]; omega)
    · rw [hnvk, hnvk, hfk, hPc]
      exact leastS_min (show q < (S.nodes k).length by rw [hxl]; exact hq)
    · simp only [apS, PS.out, hds.2.1]
    · have e1 := hvs x hx
      have e2 := hvs y hy
      simp only [apS]
      rw [if_pos ⟨e1.2.2.2, e2.2.2.2⟩, if_pos ⟨e1.2.2.1, e2.2.2.1⟩]
      unfold mget
      simp only [PS.out]
      rw [hdn x y e2.2.1]
  | one a M hns hM =>
    rw [hns] at hPc
    have hma : (a : Int) ∈ nsS S n k := by rw [hns]; simp
    have han := (mem_nsS.1 hma).1
    have hga := hw.ns hg hma
    simp only [Int.toNat_natCast] at hga
    have hOM := hO.ed k a M hk (by omega) hM
    have hya := hO.nd a (by omega)
    have hal : a ∈ alS (((dropS S k (nsS S n k)).out k).vec a (oneS (S.nodes k) M (S.nodes a))) n := mem_alS.2 ⟨by omega, by
      show ((dropS S k (nsS S n k)).out k).gone a = false
      simp only [PS.out, hds.1]
      rw [if_neg hga.2]; exact hga.1⟩
    have hcl : ∀ q, (colS M q).length = cs k := fun q => by rw [colS_length, hOM.rows]
    have hal2 : ∀ q, (addS (S.nodes k) (colS M q)).length = cs k := fun q => by rw [addS_length (by rw [hcl, hxl]), hxl]
    have hsum : ∀ q j, j < cs k → (addS (S.nodes k) (colS M q)).getD j 0 = capZ ((apS S cs n).nv k j + (apS S cs n).ne k a j q) := fun q j hj => by
      rw [addS_at (by omega) (by rw [hcl]; exact hj), colS_at hOM, hnvk, hnek hga.1 hM]
    have htl : ∀ q, leastS (addS (S.nodes k) (colS M q)) < cs k := fun q => by
      have := leastS_lt (v := addS (S.nodes k) (colS M q)) (by rw [hal2]; exact hcp)
      rw [hal2] at this; exact this
    refine opt_one (P' := apS (((dropS S k (nsS S n k)).out k).vec a (oneS (S.nodes k) M (S.nodes a))) cs n) (a := a) (t := fun q => leastS (addS (S.nodes k) (colS M q))) (apS_ok hO hw) (apS_ok hO' hw') (alS_nodup _ _) hal (fun u hu hne i j => ne_zero (hvs u hu).1 (by rw [hns]; simp; omega) i j) (fun _ _ => rfl) (fun u hu hne q => ?_) (fun x hx y hy i j => ?_) (fun q hq => ?_) (fun q hq => ⟨htl q, fun j hj => ?_⟩) ?_ h2
    · simp only [apS, PS.vec, PS.out, hds.2.1]
      rw [if_neg hne]
    · have e1 := hvs x hx
      have e2 := hvs y hy
      simp only [apS]
      rw [if_pos ⟨e1.2.2.2, e2.2.2.2⟩, if_pos ⟨e1.2.2.1, e2.2.2.1⟩]
      unfold mget
      simp only [PS.vec, PS.out]
      rw [hdn x y e2.2.1]
    · have hq2 : q < (S.nodes a).length := by rw [hya.1]; exact hq
      have e3 : (apS (((dropS S k (nsS S n k)).out k).vec a (oneS (S.nodes k) M (S.nodes a))) cs n).nv a q = (oneS (S.nodes k) M (S.nodes a)).getD q 0 := by
        have h9 : a < n := by omega
        simp [apS, PS.vec, h9]
      have e4 : (apS S cs n).nv a q = (S.nodes a).getD q 0 := by simp only [apS]; rw [if_pos (by omega)]
      rw [e3, e4, ← hsum q _ (htl q)]
      unfold oneS oneK
      rw [List.getD_eq_getElem?_getD, List.getElem?_map, List.getElem?_range hq2]
      simp only [Option.map_some, Option.getD_some]
      rw [if_pos hq2]
      rfl
    · rw [← hsum q _ (htl q), ← hsum q j hj]
      exact leastS_min (by rw [hal2]; exact hj)
    · rw [hfk, hPc, hfl a hga.2]
      simp [accS, hM, chF]
  | two a b MA MB hns hA hB =>
    rw [hns] at hPc
    have hma : (a : Int) ∈ nsS S n k := by rw [hns]; simp
    have hmb : (b : Int) ∈ nsS S n k := by rw [hns]; simp
    have han := (mem_nsS.1 hma).1
    have hbn := (mem_nsS.1 hmb).1
    have hga := hw.ns hg hma
    have hgb := hw.ns hg hmb
    have hnd := nsS_nodup S n k
    rw [hns] at hnd
    have hab : a ≠ b := by intro e; subst e; simp at hnd
    simp only [Int.toNat_natCast] at hga hgb
    have hOA := hO.ed k a MA hk (by omega) hA
    have hOB := hO.ed k b MB hk (by omega) hB
    obtain ⟨M', HM'⟩ : ∃ M', Hid (sumJ ((dropS S k (nsS S n k)).out k) a b (cs a) (twoM (S.nodes k) MA MB (cs a) (cs b)) = M') := ⟨_, (rfl : sumJ ((dropS S k (nsS S n k)).out k) a b (cs a) (twoM (S.nodes k) MA MB (cs a) (cs b)) = _)⟩
    rw [HM'.out] at hO' hw' hgn h h2 hvs ⊢
    have hal : ∀ u, u < n → S.gone u = false → u ≠ k → u ∈ alS (((dropS S k (nsS S n k)).out k).edge a b (cs b) M') n := fun u hu h1 h3 => mem_alS.2 ⟨hu, by
      show ((dropS S k (nsS S n k)).out k).gone u = false
      simp only [PS.out, hds.1]
      rw [if_neg h3]; exact h1⟩
    have hcA : ∀ q, (colS MA q).length = cs k := fun q => by rw [colS_length, hOA.rows]
    have hcB : ∀ q, (colS MB q).length = cs k := fun q => by rw [colS_length, hOB.rows]
    have hlA : ∀ q, (addS (S.nodes k) (colS MA q)).length = cs k := fun q => by rw [addS_length (by rw [hcA, hxl]), hxl]
    have hlv : ∀ i j, (vecTw (S.nodes k) MA MB i j).length = cs k := fun i j => by unfold vecTw; rw [addS_length (by rw [hlA, hcB]), hlA]
    have hsum : ∀ i j q, q < cs k → (vecTw (S.nodes k) MA MB i j).getD q 0 = capZ ((apS S cs n).nv k q + (apS S cs n).ne k a q i + (apS S cs n).ne k b q j) := fun i j q hq => by
      unfold vecTw
      have h5 := ((hOB.ok q) j).1
      rw [addS_at (by rw [hlA]; exact hq) (by rw [hcB]; exact hq), addS_at (by omega) (by rw [hcA]; exact hq), colS_at hOA, colS_at hOB, hnvk, hnek hga.1 hA, hnek hgb.1 hB, Int.add_comm, capZ_add h5]
      congr 1
      omega
    have htl : ∀ i j, leastS (vecTw (S.nodes k) MA MB i j) < cs k := fun i j => by
      have := leastS_lt (v := vecTw (S.nodes k) MA MB i j) (by rw [hlv]; exact hcp)
      rw [hlv] at this; exact this
    refine opt_two (P' := apS (((dropS S k (nsS S n k)).out k).edge a b (cs b) M') cs n) (a := a) (b := b) (t := fun i j => leastS (vecTw (S.nodes k) MA MB i j)) (apS_ok hO hw) (apS_ok hO' hw') (alS_nodup _ _) (hal a (by omega) hga.1 hga.2) (hal b (by omega) hgb.1 hgb.2) hab
      (fun u hu hne hne2 i j => ne_zero (hvs u hu).1 (by rw [hns]; simp; omega) i j) (fun _ _ => rfl) (fun u hu q => ?_) (fun x hx y hy hn1 hn2 i j => ?_) (fun i j hi hj => ?_) (fun i j hi hj => ⟨htl i j, fun q hq => ?_⟩) ?_ h2
    · simp only [apS, PS.edge, PS.out, hds.2.1]
    · have e1 := hvs x hx
      have e2 := hvs y hy
      simp only [apS]
      rw [if_pos ⟨e1.2.2.2, e2.2.2.2⟩, if_pos ⟨e1.2.2.1, e2.2.2.1⟩]
      unfold mget
      simp only [PS.edge, PS.out]
      rw [if_neg hn1, if_neg hn2, hdn x y e2.2.1]
    · replace hi : i < cs a := hi
      replace hj : j < cs b := hj
      have e3 : (apS (((dropS S k (nsS S n k)).out k).edge a b (cs b) M') cs n).ne a b i j = (M'.getD i []).getD j 0 := by
        have e1 := hvs a (hal a (by omega) hga.1 hga.2)
        have e2 := hvs b (hal b (by omega) hgb.1 hgb.2)
        simp only [apS]
        rw [if_pos ⟨e1.2.2.2, e2.2.2.2⟩]
        unfold mget
        simp only [PS.edge]
        rw [if_pos ⟨trivial, trivial⟩]; rfl
      have e4 : (apS S cs n).ne a b i j = mget S a b i j := by simp only [apS]; rw [if_pos ⟨hga.1, hgb.1⟩]
      have hT : ((twoM (S.nodes k) MA MB (cs a) (cs b)).getD i []).getD j 0 = (vecTw (S.nodes k) MA MB i j).getD (leastS (vecTw (S.nodes k) MA MB i j)) 0 := by
        rw [twoM_get hi]
        unfold rowTw
        rw [List.getD_eq_getElem?_getD, List.getElem?_map, List.getElem?_range hj]
        rfl
      rw [e3, e4, ← hsum i j _ (htl i j), ← hT, ← HM'.out]
      unfold sumJ mget
      have e5 : ((dropS S k (nsS S n k)).out k).near a b = S.near a b := hdn a b hgb.2
      rw [e5]
      have hTo := twoM_ok hxo hOA hOB
      cases hab2 : S.near a b with
      | none =>
        have h6 := hTo.ok i j
        simp only [Option.getD_none, List.getD_nil]
        unfold capZ infZ
        omega
      | some O =>
        have hOO := hO.ed a b O (by omega) (by omega) hab2
        simp only [Option.getD_some]
        unfold addMS
        rw [addMK_get hi, if_pos hi, addS_at (by rw [hOO.cols i hi]; exact hj) (by rw [hTo.cols i hi]; exact hj)]
    · rw [← hsum i j _ (htl i j), ← hsum i j q hq]
      exact leastS_min (by rw [hlv]; exact hq)
    · rw [hfk, hPc, hfl a hga.2, hfl b hgb.2]
      simp [accS, hA, hB, chF, vecTw]
end
end Go.Proofs.Ytdomnbgjafdnjaa
