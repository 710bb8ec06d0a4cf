/- Chains: what the chosen ones cost is the least of the last node's. -/
import Derived.Test.YtdomnbgjafdnjaaPqCh
namespace Go.Proofs.Ytdomnbgjafdnjaa
open Go.RowKit Go.Maps Go.ChangeMaps

theorem getD_map_range {f : Nat → Int} {n k : Nat} (hk : k < n) : ((List.range n).map f).getD k 0 = f k := by simp [List.getD, hk]
theorem oneS_get {xs ys : List Int} {E : List (List Int)} {q : Nat} (hq : q < ys.length) : (oneS xs E ys).getD q 0 = oneV xs E (ys.getD q 0) q := by
  unfold oneS oneK
  rw [getD_map_range hq, if_pos hq]
theorem addS_get {xs ys : List Int} {k : Nat} (h1 : k < xs.length) (h2 : k < ys.length) : (addS xs ys).getD k 0 = min (xs.getD k 0 + ys.getD k 0) infC := by
  unfold addS
  simp [List.getD, List.getElem?_zipWith, h1, h2]
theorem colS_get {M : List (List Int)} {q k : Nat} (h : k < M.length) : (colS M q).getD k 0 = (M.getD k []).getD q 0 := by
  simp [colS, List.getD, h]
section
variable {N : List (List Int)} {Es : List EdgeD}
theorem dpS_length (_h : IsChain N Es) {j : Nat} : (dpS N Es j).length = (N.getD j []).length := by
  cases j with
  | zero => rfl
  | succ j => unfold dpS oneS; rw [oneK_length]
theorem chain_edge (h : IsChain N Es) (hc : chkS N Es = 0) {i : Nat} (hi : i < Es.length) : OkM (mtC Es i) (N.getD i []).length (N.getD (i + 1) []).length := by
  obtain ⟨-, -, -, hE⟩ := chk_ok hc
  obtain ⟨e1, e2⟩ := h.ed i hi
  obtain ⟨-, -, -, hO⟩ := edge_ok (hE _ (mem_getD (d := default) hi))
  rw [e1, e2] at hO
  simp only [Int.toNat_natCast] at hO
  exact hO
theorem chain_node (hc : chkS N Es = 0) {j : Nat} (hj : j < N.length) : 0 < (N.getD j []).length ∧ (N.getD j []).length ≤ 32 ∧ OkV (N.getD j []) := by
  obtain ⟨-, -, hn, -⟩ := chk_ok hc
  have h1 := hn _ (mem_getD (d := []) hj)
  refine ⟨by omega, h1.1, fun q => ?_⟩
  by_cases hq : q < (N.getD j []).length
  · exact h1.2.2 _ (mem_getD hq)
  · rw [List.getD_eq_getElem?_getD, List.getElem?_eq_none (by omega)]; simp
theorem dpS_ok (h : IsChain N Es) (hc : chkS N Es = 0) {j : Nat} (hj : j < N.length) : OkV (dpS N Es j) := by
  induction j with
  | zero => exact (chain_node hc hj).2.2
  | succ j ih =>
    have hel := h.el
    exact oneS_ok (chain_edge h hc (by omega)) (ih (by omega)) (chain_node hc hj).2.2
theorem lC_length : (lC N Es).length = N.length := choS_length _ _ _
theorem lC_in (h : IsChain N Es) (hc : chkS N Es = 0) {j : Nat} (hj : j < N.length) : 0 ≤ (lC N Es).getD j 0 ∧ (lC N Es).getD j 0 < (N.getD j []).length := by
  rw [lC_get h hj]
  have h0 := (chain_node hc hj).1
  have hl := dpS_length h (j := j)
  have hel := h.el
  refine ⟨by omega, ?_⟩
  by_cases hlt : j + 1 < N.length
  · rw [if_pos hlt]
    have h2 : (addS (dpS N Es j) (colS (mtC Es j) ((lC N Es).getD (j + 1) 0).toNat)).length = (N.getD j []).length := by
      rw [addS_length (by rw [colS_length, hl, (chain_edge h hc (by omega)).rows]), hl]
    have := leastS_lt (v := addS (dpS N Es j) (colS (mtC Es j) ((lC N Es).getD (j + 1) 0).toNat)) (by omega)
    omega
  · rw [if_neg hlt]
    have := leastS_lt (v := dpS N Es j) (by omega)
    omega
theorem chain_pre (h : IsChain N Es) (hc : chkS N Es = 0) {j : Nat} (hj : j < N.length) :
    (dpS N Es j).getD ((lC N Es).getD j 0).toNat 0 = min (nSum N (lC N Es) (j + 1) + eSum Es (lC N Es) j) infC ∧ 0 ≤ nSum N (lC N Es) (j + 1) + eSum Es (lC N Es) j := by
  have hel := h.el
  induction j with
  | zero =>
    have hin := lC_in h hc hj
    have hok := (chain_node hc hj).2.2 ((lC N Es).getD 0 0).toNat
    show (N.getD 0 []).getD _ 0 = min (0 + nT N (lC N Es) 0 + 0) infC ∧ 0 ≤ 0 + nT N (lC N Es) 0 + 0
    unfold nT infC
    omega
  | succ j ih =>
    obtain ⟨ih1, ih2⟩ := ih (by omega)
    have hin := lC_in h hc hj
    have hin0 := lC_in h hc (j := j) (by omega)
    have hl := dpS_length h (j := j)
    have hO := chain_edge h hc (i := j) (by omega)
    have hok := (chain_node hc hj).2.2 ((lC N Es).getD (j + 1) 0).toNat
    obtain ⟨e1, e2⟩ := h.ed j (by omega)
    have hlc := lC_get h (j := j) (by omega)
    rw [if_pos hj] at hlc
    obtain ⟨q, hq⟩ : ∃ q : Nat, (lC N Es).getD (j + 1) 0 = (q : Int) := ⟨((lC N Es).getD (j + 1) 0).toNat, by omega⟩
    obtain ⟨r, hr⟩ : ∃ r : Nat, (lC N Es).getD j 0 = (r : Int) := ⟨((lC N Es).getD j 0).toNat, by omega⟩
    have hnq : nT N (lC N Es) (j + 1) = (N.getD (j + 1) []).getD q 0 := by unfold nT; rw [hq, Int.toNat_natCast]
    have heq : eT (lC N Es) (Es.getD j default) = ((mtC Es j).getD r []).getD q 0 := by
      unfold eT
      rw [e1, e2]
      simp only [Int.toNat_natCast]
      rw [hr, hq]
      simp only [Int.toNat_natCast]
      rfl
    have hmo := hO.ok r q
    rw [hq] at hin hok hlc ⊢
    rw [hr] at hin0 hlc ih1
    simp only [Int.toNat_natCast] at hok hlc ih1 ⊢
    have hrl : leastS (addS (dpS N Es j) (colS (mtC Es j) q)) = r := by omega
    have hv : minV (addS (dpS N Es j) (colS (mtC Es j) q)) = min ((dpS N Es j).getD r 0 + ((mtC Es j).getD r []).getD q 0) infC := by
      unfold minV
      rw [hrl, addS_get (by omega) (by rw [colS_length, hO.rows]; omega), colS_get (by rw [hO.rows]; omega)]
    have hd : (dpS N Es (j + 1)).getD q 0 = min ((N.getD (j + 1) []).getD q 0 + min ((dpS N Es j).getD r 0 + ((mtC Es j).getD r []).getD q 0) infC) infC := by
      show (oneS (dpS N Es j) (mtC Es j) (N.getD (j + 1) [])).getD q 0 = _
      rw [oneS_get (by omega)]
      unfold oneV
      rw [hv]
    have hs : nSum N (lC N Es) (j + 1 + 1) + eSum Es (lC N Es) (j + 1) = (nSum N (lC N Es) (j + 1) + eSum Es (lC N Es) j) + (N.getD (j + 1) []).getD q 0 + ((mtC Es j).getD r []).getD q 0 := by
      show (nSum N (lC N Es) (j + 1) + nT N (lC N Es) (j + 1)) + (eSum Es (lC N Es) j + eT (lC N Es) (Es.getD j default)) = _
      rw [hnq, heq]
      omega
    rw [hd, hs, ih1]
    unfold infC at *
    omega
theorem chain_cost (h : IsChain N Es) (hc : chkS N Es = 0) : costP N Es (lC N Es) = minV (dpS N Es (N.length - 1)) := by
  have hn := h.n0
  have hel := h.el
  unfold costP
  rw [if_neg (by rw [lC_length]; simp [hc]), lC_length, if_pos (by
    unfold allIn
    rw [List.all_eq_true]
    intro j hj
    have := lC_in h hc (List.mem_range.1 hj)
    unfold inB
    simp only [Bool.and_eq_true, decide_eq_true_eq]
    exact this)]
  have hp := (chain_pre h hc (j := N.length - 1) (by omega)).1
  rw [show N.length - 1 + 1 = N.length by omega] at hp
  rw [show Es.length = N.length - 1 by omega, ← hp]
  unfold minV
  rw [lC_get h (by omega), if_neg (by omega), Int.toNat_natCast]
end
end Go.Proofs.Ytdomnbgjafdnjaa
