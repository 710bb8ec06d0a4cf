/- Chains: the law's own way of telling the least cost; the solver at a chain. -/
import Derived.Test.YtdomnbgjafdnjaaPqEd
namespace Go.Proofs.Ytdomnbgjafdnjaa
open Go.RowKit Go.Maps Go.ChangeMaps

theorem solve_chain {p : Nat → Prop} (w : World) {na : Option Addr} {nl nc : Nat} {ea : Option Addr} {el ec : Nat} {N : List (List Int)} {Es : List EdgeD} (hp : ∀ b, p b → b < w.heap.size) (h : IsPq p w na nl nc ea el ec N Es) (hc : chkS N Es = 0) (hch : IsChain N Es) :
    Calls Try.prog 14 #[costsV na nl nc ea el ec] w fun e w' => ∃ lb, e = .returned (.tuple #[.slice (some ⟨lb, 0, none⟩) nl nl, .int .i64 (minV (dpS N Es (N.length - 1))), .int .i64 0]) ∧ Below w.heap.size w w' := by
  have hn := (sl_len h.nd).1
  have hs := solve_k w hp h hc (by have := hch.n0; omega) (chain_fresh hch) (by rw [hn]; exact chain_thin hch)
  refine hs.mono ?_
  rintro e w' ⟨lb, rfl, -, -, hb⟩
  rw [hn]
  refine ⟨lb, ?_, hb⟩
  rw [← chain_cost hch hc]
  rfl

/-- The matrices that the law builds. -/
def mkR (N : List (List Int)) (C : List Int) (i p : Nat) : List Int := (List.range (N.getD (i + 1) []).length).map fun q => C.getD ((7 * i + 3 * p + q) % C.length) 0
def mkM (N : List (List Int)) (C : List Int) (i : Nat) : List (List Int) := (List.range (N.getD i []).length).map (mkR N C i)
def mkE (N : List (List Int)) (C : List Int) : List EdgeD := (List.range (N.length - 1)).map fun (i : Nat) => ⟨(i : Int), ((i + 1 : Nat) : Int), mkM N C i⟩
theorem mkE_length (N : List (List Int)) (C : List Int) : (mkE N C).length = N.length - 1 := by simp [mkE]
theorem mkE_get {N : List (List Int)} {C : List Int} {i : Nat} (h : i < N.length - 1) : (mkE N C).getD i default = ⟨(i : Int), ((i + 1 : Nat) : Int), mkM N C i⟩ := by simp [mkE, List.getD, h]
theorem mkE_take {N : List (List Int)} {C : List Int} {i : Nat} (h : i < N.length - 1) : (mkE N C).take (i + 1) = (mkE N C).take i ++ [⟨(i : Int), ((i + 1 : Nat) : Int), mkM N C i⟩] := by
  rw [List.take_succ_eq_append_getElem (by rw [mkE_length]; exact h)]
  simp [mkE]
theorem mkM_length (N : List (List Int)) (C : List Int) (i : Nat) : (mkM N C i).length = (N.getD i []).length := by simp [mkM]
theorem mkM_get {N : List (List Int)} {C : List Int} {i p : Nat} (h : p < (N.getD i []).length) : (mkM N C i).getD p [] = mkR N C i p := by
  unfold mkM
  rw [List.getD_eq_getElem?_getD, List.getElem?_map, List.getElem?_range h]
  rfl
theorem mkR_length (N : List (List Int)) (C : List Int) (i p : Nat) : (mkR N C i p).length = (N.getD (i + 1) []).length := by simp [mkR]
theorem mkR_take {N : List (List Int)} {C : List Int} {i p q : Nat} (h : q < (N.getD (i + 1) []).length) : (mkR N C i p).take (q + 1) = (mkR N C i p).take q ++ [C.getD ((7 * i + 3 * p + q) % C.length) 0] := by
  rw [List.take_succ_eq_append_getElem (by rw [mkR_length]; exact h)]
  simp [mkR]
theorem mkE_chain {N : List (List Int)} (C : List Int) (h : 0 < N.length) : IsChain N (mkE N C) := ⟨h, by rw [mkE_length]; omega, fun i hi => by rw [mkE_get (by rwa [mkE_length] at hi)]; exact ⟨rfl, rfl⟩⟩

/-- The least that comes to a choice, by the first k choices ahead. -/
def lstP (B : List Int) (M : List (List Int)) (y : Int) (q : Nat) : Nat → Int
  | 0 => infC
  | k + 1 => if B.getD k 0 + (M.getD k []).getD q 0 + y < lstP B M y q k then B.getD k 0 + (M.getD k []).getD q 0 + y else lstP B M y q k
def bstS (N : List (List Int)) (Es : List EdgeD) : Nat → List Int
  | 0 => N.getD 0 []
  | j + 1 => (List.range (N.getD (j + 1) []).length).map fun q => lstP (bstS N Es j) (mtC Es j) ((N.getD (j + 1) []).getD q 0) q (bstS N Es j).length
def wntK (v : List Int) : Nat → Int
  | 0 => infC
  | k + 1 => if v.getD k 0 < wntK v k then v.getD k 0 else wntK v k
theorem leastK_succ (v : List Int) (k : Nat) : v.getD (leastK v (k + 1)) 0 = if v.getD k 0 < v.getD (leastK v k) 0 then v.getD k 0 else v.getD (leastK v k) 0 := by
  show v.getD (if v.getD k 0 < v.getD (leastK v k) 0 then k else leastK v k) 0 = _
  split <;> rfl
theorem wntK_eq {v : List Int} (hv : OkV v) (k : Nat) : wntK v (k + 1) = v.getD (leastK v (k + 1)) 0 := by
  induction k with
  | zero =>
    have h := hv 0
    rw [leastK_succ]
    show (if v.getD 0 0 < infC then v.getD 0 0 else infC) = if v.getD 0 0 < v.getD 0 0 then v.getD 0 0 else v.getD 0 0
    unfold infC
    split <;> split <;> omega
  | succ k ih =>
    show (if v.getD (k + 1) 0 < wntK v (k + 1) then v.getD (k + 1) 0 else wntK v (k + 1)) = _
    rw [ih, leastK_succ v (k + 1)]
theorem wnt_min {v : List Int} (hv : OkV v) (h0 : 0 < v.length) : wntK v v.length = minV v := by
  obtain ⟨k, hk⟩ : ∃ k, v.length = k + 1 := ⟨v.length - 1, by omega⟩
  unfold minV leastS
  rw [hk]
  exact wntK_eq hv k
theorem lstP_eq {B : List Int} {M : List (List Int)} {y : Int} {q n m : Nat} (hB : OkV B) (hl : B.length = n) (hM : OkM M n m) (hy : 0 ≤ y) (k : Nat) (hk : k + 1 ≤ n) : lstP B M y q (k + 1) = min (y + (addS B (colS M q)).getD (leastK (addS B (colS M q)) (k + 1)) 0) infC := by
  have hg : ∀ k, k < n → (addS B (colS M q)).getD k 0 = min (B.getD k 0 + (M.getD k []).getD q 0) infC := fun k hk => by
    rw [addS_get (by omega) (by rw [colS_length, hM.rows]; omega), colS_get (by rw [hM.rows]; omega)]
  induction k with
  | zero =>
    have h1 := hg 0 (by omega)
    have h2 := hB 0
    have h3 := hM.ok 0 q
    rw [leastK_succ]
    show (if B.getD 0 0 + (M.getD 0 []).getD q 0 + y < infC then B.getD 0 0 + (M.getD 0 []).getD q 0 + y else infC) = min (y + if (addS B (colS M q)).getD 0 0 < (addS B (colS M q)).getD 0 0 then (addS B (colS M q)).getD 0 0 else (addS B (colS M q)).getD 0 0) infC
    rw [h1]
    unfold infC
    split <;> split <;> omega
  | succ k ih =>
    have h1 := hg (k + 1) (by omega)
    have h2 := hB (k + 1)
    have h3 := hM.ok (k + 1) q
    show (if B.getD (k + 1) 0 + (M.getD (k + 1) []).getD q 0 + y < lstP B M y q (k + 1) then B.getD (k + 1) 0 + (M.getD (k + 1) []).getD q 0 + y else lstP B M y q (k + 1)) = _
    rw [ih (by omega), leastK_succ (addS B (colS M q)) (k + 1), h1]
    unfold infC
    split <;> split <;> omega
section
variable {N : List (List Int)} {Es : List EdgeD}
theorem bst_dp (h : IsChain N Es) (hc : chkS N Es = 0) {j : Nat} (hj : j < N.length) : bstS N Es j = dpS N Es j := by
  induction j with
  | zero => rfl
  | succ j ih =>
    have ih := ih (by omega)
    have hel := h.el
    have hO := chain_edge h hc (i := j) (by omega)
    have hl := dpS_length h (j := j)
    have hn := (chain_node hc hj).2.2
    have h0 := (chain_node hc (j := j) (by omega)).1
    show ((List.range (N.getD (j + 1) []).length).map fun q => lstP (bstS N Es j) (mtC Es j) ((N.getD (j + 1) []).getD q 0) q (bstS N Es j).length) = oneS (dpS N Es j) (mtC Es j) (N.getD (j + 1) [])
    rw [ih]
    unfold oneS oneK
    refine List.map_congr_left fun q hq => ?_
    rw [if_pos (List.mem_range.1 hq)]
    obtain ⟨k, hk⟩ : ∃ k, (dpS N Es j).length = k + 1 := ⟨(dpS N Es j).length - 1, by omega⟩
    rw [hk, lstP_eq (dpS_ok h hc (by omega)) hl hO (hn q).1 k (by omega)]
    unfold oneV minV leastS
    rw [addS_length (by rw [colS_length, hO.rows, hl]), hk]
theorem wnt_chain (h : IsChain N Es) (hc : chkS N Es = 0) : wntK (bstS N Es (N.length - 1)) (bstS N Es (N.length - 1)).length = minV (dpS N Es (N.length - 1)) := by
  have hn := h.n0
  rw [bst_dp h hc (by omega)]
  exact wnt_min (dpS_ok h hc (by omega)) (by rw [dpS_length h]; exact (chain_node hc (by omega)).1)
theorem bst_length (h : IsChain N Es) (hc : chkS N Es = 0) {j : Nat} (hj : j < N.length) : (bstS N Es j).length = (N.getD j []).length := by rw [bst_dp h hc hj, dpS_length h]
theorem bst_ok (h : IsChain N Es) (hc : chkS N Es = 0) {j : Nat} (hj : j < N.length) : OkV (bstS N Es j) := by rw [bst_dp h hc hj]; exact dpS_ok h hc hj
/-- What the innermost loop's numbers may be. -/
theorem lstP_ok {B : List Int} {M : List (List Int)} {y : Int} {q : Nat} (hB : OkV B) (hM : ∀ r, OkV (M.getD r [])) (hy : 0 ≤ y) (k : Nat) : 0 ≤ lstP B M y q k ∧ lstP B M y q k ≤ 1099511627776 := by
  induction k with
  | zero => show 0 ≤ infC ∧ infC ≤ _; unfold infC; omega
  | succ k ih =>
    have h2 := hB k
    have h3 := hM k q
    show 0 ≤ (if B.getD k 0 + (M.getD k []).getD q 0 + y < lstP B M y q k then B.getD k 0 + (M.getD k []).getD q 0 + y else lstP B M y q k) ∧ (if B.getD k 0 + (M.getD k []).getD q 0 + y < lstP B M y q k then B.getD k 0 + (M.getD k []).getD q 0 + y else lstP B M y q k) ≤ _
    split <;> omega
end
end Go.Proofs.Ytdomnbgjafdnjaa
