/- A row of nodes, each unlike the one ahead: what it costs; in plain Lean. -/
import Derived.Test.YtdomnbgjafdnjaaPqCp
namespace Go.Proofs.Ytdomnbgjafdnjaa
open Go.RowKit Go.Maps Go.ChangeMaps

def nvN (n k : Nat) : List (List Int) := List.replicate n (List.replicate k 0)
def nvR (k p : Nat) : List Int := (List.replicate k 0).set p 1099511627776
def nvM (k : Nat) : List (List Int) := (List.range k).map (nvR k)
def nvE (n k : Nat) : List EdgeD := (List.range (n - 1)).map fun (i : Nat) => ⟨(i : Int), ((i + 1 : Nat) : Int), nvM k⟩
theorem nvN_length (n k : Nat) : (nvN n k).length = n := by simp [nvN]
theorem nvN_get {n k j : Nat} (h : j < n) : (nvN n k).getD j [] = List.replicate k 0 := by simp [nvN, List.getD, h]
theorem nvM_length (k : Nat) : (nvM k).length = k := by simp [nvM]
theorem nvM_get {k p : Nat} (h : p < k) : (nvM k).getD p [] = nvR k p := by simp [nvM, List.getD, h]
theorem nvR_length (k p : Nat) : (nvR k p).length = k := by simp [nvR]
theorem nvE_length (n k : Nat) : (nvE n k).length = n - 1 := by simp [nvE]
theorem nvE_get {n k i : Nat} (h : i < n - 1) : (nvE n k).getD i default = ⟨(i : Int), ((i + 1 : Nat) : Int), nvM k⟩ := by simp [nvE, List.getD, h]
theorem nvE_take {n k i : Nat} (h : i < n - 1) : (nvE n k).take (i + 1) = (nvE n k).take i ++ [⟨(i : Int), ((i + 1 : Nat) : Int), nvM k⟩] := by
  rw [List.take_succ_eq_append_getElem (by rw [nvE_length]; exact h)]
  simp [nvE]
theorem nv_chain {n k : Nat} (h : 0 < n) : IsChain (nvN n k) (nvE n k) := ⟨by rw [nvN_length]; exact h, by rw [nvE_length, nvN_length]; omega, fun i hi => by rw [nvE_get (by rwa [nvE_length] at hi)]; exact ⟨rfl, rfl⟩⟩
theorem nvR_mem {k p : Nat} {x : Int} (h : x ∈ nvR k p) : x = 0 ∨ x = 1099511627776 := by
  rcases List.mem_or_eq_of_mem_set h with h | h
  · exact .inl (List.mem_replicate.1 h).2
  · exact .inr h
theorem nv_chk {n k : Nat} (hn : n ≤ 30) (hk : 1 ≤ k ∧ k ≤ 6) : chkS (nvN n k) (nvE n k) = 0 := by
  unfold chkS
  rw [if_neg, if_pos, if_pos]
  · rw [List.all_eq_true]
    intro e he
    obtain ⟨i, hi, rfl⟩ := List.mem_map.1 he
    have hi := List.mem_range.1 hi
    unfold edgeB
    rw [Bool.and_eq_true]
    refine ⟨endsB_iff.2 ⟨by simp only; omega, by simp only; omega, by simp only [nvN_length]; omega, by simp only [nvN_length]; omega, by simp only; omega, ?_⟩, ?_⟩
    · simp only [Int.toNat_natCast]
      rw [nvN_get (by omega), nvM_length, List.length_replicate]
    · rw [List.all_eq_true]
      intro r hr
      obtain ⟨p, hp, rfl⟩ := List.mem_map.1 hr
      have hl : ((nvN n k).getD (((i + 1 : Nat) : Int)).toNat []).length = k := by rw [Int.toNat_natCast, nvN_get (by omega), List.length_replicate]
      show rowB ((nvN n k).getD (((i + 1 : Nat) : Int)).toNat []).length _ = true
      rw [hl]
      unfold rowB costsB
      rw [Bool.and_eq_true, decide_eq_true_eq, nvR_length, List.all_eq_true]
      refine ⟨rfl, fun x hx => ?_⟩
      unfold okC infC
      rcases nvR_mem hx with rfl | rfl <;> decide
  · rw [List.all_eq_true]
    intro x hx
    obtain ⟨-, rfl⟩ := List.mem_replicate.1 hx
    unfold nodeB costsB
    rw [Bool.and_eq_true, decide_eq_true_eq, List.all_eq_true, List.length_replicate]
    refine ⟨by omega, fun y hy => ?_⟩
    obtain ⟨-, rfl⟩ := List.mem_replicate.1 hy
    decide
  · rw [nvN_length, nvE_length]
    simp only [Bool.or_eq_true, decide_eq_true_eq, List.any_eq_true, not_or, not_exists, not_and]
    refine ⟨by omega, fun x hx => ?_⟩
    obtain ⟨-, rfl⟩ := List.mem_replicate.1 hx
    unfold longB
    rw [List.length_replicate]
    simp
    omega
theorem nv_one {k : Nat} (hk : 2 ≤ k ∧ k ≤ 6) : oneS (List.replicate k 0) (nvM k) (List.replicate k 0) = List.replicate k 0 := by
  have : k = 2 ∨ k = 3 ∨ k = 4 ∨ k = 5 ∨ k = 6 := by omega
  rcases this with rfl | rfl | rfl | rfl | rfl <;> decide
theorem nv_min {k : Nat} (hk : 1 ≤ k ∧ k ≤ 6) : minV (List.replicate k 0) = 0 := by
  have : k = 1 ∨ k = 2 ∨ k = 3 ∨ k = 4 ∨ k = 5 ∨ k = 6 := by omega
  rcases this with rfl | rfl | rfl | rfl | rfl | rfl <;> decide
theorem nv_mt {n k j : Nat} (h : j < n - 1) : mtC (nvE n k) j = nvM k := by unfold mtC; rw [nvE_get h]
theorem nv_dp {n k : Nat} (hk : 2 ≤ k ∧ k ≤ 6) (j : Nat) (hj : j < n) : dpS (nvN n k) (nvE n k) j = List.replicate k 0 := by
  induction j with
  | zero => exact nvN_get hj
  | succ j ih =>
    show oneS (dpS (nvN n k) (nvE n k) j) (mtC (nvE n k) j) ((nvN n k).getD (j + 1) []) = _
    rw [ih (by omega), nv_mt (by omega), nvN_get hj, nv_one hk]
theorem nv_dp1 {n : Nat} (j : Nat) (hj : j < n) : dpS (nvN n 1) (nvE n 1) j = if j = 0 then [0] else [1099511627776] := by
  induction j with
  | zero => exact nvN_get hj
  | succ j ih =>
    show oneS (dpS (nvN n 1) (nvE n 1) j) (mtC (nvE n 1) j) ((nvN n 1).getD (j + 1) []) = _
    rw [ih (by omega), nv_mt (by omega), nvN_get hj, if_neg (by omega : ¬ j + 1 = 0)]
    split <;> decide
theorem nv_cost {n k : Nat} (hn : 1 ≤ n) (hk : 1 ≤ k ∧ k ≤ 6) : minV (dpS (nvN n k) (nvE n k) ((nvN n k).length - 1)) = if k = 1 ∧ 1 < n then 1099511627776 else 0 := by
  rw [nvN_length]
  by_cases h1 : k = 1
  · subst h1
    rw [nv_dp1 (n - 1) (by omega)]
    by_cases h2 : 1 < n
    · rw [if_neg (by omega), if_pos ⟨rfl, h2⟩]; decide
    · rw [if_pos (by omega), if_neg (by omega)]; decide
  · rw [nv_dp (by omega) (n - 1) (by omega), nv_min hk, if_neg (by omega)]

theorem infoInts1 : (Try.prog.info? 26).map (fun i => (i.zero, i.size, i.bytes)) = some (some (.slice none 0 0), 1, 24) := by kernel_rfl
/-- What the loop that builds the problem keeps: i nodes and j edges. -/
def NvB (w : World) (cb n k i j : Nat) (W : World) : Prop :=
  ∃ (Zn Z : Nat → Prop) (na : Option Addr) (nc : Nat) (vn : List Value) (ea : Option Addr) (ec : Nat) (ve : List Value), Row W cb 25 [.slice na i nc, .slice ea j ec] ∧ RwS 26 (cb + 1) Zn (nvN n k) (.slice na i nc) vn W ∧ vn.length = i ∧ EdS (cb + 1) Z ((nvE n k).take j) (.slice ea j ec) ve W ∧
    (∀ b, Zn b → cb + 1 ≤ b ∧ b < W.heap.size) ∧ (∀ b, Z b → cb + 1 ≤ b ∧ b < W.heap.size) ∧ (∀ b, Zn b → ¬ Z b) ∧ w.heap.size ≤ cb ∧ Below w.heap.size w W
/-- What the loop that builds a matrix keeps. -/
def NvM (W0 : World) (xb : Nat) (a b : Int) (M : List (List Int)) (p : Nat) (W : World) : Prop :=
  ∃ (Z : Nat → Prop) (ma : Option Addr) (mc : Nat) (vs : List Value), Row W xb 32 [.int .i64 a, .int .i64 b, .slice ma p mc] ∧ RwS 26 (xb + 1) Z M (.slice ma p mc) vs W ∧ vs.length = p ∧ (∀ b, Z b → xb + 1 ≤ b ∧ b < W.heap.size) ∧ Below W0.heap.size W0 W
theorem NvB.start (w W : World) {n k : Nat} (hr : Row W w.heap.size 25 [.slice none 0 0, .slice none 0 0]) (hb : Below w.heap.size w W) (cb : Nat) (hc : w.heap.size = cb) : NvB w cb n k 0 0 W := by
  subst hc
  exact ⟨fun _ => False, fun _ => False, none, 0, [], none, 0, [], hr, RwS.nil _ _ _ _ _, rfl, by rw [List.take_zero]; exact EdS.nil _ _ _, fun _ h => absurd h id, fun _ h => absurd h id, fun _ h => absurd h id, Nat.le_refl _, hb⟩
/-- A node more. -/
theorem NvB.node {w W Y w1 : World} {cb n k i j : Nat} {na : Option Addr} {nc : Nat} {ea : Option Addr} {ec : Nat} {vn ve : List Value} {Zn Z : Nat → Prop}
    (hr : Row W cb 25 [.slice na i nc, .slice ea j ec]) (hRw : RwS 26 (cb + 1) Zn (nvN n k) (.slice na i nc) vn W) (hvl : vn.length = i) (hE : EdS (cb + 1) Z ((nvE n k).take j) (.slice ea j ec) ve W)
    (hZn : ∀ b, Zn b → cb + 1 ≤ b ∧ b < W.heap.size) (hZ : ∀ b, Z b → cb + 1 ≤ b ∧ b < W.heap.size) (hd : ∀ b, Zn b → ¬ Z b) (hcb : w.heap.size ≤ cb) (hbl : Below w.heap.size w W)
    (hi : i < n) (hY : Below W.heap.size W Y) {ua : Option Addr} {uc g cap : Nat} (hu : IsInts (fun b => W.heap.size ≤ b ∧ b < Y.heap.size) Y (.slice ua k uc) (List.replicate k 0))
    (ho : w1.ownsRow (cb + 1) 26 1 (.slice (some ⟨g, 0, none⟩) (i + 1) cap) (i + 1) (vn ++ [.slice ua k uc])) (hg : Y.grownBy w1 (Value.slice na i nc).ownBlock) (hat : (Value.slice na i nc).ownBlock = some g ∨ g = Y.heap.size) :
    w1.cell? ⟨cb, 0, none⟩ = some (.slice na i nc) ∧ w1.frozen? ⟨cb, 0, none⟩ = false ∧ NvB w cb n k (i + 1) j (w1.setCell ⟨cb, 0, none⟩ (.slice (some ⟨g, 0, none⟩) (i + 1) cap)) := by
  have hub := fun b => hRw.ow.lt b
  have hcl := hr.lt
  have hys := hY.size
  have hgs := hg.size
  have hr1 : Row w1 cb 25 [.slice na i nc, .slice ea j ec] := (hr.keep (hY.block cb hcl)).keep (hg.block cb (by omega) (fun e => by have := (hub _ e.symm).1; omega))
  have hgd : (nvN n k).getD vn.length [] = List.replicate k 0 := by rw [hvl, nvN_get hi]
  have hps := hRw.push (Y := Y) (w1 := w1) (v' := .slice (some ⟨g, 0, none⟩) (i + 1) cap) (u := .slice ua k uc) (fun b hb => (hZn b hb).2) hY (ua := ua) (uc := uc) (by rw [hgd, List.length_replicate]) (by rw [hgd]; exact hu) (by rw [List.length_append, hvl]; exact ho) hg (hat.imp (fun e => e.symm) (fun e => ⟨g, rfl, by omega⟩))
  refine ⟨hr1.cell rfl, hr1.frozen 0, _, Z, _, cap, _, ea, ec, ve, hr1.set 0 _, hps.keep fun b hb _ => Below.heap_setCell _ _ _ _ (fun e => ?_), by simp [hvl], hE.keep fun b hb hlt => ?_, fun b hb => ?_, fun b hb => ?_, fun b hb hz => ?_, hcb, ?_⟩
  · have e : b = cb := e
    rcases hb with hb | hb
    · have := hZn b hb; omega
    · omega
  · refine (Below.heap_setCell _ _ _ _ (fun e => ?_)).trans ((hg.block b (by omega) (fun e => ?_)).trans (hY.block b hlt))
    · have e : b = cb := e
      have := hZ b hb; omega
    · exact hd b (hRw.oz b e.symm) hb
  · simp only [World.size_setCell]
    rcases hb with hb | hb
    · have := hZn b hb; omega
    · omega
  · simp only [World.size_setCell]
    have := hZ b hb; omega
  · rcases hb with hb | hb
    · exact hd b hb hz
    · have := hZ b hz; omega
  · exact (bel_grown (bel_call hbl hY) hg (fun b e => by have := (hub b e).1; omega)).setCell hcb _
end Go.Proofs.Ytdomnbgjafdnjaa
