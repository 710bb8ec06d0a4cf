/- 'cost.Weight' and the reference's. -/
import Derived.Test.YtcihobmjohpnkaaLoopsE
namespace Go.Proofs.Ytcihobmjohpnkaa
open Go.RowKit Go.Sort

/-- What an instruction counts at a depth. -/
def wtS (d : Int) : Nat := 10 ^ min 6 d.toNat
theorem wtS_le (d : Int) : 1 ≤ wtS d ∧ wtS d ≤ 1000000 := by
  unfold wtS
  exact ⟨Nat.one_le_pow _ _ (by decide), Nat.le_trans (Nat.pow_le_pow_right (by decide) (Nat.min_le_left 6 _)) (by decide)⟩
theorem ten_le {j m : Nat} (h : j < m) (hm : m ≤ 6) : 10 ^ j ≤ 100000 := Nat.le_trans (Nat.pow_le_pow_right (by decide) (show j ≤ 5 by omega)) (by decide)

set_option maxRecDepth 100000 in
theorem weight_c (w : World) (d : Int) : Calls Try.prog 68 #[.int .i64 d] w fun e w' => e = .returned (.int .i64 (wtS d : Nat)) ∧ w' = w := by
  obtain ⟨m, Hm⟩ : ∃ m, Hid (min 6 d.toNat = m) := ⟨_, (rfl : min 6 d.toNat = _)⟩
  have hm6 : m ≤ 6 := by rw [← Hm.out]; exact Nat.min_le_left _ _
  have HW : Hid (wtS d = 10 ^ m) := by show _ = _; unfold wtS; rw [Hm.out]
  have hmx : min (max 0 d) 6 = (m : Int) := by have := Hm.out; omega
  go_enter Try.func68, Try.ntmps68
  go_wp2_with fail
  clear hmx
  go_loop [3, 7] (fun s3 s7 => ∃ j p : Nat, j ≤ m ∧ s7 = .int .i64 j ∧ s3 = .int .i64 p ∧ Hid (10 ^ j = p)) (fun _ s7 => m - (intOf s7).toNat)
  case atStart => exact ⟨0, 1, by omega, rfl, rfl, by show _ = _; rfl⟩
  case round =>
    obtain ⟨j, p, hj, rfl, rfl, HP⟩ := hrel
    by_cases hjt : j < m
    · have hp : p ≤ 100000 := by rw [← HP.out]; exact ten_le hjt hm6
      have hpz : (p : Int) ≤ 100000 := by omega
      have hp0 : (0 : Int) ≤ (p : Int) := by omega
      have hjz : (j : Int) < (m : Int) := by omega
      have HP2 : Hid (10 ^ (j + 1) = p * 10) := by show _ = _; rw [Nat.pow_succ, HP.out]
      go_wp2_with fail
      go_round
      case rel => exact ⟨j + 1, p * 10, by omega, by go_num, by go_num, HP2⟩
      case measure => simp [intOf]; omega
    · obtain rfl : j = m := by omega
      go_wp2_with fail
      go_ret
      exact ⟨by rw [HW.out, HP.out]; rfl, rfl⟩

set_option maxRecDepth 100000 in
theorem weightR_c (w : World) (d : Int) : Calls Try.prog 69 #[.int .i64 d] w fun e w' => e = .returned (.int .i64 (wtS d : Nat)) ∧ w' = w := by
  obtain ⟨m, Hm⟩ : ∃ m, Hid (min 6 d.toNat = m) := ⟨_, (rfl : min 6 d.toNat = _)⟩
  have hm6 : m ≤ 6 := by rw [← Hm.out]; exact Nat.min_le_left _ _
  have HW : Hid (wtS d = 10 ^ m) := by show _ = _; unfold wtS; rw [Hm.out]
  go_enter Try.func69, Try.ntmps69
  go_wp2_with fail
  go_loop [3, 4] (fun s3 s4 => ∃ j p : Nat, j ≤ m ∧ s4 = .int .i64 j ∧ s3 = .int .i64 p ∧ Hid (10 ^ j = p)) (fun _ s4 => m - (intOf s4).toNat)
  case atStart => exact ⟨0, 1, by omega, rfl, rfl, by show _ = _; rfl⟩
  case round =>
    obtain ⟨j, p, hj, rfl, rfl, HP⟩ := hrel
    by_cases hjt : j < m
    · have hp : p ≤ 100000 := by rw [← HP.out]; exact ten_le hjt hm6
      have hpz : (p : Int) ≤ 100000 := by omega
      have hp0 : (0 : Int) ≤ (p : Int) := by omega
      have d1 : decide ((j : Int) < d) = true := by have := Hm.out; simp; omega
      have d2 : decide ((j : Int) < 6) = true := by simp; omega
      have d2' : decide (j < 6) = true := by simp; omega
      have hj6 : (j : Int) ≤ 6 := by omega
      have HP2 : Hid (10 ^ (j + 1) = p * 10) := by show _ = _; rw [Nat.pow_succ, HP.out]
      go_wp2_with fail
      go_round
      case rel => exact ⟨j + 1, p * 10, by omega, by go_num, by go_num, HP2⟩
      case measure => simp [intOf]; omega
    · obtain rfl : j = m := by omega
      by_cases hd : (j : Int) < d
      · have d1 : decide ((j : Int) < d) = true := by simpa using hd
        have d2 : decide ((j : Int) < 6) = false := by have := Hm.out; simp; omega
        have d2' : decide (j < 6) = false := by have := Hm.out; simp; omega
        clear hd
        go_wp2_with fail
        go_ret
        exact ⟨by rw [HW.out, HP.out]; rfl, rfl⟩
      · have d1 : decide ((j : Int) < d) = false := by simpa using hd
        clear hd
        go_wp2_with fail
        go_ret
        exact ⟨by rw [HW.out, HP.out]; rfl, rfl⟩

/-- What the registers cost, when one is counted. -/
def cost1 (wt : Nat) (O : List Int) (v : Int) : List Int := if 0 ≤ v ∧ v < O.length then O.set v.toNat (min (O.getD v.toNat 0 + (wt : Int)) 1099511627776) else O
/-- The registers that an instruction names. -/
def regsS (i : InsD) : List Int := usesS i ++ [defS i]
def costI (wt : Nat) (O : List Int) (i : InsD) : List Int := (regsS i).foldl (cost1 wt) O
def costB (wt : Nat) (O : List Int) (b : List InsD) : List Int := b.foldl (costI wt) O
/-- The weight of block b. -/
def wtB (L : List (List InsD)) (b : Nat) : Nat := wtS (depthK L (headsS L).length b : Nat)
def costK (nv : Nat) (L : List (List InsD)) (k : Nat) : List Int := (List.range k).foldl (fun O b => costB (wtB L b) O (L.getD b [])) (List.replicate nv 0)
def costS (nv : Nat) (L : List (List InsD)) : List Int := costK nv L L.length
theorem cost1_length (wt : Nat) (O : List Int) (v : Int) : (cost1 wt O v).length = O.length := by unfold cost1; split <;> simp
theorem fold_length {α : Type} (f : List Int → α → List Int) (hf : ∀ O x, (f O x).length = O.length) (xs : List α) : ∀ O, (xs.foldl f O).length = O.length := by
  induction xs with
  | nil => intro O; rfl
  | cons x xs ih => intro O; rw [List.foldl_cons, ih, hf]
theorem costI_length (wt : Nat) (O : List Int) (i : InsD) : (costI wt O i).length = O.length := fold_length _ (cost1_length wt) _ O
theorem costB_length (wt : Nat) (O : List Int) (b : List InsD) : (costB wt O b).length = O.length := fold_length _ (costI_length wt) _ O
theorem costK_length (nv : Nat) (L : List (List InsD)) (k : Nat) : (costK nv L k).length = nv := by
  unfold costK
  rw [fold_length (fun O b => costB (wtB L b) O (L.getD b [])) (fun O b => costB_length _ _ _)]
  simp
/-- All costs are between 0 and the greatest. -/
def OkC (O : List Int) : Prop := ∀ j : Nat, 0 ≤ O.getD j 0 ∧ O.getD j 0 ≤ 1099511627776
theorem cost1_ok {wt : Nat} {O : List Int} (h : OkC O) (v : Int) : OkC (cost1 wt O v) := by
  unfold cost1
  split
  · intro j
    rw [List.getD_eq_getElem?_getD, List.getElem?_set]
    have := h j
    have h2 := h v.toNat
    split
    · split
      · simp only [Option.getD_some]; omega
      · rename_i hh; simp
    · rw [← List.getD_eq_getElem?_getD]; exact this
  · exact h
theorem fold_ok {α : Type} (f : List Int → α → List Int) (hf : ∀ O x, OkC O → OkC (f O x)) (xs : List α) : ∀ O, OkC O → OkC (xs.foldl f O) := by
  induction xs with
  | nil => intro O h; exact h
  | cons x xs ih => intro O h; exact ih _ (hf _ _ h)
theorem costI_ok {wt : Nat} {O : List Int} (h : OkC O) (i : InsD) : OkC (costI wt O i) := fold_ok _ (fun _ _ h => cost1_ok h _) _ O h
theorem costB_ok {wt : Nat} {O : List Int} (h : OkC O) (b : List InsD) : OkC (costB wt O b) := fold_ok _ (fun _ _ h => costI_ok h _) _ O h
theorem zeros_ok (nv : Nat) : OkC (List.replicate nv 0) := fun j => by
  rw [List.getD_eq_getElem?_getD, List.getElem?_replicate]
  split <;> simp
theorem costK_ok (nv : Nat) (L : List (List InsD)) (k : Nat) : OkC (costK nv L k) := fold_ok _ (fun _ _ h => costB_ok h _) _ _ (zeros_ok nv)
theorem costK_succ (nv : Nat) (L : List (List InsD)) (k : Nat) : costK nv L (k + 1) = costB (wtB L k) (costK nv L k) (L.getD k []) := by unfold costK; rw [List.range_succ, List.foldl_append]; rfl
theorem costB_take {wt : Nat} {O : List Int} {b : List InsD} {k : Nat} (h : k < b.length) : costB wt O (b.take (k + 1)) = costI wt (costB wt O (b.take k)) b[k] := by unfold costB; rw [List.take_succ_eq_append_getElem h, List.foldl_append]; rfl
theorem costI_take {wt : Nat} {O : List Int} {rs : List Int} {k : Nat} (h : k < rs.length) : (rs.take (k + 1)).foldl (cost1 wt) O = cost1 wt ((rs.take k).foldl (cost1 wt) O) rs[k] := by rw [List.take_succ_eq_append_getElem h, List.foldl_append]; rfl
end Go.Proofs.Ytcihobmjohpnkaa
