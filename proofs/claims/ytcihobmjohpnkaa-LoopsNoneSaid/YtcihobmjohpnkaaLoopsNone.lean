/- 'LoopsNone': the walk. -/
import Derived.Test.YtcihobmjohpnkaaLoops16
namespace Go.Proofs.Ytcihobmjohpnkaa
open Go.RowKit Go.Sort

theorem depth_none {L : List (List InsD)} (h : headsS L = []) (k : Nat) : depthO L k = List.replicate L.length 0 := by
  refine List.ext_getElem (by simp [depthO]) fun j h1 h2 => ?_
  simp [depthO, depthK, h]

set_option maxRecDepth 100000 in
set_option maxHeartbeats 16000000 in
theorem loopsNone_c {u : Value} {ll : List (List Int)} (w : World) (h : IsRows (· < w.heap.size) w u ll) :
    Calls Try.prog 18 #[u] w fun e w' => e = .returned (.bool true) ∧ Below w.heap.size w w' := by
  obtain ⟨ba, bc, rfl, -, -⟩ := id h
  obtain ⟨n, Hn⟩ : ∃ n, Hid (ll.length = n) := ⟨_, (rfl : ll.length = _)⟩
  rw [Hn.out] at h
  rw [Hn.out]
  have HAL := hid_of (alive16_c w)
  have HKP : Hid (∀ W, Below w.heap.size w W → IsRows (· < W.heap.size) W (.slice ba n bc) ll) := fun W hW => h.keep (fun b hb hlt => ⟨Nat.lt_of_lt_of_le hb hW.size, hW.block b hlt⟩)
  clear h
  go_enter Try.func18, Try.ntmps18
  go_wp2_with fail
  refine HAL.out.mono ?_
  rintro e W ⟨rfl, hb⟩
  have HB := hid_of hb
  clear HAL
  by_cases ht2 : 60 < n
  · have d1 : decide ((n : Int) > 60) = true := by simp; omega
    have d1' : decide (60 < n) = true := by simp; omega
    clear ht2 hb
    go_wp2_with fail
    go_ret
    exact ⟨rfl, HB.out⟩
  have d1 : decide ((n : Int) > 60) = false := by simp; omega
  have d1' : decide (60 < n) = false := by simp; omega
  have hln : n ≤ 1000 := by omega
  have hK := HKP.out W hb
  have HK := hid_of hK
  clear ht2 hb
  go_wp2_with fail
  go_loop [4] (fun s4 => ∃ i : Nat, i ≤ n ∧ s4 = .int .i64 i ∧ Hid (∀ (j : Nat) (hj : j < ll.length), j < i → ∀ x ∈ ll[j], (j : Int) < x)) (fun s4 => n - (intOf s4).toNat)
  case atStart => exact ⟨0, by omega, rfl, fun j _ hj => by omega⟩
  case round =>
    obtain ⟨i, hi, rfl, HI⟩ := hrel
    by_cases hit : i < n
    · have hiL : i < ll.length := by rw [Hn.out]; exact hit
      obtain ⟨_, _, hv0, -, hx⟩ := id HK.out
      simp only [Value.slice.injEq] at hv0
      obtain ⟨rfl, -, rfl⟩ := hv0
      rcases hx with hx | ⟨pb, po, rfl, -, hx⟩
      · exfalso; rw [hx] at hiL; simp at hiL
      obtain ⟨v, e0, hv⟩ := hx i hiL
      rw [Nat.mul_one] at e0
      obtain ⟨ra, rc, rfl, ⟨-, hrl⟩, hrx⟩ := id hv
      obtain ⟨row, Hrow⟩ : ∃ row, Hid (ll[i] = row) := ⟨_, (rfl : ll[i] = _)⟩
      rw [Hrow.out] at e0 hrx hrl
      obtain ⟨rl, Hrl⟩ : ∃ rl, Hid (row.length = rl) := ⟨_, (rfl : row.length = _)⟩
      rw [Hrl.out] at e0 hrl
      have hi0 : (0 : Int) ≤ (i : Int) := by omega
      have hiz : (i : Int) < (n : Int) := by omega
      have HRX := hid_of hrx
      clear hx hv hrx
      go_wp2_with fail
      go_loop [5] (fun s5 => ∃ k : Nat, k ≤ rl ∧ s5 = .int .i64 k ∧ Hid (∀ x ∈ row.take k, (i : Int) < x)) (fun s5 => rl - (intOf s5).toNat)
      case atStart => exact ⟨0, by omega, rfl, fun x hx => by simp at hx⟩
      case round =>
        obtain ⟨k, hk, rfl, HK2⟩ := hrel
        by_cases hkt : k < rl
        · have hkr : k < row.length := by rw [Hrl.out]; exact hkt
          rcases HRX.out with hx | ⟨qb, qo, rfl, -, hx⟩
          · exfalso; rw [hx] at hkr; simp at hkr
          have e1 := hx k hkr
          unfold CInt at e1
          rw [Nat.mul_one] at e1
          obtain ⟨x, Hx⟩ : ∃ x, Hid (row[k] = x) := ⟨_, (rfl : row[k] = _)⟩
          rw [Hx.out] at e1
          have hk0 : (0 : Int) ≤ (k : Int) := by omega
          have hkz : (k : Int) < (rl : Int) := by omega
          clear hx
          by_cases hxi : x ≤ (i : Int)
          · have d3 : decide (x ≤ (i : Int)) = true := by simpa using hxi
            clear hxi
            go_wp2_with fail
            go_ret
            exact ⟨rfl, HB.out⟩
          · have d3 : decide (x ≤ (i : Int)) = false := by simpa using hxi
            have HK3 : Hid (∀ x ∈ row.take (k + 1), (i : Int) < x) := fun y hy => by
              rw [List.take_succ_eq_append_getElem hkr] at hy
              rcases List.mem_append.1 hy with hy | hy
              · exact HK2.out y hy
              · rw [List.mem_singleton, Hx.out] at hy; omega
            clear hxi
            go_wp2_with fail
            go_round
            case rel => exact ⟨k + 1, by omega, by go_num, HK3⟩
            case measure => simp [intOf]; omega
        · obtain rfl : k = rl := by omega
          have HI2 : Hid (∀ (j : Nat) (hj : j < ll.length), j < i + 1 → ∀ x ∈ ll[j], (j : Int) < x) := fun j hj hji x hx => by
            by_cases e : j = i
            · subst e
              rw [Hrow.out] at hx
              exact HK2.out x (by rw [List.take_of_length_le (by rw [Hrl.out]; exact Nat.le_refl _)]; exact hx)
            · exact HI.out j hj (by omega) x hx
          go_wp2_with fail
          go_round
          case rel => exact ⟨i + 1, by omega, by go_num, HI2⟩
          case measure => simp [intOf]; omega
    · obtain rfl : i = n := by omega
      have hnh : ∀ x, headB (flowS ll) x = false := no_heads fun j hj x hx => HI.out j hj (by rw [← Hn.out]; exact hj) x hx
      have HNH : Hid (headsS (flowS ll) = []) := headsS_nil hnh
      have hFl := flow_c W HK.out (by rw [Hn.out]; exact hln)
      have HFl := hid_of hFl
      have HFL : Hid ((flowS ll).length = i) := by show _ = _; rw [flow_len]; exact Hn.out
      clear hnh hFl
      go_wp2_with fail
      refine HFl.out.mono ?_
      rintro e W3 ⟨fu, rfl, hbl, hb3⟩
      obtain ⟨ua, uc, rfl, -, -⟩ := id hbl
      rw [HFL.out] at hbl ⊢
      have HKB := hid_of (fun X (hX : Below W3.heap.size W3 X) => hbl.keep (p' := (· < X.heap.size)) (fun b _ hlt => ⟨Nat.lt_of_lt_of_le hlt hX.size, hX.block b hlt⟩))
      have HDp := hid_of (depth_c W3 (HKB.out W3 (bel_refl W3)) hln)
      have Hb3 := hid_of (bel_call HB.out hb3)
      clear HFl hbl hb3
      go_wp2_with fail
      refine HDp.out.mono ?_
      rintro e W4 ⟨z, rfl, ho, hb4⟩
      rw [depth_none HNH.out, HFL.out] at ho
      have hi4 : IsInts (fun _ => True) W4 z (List.replicate i 0) := ints_of_owns (by rw [List.length_replicate]; exact ho) (by simp; omega) (fun _ _ _ _ => trivial)
      obtain ⟨za, zc, rfl, -, hzx⟩ := id hi4
      rw [List.length_replicate]
      have HZX := hid_of hzx
      have HH := hid_of (loopsHeads_c W4 (HKB.out W4 hb4) hln)
      have Hb4 := hid_of (bel_call Hb3.out hb4)
      clear HDp ho hi4 hzx hb4
      go_wp2_with fail
      go_loop [8] (fun s8 => ∃ k : Nat, k ≤ i ∧ s8 = .int .i64 k) (fun s8 => i - (intOf s8).toNat)
      case atStart => exact ⟨0, by omega, rfl⟩
      case round =>
        obtain ⟨k, hk, rfl⟩ := hrel
        by_cases hkt : k < i
        · rcases HZX.out with hx | ⟨qb, qo, rfl, -, hx⟩
          · exfalso
            have := congrArg List.length hx
            simp at this; omega
          have e1 := hx k (by rw [List.length_replicate]; exact hkt)
          unfold CInt at e1
          rw [Nat.mul_one, List.getElem_replicate] at e1
          have hk0 : (0 : Int) ≤ (k : Int) := by omega
          have hkz : (k : Int) < (i : Int) := by omega
          clear hx
          go_wp2_with fail
          go_round
          case rel => exact ⟨k + 1, by omega, by go_num⟩
          case measure => simp [intOf]; omega
        · obtain rfl : k = i := by omega
          go_wp2_with fail
          refine HH.out.mono ?_
          rintro e W5 ⟨z5, rfl, ho5, hb5⟩
          rw [HNH.out] at ho5
          obtain ⟨a5, c5, rfl, -⟩ := owns_slice ho5
          have Hb5 := hid_of (bel_call Hb4.out hb5)
          clear HH ho5 hb5
          go_wp2_with fail
          go_ret
          exact ⟨rfl, Hb5.out⟩
end Go.Proofs.Ytcihobmjohpnkaa
