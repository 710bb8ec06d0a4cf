/- 'each': a set's numbers, as a range over a function tells them. -/
import Derived.Test.YtcihobmjohpnkaaEdges
import Derived.Test.YtcihobmjohpnkaaBitH
namespace Go.Proofs.Ytcihobmjohpnkaa
open Go.RowKit Go.Sort Go.Shelf

attribute [local go_sem] Oper.semAt_some

/-- The numbers below n, rising, as whole numbers. -/
def uptoI (ws : List Nat) (n : Nat) : List Int := (Bit.upto ws n).map fun (m : Nat) => (m : Int)
def listI (ws : List Nat) : List Int := uptoI ws (64 * ws.length)
theorem uptoI_succ (ws : List Nat) (n : Nat) : uptoI ws (n + 1) = uptoI ws n ++ if Bit.has ws n then [(n : Int)] else [] := by
  unfold uptoI; rw [Bit.upto_succ, List.map_append]; split <;> simp
theorem uptoI_mono (ws : List Nat) {n m : Nat} (h : n ≤ m) : (uptoI ws n).length ≤ (uptoI ws m).length := by
  induction m with
  | zero => have : n = 0 := by omega
            subst this; exact Nat.le_refl _
  | succ m ih =>
    by_cases e : n = m + 1
    · subst e; exact Nat.le_refl _
    · rw [uptoI_succ, List.length_append]; have := ih (by omega); omega
theorem uptoI_length (ws : List Nat) (n : Nat) : (uptoI ws n).length ≤ n := by
  unfold uptoI Bit.upto; rw [List.length_map]; exact Nat.le_trans (List.length_filter_le _ _) (by simp)

set_option maxRecDepth 100000 in
set_option maxHeartbeats 4000000 in
theorem each1_in (n : Nat) (hn : 1 ≤ n) (lp Bx Bo n₀ : Nat) (lv : Value) (ws : List Nat) (hl : ws.length ≤ 2000) (hok : Bit.Ok ws) (J Jx : List Int → World → Prop) (W : World) (_ : AbidesFrom W.heap.size J)
    (hY : ∀ pre x W, J pre W → pre.length < (listI ws).length → YieldAt Fence.wide (n - 1) Try.prog lp #[.int .i64 x] W fun e W' =>
      (e = .returned (.bool true) ∧ J (pre ++ [x]) W' ∧ KeepsBut n₀ Bo W W') ∨ (e = .returned (.bool false) ∧ Jx (pre ++ [x]) W'))
    (hBx : W.cell? ⟨Bx, 0, none⟩ = some lv) (_ : Prot Bo Bx W) (hgd : Good Bo W) (_ : n₀ ≤ W.heap.size) (hL : IsWords (· < n₀) W lv ws) (h0 : J [] W) :
    CallsIn Fence.wide n Try.prog 125 #[.func (.yield lp) #[] #[], .pointer (some ⟨Bx, 0, none⟩)] W fun e W' => (∃ v, e = .returned v) ∧
      ((∃ ys, ys = listI ws ∧ J ys W') ∨ (∃ pre, True ∧ Jx pre W')) := by
  obtain ⟨a, cap, rfl, -, -⟩ := id hL
  refine callsIn_of_wp Try.func125 rfl trivial ?_ rfl
  simp only [Try.ntmps125, List.size_toArray, List.length_cons, List.length_nil, Nat.reduceAdd, Nat.reduceSub, Array.replicate_succ, Array.replicate_zero, List.push_toArray, List.append_toArray, List.nil_append, List.cons_append]
  gi_wp2
  gi_loopw [3, 4, 5, 9] (fun s3 s4 s5 s9 wr => ∃ k : Nat, k ≤ ws.length ∧ s9 = .int .i64 k ∧ J (uptoI ws (64 * k)) wr ∧ KeepsBut n₀ Bo W wr ∧ Good Bo wr) (fun _ _ _ s9 _ => ws.length - (intOf s9).toNat)
  case atStart => exact ⟨0, by omega, rfl, h0, ⟨Below.refl _ _, fun _ _ _ _ h => h, fun _ _ h => h, fun h => h⟩, hgd⟩
  case round =>
    obtain ⟨k, hk, rfl, hJs, hKW, hG⟩ := hrel
    by_cases hlt : k < ws.length
    · obtain ⟨_, _, hv0, -, hx⟩ := hL.keep (Keep.belowB hKW.below)
      simp only [Value.slice.injEq, true_and] at hv0
      obtain ⟨rfl, rfl⟩ := hv0
      rcases hx with rfl | ⟨sb, so, rfl, hpb, hx⟩
      · simp at hlt
      have t0 := hx k hlt
      simp only [CWord, Nat.mul_one] at t0
      clear hx
      have hx64 := Bit.getD_lt hok k
      have hgx : ws.getD k 0 = ws[k] := by simp [List.getD, hlt]
      have hbit : ∀ j, j < 64 → Bit.has ws (64 * k + j) = ws[k].testBit j := fun j hj => by
        unfold Bit.has
        have e1 : (64 * k + j) / 64 = k := by omega
        have e2 : (64 * k + j) % 64 = j := by omega
        rw [e1, e2, hgx]
      rw [hgx] at hx64
      clear hgx
      have hk2 : k ≤ 2000 := by omega
      generalize ws[k] = x at t0 hx64 hbit
      gi_wp2
      gi_loopw [5, 14] (fun s5 s14 wx => ∃ j : Nat, j ≤ 64 ∧ s14 = .int .i64 j ∧ J (uptoI ws (64 * k + j)) wx ∧ KeepsBut n₀ Bo W wx ∧ Good Bo wx) (fun _ s14 _ => 64 - (intOf s14).toNat)
      case atStart => exact ⟨0, by omega, rfl, hJs, hKW, hG⟩
      case round =>
        obtain ⟨j, hj, rfl, hJm, hKm, hGm⟩ := hrel
        clear hJs hKW hG t0
        by_cases hj64 : j < 64
        · have hb := hbit j hj64
          have hS := uptoI_succ ws (64 * k + j)
          rw [hb] at hS
          by_cases ht : x.testBit j = true
          · have hw : (bits .and .u64 ((x : Int) / 2 ^ j) 1 != 0) = true := by rw [word_bit hx64]; exact ht
            rw [ht, if_pos rfl] at hS
            have hlen : (uptoI ws (64 * k + j)).length < (listI ws).length := by
              have h1 := uptoI_mono ws (show 64 * k + j + 1 ≤ 64 * ws.length by omega)
              rw [hS, List.length_append] at h1
              unfold listI; simp at h1; omega
            obtain ⟨fn, tmps, assign, body, hy, hR⟩ := hY _ (((64 * k + j : Nat)) : Int) wr hJm hlen
            have hcast : (((64 * k + j : Nat)) : Int) = (k : Int) * 64 + j := by omega
            rw [hcast] at hy hR hS
            have HS : Hid (uptoI ws (64 * k + j + 1) = uptoI ws (64 * k + j) ++ [(k : Int) * 64 + j]) := hS
            clear hS hlen hJm hb ht hcast
            gi_wp2
            refine hR.mono ?_
            clear hR hy
            rintro e W3 (⟨rfl, hJ3, hk3⟩ | ⟨rfl, hJx3⟩)
            · have hK3 := hKm.trans hk3
              have hG3 := hk3.good hGm
              rw [← HS.out] at hJ3
              clear hk3 hKm hGm
              gi_wp2
              go_roundw
              case rel => exact ⟨j + 1, by omega, by go_num, hJ3, hK3, hG3⟩
              case measure => simp [intOf]; omega
            · gi_wp2
              refine bodyPost_ret (results_none rfl _ _ _) rfl ?_
              exact ⟨⟨_, rfl⟩, .inr ⟨_, trivial, hJx3⟩⟩
          · have ht' : x.testBit j = false := by simpa using ht
            have hw : (bits .and .u64 ((x : Int) / 2 ^ j) 1 != 0) = false := by rw [word_bit hx64]; exact ht'
            rw [ht', if_neg (by simp), List.append_nil] at hS
            have HS : Hid (uptoI ws (64 * k + j + 1) = uptoI ws (64 * k + j)) := hS
            clear hS hb ht ht'
            gi_wp2
            refine ⟨fun f h => (by cases h), ?_⟩
            gi_wp2
            go_roundw
            case rel => exact ⟨j + 1, by omega, by go_num, by rw [← Nat.add_assoc, HS.out]; exact hJm, hKm, hGm⟩
            case measure => simp [intOf]; omega
        · have hje : j = 64 := by omega
          subst hje
          gi_wp2
          go_roundw
          case rel => exact ⟨k + 1, by omega, by go_num, by rw [Nat.mul_add]; exact hJm, hKm, hGm⟩
          case measure => simp [intOf]; omega
    · obtain rfl : k = ws.length := by omega
      gi_wp2
      go_end0
      exact ⟨⟨_, rfl⟩, .inl ⟨_, rfl, hJs⟩⟩
end Go.Proofs.Ytcihobmjohpnkaa
