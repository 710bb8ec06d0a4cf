/- 'each' of a set whose words are anywhere that the body leaves alone. -/
import Derived.Test.YtcihobmjohpnkaaBitL
namespace Go.Proofs.Ytcihobmjohpnkaa
open Go.RowKit Go.Sort Go.Shelf

attribute [local go_sem] Oper.semAt_some

set_option maxRecDepth 100000 in
set_option maxHeartbeats 4000000 in
theorem each3_in (n : Nat) (hn : 1 ≤ n) (lp Bx Bo n₀ : Nat) (lv : Value) (ws : List Nat) (hl : ws.length ≤ 2000) (hok : Bit.Ok ws) (J Jx : List Int → World → Prop) (W : World)
    (hY : ∀ pre x W, J pre W → pre ++ [x] <+: listI ws → YieldAt Fence.wide (n - 1) Try.prog lp #[.int .i64 x] W fun e W' =>
      (e = .returned (.bool true) ∧ J (pre ++ [x]) W' ∧ KeepsBut n₀ Bo W W') ∨ (e = .returned (.bool false) ∧ Jx (pre ++ [x]) W'))
    (hBx : W.cell? ⟨Bx, 0, none⟩ = some lv) (_ : Prot Bo Bx W) (hgd : Good Bo W) (_ : n₀ ≤ W.heap.size) (hL : ∀ W', KeepsBut n₀ Bo W W' → IsWords (fun _ => True) W' lv ws) (h0 : J [] W) :
    CallsIn Fence.wide n Try.prog 125 #[.func (.yield lp) #[] #[], .pointer (some ⟨Bx, 0, none⟩)] W fun e W' => (∃ v, e = .returned v) ∧
      ((∃ ys, ys = listI ws ∧ J ys W') ∨ (∃ pre, True ∧ Jx pre W')) := by
  obtain ⟨a, cap, rfl, -, -⟩ := id (hL W ⟨Below.refl _ _, fun _ _ _ _ h => h, fun _ _ h => h, fun h => h⟩)
  refine callsIn_of_wp Try.func125 rfl trivial ?_ rfl
  simp only [Try.ntmps125, List.size_toArray, List.length_cons, List.length_nil, Nat.reduceAdd, Nat.reduceSub, Array.replicate_succ, Array.replicate_zero, List.push_toArray, List.append_toArray, List.nil_append, List.cons_append]
  gi_wp2
  gi_loopw [3, 4, 5, 9] (fun s3 s4 s5 s9 wr => ∃ k : Nat, k ≤ ws.length ∧ s9 = .int .i64 k ∧ J (uptoI ws (64 * k)) wr ∧ KeepsBut n₀ Bo W wr ∧ Good Bo wr) (fun _ _ _ s9 _ => ws.length - (intOf s9).toNat)
  case atStart => exact ⟨0, by omega, rfl, h0, ⟨Below.refl _ _, fun _ _ _ _ h => h, fun _ _ h => h, fun h => h⟩, hgd⟩
  case round =>
    obtain ⟨k, hk, rfl, hJs, hKW, hG⟩ := hrel
    by_cases hlt : k < ws.length
    · obtain ⟨_, _, hv0, -, hx⟩ := hL wr hKW
      simp only [Value.slice.injEq, true_and] at hv0
      obtain ⟨rfl, rfl⟩ := hv0
      rcases hx with rfl | ⟨sb, so, rfl, hpb, hx⟩
      · simp at hlt
      have t0 := hx k hlt
      simp only [CWord, Nat.mul_one] at t0
      clear hx
      have hx64 := Bit.getD_lt hok k
      have hgx : ws.getD k 0 = ws[k] := by simp [List.getD, hlt]
      have hbit : ∀ j, j < 64 → Bit.has ws (64 * k + j) = ws[k].testBit j := fun j hj => by
        unfold Bit.has
        have e1 : (64 * k + j) / 64 = k := by omega
        have e2 : (64 * k + j) % 64 = j := by omega
        rw [e1, e2, hgx]
      rw [hgx] at hx64
      clear hgx
      have hk2 : k ≤ 2000 := by omega
      generalize ws[k] = x at t0 hx64 hbit
      gi_wp2
      gi_loopw [5, 14] (fun s5 s14 wx => ∃ j : Nat, j ≤ 64 ∧ s14 = .int .i64 j ∧ J (uptoI ws (64 * k + j)) wx ∧ KeepsBut n₀ Bo W wx ∧ Good Bo wx) (fun _ s14 _ => 64 - (intOf s14).toNat)
      case atStart => exact ⟨0, by omega, rfl, hJs, hKW, hG⟩
      case round =>
        obtain ⟨j, hj, rfl, hJm, hKm, hGm⟩ := hrel
        clear hJs hKW hG t0
        by_cases hj64 : j < 64
        · have hb := hbit j hj64
          have hS := uptoI_succ ws (64 * k + j)
          rw [hb] at hS
          by_cases ht : x.testBit j = true
          · have hw : (bits .and .u64 ((x : Int) / 2 ^ j) 1 != 0) = true := by rw [word_bit hx64]; exact ht
            rw [ht, if_pos rfl] at hS
            have hlen : uptoI ws (64 * k + j) ++ [(((64 * k + j : Nat)) : Int)] <+: listI ws := by
              have h1 := uptoI_pre ws (show 64 * k + j + 1 ≤ 64 * ws.length by omega)
              rw [hS] at h1
              exact h1
            obtain ⟨fn, tmps, assign, body, hy, hR⟩ := hY _ (((64 * k + j : Nat)) : Int) wr hJm hlen
            have hcast : (((64 * k + j : Nat)) : Int) = (k : Int) * 64 + j := by omega
            rw [hcast] at hy hR hS
            have HS : Hid (uptoI ws (64 * k + j + 1) = uptoI ws (64 * k + j) ++ [(k : Int) * 64 + j]) := hS
            clear hS hlen hJm hb ht hcast
            gi_wp2
            refine hR.mono ?_
            clear hR hy
            rintro e W3 (⟨rfl, hJ3, hk3⟩ | ⟨rfl, hJx3⟩)
            · have hK3 := hKm.trans hk3
              have hG3 := hk3.good hGm
              rw [← HS.out] at hJ3
              clear hk3 hKm hGm
              gi_wp2
              go_roundw
              case rel => exact ⟨j + 1, by omega, by go_num, hJ3, hK3, hG3⟩
              case measure => simp [intOf]; omega
            · gi_wp2
              refine bodyPost_ret (results_none rfl _ _ _) rfl ?_
              exact ⟨⟨_, rfl⟩, .inr ⟨_, trivial, hJx3⟩⟩
          · have ht' : x.testBit j = false := by simpa using ht
            have hw : (bits .and .u64 ((x : Int) / 2 ^ j) 1 != 0) = false := by rw [word_bit hx64]; exact ht'
            rw [ht', if_neg (by simp), List.append_nil] at hS
            have HS : Hid (uptoI ws (64 * k + j + 1) = uptoI ws (64 * k + j)) := hS
            clear hS hb ht ht'
            gi_wp2
            refine ⟨fun f h => (by cases h), ?_⟩
            gi_wp2
            go_roundw
            case rel => exact ⟨j + 1, by omega, by go_num, by rw [← Nat.add_assoc, HS.out]; exact hJm, hKm, hGm⟩
            case measure => simp [intOf]; omega
        · have hje : j = 64 := by omega
          subst hje
          gi_wp2
          go_roundw
          case rel => exact ⟨k + 1, by omega, by go_num, by rw [Nat.mul_add]; exact hJm, hKm, hGm⟩
          case measure => simp [intOf]; omega
    · obtain rfl : k = ws.length := by omega
      gi_wp2
      go_end0
      exact ⟨⟨_, rfl⟩, .inl ⟨_, rfl, hJs⟩⟩

/-- It tells the numbers in their order; each is one of the set's. -/
theorem each3_stops (n : Nat) (hn : 1 ≤ n) (Bx Bo n₀ : Nat) (lv : Value) (ws : List Nat) (hl : ws.length ≤ 2000) (hok : Bit.Ok ws) (w : World) (hBx : w.cell? ⟨Bx, 0, none⟩ = some lv) (hpx : Prot Bo Bx w) (hgd : Good Bo w) (hn0 : n₀ ≤ w.heap.size)
    (hL : ∀ W', KeepsBut n₀ Bo w W' → IsWords (fun _ => True) W' lv ws) :
    SeqStopsK Fence.wide n Try.prog 125 #[.pointer (some ⟨Bx, 0, none⟩)] (fun x : { x : Int // x ∈ listI ws } => #[Value.int .i64 x.1]) (KeepsBut n₀ Bo) (fun ys => ys.map (fun x => x.1) = listI ws) (fun _ => True) (listI ws).length w := by
  intro lp J Jx W hW _ _ hY h0
  obtain ⟨hk, _⟩ := KeepsBut.of_below hgd hn0 hW
  refine (each3_in n hn lp Bx Bo n₀ lv ws hl hok (fun ys W => ∃ zs : List { x : Int // x ∈ listI ws }, zs.map (fun x => x.1) = ys ∧ J zs W) (fun ys W => ∃ zs : List { x : Int // x ∈ listI ws }, zs.map (fun x => x.1) = ys ∧ Jx zs W) W ?_ (hk.cell _ _ _ hpx hBx) (hk.prot Bx (lt_of_cell hBx) hpx) (hk.good hgd) (by have := hW.size; omega) (fun W' hW' => hL W' (hk.trans hW')) ⟨[], rfl, h0⟩).mono ?_
  · rintro pre x W' ⟨zs, rfl, hJ⟩ hp
    have hx : x ∈ listI ws := hp.subset (by simp)
    have hlen : zs.length < (listI ws).length := by have := hp.length_le; simp at this; omega
    refine YieldAt.mono (hY zs ⟨x, hx⟩ W' hJ hlen) ?_
    rintro e W3 (⟨rfl, h1, h2⟩ | ⟨rfl, h1⟩)
    · exact .inl ⟨rfl, ⟨_, by simp, h1⟩, h2⟩
    · exact .inr ⟨rfl, ⟨_, by simp, h1⟩⟩
  · rintro e W' ⟨hv, ⟨ys, rfl, zs, hz, hJ⟩ | ⟨pre, -, zs, hz, hJ⟩⟩
    · exact ⟨hv, .inl ⟨zs, hz, hJ⟩⟩
    · exact ⟨hv, .inr ⟨zs, trivial, hJ⟩⟩
end Go.Proofs.Ytcihobmjohpnkaa
