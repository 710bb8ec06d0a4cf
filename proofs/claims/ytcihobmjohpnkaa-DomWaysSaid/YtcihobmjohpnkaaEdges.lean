/- 'cfg.edges': the pairs of a block and one where it goes on, as a range over a function tells them. -/
import Derived.RangeFuncBox
import Derived.RangeFuncLeaves
import Derived.RangeFuncCalls
import Derived.Shelf.Abstract
import Derived.Shelf.RegionOpen
import Derived.OwnWalkIn
import Derived.TacticsInMore
import Derived.LoopNIn
import Derived.LoopIn
import Derived.Maps.AppendAt
import Derived.Test.YtcihobmjohpnkaaMore
import Derived.Test.YtcihobmjohpnkaaSuccsW
namespace Go.Proofs.Ytcihobmjohpnkaa
open Go.RowKit Go.Sort Go.Shelf

attribute [local go_sem] Oper.semAt_some

/-- Block b is none that a collecting body writes, whose box is Bo. -/
def Prot (Bo b : Nat) (W : World) : Prop := b ≠ Bo ∧ ∀ v, W.cell? ⟨Bo, 0, none⟩ = some v → v.ownBlock ≠ some b
/-- The box is there, and so is what it names. -/
def Good (Bo : Nat) (W : World) : Prop := Bo < W.heap.size ∧ ∀ v, W.cell? ⟨Bo, 0, none⟩ = some v → ∀ b, v.ownBlock = some b → b < W.heap.size
/-- What a round of a collecting body keeps. -/
structure KeepsBut (n₀ Bo : Nat) (W W' : World) : Prop where
  below : Below n₀ W W'
  cell : ∀ b o v, Prot Bo b W → W.cell? ⟨b, o, none⟩ = some v → W'.cell? ⟨b, o, none⟩ = some v
  prot : ∀ b, b < W.heap.size → Prot Bo b W → Prot Bo b W'
  good : Good Bo W → Good Bo W'
theorem KeepsBut.trans {n₀ Bo : Nat} {A B C : World} (h : KeepsBut n₀ Bo A B) (k : KeepsBut n₀ Bo B C) : KeepsBut n₀ Bo A C :=
  ⟨h.below.trans k.below, fun b o v hp hc => k.cell b o v (h.prot b (lt_of_cell hc) hp) (h.cell b o v hp hc), fun b hb hp => k.prot b (by have := h.below.size; omega) (h.prot b hb hp), fun hg => k.good (h.good hg)⟩
theorem cell_of_block {W W' : World} {b : Nat} (h : W'.heap[b]? = W.heap[b]?) (o : Nat) : W'.cell? ⟨b, o, none⟩ = W.cell? ⟨b, o, none⟩ := World.cell?_of_block (a := ⟨b, o, none⟩) h
/-- A call that only lays new blocks keeps these. -/
theorem KeepsBut.of_below {n₀ Bo : Nat} {W W' : World} (hg : Good Bo W) (hn : n₀ ≤ W.heap.size) (h : Below W.heap.size W W') : KeepsBut n₀ Bo W W' ∧ ∀ b, W.heap.size ≤ b → Prot Bo b W' := by
  have hBo : W'.cell? ⟨Bo, 0, none⟩ = W.cell? ⟨Bo, 0, none⟩ := cell_of_block (h.block Bo hg.1) 0
  refine ⟨⟨h.mono hn, fun b o v _ hc => ?_, fun b _ hp => ⟨hp.1, fun v hv => hp.2 v (by rw [← hBo]; exact hv)⟩, fun _ => ⟨by have := hg.1; have := h.size; omega, fun v hv b hb => ?_⟩⟩, fun b hb => ⟨by have := hg.1; omega, fun v hv e => ?_⟩⟩
  · rw [cell_of_block (h.block b (lt_of_cell hc))]; exact hc
  · rw [hBo] at hv; have := hg.2 v hv b hb; have := h.size; omega
  · rw [hBo] at hv; have := hg.2 v hv b e; omega

theorem IsInts.cells {p p' : Nat → Prop} {w w' : World} {v : Value} {xs : List Int} (h : IsInts p w v xs) (hc : ∀ b o x, p b → w.cell? ⟨b, o, none⟩ = some x → w'.cell? ⟨b, o, none⟩ = some x ∧ p' b) : IsInts p' w' v xs := by
  obtain ⟨a, cap, hv, hl, hx⟩ := h
  refine ⟨a, cap, hv, hl, ?_⟩
  rcases hx with hx | ⟨b, off, ha, hb, hx⟩
  · exact .inl hx
  · by_cases h0 : xs = []
    · exact .inl h0
    · exact .inr ⟨b, off, ha, (hc b _ _ hb (hx 0 (List.length_pos_iff.2 h0))).2, fun j hj => (hc b _ _ hb (hx j hj)).1⟩

/-- The first k blocks' pairs. -/
def edgesTo (l : List (List InsD)) (k : Nat) : List (Int × Int) := (List.range k).flatMap fun (i : Nat) => (succS l (i : Int)).map fun y => ((i : Int), y)
theorem edgesTo_succ (l : List (List InsD)) (k : Nat) : edgesTo l (k + 1) = edgesTo l k ++ (succS l (k : Int)).map fun y => ((k : Int), y) := by
  simp [edgesTo, List.range_succ]

set_option maxRecDepth 100000 in
set_option maxHeartbeats 4000000 in
theorem edges1_in (n : Nat) (hn : 1 ≤ n) (lp Bx Bo n₀ : Nat) (lv : Value) (l : List (List InsD)) (hl : l.length ≤ 1000) (J Jx : List (Int × Int) → World → Prop) (W : World) (hJ : AbidesFrom W.heap.size J)
    (hY : ∀ pre x W, J pre W → pre.length < (edgesTo l l.length).length → YieldAt Fence.wide (n - 1) Try.prog lp #[.int .i64 x.1, .int .i64 x.2] W fun e W' =>
      (e = .returned (.bool true) ∧ J (pre ++ [x]) W' ∧ KeepsBut n₀ Bo W W') ∨ (e = .returned (.bool false) ∧ Jx (pre ++ [x]) W'))
    (hBx : W.cell? ⟨Bx, 0, none⟩ = some lv) (hpx : Prot Bo Bx W) (hgd : Good Bo W) (hn0 : n₀ ≤ W.heap.size) (hL : IsBlocks (· < n₀) W lv l) (h0 : J [] W) :
    CallsIn Fence.wide n Try.prog 103 #[.func (.yield lp) #[] #[], .pointer (some ⟨Bx, 0, none⟩)] W fun e W' => (∃ v, e = .returned v) ∧
      ((∃ ys, ys = edgesTo l l.length ∧ J ys W') ∨ (∃ pre, True ∧ Jx pre W')) := by
  obtain ⟨a, cap, rfl, -, -⟩ := id hL
  refine callsIn_of_wp Try.func103 rfl trivial ?_ rfl
  simp only [Try.ntmps103, List.size_toArray, List.length_cons, List.length_nil, Nat.reduceAdd, Nat.reduceSub, Array.replicate_succ, Array.replicate_zero, List.push_toArray, List.append_toArray, List.nil_append, List.cons_append]
  gi_wp2
  gi_loopw [3, 5, 8] (fun s3 s5 s8 wr => ∃ k : Nat, k ≤ l.length ∧ s8 = .int .i64 k ∧ J (edgesTo l k) wr ∧ KeepsBut n₀ Bo W wr ∧ Good Bo wr) (fun _ _ s8 _ => l.length - (intOf s8).toNat)
  case atStart => exact ⟨0, by omega, rfl, h0, ⟨Below.refl _ _, fun _ _ _ _ h => h, fun _ _ h => h, fun h => h⟩, hgd⟩
  case round =>
    obtain ⟨k, hk, rfl, hJs, hKW, hG⟩ := hrel
    by_cases hlt : k < l.length
    · have cx := hKW.cell _ _ _ hpx hBx
      have hL1 : IsBlocks (· < n₀) wr (.slice a l.length cap) l := hL.keep (Keep.belowB hKW.below)
      have hsz := hKW.below.size
      gi_wp2
      refine ⟨trivial, (callsIn_wide.2 (succs_c wr k hL1)).mono ?_⟩
      rintro e W2 ⟨us, rfl, hs, hb2⟩
      have hsl := succS_length l (k : Int)
      obtain ⟨hK2, hnew⟩ := KeepsBut.of_below hG (by omega : n₀ ≤ wr.heap.size) hb2
      have his : IsInts (fun b => b < W2.heap.size ∧ Prot Bo b W2) W2 us (succS l (k : Int)) := (ints_of_own hs (by omega)).keep fun b hb hlt => ⟨⟨hlt, hnew b hb⟩, rfl⟩
      have hJ2 : J (edgesTo l k) W2 := hJ _ _ _ none hJs ⟨hb2.os, hb2.tape, hb2.output, hb2.size, fun k hk _ => hb2.block k hk⟩ (fun r e => by cases e)
      have hKW2 := hKW.trans hK2
      have hG2 := hK2.good hG
      obtain ⟨ys, HY⟩ : ∃ ys, Hid (succS l (k : Int) = ys) := ⟨_, (rfl : succS l (k : Int) = succS l (k : Int))⟩
      rw [HY.out] at his hsl
      have HE : Hid (edgesTo l (k + 1) = edgesTo l k ++ ys.map fun y => ((k : Int), y)) := by have := edgesTo_succ l k; rw [HY.out] at this; exact this
      obtain ⟨sa, sc, rfl, -, -⟩ := id his
      clear hs hb2 hK2 hnew hJs hKW hG cx hL1 hsz
      gi_wp2
      gi_loopw [5, 15] (fun s5 s15 wx => ∃ m : Nat, m ≤ ys.length ∧ s15 = .int .i64 m ∧ J (edgesTo l k ++ (ys.take m).map fun y => ((k : Int), y)) wx ∧ KeepsBut n₀ Bo W wx ∧ Good Bo wx ∧ IsInts (fun b => b < wx.heap.size ∧ Prot Bo b wx) wx (.slice sa ys.length sc) ys) (fun _ s15 _ => ys.length - (intOf s15).toNat)
      case atStart => exact ⟨0, by omega, rfl, by simpa using hJ2, hKW2, hG2, his⟩
      case round =>
        obtain ⟨m, hm, rfl, hJm, hKm, hGm, him⟩ := hrel
        clear hJ2 hKW2 hG2 his
        by_cases hmt : m < ys.length
        · obtain ⟨_, _, hv0, -, hx⟩ := id him
          simp only [Value.slice.injEq, true_and] at hv0
          obtain ⟨rfl, rfl⟩ := hv0
          rcases hx with rfl | ⟨sb, so, rfl, hpb, hx⟩
          · simp at hmt
          have t0 := hx m hmt
          simp only [CInt, Nat.mul_one] at t0
          clear hx
          have ht : (ys.take (m + 1)).map (fun y => ((k : Int), y)) = (ys.take m).map (fun y => ((k : Int), y)) ++ [((k : Int), ys[m])] := by
            rw [List.take_succ_eq_append_getElem hmt, List.map_append]; rfl
          have hlen : (edgesTo l k ++ (ys.take m).map fun y => ((k : Int), y)).length < (edgesTo l l.length).length := by
            obtain ⟨z, hz⟩ : ∃ z, edgesTo l l.length = edgesTo l (k + 1) ++ z := by
              have : ∀ j, k + 1 ≤ j → ∃ z, edgesTo l j = edgesTo l (k + 1) ++ z := by
                intro j hj
                induction j with
                | zero => omega
                | succ j ih =>
                  by_cases e : k + 1 = j + 1
                  · exact ⟨[], by rw [← e]; simp⟩
                  · obtain ⟨z, hz⟩ := ih (by omega)
                    exact ⟨z ++ (succS l (j : Int)).map fun y => ((j : Int), y), by rw [edgesTo_succ, hz, List.append_assoc]⟩
              exact this l.length hlt
            rw [hz, HE.out]
            simp
            omega
          obtain ⟨fn, tmps, assign, body, hy, hR⟩ := hY _ ((k : Int), ys[m]) wr hJm hlen
          dsimp only at hy
          obtain ⟨y, HYM⟩ : ∃ y, Hid (ys[m] = y) := ⟨ys[m], (rfl : ys[m] = ys[m])⟩
          rw [HYM.out] at hy hR t0 ht
          have HT : Hid ((ys.take (m + 1)).map (fun y => ((k : Int), y)) = (ys.take m).map (fun y => ((k : Int), y)) ++ [((k : Int), y)]) := ht
          clear ht hlen hJm
          gi_wp2
          refine hR.mono ?_
          clear hR hy
          rintro e W3 (⟨rfl, hJ3, hk3⟩ | ⟨rfl, hJx3⟩)
          · have hK3 := hKm.trans hk3
            have hG3 := hk3.good hGm
            have hi3 : IsInts (fun b => b < W3.heap.size ∧ Prot Bo b W3) W3 (.slice (some ⟨sb, so, none⟩) ys.length sc) ys :=
              him.cells fun b o x hb hc => ⟨hk3.cell b o x hb.2 hc, by have := hk3.below.size; omega, hk3.prot b hb.1 hb.2⟩
            rw [List.append_assoc, ← HT.out] at hJ3
            clear hk3 hKm hGm him
            gi_wp2
            go_roundw
            case rel => exact ⟨m + 1, by omega, by go_num, hJ3, hK3, hG3, hi3⟩
            case measure => simp [intOf]; omega
          · gi_wp2
            refine bodyPost_ret (results_none rfl _ _ _) rfl ?_
            exact ⟨⟨_, rfl⟩, .inr ⟨_, trivial, hJx3⟩⟩
        · have hme : m = ys.length := by omega
          subst hme
          rw [List.take_length, ← HE.out] at hJm
          gi_wp2
          go_roundw
          case rel => exact ⟨k + 1, by omega, by go_num, hJm, hKm, hGm⟩
          case measure => simp [intOf]; omega
    · obtain rfl : k = l.length := by omega
      gi_wp2
      go_end0
      exact ⟨⟨_, rfl⟩, .inl ⟨_, rfl, hJs⟩⟩
end Go.Proofs.Ytcihobmjohpnkaa
