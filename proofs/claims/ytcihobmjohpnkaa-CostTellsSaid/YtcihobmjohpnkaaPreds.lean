/- 'cfg.edges': the pairs of a block and one where it goes on, as a range over a function tells them. -/
import Derived.RangeFuncBox
import Derived.RangeFuncLeaves
import Derived.RangeFuncCalls
import Derived.Shelf.Abstract
import Derived.Shelf.RegionOpen
import Derived.OwnWalkIn
import Derived.TacticsInMore
import Derived.LoopNIn
import Derived.LoopIn
import Derived.Maps.AppendAt
import Derived.Test.YtcihobmjohpnkaaOwn
import Derived.Test.YtcihobmjohpnkaaSuccsW
import Derived.RangeFuncNested
import Derived.RangeFuncFrom
import Derived.Maps.OwnIn
namespace Go.Proofs.Ytcihobmjohpnkaa

section
open Go.RowKit Go.Sort Go.Shelf

attribute [local go_sem] Oper.semAt_some

/-- Block b is none that a collecting body writes, whose box is Bo. -/
def Prot (Bo b : Nat) (W : World) : Prop := b ≠ Bo ∧ ∀ v, W.cell? ⟨Bo, 0, none⟩ = some v → v.ownBlock ≠ some b
/-- The box is there, and so is what it names. -/
def Good (Bo : Nat) (W : World) : Prop := Bo < W.heap.size ∧ ∀ v, W.cell? ⟨Bo, 0, none⟩ = some v → ∀ b, v.ownBlock = some b → b < W.heap.size
/-- What a round of a collecting body keeps. -/
structure KeepsBut (n₀ Bo : Nat) (W W' : World) : Prop where
  below : Below n₀ W W'
  cell : ∀ b o v, Prot Bo b W → W.cell? ⟨b, o, none⟩ = some v → W'.cell? ⟨b, o, none⟩ = some v
  prot : ∀ b, b < W.heap.size → Prot Bo b W → Prot Bo b W'
  good : Good Bo W → Good Bo W'
theorem KeepsBut.trans {n₀ Bo : Nat} {A B C : World} (h : KeepsBut n₀ Bo A B) (k : KeepsBut n₀ Bo B C) : KeepsBut n₀ Bo A C :=
  ⟨h.below.trans k.below, fun b o v hp hc => k.cell b o v (h.prot b (lt_of_cell hc) hp) (h.cell b o v hp hc), fun b hb hp => k.prot b (by have := h.below.size; omega) (h.prot b hb hp), fun hg => k.good (h.good hg)⟩
theorem cell_of_block {W W' : World} {b : Nat} (h : W'.heap[b]? = W.heap[b]?) (o : Nat) : W'.cell? ⟨b, o, none⟩ = W.cell? ⟨b, o, none⟩ := World.cell?_of_block (a := ⟨b, o, none⟩) h
/-- A call that only lays new blocks keeps these. -/
theorem KeepsBut.of_below {n₀ Bo : Nat} {W W' : World} (hg : Good Bo W) (hn : n₀ ≤ W.heap.size) (h : Below W.heap.size W W') : KeepsBut n₀ Bo W W' ∧ ∀ b, W.heap.size ≤ b → Prot Bo b W' := by
  have hBo : W'.cell? ⟨Bo, 0, none⟩ = W.cell? ⟨Bo, 0, none⟩ := cell_of_block (h.block Bo hg.1) 0
  refine ⟨⟨h.mono hn, fun b o v _ hc => ?_, fun b _ hp => ⟨hp.1, fun v hv => hp.2 v (by rw [← hBo]; exact hv)⟩, fun _ => ⟨by have := hg.1; have := h.size; omega, fun v hv b hb => ?_⟩⟩, fun b hb => ⟨by have := hg.1; omega, fun v hv e => ?_⟩⟩
  · rw [cell_of_block (h.block b (lt_of_cell hc))]; exact hc
  · rw [hBo] at hv; have := hg.2 v hv b hb; have := h.size; omega
  · rw [hBo] at hv; have := hg.2 v hv b e; omega

theorem IsInts.cells {p p' : Nat → Prop} {w w' : World} {v : Value} {xs : List Int} (h : IsInts p w v xs) (hc : ∀ b o x, p b → w.cell? ⟨b, o, none⟩ = some x → w'.cell? ⟨b, o, none⟩ = some x ∧ p' b) : IsInts p' w' v xs := by
  obtain ⟨a, cap, hv, hl, hx⟩ := h
  refine ⟨a, cap, hv, hl, ?_⟩
  rcases hx with hx | ⟨b, off, ha, hb, hx⟩
  · exact .inl hx
  · by_cases h0 : xs = []
    · exact .inl h0
    · exact .inr ⟨b, off, ha, (hc b _ _ hb (hx 0 (List.length_pos_iff.2 h0))).2, fun j hj => (hc b _ _ hb (hx j hj)).1⟩

/-- The first k blocks' pairs. -/
def edgesTo (l : List (List InsD)) (k : Nat) : List (Int × Int) := (List.range k).flatMap fun (i : Nat) => (succS l (i : Int)).map fun y => ((i : Int), y)
theorem edgesTo_succ (l : List (List InsD)) (k : Nat) : edgesTo l (k + 1) = edgesTo l k ++ (succS l (k : Int)).map fun y => ((k : Int), y) := by
  simp [edgesTo, List.range_succ]

set_option maxRecDepth 100000 in
set_option maxHeartbeats 4000000 in
theorem edges1_in (n : Nat) (hn : 1 ≤ n) (lp Bx Bo n₀ : Nat) (lv : Value) (l : List (List InsD)) (hl : l.length ≤ 1000) (J Jx : List (Int × Int) → World → Prop) (W : World) (hJ : AbidesFrom W.heap.size J)
    (hY : ∀ pre x W, J pre W → pre.length < (edgesTo l l.length).length → YieldAt Fence.wide (n - 1) Try.prog lp #[.int .i64 x.1, .int .i64 x.2] W fun e W' =>
      (e = .returned (.bool true) ∧ J (pre ++ [x]) W' ∧ KeepsBut n₀ Bo W W') ∨ (e = .returned (.bool false) ∧ Jx (pre ++ [x]) W'))
    (hBx : W.cell? ⟨Bx, 0, none⟩ = some lv) (hpx : Prot Bo Bx W) (hgd : Good Bo W) (hn0 : n₀ ≤ W.heap.size) (hL : IsBlocks (· < n₀) W lv l) (h0 : J [] W) :
    CallsIn Fence.wide n Try.prog 103 #[.func (.yield lp) #[] #[], .pointer (some ⟨Bx, 0, none⟩)] W fun e W' => (∃ v, e = .returned v) ∧
      ((∃ ys, ys = edgesTo l l.length ∧ J ys W') ∨ (∃ pre, True ∧ Jx pre W')) := by
  obtain ⟨a, cap, rfl, -, -⟩ := id hL
  refine callsIn_of_wp Try.func103 rfl trivial ?_ rfl
  simp only [Try.ntmps103, List.size_toArray, List.length_cons, List.length_nil, Nat.reduceAdd, Nat.reduceSub, Array.replicate_succ, Array.replicate_zero, List.push_toArray, List.append_toArray, List.nil_append, List.cons_append]
  gi_wp2
  gi_loopw [3, 5, 8] (fun s3 s5 s8 wr => ∃ k : Nat, k ≤ l.length ∧ s8 = .int .i64 k ∧ J (edgesTo l k) wr ∧ KeepsBut n₀ Bo W wr ∧ Good Bo wr) (fun _ _ s8 _ => l.length - (intOf s8).toNat)
  case atStart => exact ⟨0, by omega, rfl, h0, ⟨Below.refl _ _, fun _ _ _ _ h => h, fun _ _ h => h, fun h => h⟩, hgd⟩
  case round =>
    obtain ⟨k, hk, rfl, hJs, hKW, hG⟩ := hrel
    by_cases hlt : k < l.length
    · have cx := hKW.cell _ _ _ hpx hBx
      have hL1 : IsBlocks (· < n₀) wr (.slice a l.length cap) l := hL.keep (Keep.belowB hKW.below)
      have hsz := hKW.below.size
      gi_wp2
      refine ⟨trivial, (callsIn_wide.2 (succs_c wr k hL1)).mono ?_⟩
      rintro e W2 ⟨us, rfl, hs, hb2⟩
      have hsl := succS_length l (k : Int)
      obtain ⟨hK2, hnew⟩ := KeepsBut.of_below hG (by omega : n₀ ≤ wr.heap.size) hb2
      have his : IsInts (fun b => b < W2.heap.size ∧ Prot Bo b W2) W2 us (succS l (k : Int)) := (ints_of_own hs (by omega)).keep fun b hb hlt => ⟨⟨hlt, hnew b hb⟩, rfl⟩
      have hJ2 : J (edgesTo l k) W2 := hJ _ _ _ none hJs ⟨hb2.os, hb2.tape, hb2.output, hb2.size, fun k hk _ => hb2.block k hk⟩ (fun r e => by cases e)
      have hKW2 := hKW.trans hK2
      have hG2 := hK2.good hG
      obtain ⟨ys, HY⟩ : ∃ ys, Hid (succS l (k : Int) = ys) := ⟨_, (rfl : succS l (k : Int) = succS l (k : Int))⟩
      rw [HY.out] at his hsl
      have HE : Hid (edgesTo l (k + 1) = edgesTo l k ++ ys.map fun y => ((k : Int), y)) := by have := edgesTo_succ l k; rw [HY.out] at this; exact this
      obtain ⟨sa, sc, rfl, -, -⟩ := id his
      clear hs hb2 hK2 hnew hJs hKW hG cx hL1 hsz
      gi_wp2
      gi_loopw [5, 15] (fun s5 s15 wx => ∃ m : Nat, m ≤ ys.length ∧ s15 = .int .i64 m ∧ J (edgesTo l k ++ (ys.take m).map fun y => ((k : Int), y)) wx ∧ KeepsBut n₀ Bo W wx ∧ Good Bo wx ∧ IsInts (fun b => b < wx.heap.size ∧ Prot Bo b wx) wx (.slice sa ys.length sc) ys) (fun _ s15 _ => ys.length - (intOf s15).toNat)
      case atStart => exact ⟨0, by omega, rfl, by simpa using hJ2, hKW2, hG2, his⟩
      case round =>
        obtain ⟨m, hm, rfl, hJm, hKm, hGm, him⟩ := hrel
        clear hJ2 hKW2 hG2 his
        by_cases hmt : m < ys.length
        · obtain ⟨_, _, hv0, -, hx⟩ := id him
          simp only [Value.slice.injEq, true_and] at hv0
          obtain ⟨rfl, rfl⟩ := hv0
          rcases hx with rfl | ⟨sb, so, rfl, hpb, hx⟩
          · simp at hmt
          have t0 := hx m hmt
          simp only [CInt, Nat.mul_one] at t0
          clear hx
          have ht : (ys.take (m + 1)).map (fun y => ((k : Int), y)) = (ys.take m).map (fun y => ((k : Int), y)) ++ [((k : Int), ys[m])] := by
            rw [List.take_succ_eq_append_getElem hmt, List.map_append]; rfl
          have hlen : (edgesTo l k ++ (ys.take m).map fun y => ((k : Int), y)).length < (edgesTo l l.length).length := by
            obtain ⟨z, hz⟩ : ∃ z, edgesTo l l.length = edgesTo l (k + 1) ++ z := by
              have : ∀ j, k + 1 ≤ j → ∃ z, edgesTo l j = edgesTo l (k + 1) ++ z := by
                intro j hj
                induction j with
                | zero => omega
                | succ j ih =>
                  by_cases e : k + 1 = j + 1
                  · exact ⟨[], by rw [← e]; simp⟩
                  · obtain ⟨z, hz⟩ := ih (by omega)
                    exact ⟨z ++ (succS l (j : Int)).map fun y => ((j : Int), y), by rw [edgesTo_succ, hz, List.append_assoc]⟩
              exact this l.length hlt
            rw [hz, HE.out]
            simp
            omega
          obtain ⟨fn, tmps, assign, body, hy, hR⟩ := hY _ ((k : Int), ys[m]) wr hJm hlen
          dsimp only at hy
          obtain ⟨y, HYM⟩ : ∃ y, Hid (ys[m] = y) := ⟨ys[m], (rfl : ys[m] = ys[m])⟩
          rw [HYM.out] at hy hR t0 ht
          have HT : Hid ((ys.take (m + 1)).map (fun y => ((k : Int), y)) = (ys.take m).map (fun y => ((k : Int), y)) ++ [((k : Int), y)]) := ht
          clear ht hlen hJm
          gi_wp2
          refine hR.mono ?_
          clear hR hy
          rintro e W3 (⟨rfl, hJ3, hk3⟩ | ⟨rfl, hJx3⟩)
          · have hK3 := hKm.trans hk3
            have hG3 := hk3.good hGm
            have hi3 : IsInts (fun b => b < W3.heap.size ∧ Prot Bo b W3) W3 (.slice (some ⟨sb, so, none⟩) ys.length sc) ys :=
              him.cells fun b o x hb hc => ⟨hk3.cell b o x hb.2 hc, by have := hk3.below.size; omega, hk3.prot b hb.1 hb.2⟩
            rw [List.append_assoc, ← HT.out] at hJ3
            clear hk3 hKm hGm him
            gi_wp2
            go_roundw
            case rel => exact ⟨m + 1, by omega, by go_num, hJ3, hK3, hG3, hi3⟩
            case measure => simp [intOf]; omega
          · gi_wp2
            refine bodyPost_ret (results_none rfl _ _ _) rfl ?_
            exact ⟨⟨_, rfl⟩, .inr ⟨_, trivial, hJx3⟩⟩
        · have hme : m = ys.length := by omega
          subst hme
          rw [List.take_length, ← HE.out] at hJm
          gi_wp2
          go_roundw
          case rel => exact ⟨k + 1, by omega, by go_num, hJm, hKm, hGm⟩
          case measure => simp [intOf]; omega
    · obtain rfl : k = l.length := by omega
      gi_wp2
      go_end0
      exact ⟨⟨_, rfl⟩, .inl ⟨_, rfl, hJs⟩⟩
end

section
/- 'cfg.Preds'. -/
open Go.RowKit Go.Sort Go.Shelf

attribute [local go_sem] Oper.semAt_some

theorem edges_in (n : Nat) (a : Option Addr) (len cap : Nat) (w : World) :
    CallsIn Fence.wide n Try.prog 77 #[.slice a len cap] w fun e w' => e = .returned (.func (.func 103) #[] #[.pointer (some ⟨w.heap.size, 0, none⟩)]) ∧ w' = w.alloc (.cells #[.slice a len cap] 22) := by
  refine callsIn_of_wp Try.func77 rfl trivial ?_ rfl
  simp only [Try.ntmps77, List.size_toArray, List.length_cons, List.length_nil, Nat.reduceAdd, Nat.reduceSub, Array.replicate_succ, Array.replicate_zero, List.push_toArray, List.append_toArray, List.nil_append, List.cons_append]
  gi_wp2
  go_ret
  exact ⟨rfl, rfl⟩

/-- It tells the pairs in their order. -/
theorem edges_stops (n : Nat) (hn : 1 ≤ n) (Bx Bo n₀ : Nat) (lv : Value) (l : List (List InsD)) (hl : l.length ≤ 1000) (w : World) (hBx : w.cell? ⟨Bx, 0, none⟩ = some lv) (hpx : Prot Bo Bx w) (hgd : Good Bo w) (hn0 : n₀ ≤ w.heap.size)
    (hL : IsBlocks (· < n₀) w lv l) :
    SeqStopsK Fence.wide n Try.prog 103 #[.pointer (some ⟨Bx, 0, none⟩)] (fun x : Int × Int => #[Value.int .i64 x.1, Value.int .i64 x.2]) (KeepsBut n₀ Bo) (fun ys => ys = edgesTo l l.length) (fun _ => True) (edgesTo l l.length).length w := by
  intro lp J Jx W hW hJ _ hY h0
  obtain ⟨hk, _⟩ := KeepsBut.of_below hgd hn0 hW
  exact edges1_in n hn lp Bx Bo n₀ lv l hl J Jx W hJ hY (hk.cell _ _ _ hpx hBx) (hk.prot Bx (lt_of_cell hBx) hpx) (hk.good hgd) (by have := hW.size; omega) (hL.keep (Keep.belowB hk.below)) h0

/-- Where a block is come to from, by the pairs that have come. -/
def intoOf (b : Int) (es : List (Int × Int)) : List Int := (es.filter fun e => decide (e.2 = b)).map (·.1)
/-- Where a block is come to from. -/
def predS (l : List (List InsD)) (b : Int) : List Int := ((List.range l.length).filter fun (i : Nat) => inS (succS l (i : Int)) b).map fun (i : Nat) => (i : Int)

theorem succS_nodup (l : List (List InsD)) (b : Int) : (succS l b).Nodup := by
  unfold succS
  split
  · unfold succN
    split
    · simp
    · refine List.Pairwise.filter _ ?_
      unfold rawS
      split
      · split
        · simp
        · rename_i h; simpa using h
      · split <;> simp
  · simp
theorem intoOf_one {ys : List Int} (h : ys.Nodup) (i b : Int) : intoOf b (ys.map fun y => (i, y)) = if inS ys b then [i] else [] := by
  induction ys with
  | nil => simp [intoOf, inS]
  | cons y ys ih =>
    have hn := List.nodup_cons.1 h
    have ih := ih hn.2
    unfold intoOf inS at *
    by_cases e : y = b
    · subst e
      have : decide (y ∈ ys) = false := by simpa using hn.1
      rw [this] at ih
      simp only [List.map_cons, List.filter_cons, decide_true, if_true, ih]
      simp
    · have e' : ¬ b = y := fun h => e h.symm
      simpa [List.filter_cons, e, e'] using ih
theorem intoOf_edges (l : List (List InsD)) (b : Int) : intoOf b (edgesTo l l.length) = predS l b := by
  unfold predS
  have : ∀ k, intoOf b (edgesTo l k) = ((List.range k).filter fun (i : Nat) => inS (succS l (i : Int)) b).map fun (i : Nat) => (i : Int) := by
    intro k
    induction k with
    | zero => simp [edgesTo, intoOf]
    | succ k ih =>
      have e : intoOf b (edgesTo l (k + 1)) = intoOf b (edgesTo l k) ++ intoOf b ((succS l (k : Int)).map fun y => ((k : Int), y)) := by
        rw [edgesTo_succ]; simp [intoOf]
      rw [e, ih, intoOf_one (succS_nodup l _), List.range_succ, List.filter_append, List.map_append]
      congr 1
      cases h : inS (succS l (k : Int)) b <;> simp [h]
  exact this l.length
theorem predS_length (l : List (List InsD)) (b : Int) : (predS l b).length ≤ l.length := by
  unfold predS
  rw [List.length_map]
  exact Nat.le_trans (List.length_filter_le _ _) (by simp)

/-- 'append' in a round of a range over a function: where the row lies afterwards is told, too. -/
theorem wpIn_app {F : Fence} {n : Nat} {P : Program} (w : World) {ops : Array Oper} {rest : List Oper} {o : Oper} {a : Act} {Q : Exit → Act → World → Prop}
    (hg : o.guard = none) (s x : Operand) (t : TypeId) (hop : o.op = Op.call { callee := Callee.builtin Builtin.append, args := #[s, x], argTypes := #[t, t] })
    (base : Nat) (e : TypeId) (i : TypeInfo) (z : Value) (size bytes : Nat) (h1 : P.underlying t = some (.slice e)) (h2 : P.info? e = some i) (h3 : i.zero = some z) (h4 : i.size = size) (h5 : i.bytes = bytes) (h6 : z.cells.size = size) (h7 : 0 < size)
    (v : Value) (k : Nat) (xs : List Value) (hs : a.eval s = v) (hown : w.ownsRow base e size v k xs) (ad : Addr) (m c : Nat) (news : List Value) (hx : a.eval x = .slice (some ad) m c) (hn : news.length = m * size)
    (hc : ∀ j u, news[j]? = some u → w.cell? (ad.add j) = some u) (h1c : ∀ u ∈ news, u.oneCell' = true) (b1 : k + m ≤ maxLen) (b2 : (k + m) * bytes ≤ 140737488355328) (b3 : base ≤ w.heap.size)
    (hK : ∀ v' w', w'.ownsRow base e size v' (k + m) (xs ++ news) → w.grownBy w' v.ownBlock → (v'.ownBlock = v.ownBlock ∨ v'.ownBlock = some w.heap.size) → wpListIn F n P ops Q rest (a.put o.dst v') w') :
    wpListIn F n P ops Q (o :: rest) a w := by
  refine wpListIn_plain hg fun K hK' => ?_
  obtain ⟨v', w', hrun, r1, r2, r3⟩ := run_app (P := P) w base t o.type e i z size bytes h1 h2 h3 h4 h5 h6 h7 v k xs hown ad m c news hn hc h1c b1 b2 b3
  unfold Oper.wpIn
  refine ⟨?_, ?_⟩
  · simp [Oper.about, hop, resolve, Target.leads, Sem.run_pure]
  · rw [Oper.semAt_plain F _ _ (by rw [hop]; intro c hc'; cases hc')]
    simp [execOp, hop, resolve, invoke, builtin, hs, hx, hrun, Result.andThen]
    exact hK' _ _ (hK v' w' r1 r2 r3)

theorem KeepsBut.refl (n₀ Bo : Nat) (W : World) : KeepsBut n₀ Bo W W := ⟨Below.refl _ _, fun _ _ _ _ h => h, fun _ _ h => h, fun h => h⟩

/-- What a collecting round's append keeps. -/
theorem KeepsBut.appended {W w1 : World} {n₀ Bo : Nat} {t e : TypeId} {v v' : Value} {m : Nat} {ys : List Value} {tmp : Obj}
    (hv : Boxed W Bo t v) (hv1 : Boxed w1 Bo t v) (hr1 : w1.ownsRow n₀ e 1 v' m ys) (hgrow : (W.alloc tmp).grownBy w1 v.ownBlock) (hb : Below n₀ W (w1.setCell ⟨Bo, 0, none⟩ v'))
    (hown : v'.ownBlock = v.ownBlock ∨ v'.ownBlock = some (W.alloc tmp).heap.size) : KeepsBut n₀ Bo W (w1.setCell ⟨Bo, 0, none⟩ v') := by
  have hc2 : (w1.setCell ⟨Bo, 0, none⟩ v').cell? ⟨Bo, 0, none⟩ = some v' := (hv1.set v').cell
  refine ⟨hb, fun b o u hp hc => ?_, fun b hlt hp => ⟨hp.1, fun u hu eb => ?_⟩, fun hG => ⟨by have := hb.size; have := hG.1; omega, fun u hu b hub => ?_⟩⟩
  · have hlt := lt_of_cell hc
    have h1 : w1.heap[b]? = (W.alloc tmp).heap[b]? := hgrow.block b (by simp at hlt ⊢; omega) (fun eb => hp.2 v hv.cell eb.symm)
    have h2 : (w1.setCell ⟨Bo, 0, none⟩ v').heap[b]? = w1.heap[b]? := Below.heap_setCell _ _ _ _ hp.1
    have h3 : (W.alloc tmp).heap[b]? = W.heap[b]? := Below.heap_alloc _ _ _ hlt
    rw [cell_of_block (h2.trans (h1.trans h3))]; exact hc
  · rw [hc2] at hu; cases hu
    rcases hown with h | h
    · exact hp.2 v hv.cell (h.symm.trans eb)
    · rw [h] at eb; simp at eb; omega
  · rw [hc2] at hu; cases hu
    have := (hr1.lt b hub).2
    exact Nat.lt_of_lt_of_le this (grownBy_setCell' w1 Bo v').size

theorem edgesTo_length (l : List (List InsD)) (k : Nat) : (edgesTo l k).length ≤ 2 * k := by
  induction k with
  | zero => simp [edgesTo]
  | succ k ih =>
    rw [edgesTo_succ, List.length_append, List.length_map]
    have := succS_length l (k : Int)
    omega

set_option maxRecDepth 100000 in
set_option maxHeartbeats 4000000 in
theorem preds_in (a : Option Addr) (cap : Nat) {l : List (List InsD)} (w : World) (b : Int) (h : IsBlocks (· < w.heap.size) w (.slice a l.length cap) l) (hl : l.length ≤ 1000) :
    CallsIn Fence.wide 5 Try.prog 33 #[.slice a l.length cap, .int .i64 b] w fun e w' => ∃ u, e = .returned u ∧ w'.ownsRow w.heap.size 3 1 u (predS l b).length (ints (predS l b)) ∧ Below w.heap.size w w' := by
  obtain ⟨i0, hi, hz0, hz1, hz2⟩ := info_parts infoInt
  refine callsIn_of_wp_marks Try.func33 rfl trivial ?_ rfl
  simp only [Try.ntmps33, List.size_toArray, List.length_cons, List.length_nil, Nat.reduceAdd, Nat.reduceSub, Array.replicate_succ, Array.replicate_zero, List.push_toArray, List.append_toArray, List.nil_append, List.cons_append]
  gi_wp2
  refine ⟨trivial, (edges_in _ _ _ _ _).mono ?_⟩
  rintro e w' ⟨rfl, rfl⟩
  gi_wp2
  have bB := (Boxed.new w 3 (.int .i64 b)).alloc (.cells #[.slice none 0 0] 25) |>.alloc (.cells #[.slice a l.length cap] 22)
  have bO := (Boxed.new (w.alloc (.cells #[.int .i64 b] 3)) 25 (.slice none 0 0)).alloc (.cells #[.slice a l.length cap] 22)
  have bN := Boxed.new ((w.alloc (.cells #[.int .i64 b] 3)).alloc (.cells #[.slice none 0 0] 25)) 22 (.slice a l.length cap)
  simp only [World.size_alloc] at bO bN
  have hB0 : Below w.heap.size w (((w.alloc (.cells #[.int .i64 b] 3)).alloc (.cells #[.slice none 0 0] 25)).alloc (.cells #[.slice a l.length cap] 22)) := bel_alloc (bel_alloc (bel_alloc (bel_refl w) _) _) _
  have hsz : (((w.alloc (.cells #[.int .i64 b] 3)).alloc (.cells #[.slice none 0 0] 25)).alloc (.cells #[.slice a l.length cap] 22)).heap.size = w.heap.size + 3 := by simp
  obtain ⟨W0, hW0⟩ : ∃ W0, ((w.alloc (.cells #[.int .i64 b] 3)).alloc (.cells #[.slice none 0 0] 25)).alloc (.cells #[.slice a l.length cap] 22) = W0 := ⟨_, rfl⟩
  rw [hW0] at bB bO bN hB0 hsz ⊢
  have hgd : Good (w.heap.size + 1) W0 := ⟨by omega, fun v hv b' hb' => by rw [bO.cell] at hv; cases hv; simp [Value.ownBlock] at hb'⟩
  have hpx : Prot (w.heap.size + 1) (w.heap.size + 1 + 1) W0 := ⟨by omega, fun v hv e => by rw [bO.cell] at hv; cases hv; simp [Value.ownBlock] at e⟩
  refine wpIn_rangeFunc_ownF (w := W0) rfl (by omega) (gf := 103) (lb := #[.pointer (some ⟨w.heap.size + 1 + 1, 0, none⟩)]) rfl trivial (enters_of Try.func103 (by kernel_rfl) rfl)
    (edges_stops 4 (by omega) (w.heap.size + 1 + 1) (w.heap.size + 1) w.heap.size _ l hl W0 bN.cell hpx hgd (by omega) (h.keep (Keep.belowB hB0))) KeepsBut.trans ?hkb (Below.refl _ _) (fun _ => rfl)
    (fun pre W => (∃ v, Boxed W (w.heap.size + 1) 25 v ∧ W.ownsRow (w.heap.size + 1) 3 1 v (intoOf b pre).length (ints (intoOf b pre)) ∧ True) ∧ Boxed W w.heap.size 3 (.int .i64 b) ∧ Below w.heap.size w W)
    (fun _ _ _ => False)
    ?hown
    (fun _ _ _ _ _ hs _ _ => hs)
    ⟨⟨_, bO, World.ownsRow_nil _ _ _ _, trivial⟩, bB, hB0⟩
    (fun x => { tmps := #[.slice a l.length cap, .int .i64 b, undef, .pointer (some ⟨w.heap.size, 0, none⟩), .slice none 0 0, .pointer (some ⟨w.heap.size + 1, 0, none⟩), .int .i64 x.1, .int .i64 x.2, .slice a l.length cap, .func (.func 103) #[] #[.pointer (some ⟨w.heap.size + 1 + 1, 0, none⟩)], .int .i64 x.1, .int .i64 x.2, undef, undef, undef, undef, undef, undef, undef, undef], defers := [] }) ?assign ?body ?done ?stop
  case hkb =>
    intro W l o o' hl ho hc hw
    have hBo : (W.putObj l o').heap[w.heap.size + 1]? = W.heap[w.heap.size + 1]? := World.putObj_heap_other (by omega)
    have hsz' : (W.putObj l o').heap.size = W.heap.size := by simp
    refine ⟨belowK_b (w := W0) (by omega) W l o o' hl ho hc hw, fun b o1 v _ hcv => cell_kept hcv (grownBy_putObj' W l o') (fun r e => by cases e; exact ⟨o, ho, hc⟩), fun b _ hp => ⟨hp.1, fun v hv => hp.2 v (by rw [← cell_of_block hBo]; exact hv)⟩, fun hG => ⟨by rw [hsz']; exact hG.1, fun v hv b hb => by rw [hsz']; exact hG.2 v (by rw [← cell_of_block hBo]; exact hv) b hb⟩⟩
  case hown =>
    exact OwnFrom.and (Own.from (holdsRow_own (w.heap.size + 1) (w.heap.size + 1) 25 3 1 (fun pre => (intoOf b pre).length) (fun pre => ints (intoOf b pre)) (fun _ _ => True)) _)
      (OwnFrom.and (Own.from (boxed_own w.heap.size 3 (fun _ => .int .i64 b)) _) (ownFrom_below (Nat.le_refl _) (by omega)))
  case assign =>
    intro lp x W K hK
    gi_wp2
    exact hK
  case body =>
    rintro lp pre ⟨x, y⟩ W ⟨⟨v, hv, hrow, -⟩, hb, hB⟩ hlt
    have hc := hv.cell
    have hcb := hb.cell
    have hpl : (intoOf b pre).length ≤ pre.length := by unfold intoOf; rw [List.length_map]; exact List.length_filter_le _ _
    have hpl2 := edgesTo_length l l.length
    by_cases hy : y = b
    · subst hy
      have hi1 : intoOf y (pre ++ [(x, y)]) = intoOf y pre ++ [x] := by simp [intoOf]
      have HI : Hid (intoOf y (pre ++ [(x, y)]) = intoOf y pre ++ [x]) := hi1
      clear hi1
      gi_wp2_with (gi_at_builtin; refine wpIn_app _ rfl _ _ 25 rfl (w.heap.size + 1) 3 i0 (.int .i64 0) 1 8 Try.underlying25 hi hz0 hz1 hz2 rfl (by decide) _ _ _ rfl (hrow.alloc _) ⟨W.heap.size, 0, none⟩ 1 1 [.int .i64 x] rfl rfl (cell_one_new _ _ _) (by simp [Value.oneCell']) (by unfold maxLen; omega) (by omega) (by have := hb.lt; simp; omega) ?_; intro v' w1 hown' hgrow hblk; obtain ⟨g', cap', rfl⟩ := ownsRow_succ hown'; obtain ⟨hv1, hv2, hr2, hk2, hb2⟩ := hv.appended (by decide) hrow (by have := hb.lt; omega) (by omega) hown' hgrow; have hKB := KeepsBut.appended (n₀ := w.heap.size) hv hv1 (owns_mono hown' (by omega)) hgrow (hb2.mono (by omega)) hblk; have hc1 := hv1.cell; have hf1 := hv1.frozen; clear hown' hgrow hblk)
      refine ⟨hk2, hKB, ⟨⟨_, hv2, ?_, trivial⟩, ?_, hB.trans (hb2.mono (by omega))⟩⟩
      · rw [HI.out]; simpa [ints] using hr2
      · exact (hb2.block _ (by omega)).trans hb
    · have HI : Hid (intoOf b (pre ++ [(x, y)]) = intoOf b pre) := by show _ = _; simp [intoOf, hy]
      have hy' : (y == b) = false := by simpa using hy
      gi_wp2
      exact ⟨KeepsOthers.refl _, KeepsBut.refl _ _ _, ⟨⟨v, hv, by rw [HI.out]; exact hrow, trivial⟩, hb, hB⟩⟩
  case done =>
    rintro D ys W hD rfl ⟨⟨v, hv, hrow, -⟩, hb, hB⟩ hK
    have hc := hv.cell
    gi_wp2
    refine ⟨by simp, .inl ⟨_, _, rfl, run_takeDeferred hK, ?_⟩⟩
    rw [intoOf_edges] at hrow
    exact ⟨_, results_tmp rfl _ _ _, v, rfl, ownsRow_putObj (owns_mono hrow (by omega)) _ hK rfl, hB.trans (belowK_b (w := w) (Nat.le_refl _) W D _ _ (by omega) hK rfl rfl)⟩
  case stop =>
    rintro D c pre W _ _ h _
    exact h.elim

/-- 'cfg.Preds'. -/
theorem preds_c {v : Value} {l : List (List InsD)} (w : World) (b : Int) (h : IsBlocks (· < w.heap.size) w v l) (hl : l.length ≤ 1000) :
    Calls Try.prog 33 #[v, .int .i64 b] w fun e w' => ∃ u, e = .returned u ∧ w'.ownsRow w.heap.size 3 1 u (predS l b).length (ints (predS l b)) ∧ Below w.heap.size w w' := by
  obtain ⟨a, cap, rfl, -, -⟩ := id h
  exact callsIn_wide.1 (preds_in a cap w b h hl)
end
end Go.Proofs.Ytcihobmjohpnkaa
