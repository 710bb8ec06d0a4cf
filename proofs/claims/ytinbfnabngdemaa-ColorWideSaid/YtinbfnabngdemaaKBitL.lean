/- 'each': a set's numbers, as a range over a function tells them. -/
import Derived.Test.YtinbfnabngdemaaKPre
import Derived.Test.YtinbfnabngdemaaKBitW
import Derived.Test.YtinbfnabngdemaaBase
import Derived.Sort.QuietThIn
import Derived.RangeFuncBound
namespace Go.Proofs.Ytinbfnabngdemaa

section
open Go.RowKit Go.Sort Go.Shelf

attribute [local go_sem] Oper.semAt_some

/-- The numbers below n, rising, as whole numbers. -/
def uptoI (ws : List Nat) (n : Nat) : List Int := (Bit.upto ws n).map fun (m : Nat) => (m : Int)
def listI (ws : List Nat) : List Int := uptoI ws (64 * ws.length)
theorem uptoI_succ (ws : List Nat) (n : Nat) : uptoI ws (n + 1) = uptoI ws n ++ if Bit.has ws n then [(n : Int)] else [] := by
  unfold uptoI; rw [Bit.upto_succ, List.map_append]; split <;> simp
theorem uptoI_mono (ws : List Nat) {n m : Nat} (h : n ≤ m) : (uptoI ws n).length ≤ (uptoI ws m).length := by
  induction m with
  | zero => have : n = 0 := by omega
            subst this; exact Nat.le_refl _
  | succ m ih =>
    by_cases e : n = m + 1
    · subst e; exact Nat.le_refl _
    · rw [uptoI_succ, List.length_append]; have := ih (by omega); omega
theorem uptoI_length (ws : List Nat) (n : Nat) : (uptoI ws n).length ≤ n := by
  unfold uptoI Bit.upto; rw [List.length_map]; exact Nat.le_trans (List.length_filter_le _ _) (by simp)

set_option maxRecDepth 100000 in
set_option maxHeartbeats 4000000 in
theorem each1_in (n : Nat) (hn : 1 ≤ n) (lp Bx Bo n₀ : Nat) (lv : Value) (ws : List Nat) (hl : ws.length ≤ 2000) (hok : Bit.Ok ws) (J Jx : List Int → World → Prop) (W : World) (_ : AbidesFrom W.heap.size J)
    (hY : ∀ pre x W, J pre W → pre.length < (listI ws).length → YieldAt Fence.wide (n - 1) Try.prog lp #[.int .i64 x] W fun e W' =>
      (e = .returned (.bool true) ∧ J (pre ++ [x]) W' ∧ KeepsBut n₀ Bo W W') ∨ (e = .returned (.bool false) ∧ Jx (pre ++ [x]) W'))
    (hBx : W.cell? ⟨Bx, 0, none⟩ = some lv) (_ : Prot Bo Bx W) (hgd : Good Bo W) (_ : n₀ ≤ W.heap.size) (hL : IsWords (· < n₀) W lv ws) (h0 : J [] W) :
    CallsIn Fence.wide n Try.prog 63 #[.func (.yield lp) #[] #[], .pointer (some ⟨Bx, 0, none⟩)] W fun e W' => (∃ v, e = .returned v) ∧
      ((∃ ys, ys = listI ws ∧ J ys W') ∨ (∃ pre, True ∧ Jx pre W')) := by
  obtain ⟨a, cap, rfl, -, -⟩ := id hL
  refine callsIn_of_wp Try.func63 rfl trivial ?_ rfl
  simp only [Try.ntmps63, List.size_toArray, List.length_cons, List.length_nil, Nat.reduceAdd, Nat.reduceSub, Array.replicate_succ, Array.replicate_zero, List.push_toArray, List.append_toArray, List.nil_append, List.cons_append]
  gi_wp2
  gi_loopw [3, 4, 5, 9] (fun s3 s4 s5 s9 wr => ∃ k : Nat, k ≤ ws.length ∧ s9 = .int .i64 k ∧ J (uptoI ws (64 * k)) wr ∧ KeepsBut n₀ Bo W wr ∧ Good Bo wr) (fun _ _ _ s9 _ => ws.length - (intOf s9).toNat)
  case atStart => exact ⟨0, by omega, rfl, h0, ⟨Below.refl _ _, fun _ _ _ _ h => h, fun _ _ h => h, fun h => h⟩, hgd⟩
  case round =>
    obtain ⟨k, hk, rfl, hJs, hKW, hG⟩ := hrel
    by_cases hlt : k < ws.length
    · obtain ⟨_, _, hv0, -, hx⟩ := hL.keep (Keep.belowB hKW.below)
      simp only [Value.slice.injEq, true_and] at hv0
      obtain ⟨rfl, rfl⟩ := hv0
      rcases hx with rfl | ⟨sb, so, rfl, hpb, hx⟩
      · simp at hlt
      have t0 := hx k hlt
      simp only [CWord, Nat.mul_one] at t0
      clear hx
      have hx64 := Bit.getD_lt hok k
      have hgx : ws.getD k 0 = ws[k] := by simp [List.getD, hlt]
      have hbit : ∀ j, j < 64 → Bit.has ws (64 * k + j) = ws[k].testBit j := fun j hj => by
        unfold Bit.has
        have e1 : (64 * k + j) / 64 = k := by omega
        have e2 : (64 * k + j) % 64 = j := by omega
        rw [e1, e2, hgx]
      rw [hgx] at hx64
      clear hgx
      have hk2 : k ≤ 2000 := by omega
      generalize ws[k] = x at t0 hx64 hbit
      gi_wp2
      gi_loopw [5, 14] (fun s5 s14 wx => ∃ j : Nat, j ≤ 64 ∧ s14 = .int .i64 j ∧ J (uptoI ws (64 * k + j)) wx ∧ KeepsBut n₀ Bo W wx ∧ Good Bo wx) (fun _ s14 _ => 64 - (intOf s14).toNat)
      case atStart => exact ⟨0, by omega, rfl, hJs, hKW, hG⟩
      case round =>
        obtain ⟨j, hj, rfl, hJm, hKm, hGm⟩ := hrel
        clear hJs hKW hG t0
        by_cases hj64 : j < 64
        · have hb := hbit j hj64
          have hS := uptoI_succ ws (64 * k + j)
          rw [hb] at hS
          by_cases ht : x.testBit j = true
          · have hw : (bits .and .u64 ((x : Int) / 2 ^ j) 1 != 0) = true := by rw [word_bit hx64]; exact ht
            rw [ht, if_pos rfl] at hS
            have hlen : (uptoI ws (64 * k + j)).length < (listI ws).length := by
              have h1 := uptoI_mono ws (show 64 * k + j + 1 ≤ 64 * ws.length by omega)
              rw [hS, List.length_append] at h1
              unfold listI; simp at h1; omega
            obtain ⟨fn, tmps, assign, body, hy, hR⟩ := hY _ (((64 * k + j : Nat)) : Int) wr hJm hlen
            have hcast : (((64 * k + j : Nat)) : Int) = (k : Int) * 64 + j := by omega
            rw [hcast] at hy hR hS
            have HS : Hid (uptoI ws (64 * k + j + 1) = uptoI ws (64 * k + j) ++ [(k : Int) * 64 + j]) := hS
            clear hS hlen hJm hb ht hcast
            gi_wp2
            refine hR.mono ?_
            clear hR hy
            rintro e W3 (⟨rfl, hJ3, hk3⟩ | ⟨rfl, hJx3⟩)
            · have hK3 := hKm.trans hk3
              have hG3 := hk3.good hGm
              rw [← HS.out] at hJ3
              clear hk3 hKm hGm
              gi_wp2
              go_roundw
              case rel => exact ⟨j + 1, by omega, by go_num, hJ3, hK3, hG3⟩
              case measure => simp [intOf]; omega
            · gi_wp2
              refine bodyPost_ret (results_none rfl _ _ _) rfl ?_
              exact ⟨⟨_, rfl⟩, .inr ⟨_, trivial, hJx3⟩⟩
          · have ht' : x.testBit j = false := by simpa using ht
            have hw : (bits .and .u64 ((x : Int) / 2 ^ j) 1 != 0) = false := by rw [word_bit hx64]; exact ht'
            rw [ht', if_neg (by simp), List.append_nil] at hS
            have HS : Hid (uptoI ws (64 * k + j + 1) = uptoI ws (64 * k + j)) := hS
            clear hS hb ht ht'
            gi_wp2
            refine ⟨fun f h => (by cases h), ?_⟩
            gi_wp2
            go_roundw
            case rel => exact ⟨j + 1, by omega, by go_num, by rw [← Nat.add_assoc, HS.out]; exact hJm, hKm, hGm⟩
            case measure => simp [intOf]; omega
        · have hje : j = 64 := by omega
          subst hje
          gi_wp2
          go_roundw
          case rel => exact ⟨k + 1, by omega, by go_num, by rw [Nat.mul_add]; exact hJm, hKm, hGm⟩
          case measure => simp [intOf]; omega
    · obtain rfl : k = ws.length := by omega
      gi_wp2
      go_end0
      exact ⟨⟨_, rfl⟩, .inl ⟨_, rfl, hJs⟩⟩
end

section
/- 'List'. -/
open Go.RowKit Go.Sort Go.Shelf

attribute [local go_sem] Oper.semAt_some

theorem each_in (n : Nat) (a : Option Addr) (len cap : Nat) (w : World) :
    CallsIn Fence.wide n Try.prog 57 #[.agg #[.slice a len cap]] w fun e w' => e = .returned (.func (.func 63) #[] #[.pointer (some ⟨w.heap.size, 0, none⟩)]) ∧ w' = w.alloc (.cells #[.slice a len cap] 49) := by
  refine callsIn_of_wp Try.func57 rfl trivial ?_ rfl
  simp only [Try.ntmps57, List.size_toArray, List.length_cons, List.length_nil, Nat.reduceAdd, Nat.reduceSub, Array.replicate_succ, Array.replicate_zero, List.push_toArray, List.append_toArray, List.nil_append, List.cons_append]
  gi_wp2
  go_ret
  exact ⟨rfl, rfl⟩

/-- It tells the numbers in their order. -/
theorem each_stops (n : Nat) (hn : 1 ≤ n) (Bx Bo n₀ : Nat) (lv : Value) (ws : List Nat) (hl : ws.length ≤ 2000) (hok : Bit.Ok ws) (w : World) (hBx : w.cell? ⟨Bx, 0, none⟩ = some lv) (hpx : Prot Bo Bx w) (hgd : Good Bo w) (hn0 : n₀ ≤ w.heap.size)
    (hL : IsWords (· < n₀) w lv ws) :
    SeqStopsK Fence.wide n Try.prog 63 #[.pointer (some ⟨Bx, 0, none⟩)] (fun x : Int => #[Value.int .i64 x]) (KeepsBut n₀ Bo) (fun ys => ys = listI ws) (fun _ => True) (listI ws).length w := by
  intro lp J Jx W hW hJ _ hY h0
  obtain ⟨hk, _⟩ := KeepsBut.of_below hgd hn0 hW
  exact each1_in n hn lp Bx Bo n₀ lv ws hl hok J Jx W hJ hY (hk.cell _ _ _ hpx hBx) (hk.prot Bx (lt_of_cell hBx) hpx) (hk.good hgd) (by have := hW.size; omega) (hL.keep (Keep.belowB hk.below)) h0

theorem listI_length (ws : List Nat) : (listI ws).length ≤ 64 * ws.length := uptoI_length ws _

end

section
/- 'Len' of a set. -/
open Go.RowKit Go.Sort Go.Shelf

attribute [local go_sem] Oper.semAt_some

/-- A number that is stored into the box. -/
theorem KeepsBut.stored {W : World} {n₀ Bo : Nat} (hB : n₀ ≤ Bo) (hl : Bo < W.heap.size) {t : TypeId} {v : Value} (hv : Boxed W Bo t v) (x : Int) : KeepsBut n₀ Bo W (W.setCell ⟨Bo, 0, none⟩ (.int .i64 x)) := by
  have hc2 : (W.setCell ⟨Bo, 0, none⟩ (.int .i64 x)).cell? ⟨Bo, 0, none⟩ = some (.int .i64 x) := (hv.set (.int .i64 x)).cell
  refine ⟨(Below.refl _ _).setCell (by show n₀ ≤ Bo; exact hB) _, fun b o u hp hc => ?_, fun b _ hp => ⟨hp.1, fun u hu => ?_⟩, fun hG => ⟨by simpa using hl, fun u hu b hub => ?_⟩⟩
  · rw [cell_of_block (Below.heap_setCell _ _ _ _ hp.1)]; exact hc
  · rw [hc2] at hu; cases hu; simp [Value.ownBlock]
  · rw [hc2] at hu; cases hu; simp [Value.ownBlock] at hub

set_option maxRecDepth 100000 in
set_option maxHeartbeats 4000000 in
theorem len_in (a : Option Addr) (len cap : Nat) {ws : List Nat} (w : World) (h : IsWords (· < w.heap.size) w (.slice a len cap) ws) (hl : ws.length ≤ 2000) (hok : Bit.Ok ws) :
    CallsIn Fence.wide 5 Try.prog 49 #[.agg #[.slice a len cap]] w fun e w' => e = .returned (.int .i64 ((listI ws).length : Int)) ∧ Below w.heap.size w w' := by
  refine callsIn_of_wp_marks Try.func49 rfl trivial ?_ rfl
  simp only [Try.ntmps49, List.size_toArray, List.length_cons, List.length_nil, Nat.reduceAdd, Nat.reduceSub, Array.replicate_succ, Array.replicate_zero, List.push_toArray, List.append_toArray, List.nil_append, List.cons_append]
  gi_wp2
  refine ⟨trivial, (each_in _ _ _ _ _).mono ?_⟩
  rintro e w' ⟨rfl, rfl⟩
  gi_wp2
  have bO := (Boxed.new (w.alloc (.cells #[.slice a len cap] 49)) 3 (.int .i64 0)).alloc (.cells #[.slice a len cap] 49)
  have bN := Boxed.new ((w.alloc (.cells #[.slice a len cap] 49)).alloc (.cells #[.int .i64 0] 3)) 49 (.slice a len cap)
  simp only [World.size_alloc] at bO bN
  have hB0 : Below w.heap.size w (((w.alloc (.cells #[.slice a len cap] 49)).alloc (.cells #[.int .i64 0] 3)).alloc (.cells #[.slice a len cap] 49)) := bel_alloc (bel_alloc (bel_alloc (bel_refl w) _) _) _
  have hsz : (((w.alloc (.cells #[.slice a len cap] 49)).alloc (.cells #[.int .i64 0] 3)).alloc (.cells #[.slice a len cap] 49)).heap.size = w.heap.size + 3 := by simp
  obtain ⟨W0, hW0⟩ : ∃ W0, ((w.alloc (.cells #[.slice a len cap] 49)).alloc (.cells #[.int .i64 0] 3)).alloc (.cells #[.slice a len cap] 49) = W0 := ⟨_, rfl⟩
  rw [hW0] at bO bN hB0 hsz ⊢
  have hgd : Good (w.heap.size + 1) W0 := ⟨by omega, fun v hv b' hb' => by rw [bO.cell] at hv; cases hv; simp [Value.ownBlock] at hb'⟩
  have hpx : Prot (w.heap.size + 1) (w.heap.size + 1 + 1) W0 := ⟨by omega, fun v hv e => by rw [bO.cell] at hv; cases hv; simp [Value.ownBlock] at e⟩
  refine wpIn_rangeFunc_ownF (w := W0) rfl (by omega) (gf := 63) (lb := #[.pointer (some ⟨w.heap.size + 1 + 1, 0, none⟩)]) rfl trivial (enters_of Try.func63 (by kernel_rfl) rfl)
    (each_stops 4 (by omega) (w.heap.size + 1 + 1) (w.heap.size + 1) w.heap.size _ ws hl hok W0 bN.cell hpx hgd (by omega) (h.keep (Keep.belowB hB0))) KeepsBut.trans ?hkb (Below.refl _ _) (fun _ => rfl)
    (fun pre W => Boxed W (w.heap.size + 1) 3 (.int .i64 (pre.length : Int)) ∧ Below w.heap.size w W)
    (fun _ _ _ => False)
    ?hown
    (fun _ _ _ _ _ hs _ _ => hs)
    ⟨bO, hB0⟩
    (fun x => { tmps := #[.agg #[.slice a len cap], .pointer (some ⟨w.heap.size, 0, none⟩), .int .i64 0, .pointer (some ⟨w.heap.size + 1, 0, none⟩), .agg #[.slice a len cap], .func (.func 63) #[] #[.pointer (some ⟨w.heap.size + 1 + 1, 0, none⟩)], .int .i64 x, undef, undef, undef], defers := [] }) ?assign ?body ?done ?stop
  case hkb =>
    intro W l o o' hl ho hc hw
    have hBo : (W.putObj l o').heap[w.heap.size + 1]? = W.heap[w.heap.size + 1]? := World.putObj_heap_other (by omega)
    have hsz' : (W.putObj l o').heap.size = W.heap.size := by simp
    refine ⟨belowK_b (w := W0) (by omega) W l o o' hl ho hc hw, fun b o1 v _ hcv => cell_kept hcv (grownBy_putObj' W l o') (fun r e => by cases e; exact ⟨o, ho, hc⟩), fun b _ hp => ⟨hp.1, fun v hv => hp.2 v (by rw [← cell_of_block hBo]; exact hv)⟩, fun hG => ⟨by rw [hsz']; exact hG.1, fun v hv b hb => by rw [hsz']; exact hG.2 v (by rw [← cell_of_block hBo]; exact hv) b hb⟩⟩
  case hown =>
    exact OwnFrom.and (Own.from (boxed_own (w.heap.size + 1) 3 (fun pre : List Int => .int .i64 (pre.length : Int))) _) (ownFrom_below (Nat.le_refl _) (by omega))
  case assign =>
    intro lp x W K hK
    gi_wp2
    simpa using hK
  case body =>
    rintro lp pre x W ⟨hv, hB⟩ hlt
    have hc := hv.cell
    have hf := hv.frozen
    have hvl := hv.lt
    have hpl := listI_length ws
    have hKB := KeepsBut.stored (n₀ := w.heap.size) (by omega) hvl hv ((pre.length : Int) + 1)
    have hset := hv.set (.int .i64 ((pre.length : Int) + 1))
    have hB2 : Below w.heap.size w (W.setCell ⟨w.heap.size + 1, 0, none⟩ (.int .i64 ((pre.length : Int) + 1))) := hB.setCell (by show w.heap.size ≤ w.heap.size + 1; omega) _
    gi_wp2
    refine ⟨KeepsOthers.setCell _ _ _, hKB, ?_, hB2⟩
    simpa using hset
  case done =>
    rintro D ys W hD rfl ⟨hv, hB⟩ hK
    have hc := hv.cell
    gi_wp2
    refine ⟨by simp, .inl ⟨_, _, rfl, run_takeDeferred hK, ?_⟩⟩
    exact ⟨_, results_tmp rfl _ _ _, rfl, hB.trans (belowK_b (w := w) (Nat.le_refl _) W D _ _ (by omega) hK rfl rfl)⟩
  case stop =>
    rintro D c pre W _ _ h _
    exact h.elim

theorem len_c {u : Value} {ws : List Nat} (w : World) (h : IsWords (· < w.heap.size) w u ws) (hl : ws.length ≤ 2000) (hok : Bit.Ok ws) :
    Calls Try.prog 49 #[.agg #[u]] w fun e w' => e = .returned (.int .i64 ((listI ws).length : Int)) ∧ Below w.heap.size w w' := by
  obtain ⟨a, cap, rfl, -, -⟩ := id h
  exact callsIn_wide.1 (len_in a _ cap w h hl hok)
end

section
/- A region that draws its order, inside a round of a loop over a function: one walk of the text's order, over a class of worlds. -/
open Go.RowKit

section
variable {F : Fence} {n : Nat} {P : Program} {ops : Array Oper} {md : Region.Mode} {C : World → Prop}
theorem wpIn_of_quietR {o : Oper} {a : Act} {K : Act → Prop} {K' : Act → World → Prop} {Q' : Exit → Act → World → Prop} {w : World} (hnd : ∀ c, o.op ≠ .defer c) (hw : C w) (h : ∀ a w', C w' → K a → K' a w')
    (ha : o.askedIn F P a C) (hh : o.quietIn F n P a C K) : o.wpIn F n P a w K' Q' := by
  obtain ⟨v, h1, h2⟩ := hh
  have h3 := h1 w hw
  unfold Oper.quietAtIn at h3
  unfold Oper.wpIn
  refine ⟨ha w hw, ?_⟩
  rw [Oper.semAt_eq _ _ _ hnd]
  generalize (execOp a.eval o).run P w = r at *
  cases r with
  | ok x w' =>
    cases x <;> simp only [Oper.quietUponIn] at h3 <;> simp only [Oper.uponIn]
    case value u =>
      obtain ⟨e1, e2⟩ := h3
      rw [e1, e2]
      exact h _ _ hw h2
    case skip =>
      obtain ⟨e1, e2⟩ := h3
      rw [e1, ← e2]
      exact h _ _ hw h2
    case enter f args =>
      obtain ⟨e1, hd, hc⟩ := h3
      rw [e1]
      exact ⟨hd, hc.mono fun e w'' ⟨he, hw''⟩ => by subst he; exact h _ _ hw'' h2⟩
  | halt x w' => simp only [Oper.quietUponIn] at h3
theorem wpOpIn_of_qOpInR {i : Nat} {a : Act} {K : Act → Prop} {K' : Act → World → Prop} {Q' : Exit → Act → World → Prop} {w : World} (hnd : ∀ (i : Nat) o, ops[i]? = some o → ∀ c, o.op ≠ .defer c) (hC : C w) (h : ∀ a w', C w' → K a → K' a w')
    (hh : qOpIn F n P ops C i K a) : wpOpIn F n P ops Q' i K' a w := by
  unfold qOpIn at hh
  unfold wpOpIn
  split
  · rename_i ho; simp only [ho] at hh; exact h _ _ hC hh
  · rename_i o ho
    simp only [ho] at hh
    obtain ⟨ha, hh⟩ := hh
    split
    · rename_i hw; simp only [hw, if_true] at hh; exact wpIn_of_quietR (hnd i o ho) hC h ha hh
    · rename_i hw; simp only [hw] at hh; exact ⟨ha w hC, h _ _ hC hh⟩
theorem wpAnyIn_of_quietR {Q : Act → Prop} {Q' : Exit → Act → World → Prop} (hnd : ∀ (i : Nat) o, ops[i]? = some o → ∀ c, o.op ≠ .defer c) (hQ : ∀ a w, C w → Q a → Q' .normal a w) : ∀ (fuel : Nat) (listed : Array Bool) (a : Act) (w : World), C w →
    wpAnyQIn F n P md ops C Q fuel listed a → wpAnyIn F n P md ops Q' fuel listed a w
  | 0, _, _, _, hw, h => ⟨h.1, hQ _ _ hw h.2⟩
  | fuel + 1, _, _, _, hw, h => ⟨fun h0 => hQ _ _ hw (h.1 h0), fun i hi => wpOpIn_of_qOpInR hnd hw (fun a' w' hw' => wpAnyIn_of_quietR hnd hQ fuel _ a' w' hw') (h.2 i hi)⟩
def noDefer (l : List Oper) : Bool := l.all fun o => match o.op with | .defer _ => false | _ => true
theorem noDefer_spec {l : List Oper} (h : noDefer l = true) (i : Nat) (o : Oper) (ho : l.toArray[i]? = some o) : ∀ c, o.op ≠ .defer c := fun c e => by
  have hm : o ∈ l := List.mem_of_getElem? (by simpa using ho)
  have := List.all_eq_true.1 h o hm
  rw [e] at this
  cases this
theorem wpIn_region_class {id : Nat} {Q : Exit → Act → World → Prop} {a : Act} {w : World} {l : List Oper} (hd : noDefer l = true) (hm : P.follows .mixedOrders = true) (hB : Region.lexB .any l.toArray = true) (hC : C { w with drawn := w.drawn + 1 })
    (h : wpQuietIn F n P l.toArray C (fun a' => ∀ w', C w' → Q .normal a' w') l a) : (Code.region id l.toArray true).wpIn F n P Q a w := by
  simp only [Region.lexB, Bool.and_eq_true] at hB
  refine wpIn_region_any hm (wpAnyIn_of_quietR (Q := fun a' => ∀ w', C w' → Q .normal a' w') (fun i o ho c => noDefer_spec hd i o ho c) (fun _ w' hw' h => h w' hw') _ _ _ _ hC ?_)
  have := wpAnyQIn_lex (F := F) (n := n) (C := C) (md := .any) hB.1 l 0 (Array.replicate l.toArray.size false) a (by simp) (by simpa using hB.2) h
  simpa using this
end

section
/- 'each', once more: the body is told that the number is the next one. -/
open Go.RowKit Go.Sort Go.Shelf

attribute [local go_sem] Oper.semAt_some

theorem uptoI_pre (ws : List Nat) {n m : Nat} (h : n ≤ m) : uptoI ws n <+: uptoI ws m := by
  induction m with
  | zero => obtain rfl : n = 0 := by omega
            exact List.prefix_refl _
  | succ m ih =>
    by_cases e : n = m + 1
    · subst e; exact List.prefix_refl _
    · rw [uptoI_succ]; exact (ih (by omega)).trans (List.prefix_append _ _)

set_option maxRecDepth 100000 in
set_option maxHeartbeats 4000000 in
theorem each2_in (n : Nat) (hn : 1 ≤ n) (lp Bx Bo n₀ : Nat) (lv : Value) (ws : List Nat) (hl : ws.length ≤ 2000) (hok : Bit.Ok ws) (J Jx : List Int → World → Prop) (W : World)
    (hY : ∀ pre x W, J pre W → pre ++ [x] <+: listI ws → YieldAt Fence.wide (n - 1) Try.prog lp #[.int .i64 x] W fun e W' =>
      (e = .returned (.bool true) ∧ J (pre ++ [x]) W' ∧ KeepsBut n₀ Bo W W') ∨ (e = .returned (.bool false) ∧ Jx (pre ++ [x]) W'))
    (hBx : W.cell? ⟨Bx, 0, none⟩ = some lv) (_ : Prot Bo Bx W) (hgd : Good Bo W) (_ : n₀ ≤ W.heap.size) (hL : IsWords (· < n₀) W lv ws) (h0 : J [] W) :
    CallsIn Fence.wide n Try.prog 63 #[.func (.yield lp) #[] #[], .pointer (some ⟨Bx, 0, none⟩)] W fun e W' => (∃ v, e = .returned v) ∧
      ((∃ ys, ys = listI ws ∧ J ys W') ∨ (∃ pre, True ∧ Jx pre W')) := by
  obtain ⟨a, cap, rfl, -, -⟩ := id hL
  refine callsIn_of_wp Try.func63 rfl trivial ?_ rfl
  simp only [Try.ntmps63, List.size_toArray, List.length_cons, List.length_nil, Nat.reduceAdd, Nat.reduceSub, Array.replicate_succ, Array.replicate_zero, List.push_toArray, List.append_toArray, List.nil_append, List.cons_append]
  gi_wp2
  gi_loopw [3, 4, 5, 9] (fun s3 s4 s5 s9 wr => ∃ k : Nat, k ≤ ws.length ∧ s9 = .int .i64 k ∧ J (uptoI ws (64 * k)) wr ∧ KeepsBut n₀ Bo W wr ∧ Good Bo wr) (fun _ _ _ s9 _ => ws.length - (intOf s9).toNat)
  case atStart => exact ⟨0, by omega, rfl, h0, ⟨Below.refl _ _, fun _ _ _ _ h => h, fun _ _ h => h, fun h => h⟩, hgd⟩
  case round =>
    obtain ⟨k, hk, rfl, hJs, hKW, hG⟩ := hrel
    by_cases hlt : k < ws.length
    · obtain ⟨_, _, hv0, -, hx⟩ := hL.keep (Keep.belowB hKW.below)
      simp only [Value.slice.injEq, true_and] at hv0
      obtain ⟨rfl, rfl⟩ := hv0
      rcases hx with rfl | ⟨sb, so, rfl, hpb, hx⟩
      · simp at hlt
      have t0 := hx k hlt
      simp only [CWord, Nat.mul_one] at t0
      clear hx
      have hx64 := Bit.getD_lt hok k
      have hgx : ws.getD k 0 = ws[k] := by simp [List.getD, hlt]
      have hbit : ∀ j, j < 64 → Bit.has ws (64 * k + j) = ws[k].testBit j := fun j hj => by
        unfold Bit.has
        have e1 : (64 * k + j) / 64 = k := by omega
        have e2 : (64 * k + j) % 64 = j := by omega
        rw [e1, e2, hgx]
      rw [hgx] at hx64
      clear hgx
      have hk2 : k ≤ 2000 := by omega
      generalize ws[k] = x at t0 hx64 hbit
      gi_wp2
      gi_loopw [5, 14] (fun s5 s14 wx => ∃ j : Nat, j ≤ 64 ∧ s14 = .int .i64 j ∧ J (uptoI ws (64 * k + j)) wx ∧ KeepsBut n₀ Bo W wx ∧ Good Bo wx) (fun _ s14 _ => 64 - (intOf s14).toNat)
      case atStart => exact ⟨0, by omega, rfl, hJs, hKW, hG⟩
      case round =>
        obtain ⟨j, hj, rfl, hJm, hKm, hGm⟩ := hrel
        clear hJs hKW hG t0
        by_cases hj64 : j < 64
        · have hb := hbit j hj64
          have hS := uptoI_succ ws (64 * k + j)
          rw [hb] at hS
          by_cases ht : x.testBit j = true
          · have hw : (bits .and .u64 ((x : Int) / 2 ^ j) 1 != 0) = true := by rw [word_bit hx64]; exact ht
            rw [ht, if_pos rfl] at hS
            have hlen : uptoI ws (64 * k + j) ++ [(((64 * k + j : Nat)) : Int)] <+: listI ws := by
              have h1 := uptoI_pre ws (show 64 * k + j + 1 ≤ 64 * ws.length by omega)
              rw [hS] at h1
              exact h1
            obtain ⟨fn, tmps, assign, body, hy, hR⟩ := hY _ (((64 * k + j : Nat)) : Int) wr hJm hlen
            have hcast : (((64 * k + j : Nat)) : Int) = (k : Int) * 64 + j := by omega
            rw [hcast] at hy hR hS
            have HS : Hid (uptoI ws (64 * k + j + 1) = uptoI ws (64 * k + j) ++ [(k : Int) * 64 + j]) := hS
            clear hS hlen hJm hb ht hcast
            gi_wp2
            refine hR.mono ?_
            clear hR hy
            rintro e W3 (⟨rfl, hJ3, hk3⟩ | ⟨rfl, hJx3⟩)
            · have hK3 := hKm.trans hk3
              have hG3 := hk3.good hGm
              rw [← HS.out] at hJ3
              clear hk3 hKm hGm
              gi_wp2
              go_roundw
              case rel => exact ⟨j + 1, by omega, by go_num, hJ3, hK3, hG3⟩
              case measure => simp [intOf]; omega
            · gi_wp2
              refine bodyPost_ret (results_none rfl _ _ _) rfl ?_
              exact ⟨⟨_, rfl⟩, .inr ⟨_, trivial, hJx3⟩⟩
          · have ht' : x.testBit j = false := by simpa using ht
            have hw : (bits .and .u64 ((x : Int) / 2 ^ j) 1 != 0) = false := by rw [word_bit hx64]; exact ht'
            rw [ht', if_neg (by simp), List.append_nil] at hS
            have HS : Hid (uptoI ws (64 * k + j + 1) = uptoI ws (64 * k + j)) := hS
            clear hS hb ht ht'
            gi_wp2
            refine ⟨fun f h => (by cases h), ?_⟩
            gi_wp2
            go_roundw
            case rel => exact ⟨j + 1, by omega, by go_num, by rw [← Nat.add_assoc, HS.out]; exact hJm, hKm, hGm⟩
            case measure => simp [intOf]; omega
        · have hje : j = 64 := by omega
          subst hje
          gi_wp2
          go_roundw
          case rel => exact ⟨k + 1, by omega, by go_num, by rw [Nat.mul_add]; exact hJm, hKm, hGm⟩
          case measure => simp [intOf]; omega
    · obtain rfl : k = ws.length := by omega
      gi_wp2
      go_end0
      exact ⟨⟨_, rfl⟩, .inl ⟨_, rfl, hJs⟩⟩

/-- It tells the numbers in their order; each is one of the set's. -/
theorem each2_stops (n : Nat) (hn : 1 ≤ n) (Bx Bo n₀ : Nat) (lv : Value) (ws : List Nat) (hl : ws.length ≤ 2000) (hok : Bit.Ok ws) (w : World) (hBx : w.cell? ⟨Bx, 0, none⟩ = some lv) (hpx : Prot Bo Bx w) (hgd : Good Bo w) (hn0 : n₀ ≤ w.heap.size)
    (hL : IsWords (· < n₀) w lv ws) :
    SeqStopsK Fence.wide n Try.prog 63 #[.pointer (some ⟨Bx, 0, none⟩)] (fun x : { x : Int // x ∈ listI ws } => #[Value.int .i64 x.1]) (KeepsBut n₀ Bo) (fun ys => ys.map (fun x => x.1) = listI ws) (fun _ => True) (listI ws).length w := by
  intro lp J Jx W hW _ _ hY h0
  obtain ⟨hk, _⟩ := KeepsBut.of_below hgd hn0 hW
  refine (each2_in n hn lp Bx Bo n₀ lv ws hl hok (fun ys W => ∃ zs : List { x : Int // x ∈ listI ws }, zs.map (fun x => x.1) = ys ∧ J zs W) (fun ys W => ∃ zs : List { x : Int // x ∈ listI ws }, zs.map (fun x => x.1) = ys ∧ Jx zs W) W ?_ (hk.cell _ _ _ hpx hBx) (hk.prot Bx (lt_of_cell hBx) hpx) (hk.good hgd) (by have := hW.size; omega) (hL.keep (Keep.belowB hk.below)) ⟨[], rfl, h0⟩).mono ?_
  · rintro pre x W' ⟨zs, rfl, hJ⟩ hp
    have hx : x ∈ listI ws := hp.subset (by simp)
    have hlen : zs.length < (listI ws).length := by have := hp.length_le; simp at this; omega
    refine YieldAt.mono (hY zs ⟨x, hx⟩ W' hJ hlen) ?_
    rintro e W3 (⟨rfl, h1, h2⟩ | ⟨rfl, h1⟩)
    · exact .inl ⟨rfl, ⟨_, by simp, h1⟩, h2⟩
    · exact .inr ⟨rfl, ⟨_, by simp, h1⟩⟩
  · rintro e W' ⟨hv, ⟨ys, rfl, zs, hz, hJ⟩ | ⟨pre, -, zs, hz, hJ⟩⟩
    · exact ⟨hv, .inl ⟨zs, hz, hJ⟩⟩
    · exact ⟨hv, .inr ⟨zs, trivial, hJ⟩⟩
end
end
end Go.Proofs.Ytinbfnabngdemaa
