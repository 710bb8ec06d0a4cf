/- 'List'. -/
import Derived.Test.YtcihobmjohpnkaaBitI
import Derived.Test.YtcihobmjohpnkaaPreds
namespace Go.Proofs.Ytcihobmjohpnkaa
open Go.RowKit Go.Sort Go.Shelf

attribute [local go_sem] Oper.semAt_some

theorem each_in (n : Nat) (a : Option Addr) (len cap : Nat) (w : World) :
    CallsIn Fence.wide n Try.prog 111 #[.agg #[.slice a len cap]] w fun e w' => e = .returned (.func (.func 125) #[] #[.pointer (some ⟨w.heap.size, 0, none⟩)]) ∧ w' = w.alloc (.cells #[.slice a len cap] 96) := by
  refine callsIn_of_wp Try.func111 rfl trivial ?_ rfl
  simp only [Try.ntmps111, List.size_toArray, List.length_cons, List.length_nil, Nat.reduceAdd, Nat.reduceSub, Array.replicate_succ, Array.replicate_zero, List.push_toArray, List.append_toArray, List.nil_append, List.cons_append]
  gi_wp2
  go_ret
  exact ⟨rfl, rfl⟩

/-- It tells the numbers in their order. -/
theorem each_stops (n : Nat) (hn : 1 ≤ n) (Bx Bo n₀ : Nat) (lv : Value) (ws : List Nat) (hl : ws.length ≤ 2000) (hok : Bit.Ok ws) (w : World) (hBx : w.cell? ⟨Bx, 0, none⟩ = some lv) (hpx : Prot Bo Bx w) (hgd : Good Bo w) (hn0 : n₀ ≤ w.heap.size)
    (hL : IsWords (· < n₀) w lv ws) :
    SeqStopsK Fence.wide n Try.prog 125 #[.pointer (some ⟨Bx, 0, none⟩)] (fun x : Int => #[Value.int .i64 x]) (KeepsBut n₀ Bo) (fun ys => ys = listI ws) (fun _ => True) (listI ws).length w := by
  intro lp J Jx W hW hJ _ hY h0
  obtain ⟨hk, _⟩ := KeepsBut.of_below hgd hn0 hW
  exact each1_in n hn lp Bx Bo n₀ lv ws hl hok J Jx W hJ hY (hk.cell _ _ _ hpx hBx) (hk.prot Bx (lt_of_cell hBx) hpx) (hk.good hgd) (by have := hW.size; omega) (hL.keep (Keep.belowB hk.below)) h0

theorem listI_length (ws : List Nat) : (listI ws).length ≤ 64 * ws.length := uptoI_length ws _

set_option maxRecDepth 100000 in
set_option maxHeartbeats 4000000 in
theorem list_in (a : Option Addr) (len cap : Nat) {ws : List Nat} (w : World) (h : IsWords (· < w.heap.size) w (.slice a len cap) ws) (hl : ws.length ≤ 2000) (hok : Bit.Ok ws) :
    CallsIn Fence.wide 5 Try.prog 86 #[.agg #[.slice a len cap]] w fun e w' => ∃ u, e = .returned u ∧ w'.ownsRow w.heap.size 3 1 u (listI ws).length (ints (listI ws)) ∧ Below w.heap.size w w' := by
  obtain ⟨i0, hi, hz0, hz1, hz2⟩ := info_parts infoInt
  refine callsIn_of_wp_marks Try.func86 rfl trivial ?_ rfl
  simp only [Try.ntmps86, List.size_toArray, List.length_cons, List.length_nil, Nat.reduceAdd, Nat.reduceSub, Array.replicate_succ, Array.replicate_zero, List.push_toArray, List.append_toArray, List.nil_append, List.cons_append]
  gi_wp2
  refine ⟨trivial, (each_in _ _ _ _ _).mono ?_⟩
  rintro e w' ⟨rfl, rfl⟩
  gi_wp2
  have bB := (Boxed.new w 96 (.slice a len cap)).alloc (.cells #[.slice none 0 0] 25) |>.alloc (.cells #[.slice a len cap] 96)
  have bO := (Boxed.new (w.alloc (.cells #[.slice a len cap] 96)) 25 (.slice none 0 0)).alloc (.cells #[.slice a len cap] 96)
  have bN := Boxed.new ((w.alloc (.cells #[.slice a len cap] 96)).alloc (.cells #[.slice none 0 0] 25)) 96 (.slice a len cap)
  simp only [World.size_alloc] at bO bN
  have hB0 : Below w.heap.size w (((w.alloc (.cells #[.slice a len cap] 96)).alloc (.cells #[.slice none 0 0] 25)).alloc (.cells #[.slice a len cap] 96)) := bel_alloc (bel_alloc (bel_alloc (bel_refl w) _) _) _
  have hsz : (((w.alloc (.cells #[.slice a len cap] 96)).alloc (.cells #[.slice none 0 0] 25)).alloc (.cells #[.slice a len cap] 96)).heap.size = w.heap.size + 3 := by simp
  obtain ⟨W0, hW0⟩ : ∃ W0, ((w.alloc (.cells #[.slice a len cap] 96)).alloc (.cells #[.slice none 0 0] 25)).alloc (.cells #[.slice a len cap] 96) = W0 := ⟨_, rfl⟩
  rw [hW0] at bB bO bN hB0 hsz ⊢
  have hgd : Good (w.heap.size + 1) W0 := ⟨by omega, fun v hv b' hb' => by rw [bO.cell] at hv; cases hv; simp [Value.ownBlock] at hb'⟩
  have hpx : Prot (w.heap.size + 1) (w.heap.size + 1 + 1) W0 := ⟨by omega, fun v hv e => by rw [bO.cell] at hv; cases hv; simp [Value.ownBlock] at e⟩
  refine wpIn_rangeFunc_ownF (w := W0) rfl (by omega) (gf := 125) (lb := #[.pointer (some ⟨w.heap.size + 1 + 1, 0, none⟩)]) rfl trivial (enters_of Try.func125 (by kernel_rfl) rfl)
    (each_stops 4 (by omega) (w.heap.size + 1 + 1) (w.heap.size + 1) w.heap.size _ ws hl hok W0 bN.cell hpx hgd (by omega) (h.keep (Keep.belowB hB0))) KeepsBut.trans ?hkb (Below.refl _ _) (fun _ => rfl)
    (fun pre W => (∃ v, Boxed W (w.heap.size + 1) 25 v ∧ W.ownsRow (w.heap.size + 1) 3 1 v pre.length (ints pre) ∧ True) ∧ Below w.heap.size w W)
    (fun _ _ _ => False)
    ?hown
    (fun _ _ _ _ _ hs _ _ => hs)
    ⟨⟨_, bO, World.ownsRow_nil _ _ _ _, trivial⟩, hB0⟩
    (fun x => { tmps := #[.agg #[.slice a len cap], .pointer (some ⟨w.heap.size, 0, none⟩), .slice none 0 0, .pointer (some ⟨w.heap.size + 1, 0, none⟩), .int .i64 x, .agg #[.slice a len cap], .func (.func 125) #[] #[.pointer (some ⟨w.heap.size + 1 + 1, 0, none⟩)], .int .i64 x, undef, undef, undef, undef, undef], defers := [] }) ?assign ?body ?done ?stop
  case hkb =>
    intro W l o o' hl ho hc hw
    have hBo : (W.putObj l o').heap[w.heap.size + 1]? = W.heap[w.heap.size + 1]? := World.putObj_heap_other (by omega)
    have hsz' : (W.putObj l o').heap.size = W.heap.size := by simp
    refine ⟨belowK_b (w := W0) (by omega) W l o o' hl ho hc hw, fun b o1 v _ hcv => cell_kept hcv (grownBy_putObj' W l o') (fun r e => by cases e; exact ⟨o, ho, hc⟩), fun b _ hp => ⟨hp.1, fun v hv => hp.2 v (by rw [← cell_of_block hBo]; exact hv)⟩, fun hG => ⟨by rw [hsz']; exact hG.1, fun v hv b hb => by rw [hsz']; exact hG.2 v (by rw [← cell_of_block hBo]; exact hv) b hb⟩⟩
  case hown =>
    exact OwnFrom.and (Own.from (holdsRow_own (w.heap.size + 1) (w.heap.size + 1) 25 3 1 (fun pre : List Int => pre.length) (fun pre => ints pre) (fun _ _ => True)) _)
      (ownFrom_below (Nat.le_refl _) (by omega))
  case assign =>
    intro lp x W K hK
    gi_wp2
    exact hK
  case body =>
    rintro lp pre x W ⟨⟨v, hv, hrow, -⟩, hB⟩ hlt
    have hc := hv.cell
    have hpl := listI_length ws
    gi_wp2_with (gi_at_builtin; refine wpIn_app _ rfl _ _ 25 rfl (w.heap.size + 1) 3 i0 (.int .i64 0) 1 8 Try.underlying25 hi hz0 hz1 hz2 rfl (by decide) _ _ _ rfl (hrow.alloc _) ⟨W.heap.size, 0, none⟩ 1 1 [.int .i64 x] rfl rfl (cell_one_new _ _ _) (by simp [Value.oneCell']) (by unfold maxLen; omega) (by omega) (by have := hv.lt; simp; omega) ?_; intro v' w1 hown' hgrow hblk; obtain ⟨g', cap', rfl⟩ := ownsRow_succ hown'; obtain ⟨hv1, hv2, hr2, hk2, hb2⟩ := hv.appended (by decide) hrow (by have := hv.lt; omega) (by omega) hown' hgrow; have hKB := KeepsBut.appended (n₀ := w.heap.size) hv hv1 (owns_mono hown' (by omega)) hgrow (hb2.mono (by omega)) hblk; have hc1 := hv1.cell; have hf1 := hv1.frozen; clear hown' hgrow hblk)
    refine ⟨hk2, hKB, ⟨⟨_, hv2, ?_, trivial⟩, hB.trans (hb2.mono (by omega))⟩⟩
    simpa [ints] using hr2
  case done =>
    rintro D ys W hD rfl ⟨⟨v, hv, hrow, -⟩, hB⟩ hK
    have hc := hv.cell
    gi_wp2
    refine ⟨by simp, .inl ⟨_, _, rfl, run_takeDeferred hK, ?_⟩⟩
    exact ⟨_, results_tmp rfl _ _ _, v, rfl, ownsRow_putObj (owns_mono hrow (by omega)) _ hK rfl, hB.trans (belowK_b (w := w) (Nat.le_refl _) W D _ _ (by omega) hK rfl rfl)⟩
  case stop =>
    rintro D c pre W _ _ h _
    exact h.elim

/-- 'List'. -/
theorem list_c {u : Value} {ws : List Nat} (w : World) (h : IsWords (· < w.heap.size) w u ws) (hl : ws.length ≤ 2000) (hok : Bit.Ok ws) :
    Calls Try.prog 86 #[.agg #[u]] w fun e w' => ∃ z, e = .returned z ∧ w'.ownsRow w.heap.size 3 1 z (listI ws).length (ints (listI ws)) ∧ Below w.heap.size w w' := by
  obtain ⟨a, cap, rfl, -, -⟩ := id h
  exact callsIn_wide.1 (list_in a _ cap w h hl hok)
end Go.Proofs.Ytcihobmjohpnkaa
