/- 'Len' of a set. -/
import Derived.Test.YtcihobmjohpnkaaBitL
namespace Go.Proofs.Ytcihobmjohpnkaa
open Go.RowKit Go.Sort Go.Shelf

attribute [local go_sem] Oper.semAt_some

/-- A number that is stored into the box. -/
theorem KeepsBut.stored {W : World} {n₀ Bo : Nat} (hB : n₀ ≤ Bo) (hl : Bo < W.heap.size) {t : TypeId} {v : Value} (hv : Boxed W Bo t v) (x : Int) : KeepsBut n₀ Bo W (W.setCell ⟨Bo, 0, none⟩ (.int .i64 x)) := by
  have hc2 : (W.setCell ⟨Bo, 0, none⟩ (.int .i64 x)).cell? ⟨Bo, 0, none⟩ = some (.int .i64 x) := (hv.set (.int .i64 x)).cell
  refine ⟨(Below.refl _ _).setCell (by show n₀ ≤ Bo; exact hB) _, fun b o u hp hc => ?_, fun b _ hp => ⟨hp.1, fun u hu => ?_⟩, fun hG => ⟨by simpa using hl, fun u hu b hub => ?_⟩⟩
  · rw [cell_of_block (Below.heap_setCell _ _ _ _ hp.1)]; exact hc
  · rw [hc2] at hu; cases hu; simp [Value.ownBlock]
  · rw [hc2] at hu; cases hu; simp [Value.ownBlock] at hub

set_option maxRecDepth 100000 in
set_option maxHeartbeats 4000000 in
theorem len_in (a : Option Addr) (len cap : Nat) {ws : List Nat} (w : World) (h : IsWords (· < w.heap.size) w (.slice a len cap) ws) (hl : ws.length ≤ 2000) (hok : Bit.Ok ws) :
    CallsIn Fence.wide 5 Try.prog 89 #[.agg #[.slice a len cap]] w fun e w' => e = .returned (.int .i64 ((listI ws).length : Int)) ∧ Below w.heap.size w w' := by
  refine callsIn_of_wp_marks Try.func89 rfl trivial ?_ rfl
  simp only [Try.ntmps89, List.size_toArray, List.length_cons, List.length_nil, Nat.reduceAdd, Nat.reduceSub, Array.replicate_succ, Array.replicate_zero, List.push_toArray, List.append_toArray, List.nil_append, List.cons_append]
  gi_wp2
  refine ⟨trivial, (each_in _ _ _ _ _).mono ?_⟩
  rintro e w' ⟨rfl, rfl⟩
  gi_wp2
  have bO := (Boxed.new (w.alloc (.cells #[.slice a len cap] 96)) 3 (.int .i64 0)).alloc (.cells #[.slice a len cap] 96)
  have bN := Boxed.new ((w.alloc (.cells #[.slice a len cap] 96)).alloc (.cells #[.int .i64 0] 3)) 96 (.slice a len cap)
  simp only [World.size_alloc] at bO bN
  have hB0 : Below w.heap.size w (((w.alloc (.cells #[.slice a len cap] 96)).alloc (.cells #[.int .i64 0] 3)).alloc (.cells #[.slice a len cap] 96)) := bel_alloc (bel_alloc (bel_alloc (bel_refl w) _) _) _
  have hsz : (((w.alloc (.cells #[.slice a len cap] 96)).alloc (.cells #[.int .i64 0] 3)).alloc (.cells #[.slice a len cap] 96)).heap.size = w.heap.size + 3 := by simp
  obtain ⟨W0, hW0⟩ : ∃ W0, ((w.alloc (.cells #[.slice a len cap] 96)).alloc (.cells #[.int .i64 0] 3)).alloc (.cells #[.slice a len cap] 96) = W0 := ⟨_, rfl⟩
  rw [hW0] at bO bN hB0 hsz ⊢
  have hgd : Good (w.heap.size + 1) W0 := ⟨by omega, fun v hv b' hb' => by rw [bO.cell] at hv; cases hv; simp [Value.ownBlock] at hb'⟩
  have hpx : Prot (w.heap.size + 1) (w.heap.size + 1 + 1) W0 := ⟨by omega, fun v hv e => by rw [bO.cell] at hv; cases hv; simp [Value.ownBlock] at e⟩
  refine wpIn_rangeFunc_ownF (w := W0) rfl (by omega) (gf := 125) (lb := #[.pointer (some ⟨w.heap.size + 1 + 1, 0, none⟩)]) rfl trivial (enters_of Try.func125 (by kernel_rfl) rfl)
    (each_stops 4 (by omega) (w.heap.size + 1 + 1) (w.heap.size + 1) w.heap.size _ ws hl hok W0 bN.cell hpx hgd (by omega) (h.keep (Keep.belowB hB0))) KeepsBut.trans ?hkb (Below.refl _ _) (fun _ => rfl)
    (fun pre W => Boxed W (w.heap.size + 1) 3 (.int .i64 (pre.length : Int)) ∧ Below w.heap.size w W)
    (fun _ _ _ => False)
    ?hown
    (fun _ _ _ _ _ hs _ _ => hs)
    ⟨bO, hB0⟩
    (fun x => { tmps := #[.agg #[.slice a len cap], .pointer (some ⟨w.heap.size, 0, none⟩), .int .i64 0, .pointer (some ⟨w.heap.size + 1, 0, none⟩), .agg #[.slice a len cap], .func (.func 125) #[] #[.pointer (some ⟨w.heap.size + 1 + 1, 0, none⟩)], .int .i64 x, undef, undef, undef], defers := [] }) ?assign ?body ?done ?stop
  case hkb =>
    intro W l o o' hl ho hc hw
    have hBo : (W.putObj l o').heap[w.heap.size + 1]? = W.heap[w.heap.size + 1]? := World.putObj_heap_other (by omega)
    have hsz' : (W.putObj l o').heap.size = W.heap.size := by simp
    refine ⟨belowK_b (w := W0) (by omega) W l o o' hl ho hc hw, fun b o1 v _ hcv => cell_kept hcv (grownBy_putObj' W l o') (fun r e => by cases e; exact ⟨o, ho, hc⟩), fun b _ hp => ⟨hp.1, fun v hv => hp.2 v (by rw [← cell_of_block hBo]; exact hv)⟩, fun hG => ⟨by rw [hsz']; exact hG.1, fun v hv b hb => by rw [hsz']; exact hG.2 v (by rw [← cell_of_block hBo]; exact hv) b hb⟩⟩
  case hown =>
    exact OwnFrom.and (Own.from (boxed_own (w.heap.size + 1) 3 (fun pre : List Int => .int .i64 (pre.length : Int))) _) (ownFrom_below (Nat.le_refl _) (by omega))
  case assign =>
    intro lp x W K hK
    gi_wp2
    simpa using hK
  case body =>
    rintro lp pre x W ⟨hv, hB⟩ hlt
    have hc := hv.cell
    have hf := hv.frozen
    have hvl := hv.lt
    have hpl := listI_length ws
    have hKB := KeepsBut.stored (n₀ := w.heap.size) (by omega) hvl hv ((pre.length : Int) + 1)
    have hset := hv.set (.int .i64 ((pre.length : Int) + 1))
    have hB2 : Below w.heap.size w (W.setCell ⟨w.heap.size + 1, 0, none⟩ (.int .i64 ((pre.length : Int) + 1))) := hB.setCell (by show w.heap.size ≤ w.heap.size + 1; omega) _
    gi_wp2
    refine ⟨KeepsOthers.setCell _ _ _, hKB, ?_, hB2⟩
    simpa using hset
  case done =>
    rintro D ys W hD rfl ⟨hv, hB⟩ hK
    have hc := hv.cell
    gi_wp2
    refine ⟨by simp, .inl ⟨_, _, rfl, run_takeDeferred hK, ?_⟩⟩
    exact ⟨_, results_tmp rfl _ _ _, rfl, hB.trans (belowK_b (w := w) (Nat.le_refl _) W D _ _ (by omega) hK rfl rfl)⟩
  case stop =>
    rintro D c pre W _ _ h _
    exact h.elim

theorem len_c {u : Value} {ws : List Nat} (w : World) (h : IsWords (· < w.heap.size) w u ws) (hl : ws.length ≤ 2000) (hok : Bit.Ok ws) :
    Calls Try.prog 89 #[.agg #[u]] w fun e w' => e = .returned (.int .i64 ((listI ws).length : Int)) ∧ Below w.heap.size w w' := by
  obtain ⟨a, cap, rfl, -, -⟩ := id h
  exact callsIn_wide.1 (len_in a _ cap w h hl hok)
end Go.Proofs.Ytcihobmjohpnkaa
