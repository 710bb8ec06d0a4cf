/- 'live.back'. -/
import Derived.Test.YtcihobmjohpnkaaBitX
import Derived.Test.YtcihobmjohpnkaaLvU
import Derived.Deep.RegionHeld3
namespace Go.Proofs.Ytcihobmjohpnkaa
open Go.RowKit Go.Sort

/-- A set stepped back over an instruction. -/
def backW (ws : List Nat) (i : InsD) : List Nat := Bit.orW (Bit.subW ws (Bit.ofW [defS i])) (Bit.ofW (usesS i))
theorem words_lt {p : Nat → Prop} {w : World} {v : Value} {ws : List Nat} (h : IsWords p w v ws) : IsWords (fun b => b < w.heap.size) w v ws := by
  obtain ⟨a, cap, hv, hl, hx⟩ := h
  refine ⟨a, cap, hv, hl, ?_⟩
  rcases hx with hx | ⟨b, off, ha, hb, hc⟩
  · exact .inl hx
  · by_cases h0 : ws = []
    · exact .inl h0
    · exact .inr ⟨b, off, ha, lt_of_cell (hc 0 (List.length_pos_iff.2 h0)), hc⟩
def BkS (W X : World) : Prop := Below W.heap.size W X

set_option maxRecDepth 100000 in
set_option maxHeartbeats 2000000 in
theorem back_c {u : Value} {ws : List Nat} (w : World) (i : InsD) (a : Option Addr) (len cap : Nat) (hu : IsWords (· < w.heap.size) w u ws) (hok : Bit.Ok ws) (hws : ws.length ≤ 2000)
    (h : IsInts (· < w.heap.size) w (.slice a len cap) i.args) (hl : i.args.length ≤ 1000000) :
    Calls Try.prog 105 #[.agg #[u], insV i (.slice a len cap)] w fun e w' => ∃ z, e = .returned (.agg #[z]) ∧ IsWords (w.heap.size ≤ ·) w' z (backW ws i) ∧ Below w.heap.size w w' := by
  obtain ⟨ua, un, uc, rfl⟩ := words_slice hu
  have hD := fun W => def_c W i a len cap
  have hU := fun W (hh : IsInts (· < W.heap.size) W (.slice a len cap) i.args) => uses_c W i a len cap hh hl
  unfold insV at hD hU ⊢
  obtain ⟨k, d, ia, b, nn, name, args, t, f⟩ := i
  dsimp only at hD hU h ⊢
  unfold backW
  generalize defS _ = D at hD ⊢
  have hul := usesS_length ⟨k, d, ia, b, nn, name, args, t, f⟩
  generalize usesS _ = U at hU hul ⊢
  go_enter Try.func105, Try.ntmps105
  go_wp2_with fail
  generalize hW : (((w.alloc _).alloc _).alloc _) = W
  have hB : Below w.heap.size w W := by rw [← hW]; exact bel_alloc (bel_alloc (bel_alloc (bel_refl w) _) _) _
  have hs : W.heap.size = w.heap.size + 3 := by rw [← hW]; simp
  have hk2 : W.heap[w.heap.size + 1 + 1]? = some (.cells #[.slice none 0 0] 96) := by rw [← hW]; exact heap_alloc_eq _ _ _ (by simp)
  have hk1 : Row W (w.heap.size + 1) 36 [.int .i64 k, .int .i64 d, .int .i64 ia, .int .i64 b, .int .i64 nn, .string name, .slice a len cap, .int .i64 t, .int .i64 f] := by rw [← hW]; exact heap_alloc_ne _ _ _ _ (heap_alloc_eq _ _ _ (by simp))
  have hk0 : W.heap[w.heap.size]? = some (.cells #[.slice ua un uc] 96) := by rw [← hW]; exact heap_alloc_ne _ _ _ _ (heap_alloc_ne _ _ _ _ (heap_alloc_eq _ _ _ rfl))
  have hS : ∀ X, BkS W X → (X.cell? ⟨w.heap.size, 0, none⟩ = some (.slice ua un uc) ∧ X.cell? ⟨w.heap.size + 1, 0, none⟩ = some (.int .i64 k) ∧ X.cell? ⟨w.heap.size + 1, 1, none⟩ = some (.int .i64 d) ∧ X.cell? ⟨w.heap.size + 1, 2, none⟩ = some (.int .i64 ia) ∧ X.cell? ⟨w.heap.size + 1, 3, none⟩ = some (.int .i64 b) ∧ X.cell? ⟨w.heap.size + 1, 4, none⟩ = some (.int .i64 nn) ∧ X.cell? ⟨w.heap.size + 1, 5, none⟩ = some (.string name) ∧ X.cell? ⟨w.heap.size + 1, 6, none⟩ = some (.slice a len cap) ∧ X.cell? ⟨w.heap.size + 1, 7, none⟩ = some (.int .i64 t) ∧ X.cell? ⟨w.heap.size + 1, 8, none⟩ = some (.int .i64 f)) := fun X hX => by
    have r1 : Row X (w.heap.size + 1) 36 _ := hk1.keep (hX.block _ (by omega))
    exact ⟨cell_of_one ((hX.block _ (by omega)).trans hk0), r1.cell rfl, r1.cell rfl, r1.cell rfl, r1.cell rfl, r1.cell rfl, r1.cell rfl, r1.cell rfl, r1.cell rfl, r1.cell rfl⟩
  have hSs : ∀ Y, BkS W Y → ∀ v, (fun X : World => X.cell? ⟨w.heap.size, 0, none⟩ = some (.slice ua un uc) ∧ X.cell? ⟨w.heap.size + 1, 0, none⟩ = some (.int .i64 k) ∧ X.cell? ⟨w.heap.size + 1, 1, none⟩ = some (.int .i64 d) ∧ X.cell? ⟨w.heap.size + 1, 2, none⟩ = some (.int .i64 ia) ∧ X.cell? ⟨w.heap.size + 1, 3, none⟩ = some (.int .i64 b) ∧ X.cell? ⟨w.heap.size + 1, 4, none⟩ = some (.int .i64 nn) ∧ X.cell? ⟨w.heap.size + 1, 5, none⟩ = some (.string name) ∧ X.cell? ⟨w.heap.size + 1, 6, none⟩ = some (.slice a len cap) ∧ X.cell? ⟨w.heap.size + 1, 7, none⟩ = some (.int .i64 t) ∧ X.cell? ⟨w.heap.size + 1, 8, none⟩ = some (.int .i64 f)) (Y.setCell ⟨w.heap.size + 1 + 1, 0, none⟩ v) := fun Y hY v => by
    have e0 : (Y.setCell ⟨w.heap.size + 1 + 1, 0, none⟩ v).heap[w.heap.size]? = Y.heap[w.heap.size]? := Below.heap_setCell _ _ _ _ (by show w.heap.size ≠ w.heap.size + 1 + 1; omega)
    have r1 : Row (Y.setCell ⟨w.heap.size + 1 + 1, 0, none⟩ v) (w.heap.size + 1) 36 _ := (hk1.keep (hY.block _ (by omega))).other (by show w.heap.size + 1 ≠ w.heap.size + 1 + 1; omega) v
    exact ⟨cell_of_one (e0.trans ((hY.block _ (by omega)).trans hk0)), r1.cell rfl, r1.cell rfl, r1.cell rfl, r1.cell rfl, r1.cell rfl, r1.cell rfl, r1.cell rfl, r1.cell rfl, r1.cell rfl⟩
  have hE0 : BkS W W := bel_refl W
  have hE1 : BkS W W.drew := (bel_refl W).drew
  have hDf : ∀ X, BkS W X → Calls Try.prog 38 _ X fun e X' => e = .returned (.int .i64 D) ∧ BkS W X' := fun X hX => (hD X).mono (by rintro e X' ⟨rfl, hb⟩; exact ⟨rfl, bel_call hX hb⟩)
  have huW : ∀ X, BkS W X → IsWords (· < W.heap.size) X (.slice ua un uc) ws := fun X hX => hu.keep (fun b hb hlt => ⟨by show b < W.heap.size; omega, (hX.block b (by omega)).trans (hB.block b hlt)⟩)
  have hiW : ∀ X, BkS W X → IsInts (· < X.heap.size) X (.slice a len cap) args := fun X hX => h.keep (fun b hb hlt => ⟨by have := hX.size; show b < X.heap.size; omega, (hX.block b (by omega)).trans (hB.block b hlt)⟩)
  have hA := Bit.sub_can hok (Bit.of_can [D]).1
  have hAl : (Bit.subW ws (Bit.ofW [D])).length ≤ 2000 := Nat.le_trans (Bit.trim_length _) (by rw [Bit.zipS_length]; have := Bit.of_length [D]; omega)
  have hWo : ∀ X, BkS W X → Calls Try.prog 119 #[.agg #[.slice ua un uc], .int .i64 D] X fun e X' => ∃ z, e = .returned (.agg #[z]) ∧ IsWords (fun b => b < X'.heap.size) X' z (Bit.subW ws (Bit.ofW [D])) ∧ BkS W X' := fun X hX =>
    (without_c X D (huW X hX) hok hws).mono (by rintro e X' ⟨z, rfl, hz, hb⟩; exact ⟨z, rfl, words_lt hz, bel_call hX hb⟩)
  have hUs : ∀ X, BkS W X → Calls Try.prog 36 _ X fun e X' => ∃ z, e = .returned z ∧ IsInts (fun b => b < X'.heap.size) X' z U ∧ BkS W X' ∧ Below X.heap.size X X' := fun X hX =>
    (hU X (hiW X hX)).mono (by rintro e X' ⟨z, rfl, hz, hb⟩; exact ⟨z, rfl, ints_of_owns hz (by omega) (fun _ _ _ hh => hh), bel_call hX hb, hb⟩)
  have hOf : ∀ X z, BkS W X → IsInts (fun b => b < X.heap.size) X z U → Calls Try.prog 106 #[z] X fun e X' => ∃ y, e = .returned (.agg #[y]) ∧ IsWords (fun b => b < X'.heap.size) X' y (Bit.ofW U) ∧ BkS W X' ∧ Below X.heap.size X X' := fun X z hX hz =>
    (of_c X hz).mono (by rintro e X' ⟨y, rfl, hy, hb⟩; exact ⟨y, rfl, words_lt hy, bel_call hX hb, hb⟩)
  have hOr : ∀ X z y, BkS W X → IsWords (fun b => b < X.heap.size) X z (Bit.subW ws (Bit.ofW [D])) → IsWords (fun b => b < X.heap.size) X y (Bit.ofW U) → Calls Try.prog 107 #[.agg #[z], .agg #[y]] X fun e X' => ∃ qa qn qc, e = .returned (.agg #[.slice qa qn qc]) ∧ IsWords (W.heap.size ≤ ·) X' (.slice qa qn qc) (Bit.orW (Bit.subW ws (Bit.ofW [D])) (Bit.ofW U)) ∧ BkS W X' := fun X z y hX hz hy =>
    (or_c X hz hy hA.1 (Bit.of_can U).1 hAl (Bit.of_length U)).mono (by
      rintro e X' ⟨q, rfl, hq, hb⟩
      obtain ⟨qa, qn, qc, rfl⟩ := words_slice hq
      exact ⟨qa, qn, qc, rfl, hq.keep (Keep.refl _ fun b hb _ => Nat.le_trans hX.size hb), bel_call hX hb⟩)
  have l2 : w.heap.size + 1 + 1 < W.heap.size := by omega
  have HK2 : Hid (W.heap[w.heap.size + 1 + 1]? = some (.cells #[.slice none 0 0] 96)) := hk2
  clear hk2 hW hD hU hul huW hiW hA hAl hu h hok hws hl
  go_region_held3 (fun X => X.cell? ⟨w.heap.size, 0, none⟩ = some (.slice ua un uc) ∧ X.cell? ⟨w.heap.size + 1, 0, none⟩ = some (.int .i64 k) ∧ X.cell? ⟨w.heap.size + 1, 1, none⟩ = some (.int .i64 d) ∧ X.cell? ⟨w.heap.size + 1, 2, none⟩ = some (.int .i64 ia) ∧ X.cell? ⟨w.heap.size + 1, 3, none⟩ = some (.int .i64 b) ∧ X.cell? ⟨w.heap.size + 1, 4, none⟩ = some (.int .i64 nn) ∧ X.cell? ⟨w.heap.size + 1, 5, none⟩ = some (.string name) ∧ X.cell? ⟨w.heap.size + 1, 6, none⟩ = some (.slice a len cap) ∧ X.cell? ⟨w.heap.size + 1, 7, none⟩ = some (.int .i64 t) ∧ X.cell? ⟨w.heap.size + 1, 8, none⟩ = some (.int .i64 f)) (first | exact hS _ hE1 | exact hS _ hE0 | exact hS _ hEa | exact hS _ hEb | exact hS _ hEc | exact hS _ hEd | exact hS _ hEe | exact hSs _ hEe _)
    (first
      | (go_at_call 38; refine (hDf _ hE1).mono ?_; rintro e Ya ⟨rfl, hEa⟩)
      | (go_at_call 119; refine (hWo _ hEa).mono ?_; rintro e Yb ⟨zb, rfl, hzb, hEb⟩)
      | (go_at_call 36; refine (hUs _ hEb).mono ?_; rintro e Yc ⟨zc, rfl, hzc, hEc, hbc⟩)
      | (go_at_call 106; refine (hOf _ _ hEc hzc).mono ?_; rintro e Yd ⟨zd, rfl, hzd, hEd, hbd⟩)
      | (go_at_call 107; refine (hOr _ _ _ hEd ((hzb.keep (Keep.below hbc)).keep (p' := fun b => b < Yd.heap.size) (fun b hb hlt => ⟨by have h1 := hbc.size; have h2 := hbd.size; show b < Yd.heap.size; omega, hbd.block b hlt⟩)) hzd).mono ?_; rintro e Ye ⟨qa, qn, qc, rfl, hzq, hEe⟩; have hk3 := (Below.block hEe _ l2).trans HK2.out; have c2 := cell_of_one hk3; have f2 := free_of_one hk3; have hs2 := Nat.lt_of_lt_of_le l2 (Below.size hEe)))
  all_goals
    try go_wp2_with fail
    have c3 : (Ye.setCell ⟨w.heap.size + 1 + 1, 0, none⟩ (.slice qa qn qc)).cell? ⟨w.heap.size + 1 + 1, 0, none⟩ = some (.slice qa qn qc) := World.cell?_setCell_same' _ _ _ (by rw [c2]; rfl)
    refine bodyPost_ret (v := .agg #[.slice qa qn qc]) (by simp [results, Try.results105, go_sem, c3]) rfl ⟨_, rfl, ?_, ?_⟩
    · exact hzq.keep (Keep.setCell fun b hb _ => ⟨by have := hs; omega, by have := hs; show b ≠ w.heap.size + 1 + 1; omega⟩)
    · exact bel_setCell (bel_call hB hEe) (by show w.heap.size ≤ w.heap.size + 1 + 1; omega)
end Go.Proofs.Ytcihobmjohpnkaa
