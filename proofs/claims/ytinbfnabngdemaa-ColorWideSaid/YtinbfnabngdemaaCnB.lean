/- 'begin': the graph is made. -/
import Derived.Test.YtinbfnabngdemaaCnJ
import Derived.Test.YtinbfnabngdemaaCnK
import Derived.Test.YtinbfnabngdemaaCnL
import Derived.Test.YtinbfnabngdemaaCnR
import Derived.Test.YtinbfnabngdemaaCnS
import Derived.Test.YtinbfnabngdemaaCnC
import Derived.Deep.RegionHeld3
import Derived.Test.YtinbfnabngdemaaCnO
import Derived.Test.YtinbfnabngdemaaCnG
import Derived.Deep.DeepCutAuto
namespace Go.Proofs.Ytinbfnabngdemaa
open Go.RowKit Go.Maps Go.Sort Go.Shelf Go.WideMaps Go.ChangeMaps Go.WideElems

theorem run_mk_int (W : World) (n : Nat) (hn : n ≤ 1000000) : (Instr.makeSlice 31 (.int .i64 (n : Int)) (.int .i64 (n : Int))).run Try.prog W = .ok (.slice (some ⟨W.heap.size, 0, none⟩) n n) (W.alloc (.cells (List.replicate n (Value.int .i64 0)).toArray 3)) := by
  obtain ⟨i0, hi, hz0, hz1, hz2⟩ := info_parts infoInt
  have hrun := run_make (P := Try.prog) W 31 3 i0 _ Try.underlying31 hi hz0 .i64 .i64 n n (by omega) (Int.le_refl _) (by rw [hz2]; omega) (by omega)
  have hmade : madeCells (Value.int .i64 0).cells (n * i0.size) = (List.replicate n (Value.int .i64 0)).toArray := by
    rw [hz1, Nat.mul_one]
    exact Array.toList_inj.1 (by rw [show (Value.int .i64 0).cells = #[.int .i64 0] from rfl, toList_madeCells_one])
  simp only [Int.toNat_natCast] at hrun
  rw [hmade] at hrun
  exact hrun
theorem run_mk_bool (W : World) (n : Nat) (hn : n ≤ 1000000) : (Instr.makeSlice 58 (.int .i64 (n : Int)) (.int .i64 (n : Int))).run Try.prog W = .ok (.slice (some ⟨W.heap.size, 0, none⟩) n n) (W.alloc (.cells (List.replicate n (Value.bool false)).toArray 4)) := by
  obtain ⟨i0, hi, hz0, hz1, hz2⟩ := info_parts infoBool
  have hrun := run_make (P := Try.prog) W 58 4 i0 _ Try.underlying58 hi hz0 .i64 .i64 n n (by omega) (Int.le_refl _) (by rw [hz2]; omega) (by omega)
  have hmade : madeCells (Value.bool false).cells (n * i0.size) = (List.replicate n (Value.bool false)).toArray := by
    rw [hz1, Nat.mul_one]
    exact Array.toList_inj.1 (by rw [show (Value.bool false).cells = #[.bool false] from rfl, toList_madeCells_one])
  simp only [Int.toNat_natCast] at hrun
  rw [hmade] at hrun
  exact hrun

/-- What each of the six operations yields, and the blocks that it makes. -/
def RlB (G : GD) (n B : Nat) (i : Nat) (v : Value) (W : World) : Prop :=
  (i = 4 → ∃ g, v = .slice (some ⟨g, 0, none⟩) n n ∧ JnP G.E n g W ∧ B ≤ g ∧ g + 1 + n ≤ W.heap.size) ∧
  (i = 8 → ∃ g, v = .slice (some ⟨g, 0, none⟩) n n ∧ JnP G.M n g W ∧ B ≤ g ∧ g + 1 + n ≤ W.heap.size) ∧
  (i = 11 → ∃ ka kc, v = .slice ka n kc ∧ KnP G.A B n (.slice ka n kc) W) ∧
  (i = 12 → ∃ c, v = .map (some c) ∧ W.heap[c]? = some (.map #[] 0) ∧ B ≤ c) ∧
  (i = 14 → ∃ u, v = .slice (some ⟨u, 0, none⟩) n n ∧ Row W u 3 (List.replicate n (.int .i64 0)) ∧ B ≤ u) ∧
  (i = 16 → ∃ u, v = .slice (some ⟨u, 0, none⟩) n n ∧ Row W u 4 (List.replicate n (.bool false)) ∧ B ≤ u) ∧
  (i = 4 ∨ i = 8 ∨ i = 11 ∨ i = 12 ∨ i = 14 ∨ i = 16)
def ownB (n i : Nat) (v : Value) (b : Nat) : Prop := v.ownBlock = some b ∨ v = .map (some b) ∨ ((i = 4 ∨ i = 8) ∧ ∃ g, v.ownBlock = some g ∧ g ≤ b ∧ b ≤ g + n)
theorem RlB.below {G : GD} {n B i : Nat} {v : Value} {W X : World} (h : RlB G n B i v W) (hb : Below W.heap.size W X) : RlB G n B i v X := by
  obtain ⟨h1, h2, h3, h4, h5, h6, h7⟩ := h
  have hs := hb.size
  refine ⟨fun e => ?_, fun e => ?_, fun e => ?_, fun e => ?_, fun e => ?_, fun e => ?_, h7⟩
  · obtain ⟨g, g1, g2, g3, g4⟩ := h1 e; exact ⟨g, g1, g2.below hb, g3, by omega⟩
  · obtain ⟨g, g1, g2, g3, g4⟩ := h2 e; exact ⟨g, g1, g2.below hb, g3, by omega⟩
  · obtain ⟨a, c, g1, g2⟩ := h3 e; exact ⟨a, c, g1, g2.below hb⟩
  · obtain ⟨c, g1, g2, g3⟩ := h4 e; exact ⟨c, g1, (hb.block _ (lt_of_block g2)).trans g2, g3⟩
  · obtain ⟨u, g1, g2, g3⟩ := h5 e; exact ⟨u, g1, g2.keep (hb.block _ g2.lt), g3⟩
  · obtain ⟨u, g1, g2, g3⟩ := h6 e; exact ⟨u, g1, g2.keep (hb.block _ g2.lt), g3⟩
theorem RlB.lt {G : GD} {n B i : Nat} {v : Value} {W : World} {b : Nat} (h : RlB G n B i v W) (ho : ownB n i v b) : b < W.heap.size := by
  obtain ⟨h1, h2, h3, h4, h5, h6, h7⟩ := h
  rcases h7 with e | e | e | e | e | e
  · obtain ⟨g, rfl, g2, g3, g4⟩ := h1 e
    rcases ho with ho | ho | ⟨-, q, ho, o1, o2⟩
    · cases ho; (try dsimp only at *); omega
    · cases ho
    · cases ho; (try dsimp only at *); omega
  · obtain ⟨g, rfl, g2, g3, g4⟩ := h2 e
    rcases ho with ho | ho | ⟨-, q, ho, o1, o2⟩
    · cases ho; (try dsimp only at *); omega
    · cases ho
    · cases ho; (try dsimp only at *); omega
  · obtain ⟨a, c, rfl, f, s, Ks, -, g2⟩ := h3 e
    rcases ho with ho | ho | ⟨o, -⟩
    · exact (g2.lt b ho).2
    · cases ho
    · omega
  · obtain ⟨c, rfl, g2, g3⟩ := h4 e
    rcases ho with ho | ho | ⟨o, -⟩
    · cases ho
    · cases ho; exact lt_of_block g2
    · omega
  · obtain ⟨u, rfl, g2, g3⟩ := h5 e
    rcases ho with ho | ho | ⟨o, -⟩
    · cases ho; exact g2.lt
    · cases ho
    · omega
  · obtain ⟨u, rfl, g2, g3⟩ := h6 e
    rcases ho with ho | ho | ⟨o, -⟩
    · cases ho; exact g2.lt
    · cases ho
    · omega
set_option maxRecDepth 100000 in
set_option maxHeartbeats 80000000 in
theorem begin_c (w : World) {ea ma aa la : Option Addr} {en ec mn mc n ac ln lc : Nat} {G : GD} (h : IsGr (· < w.heap.size) w ⟨ea, en, ec, ma, mn, mc, aa, n, ac, la, ln, lc⟩ G) (hG : OkG G) (hF : Few G) :
    Calls Try.prog 28 #[.agg #[.slice ea en ec, .slice ma mn mc, .slice aa n ac, .slice la ln lc]] w fun e w' => ∃ (L : Gl) (ov sv : Value), e = .returned (.pointer (some ⟨L.gb, 0, none⟩)) ∧ StG L G w' ∧ DyV L G (begS G) ov sv w' ∧ GlOk L G ∧ Below w.heap.size w w' ∧ ∀ b, b < w.heap.size → L.St b := by
  obtain ⟨he, hm, ha, hl⟩ := h.lens
  dsimp only at he hm ha hl
  have hac := (sl_len h.a).2.1
  have hlc := (sl_len h.l).2.1
  dsimp only at hac hlc
  have hn1 : n ≤ 100 := by rw [ha]; exact hF.n
  have hln : ln ≤ 60 := by rw [hl]; exact hF.k
  have HH := hid_of h
  have HL := hid_of (And.intro he (And.intro hm (And.intro ha hl)))
  have hmm := @run_makeMap Try.prog
  have hmi := fun W => run_mk_int W n (by omega)
  have hmb := fun W => run_mk_bool W n (by omega)
  clear he hm ha hl h
  go_enter Try.func28, Try.ntmps28
  go_upto_region 2 with fail
  refine wp_at (fun X => Row X w.heap.size 25 [.slice ea en ec, .slice ma mn mc, .slice aa n ac, .slice la ln lc] ∧ Below w.heap.size w X) ⟨heap_alloc_eq _ _ _ rfl, bel_alloc (bel_refl w) _⟩ ?_
  rintro X ⟨r0, hX⟩
  have q0 := r0.cell (k := 0) rfl
  have q1 := r0.cell (k := 1) rfl
  have q2 := r0.cell (k := 2) rfl
  have q3 := r0.cell (k := 3) rfl
  have hxl := r0.lt
  have HR0 := hid_of r0
  have HX := hid_of hX
  have hgx := HH.out.keep (p' := (· < X.heap.size)) (fun b hb hlt => ⟨by have := hX.size; omega, hX.block b hlt⟩)
  have HGX := hid_of hgx
  have hJ1 : ∀ Y, BkS X Y → Calls Try.prog 37 #[.slice ea en ec, .int .i64 (n : Int)] Y fun e Y' => ∃ g, e = .returned (.slice (some ⟨g, 0, none⟩) n n) ∧ JnP G.E n g Y' ∧ g = Y.heap.size ∧ g + 1 + n ≤ Y'.heap.size ∧ BkS Y Y' := fun Y hY => by
    have h1 := hgx.e.keep (p' := (· < Y.heap.size)) (fun b hb hlt => ⟨by have := hY.size; omega, hY.block b hlt⟩)
    refine (joined_c Y n h1 (fun _ h => h) (by have := hG.e; rwa [← HL.out.2.2.1] at this) (by omega) (by have := hF.e; omega)).mono ?_
    rintro e Y' ⟨rfl, hJ⟩
    have h0 : Y.heap.size + 1 + n ≤ Y'.heap.size := by
      cases n with
      | zero => have := hJ.row.lt; omega
      | succ m => have := (hJ.mp m (by omega)).lt; omega
    exact ⟨_, rfl, ⟨hJ.row, fun i hi => ⟨_, by have := hJ.mp i hi; rw [List.take_length] at this; exact this⟩⟩, rfl, h0, hJ.bel⟩
  have hJ2 : ∀ Y, BkS X Y → Calls Try.prog 37 #[.slice ma mn mc, .int .i64 (n : Int)] Y fun e Y' => ∃ g, e = .returned (.slice (some ⟨g, 0, none⟩) n n) ∧ JnP G.M n g Y' ∧ g = Y.heap.size ∧ g + 1 + n ≤ Y'.heap.size ∧ BkS Y Y' := fun Y hY => by
    have h1 := hgx.m.keep (p' := (· < Y.heap.size)) (fun b hb hlt => ⟨by have := hY.size; omega, hY.block b hlt⟩)
    refine (joined_c Y n h1 (fun _ h => h) (by have := hG.m; rwa [← HL.out.2.2.1] at this) (by omega) (by have := hF.m; omega)).mono ?_
    rintro e Y' ⟨rfl, hJ⟩
    have h0 : Y.heap.size + 1 + n ≤ Y'.heap.size := by
      cases n with
      | zero => have := hJ.row.lt; omega
      | succ m => have := (hJ.mp m (by omega)).lt; omega
    exact ⟨_, rfl, ⟨hJ.row, fun i hi => ⟨_, by have := hJ.mp i hi; rw [List.take_length] at this; exact this⟩⟩, rfl, h0, hJ.bel⟩
  have hKn : ∀ Y, BkS X Y → Calls Try.prog 38 #[.slice aa n ac] Y fun e Y' => ∃ ka kc, e = .returned (.slice ka n kc) ∧ KnP G.A X.heap.size n (.slice ka n kc) Y' ∧ (∀ b, (Value.slice ka n kc).ownBlock = some b → Y.heap.size ≤ b) ∧ BkS Y Y' := fun Y hY => by
    have h1 := hgx.a.keep (p' := (· < Y.heap.size)) (fun b hb hlt => ⟨by have := hY.size; omega, hY.block b hlt⟩)
    refine (kinds_c (a := aa) (n := n) (cap := ac) Y h1 (fun _ h => h) (by omega) (fun l hl => ⟨?_, fun c hc => ?_⟩)).mono ?_
    · obtain ⟨v, hv, rfl⟩ := List.getElem_of_mem hl
      have := alw_len hG hF v
      rw [alw_get hv] at this
      omega
    · have := (hG.a l hl).2 c hc
      have := hF.k
      omega
    · rintro e Y' ⟨ov, rfl, ⟨f, s, Ks, k1, -, k2⟩, k3⟩
      obtain ⟨ka, kc, rfl, -⟩ := owns_slice k2
      exact ⟨ka, kc, rfl, ⟨f, s, Ks, k1, owns_mono k2 (by have := hY.size; omega)⟩, fun b hb => Nat.le_of_succ_le (k2.lt b hb).1, k3⟩
  have hKS : ∀ Y, BkS X Y → Y.cell? ⟨w.heap.size, 0, none⟩ = some (.slice ea en ec) ∧ Y.cell? ⟨w.heap.size, 1, none⟩ = some (.slice ma mn mc) ∧ Y.cell? ⟨w.heap.size, 2, none⟩ = some (.slice aa n ac) ∧ Y.cell? ⟨w.heap.size, 3, none⟩ = some (.slice la ln lc) := fun Y hY =>
    ⟨(cell_of_block (hY.block _ hxl) 0).trans q0, (cell_of_block (hY.block _ hxl) 1).trans q1, (cell_of_block (hY.block _ hxl) 2).trans q2, (cell_of_block (hY.block _ hxl) 3).trans q3⟩
  have hE0 : BkS X X := bk_refl X
  clear r0 hX hgx q0 q1 q2 q3
  go_cut [4] (fun s4 wx => ∃ (gb g1 g2 cb ub ob : Nat) (kv : Value), s4 = .pointer (some ⟨gb, 0, none⟩) ∧ Hid (Bg0 G [.slice ea en ec, .slice ma mn mc, .slice aa n ac, .slice la ln lc] n X.heap.size gb g1 g2 cb ub ob kv wx) ∧ Hid (BkS X wx))
  case first =>
    have hED : BkS X X.drew := bk_drew hE0
    refine wp_region_held_drew (S := fun Y => (Y.cell? ⟨w.heap.size, 0, none⟩ = some (.slice ea en ec) ∧ Y.cell? ⟨w.heap.size, 1, none⟩ = some (.slice ma mn mc) ∧ Y.cell? ⟨w.heap.size, 2, none⟩ = some (.slice aa n ac) ∧ Y.cell? ⟨w.heap.size, 3, none⟩ = some (.slice la ln lc))) (by kernel_rfl) (hKS _ hED) (fun hHeld => ?_)
    refine wpAnyH_take (i := 0) (v := ?_) rfl (by kernel_rfl) (by kernel_rfl) (by kernel_rfl) (fun _ _ _ h => h) (Or.inl ⟨by rfl, ?_⟩) (by assumption) ?_
    rotate_left
    · intro w hSw; (try dsimp only at hSw); go_simp; all_goals (with_reducible rfl)
    refine wpAnyH_take (i := 1) (v := ?_) rfl (by kernel_rfl) (by kernel_rfl) (by kernel_rfl) (fun _ _ _ h => h) (Or.inl ⟨by rfl, ?_⟩) (by assumption) ?_
    rotate_left
    · intro w hSw; (try dsimp only at hSw); go_simp; all_goals (with_reducible rfl)
    refine wpAnyH_take (i := 2) (v := ?_) rfl (by kernel_rfl) (by kernel_rfl) (by kernel_rfl) (fun _ _ _ h => h) (Or.inl ⟨by rfl, ?_⟩) (by assumption) ?_
    rotate_left
    · intro w hSw; (try dsimp only at hSw); go_simp; all_goals (with_reducible rfl)
    refine wpAnyH_take (i := 3) (v := ?_) rfl (by kernel_rfl) (by kernel_rfl) (by kernel_rfl) (fun _ _ _ h => h) (Or.inl ⟨by rfl, ?_⟩) (by assumption) ?_
    rotate_left
    · intro w hSw; (try dsimp only at hSw); go_simp; all_goals (with_reducible rfl)
    refine wpAnyH_take (i := 5) (v := ?_) rfl (by kernel_rfl) (by kernel_rfl) (by kernel_rfl) (fun _ _ _ h => h) (Or.inl ⟨by rfl, ?_⟩) (by assumption) ?_
    rotate_left
    · intro w hSw; (try dsimp only at hSw); go_simp; all_goals (with_reducible rfl)
    refine wpAnyH_take (i := 6) (v := ?_) rfl (by kernel_rfl) (by kernel_rfl) (by kernel_rfl) (fun _ _ _ h => h) (Or.inl ⟨by rfl, ?_⟩) (by assumption) ?_
    rotate_left
    · intro w hSw; (try dsimp only at hSw); go_simp; all_goals (with_reducible rfl)
    refine wpAnyH_take (i := 7) (v := ?_) rfl (by kernel_rfl) (by kernel_rfl) (by kernel_rfl) (fun _ _ _ h => h) (Or.inl ⟨by rfl, ?_⟩) (by assumption) ?_
    rotate_left
    · intro w hSw; (try dsimp only at hSw); go_simp; all_goals (with_reducible rfl)
    refine wpAnyH_take (i := 9) (v := ?_) rfl (by kernel_rfl) (by kernel_rfl) (by kernel_rfl) (fun _ _ _ h => h) (Or.inl ⟨by rfl, ?_⟩) (by assumption) ?_
    rotate_left
    · intro w hSw; (try dsimp only at hSw); go_simp; all_goals (with_reducible rfl)
    refine wpAnyH_take (i := 10) (v := ?_) rfl (by kernel_rfl) (by kernel_rfl) (by kernel_rfl) (fun _ _ _ h => h) (Or.inl ⟨by rfl, ?_⟩) (by assumption) ?_
    rotate_left
    · intro w hSw; (try dsimp only at hSw); go_simp; all_goals (with_reducible rfl)
    refine wpAnyH_take (i := 13) (v := ?_) rfl (by kernel_rfl) (by kernel_rfl) (by kernel_rfl) (fun _ _ _ h => h) (Or.inl ⟨by rfl, ?_⟩) (by assumption) ?_
    rotate_left
    · intro w hSw; (try dsimp only at hSw); go_simp; all_goals (with_reducible rfl)
    refine wpAnyH_take (i := 15) (v := ?_) rfl (by kernel_rfl) (by kernel_rfl) (by kernel_rfl) (fun _ _ _ h => h) (Or.inl ⟨by rfl, ?_⟩) (by assumption) ?_
    rotate_left
    · intro w hSw; (try dsimp only at hSw); go_simp; all_goals (with_reducible rfl)
    simp only [Act.put, List.getElem_toArray, List.getElem_cons_succ, List.getElem_cons_zero, List.setIfInBounds_toArray, List.set_cons_zero, List.set_cons_succ]
    refine wpAnyH_eff (E := [4, 8, 11, 12, 14, 16]) (g := 3) (w0 := X.drew) (by kernel_rfl) (by decide) (fun Y hY => hKS Y (bel_call hED hY)) (RlB G n X.heap.size) (ownB n) (fun _ _ _ _ h hb => h.below hb) (fun _ _ _ _ h ho => h.lt ho) ?_ ?_
    · intro i hi Y hY
      have hXY : BkS X Y := bel_call hED hY
      have hx2 := hXY.size
      simp only [List.mem_cons, List.not_mem_nil, or_false] at hi
      rcases hi with rfl | rfl | rfl | rfl | rfl | rfl
      · simp only [List.getElem?_toArray, List.getElem?_cons_succ, List.getElem?_cons_zero, Option.some.injEq, exists_eq_left']
        refine gives_call (f := 37) (args := #[.slice ea en ec, .int .i64 (n : Int)]) (w' := Y) (by go_simp) ((hJ1 Y hXY).mono ?_)
        rintro e Y' ⟨g, rfl, h1, rfl, h2, h3⟩
        refine ⟨_, rfl, h3, ⟨fun _ => ⟨_, rfl, h1, hx2, h2⟩, by omega, by omega, by omega, by omega, by omega, .inl rfl⟩, fun b hb => ?_⟩
        rcases hb with e | e | ⟨-, q, e, e2, -⟩
        · cases e; exact Nat.le_refl _
        · cases e
        · cases e; exact e2
      · simp only [List.getElem?_toArray, List.getElem?_cons_succ, List.getElem?_cons_zero, Option.some.injEq, exists_eq_left']
        refine gives_call (f := 37) (args := #[.slice ma mn mc, .int .i64 (n : Int)]) (w' := Y) (by go_simp) ((hJ2 Y hXY).mono ?_)
        rintro e Y' ⟨g, rfl, h1, rfl, h2, h3⟩
        refine ⟨_, rfl, h3, ⟨by omega, fun _ => ⟨_, rfl, h1, hx2, h2⟩, by omega, by omega, by omega, by omega, .inr (.inl rfl)⟩, fun b hb => ?_⟩
        rcases hb with e | e | ⟨-, q, e, e2, -⟩
        · cases e; exact Nat.le_refl _
        · cases e
        · cases e; exact e2
      · simp only [List.getElem?_toArray, List.getElem?_cons_succ, List.getElem?_cons_zero, Option.some.injEq, exists_eq_left']
        refine gives_call (f := 38) (args := #[.slice aa n ac]) (w' := Y) (by go_simp) ((hKn Y hXY).mono ?_)
        rintro e Y' ⟨ka, kc, rfl, h1, h2, h3⟩
        refine ⟨_, rfl, h3, ⟨by omega, by omega, fun _ => ⟨_, _, rfl, h1⟩, by omega, by omega, by omega, .inr (.inr (.inl rfl))⟩, fun b hb => ?_⟩
        rcases hb with e | e | ⟨e, -⟩
        · exact h2 b e
        · cases e
        · omega
      · simp only [List.getElem?_toArray, List.getElem?_cons_succ, List.getElem?_cons_zero, Option.some.injEq, exists_eq_left']
        refine gives_value (v := .map (some Y.heap.size)) (w' := Y.alloc (.map #[] 0)) (by go_simp) ⟨bk_alloc (bk_refl Y) _, ⟨by omega, by omega, by omega, fun _ => ⟨_, rfl, heap_alloc_new Y _, hx2⟩, by omega, by omega, .inr (.inr (.inr (.inl rfl)))⟩, fun b hb => ?_⟩
        rcases hb with e | e | ⟨e, -⟩
        · cases e
        · cases e; exact Nat.le_refl _
        · omega
      · simp only [List.getElem?_toArray, List.getElem?_cons_succ, List.getElem?_cons_zero, Option.some.injEq, exists_eq_left']
        unfold Oper.gives
        go_simp
        rw [← List.toArray_replicate]
        refine ⟨bk_alloc (bk_refl Y) _, ⟨by omega, by omega, by omega, by omega, fun _ => ⟨_, rfl, heap_alloc_eq _ _ _ rfl, hx2⟩, by omega, .inr (.inr (.inr (.inr (.inl rfl))))⟩, fun b hb => ?_⟩
        rcases hb with e | e | ⟨e, -⟩
        · cases e; exact Nat.le_refl _
        · cases e
        · omega
      · simp only [List.getElem?_toArray, List.getElem?_cons_succ, List.getElem?_cons_zero, Option.some.injEq, exists_eq_left']
        unfold Oper.gives
        go_simp
        rw [← List.toArray_replicate]
        refine ⟨bk_alloc (bk_refl Y) _, ⟨by omega, by omega, by omega, by omega, by omega, fun _ => ⟨_, rfl, heap_alloc_eq _ _ _ rfl, hx2⟩, .inr (.inr (.inr (.inr (.inr rfl))))⟩, fun b hb => ?_⟩
        rcases hb with e | e | ⟨e, -⟩
        · cases e; exact Nat.le_refl _
        · cases e
        · omega
    · intro val Y hY hr ho
      have hXY : BkS X Y := bel_call hED hY
      have r4 := hr 4 (List.Mem.head _)
      have r8 := hr 8 (.tail _ (.head _))
      have r11 := hr 11 (.tail _ (.tail _ (.head _)))
      have r12 := hr 12 (.tail _ (.tail _ (.tail _ (.head _))))
      have r14 := hr 14 (.tail _ (.tail _ (.tail _ (.tail _ (.head _)))))
      have r16 := hr 16 (.tail _ (.tail _ (.tail _ (.tail _ (.tail _ (.head _))))))
      have q4 := r4.1 rfl
      obtain ⟨g1, v4, j1, b1, s1⟩ := q4
      have q8 := r8.2.1 rfl
      obtain ⟨g2, v8, j2, b2, s2⟩ := q8
      have q11 := r11.2.2.1 rfl
      obtain ⟨ka, kc, v11, kn⟩ := q11
      have q12 := r12.2.2.2.1 rfl
      obtain ⟨cb, v12, mcc, b4⟩ := q12
      have q14 := r14.2.2.2.2.1 rfl
      obtain ⟨ub, v14, ru, b5⟩ := q14
      have q16 := r16.2.2.2.2.2.1 rfl
      obtain ⟨ob, v16, ro, b6⟩ := q16
      have a1 : cb < g1 ∨ g1 + 1 + n ≤ cb := by
        have := ho 12 (.tail _ (.tail _ (.tail _ (.head _)))) 4 (List.Mem.head _) (by decide) cb (by rw [v12]; exact .inr (.inl rfl))
        rw [v4] at this
        refine Classical.byContradiction fun h => this (.inr (.inr ⟨.inl rfl, g1, rfl, by omega, by omega⟩))
      have a2 : cb < g2 ∨ g2 + 1 + n ≤ cb := by
        have := ho 12 (.tail _ (.tail _ (.tail _ (.head _)))) 8 (.tail _ (.head _)) (by decide) cb (by rw [v12]; exact .inr (.inl rfl))
        rw [v8] at this
        refine Classical.byContradiction fun h => this (.inr (.inr ⟨.inr rfl, g2, rfl, by omega, by omega⟩))
      have a3 : (Value.slice ka n kc).ownBlock ≠ some ub := fun e => by
        have := ho 11 (.tail _ (.tail _ (.head _))) 14 (.tail _ (.tail _ (.tail _ (.tail _ (.head _))))) (by decide) ub (by rw [v11]; exact .inl e)
        rw [v14] at this
        exact this (.inl rfl)
      clear r4 r8 r11 r12 r14 r16 hr ho
      simp only [fillT, dstOf, List.map_cons, List.map_nil, List.foldl_cons, List.foldl_nil, List.getElem?_toArray, List.getElem?_cons_succ, List.getElem?_cons_zero, Option.bind_some, v4, v8, v11, v12, v14, v16, setT, Act.put, List.setIfInBounds_toArray, List.set_cons_zero, List.set_cons_succ]
      clear v4 v8 v11 v12 v14 v16
      have hS1 := hKS Y hXY
      refine wpAnyH_ready (rs := [17]) (by kernel_rfl) (by simp) ?_
      refine AllReadyH.cons rfl (fun K hK => ?_) AllReadyH.nil
      go_simp
      refine hK.out _ _ hS1 (fun hHeld => ?_)
      clear hK K
      refine wpAnyH_ready (rs := [18]) (by kernel_rfl) (by simp) ?_
      refine AllReadyH.cons rfl (fun K hK => ?_) AllReadyH.nil
      go_simp
      have hx2y := hXY.size
      have hkl : ∀ b, (Value.slice ka n kc).ownBlock = some b → b < Y.heap.size := fun b hb => by obtain ⟨_, _, _, -, h2⟩ := kn; exact (h2.lt b hb).2
      have hYA : ∀ o, BkS Y (Y.alloc o) := fun o => bk_alloc (bk_refl Y) o
      have hS2 := hKS _ (bel_call hXY (hYA (.cells #[.slice ea en ec, .slice ma mn mc, .slice aa n ac, .slice la ln lc, .slice (some ⟨g1, 0, none⟩) n n, .slice (some ⟨g2, 0, none⟩) n n, .slice ka n kc, .map (some cb), .slice none 0 0, .slice (some ⟨ub, 0, none⟩) n n, .slice (some ⟨ob, 0, none⟩) n n, .slice none 0 0, .slice none 0 0] 62)))
      refine hK.out _ _ hS2 (fun hHeld => ?_)
      clear hK K
      refine wpAnyH_ready (rs := [19]) (by kernel_rfl) (by simp) ?_
      refine AllReadyH.cons rfl (fun K hK => ?_) AllReadyH.nil
      go_simp
      refine hK.out _ _ hS2 (fun hHeld => ?_)
      clear hK K
      refine wpAnyH_done (by kernel_rfl) ?_ _
      go_wp2_with fail
      go_meet
      refine ⟨Y.heap.size, g1, g2, cb, ub, ob, .slice ka n kc, rfl, hid_of ⟨heap_alloc_eq _ _ _ rfl, j1.below (hYA _), j2.below (hYA _), kn.below (hYA _), ((hYA _).block _ (lt_of_block mcc)).trans mcc, ru.keep ((hYA _).block _ ru.lt), ro.keep ((hYA _).block _ ro.lt), ⟨hx2y, b1, b2, b4, b5, b6⟩, a1, a2, a3, ⟨s1, s2, lt_of_block mcc, ru.lt, ro.lt, hkl⟩⟩, hid_of (bel_call hXY (hYA _))⟩
  case rest =>
    obtain ⟨gb, g1, g2, cb, ub, ob, kv, rfl, HB0, HBX⟩ := hcut
    have hwc : Below w.heap.size w wc := bel_call HX.out HBX.out
    have hge := HB0.out.ge.1
    have hxs := HX.out.size
    have hgc := HB0.out.row.lt
    have HGC : Hid (IsGr (· < w.heap.size) wc ⟨ea, en, ec, ma, mn, mc, aa, n, ac, la, ln, lc⟩ G) := HH.out.keep (fun b hb hlt => ⟨hb, hwc.block b hlt⟩)
    have q3 := (HR0.out.keep (HBX.out.block _ HR0.out.lt)).cell (k := 3) rfl
    have HWC := hid_of hwc
    have H0 : Hid (Bg1 G [.slice ea en ec, .slice ma mn mc, .slice aa n ac, .slice la ln lc] n gb g1 g2 cb ub ob kv (.slice none 0 0) 0 wc wc) := ⟨HB0.out.row, SetOwn.nil _ _, Below.refl gb wc⟩
    clear hmm hmi hmb hJ1 hJ2 hKn hKS hE0 hwc HH HGX
    go_wp2_with fail
    go_loopw [35] (fun s35 wx => ∃ (k : Nat) (xa : Option Addr) (xc : Nat), k ≤ ln ∧ s35 = .int .i64 k ∧ Hid (Bg1 G [.slice ea en ec, .slice ma mn mc, .slice aa n ac, .slice la ln lc] n gb g1 g2 cb ub ob kv (.slice xa k xc) k wc wx)) (fun s35 _ => ln - (intOf s35).toNat)
    case atStart => exact ⟨0, none, 0, by omega, rfl, H0⟩
    case round =>
      obtain ⟨k, xa, xc, hk, rfl, HK⟩ := hrel
      clear H0 q3
      by_cases hlt : k < ln
      · have hkL : k < G.Lp.length := by rw [← HL.out.2.2.2]; exact hlt
        obtain ⟨hr, hso, hlow⟩ := HK.out
        obtain ⟨lb, lo, rfl, hab, hcc⟩ := sl_at HGC.out.l (by omega)
        obtain ⟨u, c1, hu⟩ := hcc k hkL
        rw [Nat.mul_one] at c1
        have hlo2 : Below w.heap.size wc wr := hlow.mono (by omega)
        have c1 := (hlo2.cell (p := ⟨lb, lo + k, none⟩) hab).trans c1
        have hu2 := hu.keep (p' := (· < w.heap.size)) (fun b hb hlt => ⟨hb, hlo2.block b hb⟩)
        obtain ⟨ra, rc, rfl, -⟩ := id hu2
        have hOf : ∀ Y, BkS wr Y → Calls Try.prog 25 #[.slice ra G.Lp[k].length rc] Y fun e Y' => ∃ za zn zc, e = .returned (.agg #[.slice za zn zc]) ∧ IsWords (fun b => wr.heap.size ≤ b ∧ b < Y'.heap.size) Y' (.slice za zn zc) (Bit.ofW G.Lp[k]) ∧ BkS wr Y' := fun Y hY =>
          (of_c Y (hu2.keep (p' := (· < w.heap.size)) (fun b hb hlt => ⟨hb, hY.block b hlt⟩))).mono (by
            rintro e Y' ⟨z, rfl, hz, hb⟩
            obtain ⟨za, zn, zc, rfl⟩ := words_slice hz
            refine ⟨za, zn, zc, rfl, hz.keep (fun b hb hlt => ⟨⟨by have := hY.size; omega, hlt⟩, rfl⟩), bel_call hY hb⟩)
        obtain ⟨vs, ho, hvl, hvw⟩ := hso.ex
        have hlk : ((G.Lp.take k).map Bit.ofW).length = k := by rw [List.length_map, List.length_take]; omega
        rw [hlk] at ho hvl
        have hE0 : BkS wr wr := bk_refl wr
        have s8 : wr.cell? ⟨gb, 8, none⟩ = some (.slice xa k xc) := hr.cell rfl
        have hgl := hr.lt
        have hkz : (k : Int) < (ln : Int) := by omega
        have hln6 : ln ≤ 60 := hln
        have hT : ∀ (Yu : World) (za : Option Addr) (zn zc gg cap : Nat) (w1 : World), BkS wr Yu → IsWords (fun b => wr.heap.size ≤ b ∧ b < Yu.heap.size) Yu (.slice za zn zc) (Bit.ofW G.Lp[k]) → w1.ownsRow (gb + 1) 49 1 (.slice (some ⟨gg, 0, none⟩) (k + 1) cap) (k + 1) (vs ++ [.slice za zn zc]) →
            (Yu.alloc (.cells #[.slice za zn zc] 49)).grownBy w1 (Value.slice xa k xc).ownBlock → ((Value.slice xa k xc).ownBlock = some gg ∨ gg = (Yu.alloc (.cells #[.slice za zn zc] 49)).heap.size) →
            w1.cell? ⟨gb, 8, none⟩ = some (.slice xa k xc) ∧ w1.frozen? ⟨gb, 8, none⟩ = false ∧ Hid (Bg1 G [.slice ea en ec, .slice ma mn mc, .slice aa n ac, .slice (some ⟨lb, lo, none⟩) ln lc] n gb g1 g2 cb ub ob kv (.slice (some ⟨gg, 0, none⟩) (k + 1) cap) (k + 1) wc (w1.setCell ⟨gb, 8, none⟩ (.slice (some ⟨gg, 0, none⟩) (k + 1) cap))) := fun Yu za zn zc gg cap w1 hY hz ho1 hg hat =>
          Bg1.app rfl HK.out hkL rfl hvl hvw (bk_alloc hY _) (hz.keep (fun b hb hlt => ⟨⟨hb.1, by simp; omega⟩, Below.heap_alloc _ _ _ hlt⟩)) (fun b hb => hso.lt b hb) ho1 hg (hat.imp (fun e => e.symm) (fun e => ⟨gg, rfl, by omega⟩))
        obtain ⟨i0, hi0, hz0, hz1, hz2⟩ := info_parts infoSet
        obtain ⟨m, Hm⟩ : ∃ m, Hid (G.Lp[k].length = m) := ⟨_, (rfl : G.Lp[k].length = _)⟩
        rw [Hm.out] at hOf c1
        clear hu hu2 hcc hr hso hlow hlo2 hvw hlk
        go_upto_region 6 with fail
        clear c1
        go_region_law (first
          | (go_simp; go_at_call 25; refine (hOf _ ?_).mono ?_; (first | exact hE0 | exact bk_drew hE0); rintro e1 Yu ⟨za, zn, zc, rfl, hzu, hEu⟩; have y0 := (World.cell?_of_block (a := ⟨gb, 8, none⟩) (hEu.block gb hgl)).trans s8; have y1 : gb < Yu.heap.size := by have := Below.size hEu; omega)
          | (refine step_append_lies _ (by rfl) _ _ _ (by rfl) (gb + 1) 49 i0 _ 1 24 Try.underlying46 hi0 hz0 hz1 hz2 rfl (by omega) (.slice xa k xc) k vs (by rfl) (owns_below ho (bk_alloc hEu _)) ⟨Yu.heap.size, 0, none⟩ 1 1 [.slice za zn zc] (by rfl) (by rfl) (World.news_of_block (cs := #[.slice za zn zc]) (t := 49) (fr := (0, 0)) (heap_alloc_new Yu _)) (by simp [Value.oneCell']) (by omega) (by unfold maxLen; omega) (by omega) (by have := hEu.size; simp; omega) _ rfl ?_; intro gg cap w1 hown1 hgrow hat hlt1; obtain ⟨u1, u2, u3⟩ := hT Yu za zn zc gg cap w1 hEu hzu hown1 hgrow hat))
        all_goals (clear hT hOf ho hE0 HK hvl)
        all_goals go_wp2_with fail
        all_goals go_roundw
        all_goals first | exact ⟨k + 1, _, _, by omega, by go_num, u3⟩ | (simp [intOf]; omega)
      · obtain rfl : ln = k := by omega
        have hwr : Below w.heap.size w wr := HWC.out.trans (HK.out.low.mono (by omega))
        obtain ⟨L, rfl, hok, hst, hdy, hSt⟩ := Bg1.done HL.out.2.2.2 HB0.out HK.out hG hF rfl HL.out.2.2.1 HGC.out hxs
        have HS0 : Hid (BgS L G w (fun _ => 0) 0 wr) := ⟨hdy, hst, hwr, fun u hu => by omega, fun _ _ => rfl⟩
        have Hn : Hid (G.A.length = n) := HL.out.2.2.1.symm
        have HOK := hid_of hok
        have HST := hid_of hSt
        have hwL : w.heap.size ≤ L.gb := by omega
        clear HB0 HK hwr hok hst hdy hSt HGC HWC HBX HR0 HX hge hxs hgc hxl
        go_wp2_with fail
        go_loopw [52] (fun s52 wx => ∃ (v : Nat) (f : Nat → Int), v ≤ n ∧ s52 = .int .i64 v ∧ Hid (BgS L G w f v wx)) (fun s52 _ => n - (intOf s52).toNat)
        case atStart => exact ⟨0, _, by omega, rfl, HS0⟩
        case round =>
          obtain ⟨v, f, hv, rfl, HV⟩ := hrel
          clear HS0
          by_cases hvn : v < n
          · have hvA : v < G.A.length := by rw [Hn.out]; exact hvn
            obtain ⟨hnst, kk, hnm⟩ := HV.out.st.nm v hvA
            have c4 : wr.cell? ⟨L.gb, 4, none⟩ = some (.slice (some ⟨L.nb, 0, none⟩) G.A.length G.A.length) := HV.out.dy.row.cell rfl
            rw [Hn.out] at c4
            have cn : wr.cell? ⟨L.nb, v, none⟩ = some (.map (some (L.nm v))) := HV.out.st.near.cell (get_range hvA)
            have hvz : (v : Int) < (n : Int) := by omega
            have hBr := HV.out.st.hB
            have hgbB := HOK.out.lt.1
            go_wp2_with (at_range; refine stop_here ?_)
            refine stop_go (wp_rangeN rfl _ rfl rfl hnm ?_)
            intro X3 cnt hrg hg3 hs3
            go_frame
            have HR3 := hid_of (And.intro hrg (HV.out.opened.below HOK.out ⟨hg3.os, hg3.tape, hg3.output, hg3.size, fun b hb => hg3.block b hb (by simp)⟩))
            obtain ⟨r, Hr⟩ : ∃ r, Hid (wr.heap.size = r) := ⟨_, (rfl : wr.heap.size = _)⟩
            rw [Hr.out] at HR3 hBr ⊢
            have hnmB := hnst.1
            clear hrg hg3 hs3 c4 cn HV hnm hnst Hr
            go_wp2_with fail
            go_loopw [8] (fun _s8 wx => ∃ q cnt f, Hid (NRg wx (L.nm v) r kk (fun m => adjS G.E v m) q cnt ∧ BgT L G w f v q wx ∧ ∀ k, q k = true → adjS G.E v k = true)) (fun _ wx => wx.rangeLeft (L.nm v) r)
            case atStart => exact ⟨_, _, _, HR3.out.1, HR3.out.2, fun k h => h⟩
            case round =>
              obtain ⟨q, cnt2, f2, HI⟩ := hrel
              clear HR3
              go_wp2_with (at_next; refine stop_here ?_)
              refine stop_go (wp_nextN rfl _ rfl rfl HI.out.1 ?_ ?_)
              · intro hq
                have HV2 : Hid (BgS L G w f2 (v + 1) wr) := HI.out.2.1.closed (fun m hm => by
                  rcases hq m with h | h
                  · exact h
                  · have := (mem_nearL.1 hm).1
                    have := hF.n
                    omega)
                clear HI hq
                go_wp2_with fail
                go_roundw
                case rel => exact ⟨v + 1, f2, by omega, by go_num, HV2⟩
                case measure => simp [intOf]; omega
              · intro m c X5 cnt5 hqm hrg5 hlt5 hg5 hs5 hen5
                have hle : wr.rangeLeft (L.nm v) r = cnt2 := HI.out.1.left_eq
                have ha := HI.out.2.2 m hqm
                have hmA := (hG.lt_of_adj ha).2.1
                have hT5 : BgT L G w f2 v q X5 := HI.out.2.1.keep HOK.out (fun b hb => hg5.block b (by have := HI.out.2.1.st.hB; omega) (fun e => by cases e; omega)) (Nat.le_of_eq hs5.symm) (bel_grown HI.out.2.1.bl hg5 (fun k e => by cases e; omega))
                have hmem : m ∈ nearL G v := mem_nearL.2 ⟨hmA, ha⟩
                have hrn : r ≠ L.cb ∧ r ≠ L.ub ∧ L.nm v ≠ L.cb ∧ L.nm v ≠ L.ub := by
                  have := HOK.out.lt
                  have h2 := (hT5.st.nm v hvA).1
                  exact ⟨by omega, by omega, h2.2.2.1, h2.2.2.2.1⟩
                have hQ : ∀ k, (q k && !decide (k = m)) = true → adjS G.E v k = true := fun k hk => HI.out.2.2 k (by simp at hk; exact hk.1)
                obtain ⟨fv, Hfv⟩ : ∃ x, Hid (f2 v = x) := ⟨_, (rfl : f2 v = _)⟩
                obtain ⟨ms, Hms⟩ : ∃ x, Hid (mostS G v m = x) := ⟨_, (rfl : mostS G v m = _)⟩
                have hfv := hT5.val hG hF
                have hat := hT5.at_v
                have hms : ms ≤ 100 := by rw [← Hms.out]; exact Nat.le_trans (mostS_le G v m) (Nat.le_trans (alw_len hG hF v) (by omega))
                have hsb := hT5.st.hB
                -- what stands at Y with Y = X5 but for new blocks and the costs
                have hAt : ∀ Y, BgT L G w f2 v q Y → Y.cell? ⟨L.gb, 9, none⟩ = some (.slice (some ⟨L.ub, 0, none⟩) n n) ∧ Y.cell? ⟨L.ub, v, none⟩ = some (.int .i64 fv) ∧ Y.frozen? ⟨L.ub, v, none⟩ = false := fun Y hY => by
                  have := hY.dy.at_sum hvA
                  rw [Hn.out] at this
                  rw [← Hfv.out]
                  exact this
                have hfin : ∀ Y, BgT L G w f2 v q Y → NRg Y (L.nm v) r kk (fun m => adjS G.E v m) (fun k => q k && !decide (k = m)) cnt5 → Hid (NRg (Y.setCell ⟨L.ub, v, none⟩ (.int .i64 (fv + (ms : Int)))) (L.nm v) r kk (fun m => adjS G.E v m) (fun k => q k && !decide (k = m)) cnt5 ∧ BgT L G w (fun u => if u = v then f2 v + (mostS G v m : Int) else f2 u) v (fun k => q k && !decide (k = m)) (Y.setCell ⟨L.ub, v, none⟩ (.int .i64 (fv + (ms : Int))))) := fun Y hY hR => by
                  have h1 := hY.next HOK.out HST.out hmem hqm
                  rw [Hfv.out, Hms.out] at h1
                  rw [Hfv.out, Hms.out]
                  exact ⟨hR.kept (gr_set _ _ _) (fun e => hrn.2.2.2 (by injection e)) (fun e => hrn.2.1 (by injection e)), h1⟩
                have hMo : ∀ Y, BkS X5 Y → Calls Try.prog 39 #[.pointer (some ⟨L.gb, 0, none⟩), .int .i64 (v : Int), .int .i64 (m : Int)] Y fun e Y' => e = .returned (.int .i64 (ms : Int)) ∧ (Y'.cell? ⟨L.gb, 9, none⟩ = some (.slice (some ⟨L.ub, 0, none⟩) n n) ∧ Y'.cell? ⟨L.ub, v, none⟩ = some (.int .i64 fv) ∧ Y'.frozen? ⟨L.ub, v, none⟩ = false) ∧ Hid (NRg (Y'.setCell ⟨L.ub, v, none⟩ (.int .i64 (fv + (ms : Int)))) (L.nm v) r kk (fun m => adjS G.E v m) (fun k => q k && !decide (k = m)) cnt5 ∧ BgT L G w (fun u => if u = v then f2 v + (mostS G v m : Int) else f2 u) v (fun k => q k && !decide (k = m)) (Y'.setCell ⟨L.ub, v, none⟩ (.int .i64 (fv + (ms : Int))))) := fun Y hY => by
                  have hm := (hT5.below HOK.out hY).most HOK.out hG hF HST.out hvA hmA
                  rw [Hms.out] at hm
                  refine hm.mono ?_
                  rintro e Y' ⟨rfl, h1, h2⟩
                  exact ⟨rfl, hAt Y' h1, hfin Y' h1 ((hrg5.below hY).kept h2 (fun e => hrn.2.2.1 (by injection e)) (fun e => hrn.1 (by injection e)))⟩
                obtain ⟨c9, cu, cf⟩ := hAt X5 hT5
                have hE0 : BkS X5 X5 := bk_refl X5
                have hfv1 : fv ≤ 6000 := by rw [← Hfv.out]; exact hfv.1
                have hfv0 : -1000000 ≤ fv := by
                  rw [← Hfv.out]
                  have h1 := sumL_bd (f := mostS G v) (B := 60) (fun m => Nat.le_trans (mostS_le G v m) (alw_len hG hF v)) ((nearL G v).filter q)
                  have h2 : ((nearL G v).filter q).length ≤ 100 := Nat.le_trans (List.length_filter_le _ _) (Nat.le_trans (List.length_filter_le _ _) (by rw [List.length_range]; exact hF.n))
                  omega
                have HQ := hid_of hQ
                clear hfv hat hfin hAt hQ hrg5 hg5 hs5 hT5 HI ha hqm hmem hrn
                go_upto_region 14 with fail
                clear hen5
                have hwp : IntKind.i64.wrap (fv + (ms : Int)) = fv + (ms : Int) := by rw [IntKind.wrap_i64]; omega
                go_region_law (go_simp; go_at_call 39; refine (hMo _ ?_).mono ?_; (first | exact hE0 | exact bk_drew hE0); rintro e1 Yu ⟨rfl, ⟨y9, yu, yf⟩, HFY⟩)
                all_goals (clear hMo hE0)
                all_goals go_wp2_with fail
                all_goals (try rw [hwp])
                all_goals go_roundw
                all_goals first | exact ⟨_, cnt5, _, HFY.out.1, HFY.out.2, HQ.out⟩ | (rw [HFY.out.1.left_eq, hle]; exact hlt5)
          · obtain rfl : n = v := by omega
            have h0 : BgS L G w f G.A.length wr := by rw [Hn.out]; exact HV.out
            have HD0 : Hid (∃ sv, DyV L G (begD G (n - n)) (.slice none 0 0) sv wr ∧ StG L G wr ∧ Below w.heap.size w wr) := ⟨_, by rw [Nat.sub_self]; exact h0.last hG, h0.st, h0.bl⟩
            clear HV h0
            go_wp2_with fail
            go_loopw [9] (fun s9 wx => ∃ t : Nat, t ≤ n ∧ s9 = .int .i64 ((t : Int) - 1) ∧ Hid (∃ sv, DyV L G (begD G (n - t)) (.slice none 0 0) sv wx ∧ StG L G wx ∧ Below w.heap.size w wx)) (fun s9 _ => (intOf s9 + 1).toNat)
            case atStart => exact ⟨n, by omega, rfl, HD0⟩
            case round =>
              obtain ⟨t, ht, rfl, HD⟩ := hrel
              clear HD0
              cases t with
              | zero =>
                rw [show ((0 : Nat) : Int) - 1 = -1 from rfl]
                go_wp2_with fail
                obtain ⟨sv, hdy, hst, hbl⟩ := HD.out
                go_ret
                exact ⟨L, _, sv, rfl, hst, by unfold begS; rw [Hn.out]; exact hdy, HOK.out, hbl, HST.out⟩
              | succ t =>
                rw [show ((t + 1 : Nat) : Int) - 1 = (t : Int) by omega]
                obtain ⟨sv, hdy, hst, hbl⟩ := HD.out
                have hA := (ask_s hst hdy HOK.out (v := t) (by rw [Hn.out]; omega) (by have := (meas_begD G (n - (t + 1))).1; omega)).mono (R' := fun e W2 => e = .returned (.tuple #[]) ∧ Hid (∃ sv, DyV L G (begD G (n - t)) (.slice none 0 0) sv W2 ∧ StG L G W2 ∧ Below w.heap.size w W2)) (by
                  rintro e W2 ⟨rfl, sv', h1, h2⟩
                  refine ⟨rfl, sv', ?_, hst.step hdy h2, hbl.trans (h2.below hdy HST.out hbl.size)⟩
                  have e : n - t = (n - (t + 1)) + 1 := by omega
                  rw [e]
                  show DyV L G (askS G (begD G (n - (t + 1))) (G.A.length - 1 - (n - (t + 1)))) _ _ _
                  rw [Hn.out, show n - 1 - (n - (t + 1)) = t by omega]
                  exact h1)
                clear hdy hst hbl HD
                go_wp2_with fail
                refine hA.mono ?_
                rintro e W2 ⟨rfl, HD2⟩
                go_wp2_with fail
                go_roundw
                case rel => exact ⟨t, by omega, rfl, HD2⟩
                case measure => simp [intOf]
end Go.Proofs.Ytinbfnabngdemaa
