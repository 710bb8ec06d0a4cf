/- Where no node has a neighbour: the solver is begun. -/
import Derived.Test.YtdomnbgjafdnjaaPqU
namespace Go.Proofs.Ytdomnbgjafdnjaa
open Go.RowKit Go.Maps

theorem run_mk_int (W : World) (n : Nat) (hn : n ≤ 1000000) : (Instr.makeSlice 26 (.int .i64 (n : Int)) (.int .i64 (n : Int))).run Try.prog W = .ok (.slice (some ⟨W.heap.size, 0, none⟩) n n) (W.alloc (.cells (List.replicate n (Value.int .i64 0)).toArray 3)) := by
  obtain ⟨i0, hi, hz0, hz1, hz2⟩ := info_parts infoInt
  have hrun := run_make (P := Try.prog) W 26 3 i0 _ Try.underlying26 hi hz0 .i64 .i64 n n (by omega) (Int.le_refl _) (by rw [hz2]; omega) (by omega)
  have hmade : madeCells (Value.int .i64 0).cells (n * i0.size) = (List.replicate n (Value.int .i64 0)).toArray := by
    rw [hz1, Nat.mul_one]
    exact Array.toList_inj.1 (by rw [show (Value.int .i64 0).cells = #[.int .i64 0] from rfl, toList_madeCells_one])
  simp only [Int.toNat_natCast] at hrun
  rw [hmade] at hrun
  exact hrun
theorem run_mk_bool (W : World) (n : Nat) (hn : n ≤ 1000000) : (Instr.makeSlice 54 (.int .i64 (n : Int)) (.int .i64 (n : Int))).run Try.prog W = .ok (.slice (some ⟨W.heap.size, 0, none⟩) n n) (W.alloc (.cells (List.replicate n (Value.bool false)).toArray 4)) := by
  obtain ⟨i0, hi, hz0, hz1, hz2⟩ := info_parts infoBool
  have hrun := run_make (P := Try.prog) W 54 4 i0 _ Try.underlying54 hi hz0 .i64 .i64 n n (by omega) (Int.le_refl _) (by rw [hz2]; omega) (by omega)
  have hmade : madeCells (Value.bool false).cells (n * i0.size) = (List.replicate n (Value.bool false)).toArray := by
    rw [hz1, Nat.mul_one]
    exact Array.toList_inj.1 (by rw [show (Value.bool false).cells = #[.bool false] from rfl, toList_madeCells_one])
  simp only [Int.toNat_natCast] at hrun
  rw [hmade] at hrun
  exact hrun

/-- Blocks of what has been begun, but for the two rows. -/
def BgP (X0 : Nat) (nv mv : Value) (b : Nat) : Prop := X0 ≤ b ∧ some b ≠ nv.ownBlock ∧ some b ≠ mv.ownBlock
/-- k nodes, m maps have been begun. -/
structure BgSt (w : World) (sb lb gb X0 n : Nat) (N : List (List Int)) (k m : Nat) (nv mv : Value) (vn vm : List Value) (W : World) : Prop where
  sv : Row W sb 56 [nv, mv, .slice none 0 0, .slice (some ⟨lb, 0, none⟩) n n, .slice (some ⟨gb, 0, none⟩) n n]
  lr : Row W lb 3 (ints (List.replicate n 0))
  gr : Row W gb 4 (bools (goneS n 0))
  on : W.ownsRow X0 71 1 nv k vn
  om : W.ownsRow X0 67 1 mv m vm
  ln : vn.length = k
  lm : vm.length = m
  en : ∀ j (_ : j < vn.length), ∃ a c, vn[j] = .slice a (N.getD j []).length c ∧ IsInts (BgP X0 nv mv) W (.slice a (N.getD j []).length c) (N.getD j [])
  em : ∀ j (_ : j < vm.length), ∃ b, vm[j] = .map (some b) ∧ BgP X0 nv mv b ∧ W.heap[b]? = some (.map #[] 0)
  dd : ∀ b, nv.ownBlock = some b → mv.ownBlock ≠ some b
  bel : Below w.heap.size w W
  sz : X0 ≤ W.heap.size
  lo : w.heap.size ≤ sb ∧ sb < X0 ∧ w.heap.size ≤ lb ∧ lb < X0 ∧ w.heap.size ≤ gb ∧ gb < X0 ∧ sb ≠ lb ∧ sb ≠ gb ∧ lb ≠ gb

/-- One more node. -/
theorem BgSt.node {w W Y w1 : World} {sb lb gb X0 n k m : Nat} {N : List (List Int)} {nv mv nv' u : Value} {vn vm : List Value} (h : BgSt w sb lb gb X0 n N k m nv mv vn vm W) (hY : Below W.heap.size W Y) {ua : Option Addr} {uc gg cap : Nat}
    (hu : u = .slice ua (N.getD k []).length uc) (hi : IsInts (fun b => W.heap.size ≤ b ∧ b < Y.heap.size) Y u (N.getD k [])) (hv : nv' = .slice (some ⟨gg, 0, none⟩) (k + 1) cap)
    (ho : w1.ownsRow X0 71 1 nv' (k + 1) (vn ++ [u])) (hg : Y.grownBy w1 nv.ownBlock) (hat : nv.ownBlock = some gg ∨ Y.heap.size ≤ gg) :
    w1.cell? ⟨sb, 0, none⟩ = some nv ∧ w1.frozen? ⟨sb, 0, none⟩ = false ∧ BgSt w sb lb gb X0 n N (k + 1) m nv' mv (vn ++ [u]) vm (w1.setCell ⟨sb, 0, none⟩ nv') ∧ ∀ b, b < X0 → b ≠ sb → (w1.setCell ⟨sb, 0, none⟩ nv').heap[b]? = W.heap[b]? := by
  obtain ⟨a1, a2, a3, a4, a5, a6, a7, a8, a9⟩ := h.lo
  have hz := h.sz
  have hys := hY.size
  have hub : ∀ b, nv.ownBlock = some b → X0 ≤ b ∧ b < W.heap.size := fun b hb => h.on.lt b hb
  have hmb : ∀ b, mv.ownBlock = some b → X0 ≤ b ∧ b < W.heap.size := fun b hb => h.om.lt b hb
  have hgl : X0 ≤ gg := (ho.lt gg (by rw [hv]; rfl)).1
  have k1 : ∀ b, b < W.heap.size → some b ≠ nv.ownBlock → w1.heap[b]? = W.heap[b]? := fun b hb hn => (hg.block b (by omega) hn).trans (hY.block b hb)
  have k2 : ∀ b, b < X0 → w1.heap[b]? = W.heap[b]? := fun b hb => k1 b (by omega) (fun e => by have := (hub b e.symm).1; omega)
  have k3 : ∀ b, b ≠ sb → (w1.setCell ⟨sb, 0, none⟩ nv').heap[b]? = w1.heap[b]? := fun b hb => Below.heap_setCell _ _ _ _ hb
  have hsv := h.sv.keep (k2 sb a2)
  have hb1 : Below w.heap.size w w1 := bel_grown (bel_call h.bel hY) hg (fun b e => by have := (hub b e).1; omega)
  have hvo : nv'.ownBlock = some gg := by rw [hv]; rfl
  refine ⟨hsv.cell (k := 0) rfl, hsv.frozen 0, ⟨hsv.set 0 nv', h.lr.keep ((k3 lb (Ne.symm a7)).trans (k2 lb a4)), h.gr.keep ((k3 gb (Ne.symm a8)).trans (k2 gb a6)), ?_, ?_, by simp [h.ln], h.lm, ?_, ?_, ?_, hb1.setCell (by show w.heap.size ≤ sb; omega) _, ?_, h.lo⟩, fun b hb hne => (k3 b hne).trans (k2 b hb)⟩
  · refine ho.kept (kept_set ⟨sb, 0, none⟩ nv') ?_
    rw [hvo]
    exact .inr (by show some gg ≠ some sb; simp; omega)
  · have hom : w1.ownsRow X0 67 1 mv m vm := by
      refine (owns_below h.om hY).kept hg ?_
      cases hmo : mv.ownBlock with
      | none => exact .inl rfl
      | some b => exact .inr fun e => h.dd b e.symm hmo
    refine hom.kept (kept_set ⟨sb, 0, none⟩ nv') ?_
    cases hmo : mv.ownBlock with
    | none => exact .inl rfl
    | some b => exact .inr fun e => by have := (hmb b hmo).1; have e' : b = sb := by simpa using e
                                       omega
  · intro j hj
    by_cases hjl : j < vn.length
    · rw [List.getElem_append_left hjl]
      obtain ⟨a, c, e1, e2⟩ := h.en j hjl
      refine ⟨a, c, e1, e2.keep (fun b hb hlt => ⟨⟨hb.1, fun e => ?_, hb.2.2⟩, ?_⟩)⟩
      · rw [hvo] at e
        have e3 : b = gg := by simpa using e
        rcases hat with e4 | e4
        · exact hb.2.1 (by rw [e4, e3])
        · omega
      · exact (k3 b (by have := hb.1; omega)).trans (k1 b hlt hb.2.1)
    · have hje : j = vn.length := by simp at hj; omega
      subst hje
      rw [List.getElem_append_right (Nat.le_refl _)]
      simp only [Nat.sub_self, List.getElem_cons_zero]
      rw [h.ln]
      refine ⟨ua, uc, hu, ?_⟩
      rw [← hu]
      refine hi.keep (fun b hb hlt => ⟨⟨by omega, fun e => ?_, fun e => by have := (hmb b e.symm).2; omega⟩, ?_⟩)
      · rw [hvo] at e
        have e3 : b = gg := by simpa using e
        rcases hat with e4 | e4
        · have := (hub gg e4).2; omega
        · omega
      · exact (k3 b (by omega)).trans (hg.block b hlt (fun e => by have := (hub b e.symm).2; omega))
  · intro j hj
    obtain ⟨b, e1, e2, e3⟩ := h.em j hj
    have hlt := lt_of_block e3
    refine ⟨b, e1, ⟨e2.1, fun e => ?_, e2.2.2⟩, ((k3 b (by have := e2.1; omega)).trans (k1 b hlt e2.2.1)).trans e3⟩
    rw [hvo] at e
    have e4 : b = gg := by simpa using e
    rcases hat with e5 | e5
    · exact e2.2.1 (by rw [e5, e4])
    · omega
  · intro b hb hm
    rw [hvo] at hb
    have e4 : gg = b := by simpa using hb
    rcases hat with e5 | e5
    · exact h.dd gg e5 (by rw [e4]; exact hm)
    · have := (hmb b hm).2; omega
  · have := hg.size; simp; omega
/-- One more map. -/
theorem BgSt.more {w W Y w1 : World} {sb lb gb X0 n k m b0 : Nat} {N : List (List Int)} {nv mv mv' : Value} {vn vm : List Value} (h : BgSt w sb lb gb X0 n N k m nv mv vn vm W) (hY : Below W.heap.size W Y) {gg cap : Nat}
    (hi : Y.heap[b0]? = some (.map #[] 0)) (hb0 : W.heap.size ≤ b0) (hv : mv' = .slice (some ⟨gg, 0, none⟩) (m + 1) cap)
    (ho : w1.ownsRow X0 67 1 mv' (m + 1) (vm ++ [.map (some b0)])) (hg : Y.grownBy w1 mv.ownBlock) (hat : mv.ownBlock = some gg ∨ Y.heap.size ≤ gg) :
    w1.cell? ⟨sb, 1, none⟩ = some mv ∧ w1.frozen? ⟨sb, 1, none⟩ = false ∧ BgSt w sb lb gb X0 n N k (m + 1) nv mv' vn (vm ++ [.map (some b0)]) (w1.setCell ⟨sb, 1, none⟩ mv') ∧ ∀ b, b < X0 → b ≠ sb → (w1.setCell ⟨sb, 1, none⟩ mv').heap[b]? = W.heap[b]? := by
  obtain ⟨a1, a2, a3, a4, a5, a6, a7, a8, a9⟩ := h.lo
  have hz := h.sz
  have hys := hY.size
  have hblt := lt_of_block hi
  have hub : ∀ b, nv.ownBlock = some b → X0 ≤ b ∧ b < W.heap.size := fun b hb => h.on.lt b hb
  have hmb : ∀ b, mv.ownBlock = some b → X0 ≤ b ∧ b < W.heap.size := fun b hb => h.om.lt b hb
  have hgl : X0 ≤ gg := (ho.lt gg (by rw [hv]; rfl)).1
  have k1 : ∀ b, b < W.heap.size → some b ≠ mv.ownBlock → w1.heap[b]? = W.heap[b]? := fun b hb hn => (hg.block b (by omega) hn).trans (hY.block b hb)
  have k2 : ∀ b, b < X0 → w1.heap[b]? = W.heap[b]? := fun b hb => k1 b (by omega) (fun e => by have := (hmb b e.symm).1; omega)
  have k3 : ∀ b, b ≠ sb → (w1.setCell ⟨sb, 1, none⟩ mv').heap[b]? = w1.heap[b]? := fun b hb => Below.heap_setCell _ _ _ _ hb
  have hsv := h.sv.keep (k2 sb a2)
  have hb1 : Below w.heap.size w w1 := bel_grown (bel_call h.bel hY) hg (fun b e => by have := (hmb b e).1; omega)
  have hvo : mv'.ownBlock = some gg := by rw [hv]; rfl
  refine ⟨hsv.cell (k := 1) rfl, hsv.frozen 1, ⟨hsv.set 1 mv', h.lr.keep ((k3 lb (Ne.symm a7)).trans (k2 lb a4)), h.gr.keep ((k3 gb (Ne.symm a8)).trans (k2 gb a6)), ?_, ?_, h.ln, by simp [h.lm], ?_, ?_, ?_, hb1.setCell (by show w.heap.size ≤ sb; omega) _, ?_, h.lo⟩, fun b hb hne => (k3 b hne).trans (k2 b hb)⟩
  · have hon : w1.ownsRow X0 71 1 nv k vn := by
      refine (owns_below h.on hY).kept hg ?_
      cases hmo : nv.ownBlock with
      | none => exact .inl rfl
      | some b => exact .inr fun e => h.dd b hmo e.symm
    refine hon.kept (kept_set ⟨sb, 1, none⟩ mv') ?_
    cases hmo : nv.ownBlock with
    | none => exact .inl rfl
    | some b => exact .inr fun e => by have := (hub b hmo).1; have e' : b = sb := by simpa using e
                                       omega
  · refine ho.kept (kept_set ⟨sb, 1, none⟩ mv') ?_
    rw [hvo]
    exact .inr (by show some gg ≠ some sb; simp; omega)
  · intro j hj
    obtain ⟨a, c, e1, e2⟩ := h.en j hj
    refine ⟨a, c, e1, e2.keep (fun b hb hlt => ⟨⟨hb.1, hb.2.1, fun e => ?_⟩, ?_⟩)⟩
    · rw [hvo] at e
      have e3 : b = gg := by simpa using e
      rcases hat with e4 | e4
      · exact hb.2.2 (by rw [e4, e3])
      · omega
    · exact (k3 b (by have := hb.1; omega)).trans (k1 b hlt hb.2.2)
  · intro j hj
    by_cases hjl : j < vm.length
    · rw [List.getElem_append_left hjl]
      obtain ⟨b, e1, e2, e3⟩ := h.em j hjl
      have hlt := lt_of_block e3
      refine ⟨b, e1, ⟨e2.1, e2.2.1, fun e => ?_⟩, ((k3 b (by have := e2.1; omega)).trans (k1 b hlt e2.2.2)).trans e3⟩
      rw [hvo] at e
      have e4 : b = gg := by simpa using e
      rcases hat with e5 | e5
      · exact e2.2.2 (by rw [e5, e4])
      · omega
    · have hje : j = vm.length := by simp at hj; omega
      subst hje
      rw [List.getElem_append_right (Nat.le_refl _)]
      simp only [Nat.sub_self, List.getElem_cons_zero]
      refine ⟨b0, rfl, ⟨by omega, fun e => by have := (hub b0 e.symm).2; omega, fun e => ?_⟩, ((k3 b0 (by omega)).trans (hg.block b0 hblt (fun e => by have := (hmb b0 e.symm).2; omega))).trans hi⟩
      rw [hvo] at e
      have e4 : b0 = gg := by simpa using e
      rcases hat with e5 | e5
      · have := (hmb gg e5).2; omega
      · omega
  · intro b hb hm
    rw [hvo] at hm
    have e4 : gg = b := by simpa using hm
    rcases hat with e5 | e5
    · exact h.dd b hb (by rw [← e4]; exact e5)
    · have := (hub b hb).2; omega
  · have := hg.size; simp; omega

set_option maxRecDepth 100000 in
set_option maxHeartbeats 16000000 in
theorem begin_c {p : Nat → Prop} (w : World) {na : Option Addr} {nl nc : Nat} {ea : Option Addr} {ec : Nat} {N : List (List Int)} (hp : ∀ b, p b → b < w.heap.size) (hN : IsRows p w (.slice na nl nc) N)
    (hne : ∀ n ∈ N, n.length ≠ 0 ∧ n.length ≤ 32) (hl : nl ≤ 300) :
    Calls Try.prog 24 #[costsV na nl nc ea 0 ec] w fun e w' => ∃ (sb lb gb X0 : Nat) (nv mv : Value) (vn vm : List Value), e = .returned (.pointer (some ⟨sb, 0, none⟩)) ∧ BgSt w sb lb gb X0 nl N nl nl nv mv vn vm w' := by
  have HNL := hid_of (sl_len hN).1
  have HNE := hid_of hne
  have HN : Hid (∀ X, Below w.heap.size w X → IsRows p X (.slice na nl nc) N) := fun X hX => hN.keep (fun b hb hlt => ⟨hb, hX.block b (hp b hb)⟩)
  have hmi := fun W => run_mk_int W nl (by omega)
  have hmb := fun W => run_mk_bool W nl (by omega)
  clear hN hne
  go_enter Try.func24, Try.ntmps24
  go_wp2_with fail
  refine wp_at (fun X => Row X w.heap.size 25 [.slice na nl nc, .slice ea 0 ec] ∧ Below w.heap.size w X) ⟨heap_alloc_eq _ _ _ rfl, bel_alloc (bel_refl w) _⟩ ?_
  rintro X ⟨r0, hX⟩
  have a0 := r0.cell (k := 0) rfl
  have hxl := r0.lt
  have HR0 := hid_of r0
  have HX := hid_of hX
  clear r0 hX
  go_cut [3] (fun s3 wx => ∃ sb lb gb : Nat, s3 = .pointer (some ⟨sb, 0, none⟩) ∧ Row wx sb 56 [.slice none 0 0, .slice none 0 0, .slice none 0 0, .slice (some ⟨lb, 0, none⟩) nl nl, .slice (some ⟨gb, 0, none⟩) nl nl] ∧
    Row wx lb 3 (ints (List.replicate nl 0)) ∧ Row wx gb 4 (bools (goneS nl 0)) ∧ (X.heap.size ≤ sb ∧ X.heap.size ≤ lb ∧ X.heap.size ≤ gb ∧ sb ≠ lb ∧ sb ≠ gb ∧ lb ≠ gb) ∧ Below X.heap.size X wx)
  case first =>
    have hE0 : BkS X X := bel_refl X
    have hKS : ∀ Y, BkS X Y → Y.cell? ⟨w.heap.size, 0, none⟩ = some (.slice na nl nc) := fun Y hY => (World.cell?_of_block (a := ⟨w.heap.size, 0, none⟩) (hY.block _ hxl)).trans a0
    clear a0
    go_region_held3 (fun Y => Y.cell? ⟨w.heap.size, 0, none⟩ = some (.slice na nl nc))
      ((refine hKS _ ?_; repeat (first | exact Nat.le_refl _ | exact hE0 | refine bk_drew ?_ | refine bk_alloc ?_ _ | refine bk_set ?_ ?_ _ | (simp; omega)))) (fail)
    all_goals (try go_wp2_with fail)
    all_goals go_meet
    all_goals refine ⟨_, _, _, rfl, heap_alloc_eq _ _ _ (by simp), ?_, ?_, ⟨by omega, by omega, by omega, by omega, by omega, by omega⟩, bk_drew (bk_alloc (bk_alloc (bk_alloc hE0 _) _) _)⟩
    all_goals unfold Row
    all_goals first | rw [show (ints (List.replicate nl 0)).toArray = Array.replicate nl (Value.int .i64 0) by simp [ints]] | rw [show (bools (goneS nl 0)).toArray = Array.replicate nl (Value.bool false) by simp [bools, goneS]]
    all_goals first | exact heap_alloc_ne _ _ _ _ (heap_alloc_ne _ _ _ _ (heap_alloc_eq _ _ _ rfl)) | exact heap_alloc_ne _ _ _ _ (heap_alloc_eq _ _ _ (by simp))
  case rest =>
    obtain ⟨sb, lb, gb, rfl, hsv, hlr, hgr, ⟨g1, g2, g3, g4, g5, g6⟩, hX2⟩ := hcut
    have hxw := HX.out.size
    have HB0 : Hid (BgSt w sb lb gb wc.heap.size nl N 0 0 (.slice none 0 0) (.slice none 0 0) [] [] wc) :=
      ⟨hsv, hlr, hgr, World.ownsRow_nil _ _ _ _, World.ownsRow_nil _ _ _ _, rfl, rfl, fun j hj => by simp at hj, fun j hj => by simp at hj, fun b hb => by simp [Value.ownBlock] at hb, bel_call HX.out hX2, Nat.le_refl _, ⟨by omega, hsv.lt, by omega, hlr.lt, by omega, hgr.lt, g4, g5, g6⟩⟩
    have hr1 := HR0.out.keep (hX2.block _ hxl)
    have a0 := hr1.cell (k := 0) rfl
    have HR1 := hid_of hr1
    have HL1 : Hid (w.heap.size < wc.heap.size) := hr1.lt
    have HG : Hid (w.heap.size ≠ sb) := by show _ ≠ _; omega
    clear hsv hlr hgr hX2 hr1 HR0 hxl hmi hmb g1 g2 g3 g4 g5 g6 hxw
    obtain ⟨X0, HX0⟩ : ∃ X0, Hid (wc.heap.size = X0) := ⟨_, (rfl : wc.heap.size = _)⟩
    rw [HX0.out] at HB0 HL1
    go_wp2_with fail
    clear a0
    go_loopw [24] (fun s24 wx => ∃ k : Nat, k ≤ nl ∧ s24 = .int .i64 k ∧ Hid (∃ nv mv vn vm, BgSt w sb lb gb X0 nl N k k nv mv vn vm wx ∧ Row wx w.heap.size 25 [.slice na nl nc, .slice ea 0 ec])) (fun s24 _ => nl - (intOf s24).toNat)
    case atStart => exact ⟨0, by omega, rfl, _, _, _, _, HB0.out, HR1.out⟩
    case round =>
      obtain ⟨k, hk, rfl, HS⟩ := hrel
      clear HB0
      obtain ⟨nv, mv, vn, vm, hS, hr⟩ := HS.out
      clear HS
      by_cases hlt : k < nl
      · have hkx : k < N.length := by have := HNL.out; omega
        obtain ⟨b, off, a3, n3, c3, rfl, hpb, ck, hi, hn3, hn3m⟩ := rows_at2 (HN.out wr hS.bel) hkx
        have hne := HNE.out _ (mem_getD (d := []) hkx)
        obtain ⟨xa, xc, rfl⟩ : ∃ a c, nv = .slice a k c := by obtain ⟨a, c, e, -⟩ := owns_slice hS.on; exact ⟨a, c, e⟩
        obtain ⟨ya, yc, rfl⟩ : ∃ a c, mv = .slice a k c := by obtain ⟨a, c, e, -⟩ := owns_slice hS.om; exact ⟨a, c, e⟩
        have HSS := hid_of hS
        have s0 := hS.sv.cell (k := 0) rfl
        have hsl := hS.sv.lt
        have hon := hS.on
        have hX0 := hS.sz
        have hkz : (k : Int) < (nl : Int) := by omega
        have hrl := hr.lt
        have HRR := hid_of hr
        obtain ⟨LL, HLL⟩ : ∃ LL, Hid (N.getD k [] = LL) := ⟨_, (rfl : N.getD k [] = _)⟩
        rw [HLL.out] at hi hn3 hne
        have HN3 := hid_of hn3
        have hCl : ∀ Y, BkS wr Y → Calls Try.prog 34 #[.slice a3 n3 c3] Y fun e Y' => ∃ v', e = .returned v' ∧ Y'.ownsRow wr.heap.size 3 1 v' n3 (ints LL) ∧ BkS wr Y' := fun Y hY => by
          have := cloneI_c (p := p) Y (hi.keep (fun b hb hlt => ⟨hb, hY.block b hlt⟩)) (by omega) (by omega)
          rw [← HN3.out] at this
          exact this.mono (by rintro e Y' ⟨v', rfl, ho, hb⟩; exact ⟨v', rfl, owns_mono ho hY.size, bel_call hY hb⟩)
        have hE0 : BkS wr wr := bel_refl wr
        have hT : ∀ (Yu : World) (za : Option Addr) (zc gg cap : Nat) (w1 : World), BkS wr Yu → Yu.ownsRow wr.heap.size 3 1 (.slice za n3 zc) n3 (ints LL) → w1.ownsRow X0 71 1 (.slice (some ⟨gg, 0, none⟩) (k + 1) cap) (k + 1) (vn ++ [.slice za n3 zc]) →
            (Yu.alloc (.cells #[.slice za n3 zc] 71)).grownBy w1 (Value.slice xa k xc).ownBlock → ((Value.slice xa k xc).ownBlock = some gg ∨ gg = (Yu.alloc (.cells #[.slice za n3 zc] 71)).heap.size) →
            w1.cell? ⟨sb, 0, none⟩ = some (.slice xa k xc) ∧ w1.frozen? ⟨sb, 0, none⟩ = false ∧ BgSt w sb lb gb X0 nl N (k + 1) k (.slice (some ⟨gg, 0, none⟩) (k + 1) cap) (.slice ya k yc) (vn ++ [.slice za n3 zc]) vm (w1.setCell ⟨sb, 0, none⟩ (.slice (some ⟨gg, 0, none⟩) (k + 1) cap)) ∧
              ∀ b, b < X0 → b ≠ sb → (w1.setCell ⟨sb, 0, none⟩ (.slice (some ⟨gg, 0, none⟩) (k + 1) cap)).heap[b]? = wr.heap[b]? := fun Yu za zc gg cap w1 hY hou ho hg hat => by
          have hii : IsInts (fun b => wr.heap.size ≤ b ∧ b < Yu.heap.size) Yu (.slice za n3 zc) LL := by
            rw [HN3.out] at hou ⊢
            exact ints_of_owns hou (by have := HN3.out; omega) (fun b e h1 h2 => ⟨h1, h2⟩)
          refine BgSt.node (u := .slice za n3 zc) (ua := za) (uc := zc) (cap := cap) HSS.out (bk_alloc hY (.cells #[.slice za n3 zc] 71)) (by rw [HLL.out, HN3.out]) ?_ rfl ho hg (hat.imp id fun e => by omega)
          rw [HLL.out]
          exact hii.keep (fun b hb hlt => ⟨⟨hb.1, by simp; omega⟩, Below.heap_alloc _ _ _ hlt⟩)
        obtain ⟨i0, hi0, hz0, hz1, hz2⟩ := info_parts infoVec
        clear hS hr hi hn3 hne
        go_upto_region 5 with fail
        go_cut [] (fun wx => ∃ nv' vn', BgSt w sb lb gb X0 nl N (k + 1) k nv' (.slice ya k yc) vn' vm wx ∧ Row wx w.heap.size 25 [.slice (some ⟨b, off, none⟩) nl nc, .slice ea 0 ec])
        case first =>
          clear ck
          go_region_law (first
            | (go_simp; go_at_call 34; refine (hCl _ ?_).mono ?_; (first | exact hE0 | exact bk_drew hE0); rintro e1 Yu ⟨zu, rfl, hou, hEu⟩; obtain ⟨za, zc, rfl, -⟩ := owns_slice hou; have y0 := (World.cell?_of_block (a := ⟨sb, 0, none⟩) (hEu.block sb hsl)).trans s0; have y1 : sb < Yu.heap.size := by have := Below.size hEu; omega)
            | (refine step_append_lies _ (by rfl) _ _ _ (by rfl) X0 71 i0 _ 1 24 Try.underlying51 hi0 hz0 hz1 hz2 rfl (by omega) (.slice xa k xc) k vn (by rfl) (owns_below hon (bk_alloc hEu _)) ⟨Yu.heap.size, 0, none⟩ 1 1 [.slice za n3 zc] (by rfl) (by rfl) (World.news_of_block (cs := #[.slice za n3 zc]) (t := 71) (fr := (0, 0)) (heap_alloc_new Yu _)) (by simp [Value.oneCell']) (by omega) (by unfold maxLen; omega) (by omega) (by have := hEu.size; simp; omega) _ rfl ?_; intro gg cap w1 hown1 hgrow hat hlt1; obtain ⟨u1, u2, u3, u4⟩ := hT Yu za zc gg cap w1 hEu hou hown1 hgrow hat))
          all_goals (try go_wp2_with fail)
          all_goals go_meet
          all_goals exact ⟨_, _, u3, HRR.out.keep (u4 _ (by have := HL1.out; omega) HG.out)⟩
        case rest =>
          obtain ⟨nv', vn', hS2, hr2⟩ := hcut
          clear s0 hsl hon hX0 hCl hE0 hT HSS HRR hrl
          have s1 := hS2.sv.cell (k := 1) rfl
          have hsl := hS2.sv.lt
          have hX0 := hS2.sz
          have hom := hS2.om
          have hlm := hS2.lm
          rw [← hlm] at hom
          rw [hlm] at hom
          have hom2 : wc.ownsRow X0 67 1 (.slice ya k yc) vm.length vm := by rw [hlm]; exact hom
          have HOM := hid_of hom2
          have HLM := hid_of hlm
          have HS2 := hid_of hS2
          have HR2 := hid_of hr2
          have hvb : (vm.length + 1) * 8 ≤ 140737488355328 := by omega
          have hvx : vm.length + 1 ≤ maxLen := by unfold maxLen; omega
          have HVB := hid_of (And.intro hvb hvx)
          clear hS2 hr2 hom hom2 hlm hvb hvx ck
          have hmm := @run_makeMap Try.prog
          go_wp2_with (at_builtin; refine stop_here ?_)
          clear hmm
          refine stop_go (app_cell 52 67 (.map none) 8 Try.underlying52 infoMapM rfl rfl _ _ rfl X0 (.slice ya k yc) vm rfl (owns_below HOM.out (bel_alloc (bel_alloc (bel_refl wc) _) _)) _ (.map (some wc.heap.size)) rfl rfl (heap_alloc_eq _ _ _ (by simp)) HVB.out.1 HVB.out.2 (by simp; omega) ?_)
          intro v' w' ho hgr hv
          have ho2 : w'.ownsRow X0 67 1 v' (k + 1) (vm ++ [.map (some wc.heap.size)]) := by
            rw [List.length_append, HLM.out] at ho
            exact ho
          obtain ⟨va, vc, rfl, hva⟩ := owns_slice ho2
          obtain ⟨gg, rfl⟩ := hva (by omega)
          obtain ⟨u1, u2, u3, u4⟩ := BgSt.more (cap := vc) HS2.out (bel_alloc (bel_alloc (bel_refl wc) (.map #[] 0)) (.cells #[.map (some wc.heap.size)] 67)) (b0 := wc.heap.size) (heap_alloc_ne _ _ _ _ (heap_alloc_eq _ _ _ rfl)) (Nat.le_refl _) rfl ho2 hgr (hv.imp (fun e => e.symm.trans rfl) (fun e => by simp [Value.ownBlock] at e; simp; omega))
          have HU3 := hid_of u3
          have HR3 := hid_of (HR2.out.keep (u4 w.heap.size HL1.out HG.out))
          clear ho ho2 hgr hv u3 u4 s1 HOM HS2 HR2
          go_wp2_with fail
          go_roundw
          case rel => exact ⟨k + 1, by omega, by go_num, _, _, _, _, HU3.out, HR3.out⟩
          case measure => simp [intOf]; omega
      · obtain rfl : k = nl := by omega
        have HSS := hid_of hS
        have a1 := hr.cell (k := 1) rfl
        clear hS hr
        go_wp2_with fail
        go_loop [53] (fun s53 => s53 = .int .i64 0) (fun _ => 0)
        case atStart => rfl
        case round =>
          subst hrel
          go_wp2_with fail
          go_ret
          exact ⟨sb, rfl, lb, gb, X0, _, _, _, _, HSS.out⟩
end Go.Proofs.Ytdomnbgjafdnjaa
