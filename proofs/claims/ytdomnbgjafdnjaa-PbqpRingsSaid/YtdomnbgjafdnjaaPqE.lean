/- The general solver: a new edge. -/
import Derived.Test.YtdomnbgjafdnjaaPqQ
namespace Go.Proofs.Ytdomnbgjafdnjaa
open Go.RowKit Go.Maps Go.ChangeMaps Go.WideElems

/-- What a map's block holds while a key is laid, and behind it. -/
def pushM (W : World) (b : Nat) (es : Array MapEntry) (clock : Nat) (x : Int) (v : Value) : World := setBlock W b (.map (es.push ⟨.int .i64 x, v, clock⟩) (clock + 1))
theorem IsMv.entry {W : World} {b n : Nat} {f : MF} (h : IsMv W b n f) (hn : n ≤ 1000000) {x : Int} (hx : In64 x) (hf : f x = none) (v : Value) :
    ∃ (es : Array MapEntry) (clock : Nat), W.heap[b]? = some (.map es clock) ∧
      (Instr.mapEntry 67 (.map (some b)) (.int .i64 x)).run Try.prog W = .ok (.tuple #[.slice none 0 0, .int .i64 (clock : Int)]) (pushM W b es clock x (.slice none 0 0)) ∧
      (∀ Y : World, Y.heap[b]? = some (.map (es.push ⟨.int .i64 x, .slice none 0 0, clock⟩) (clock + 1)) → (Instr.entryStore 67 (.map (some b)) (.int .i64 (clock : Int)) v).run Try.prog Y = .ok () (pushM Y b es clock x v)) ∧
      IsMv (pushM W b es clock x v) b (n + 1) (updF f x v) := by
  have hlk := h.lookok hx
  obtain ⟨W', hp, hI, -⟩ := h.put hn hx v
  obtain ⟨D, ⟨es, clock, hb, F, -, -⟩, -⟩ := id h
  obtain ⟨s1, s2, s3⟩ := F.stamped
  have ht : Try.prog.underlying 67 = some (.map 3 68) := Try.underlying67
  refine ⟨es, clock, hb, ?_⟩
  rcases lawInt.find W hx.key es.toList F.keys with ⟨h1, h2⟩ | ⟨j, e0, h1, h2, h3⟩
  · refine ⟨?_, fun Y hY => ?_, ?_⟩
    · simp [Instr.mapEntry, run_underlying ht, MapKept.run_getObj_map hb, lawInt.check W false hx.key, h1, MapKept.run_setObj_map _ hb, Result.andThen, pushM, setBlock, goInt]
    · have hidx : (es.push ⟨.int .i64 x, .slice none 0 0, clock⟩).findIdx? (fun e => ((e.born : Nat) : Int) == (clock : Int)) = some es.size := by
        rw [Array.findIdx?_push]
        have : es.findIdx? (fun e => ((e.born : Nat) : Int) == (clock : Int)) = none := by
          rw [Array.findIdx?_eq_none_iff]
          intro e he
          have := s1 e (by simpa using he)
          simp
          omega
        rw [this]
        simp
      have hmod : (es.push ⟨.int .i64 x, .slice none 0 0, clock⟩).modify es.size (fun e => { e with val := v }) = es.push ⟨.int .i64 x, v, clock⟩ := by
        refine Array.ext (by simp) fun i hi1 hi2 => ?_
        rw [Array.getElem_modify]
        by_cases hi : es.size = i
        · subst hi; simp
        · have : i < es.size := by simp at hi2; omega
          simp [hi, Array.getElem_push, this]
      simp [Instr.entryStore, MapKept.run_getObj_map hY, asInt, asIntOf, hidx, hmod, MapKept.run_setObj_map _ hY, Result.andThen, pushM, setBlock]
    · have hup : (Instr.mapUpdate 67 (.map (some b)) (.int .i64 x) v).run Try.prog W = .ok () (pushM W b es clock x v) := by
        simp [Instr.mapUpdate, run_underlying ht, MapKept.run_getObj_map hb, lawInt.check W false hx.key, h1, MapKept.run_setObj_map _ hb, Result.andThen, pushM, setBlock]
      rw [hup] at hp
      have : pushM W b es clock x v = W' := by simpa using hp
      rw [this]
      exact hI
  · exfalso
    rw [hf] at hlk
    simp [Instr.lookup, run_underlying ht, MapKept.run_getObj_map hb, lawInt.check W _ hx.key, h1, Result.andThen] at hlk

theorem pushM_other {W : World} {b : Nat} {es0 : Array MapEntry} {k0 : Nat} (hb : W.heap[b]? = some (.map es0 k0)) (es : Array MapEntry) (clock : Nat) (x : Int) (v : Value) {i : Nat} (h : i ≠ b) : (pushM W b es clock x v).heap[i]? = W.heap[i]? := heap_setBlock_other hb _ h
theorem pushM_same {W : World} {b : Nat} {es0 : Array MapEntry} {k0 : Nat} (hb : W.heap[b]? = some (.map es0 k0)) (es : Array MapEntry) (clock : Nat) (x : Int) (v : Value) : (pushM W b es clock x v).heap[b]? = some (.map (es.push ⟨.int .i64 x, v, clock⟩) (clock + 1)) := heap_setBlock_same hb _
theorem pushM_size (W : World) (b : Nat) (es : Array MapEntry) (clock : Nat) (x : Int) (v : Value) : (pushM W b es clock x v).heap.size = W.heap.size := by simp [pushM, setBlock]
theorem pushM_below {W w0 : World} {B b : Nat} {es0 : Array MapEntry} {k0 : Nat} (hb : W.heap[b]? = some (.map es0 k0)) (es : Array MapEntry) (clock : Nat) (x : Int) (v : Value) (h : Below B w0 W) (hB : B ≤ b) : Below B w0 (pushM W b es clock x v) :=
  ⟨h.os, h.tape, h.output, by rw [pushM_size]; exact h.size, fun i hi => (pushM_other hb es clock x v (by omega)).trans (h.block i hi)⟩
theorem cell_ne_map {W : World} {b o c : Nat} {v : Value} {es : Array MapEntry} {k : Nat} (h : W.cell? ⟨c, o, none⟩ = some v) (hb : W.heap[b]? = some (.map es k)) : c ≠ b := by
  rintro rfl
  unfold World.cell? at h
  simp [hb] at h
/-- Two keys that are not there are laid, one in each of two maps. -/
theorem lay_two {W : World} {ba bb na nb : Nat} {fa fb : MF} (hA : IsMv W ba na fa) (hB : IsMv W bb nb fb) (hne : ba ≠ bb) (hna : na ≤ 1000000) (hnb : nb ≤ 1000000) {x y : Int} (hx : In64 x) (hy : In64 y) (hfa : fa x = none) (hfb : fb y = none) (u v : Value) :
    ∃ (k1 k2 : Nat) (Y1 Y2 Y3 Y4 : World), (Instr.mapEntry 67 (.map (some ba)) (.int .i64 x)).run Try.prog W = .ok (.tuple #[.slice none 0 0, .int .i64 (k1 : Int)]) Y1 ∧
      (Instr.entryStore 67 (.map (some ba)) (.int .i64 (k1 : Int)) u).run Try.prog Y1 = .ok () Y2 ∧
      (Instr.mapEntry 67 (.map (some bb)) (.int .i64 y)).run Try.prog Y2 = .ok (.tuple #[.slice none 0 0, .int .i64 (k2 : Int)]) Y3 ∧
      (Instr.entryStore 67 (.map (some bb)) (.int .i64 (k2 : Int)) v).run Try.prog Y3 = .ok () Y4 ∧
      (IsMv Y4 ba (na + 1) (updF fa x u) ∧ IsMv Y4 bb (nb + 1) (updF fb y v)) ∧
      (∀ b, b ≠ ba → b ≠ bb → Y1.heap[b]? = W.heap[b]? ∧ Y2.heap[b]? = W.heap[b]? ∧ Y3.heap[b]? = W.heap[b]? ∧ Y4.heap[b]? = W.heap[b]?) ∧ Y4.heap.size = W.heap.size ∧ (∀ B w0, Below B w0 W → B ≤ ba → B ≤ bb → Below B w0 Y4) := by
  obtain ⟨e1, k1, hb1, r1, r2, i1⟩ := hA.entry hna hx hfa u
  have m1 := pushM_same hb1 e1 k1 x (.slice none 0 0)
  have m2 := pushM_same m1 e1 k1 x u
  have o1 : ∀ b, b ≠ ba → (pushM W ba e1 k1 x (.slice none 0 0)).heap[b]? = W.heap[b]? := fun b h => pushM_other hb1 _ _ _ _ h
  have o2 : ∀ b, b ≠ ba → (pushM (pushM W ba e1 k1 x (.slice none 0 0)) ba e1 k1 x u).heap[b]? = W.heap[b]? := fun b h => (pushM_other m1 _ _ _ _ h).trans (o1 b h)
  have hB2 : IsMv (pushM (pushM W ba e1 k1 x (.slice none 0 0)) ba e1 k1 x u) bb nb fb := hB.keep (o2 bb (Ne.symm hne))
  obtain ⟨e2, k2, hb2, r3, r4, i2⟩ := hB2.entry hnb hy hfb v
  have m3 := pushM_same hb2 e2 k2 y (.slice none 0 0)
  have o3 : ∀ b, b ≠ bb → (pushM (pushM (pushM W ba e1 k1 x (.slice none 0 0)) ba e1 k1 x u) bb e2 k2 y (.slice none 0 0)).heap[b]? = (pushM (pushM W ba e1 k1 x (.slice none 0 0)) ba e1 k1 x u).heap[b]? := fun b h => pushM_other hb2 _ _ _ _ h
  have o4 : ∀ b, b ≠ bb → (pushM (pushM (pushM (pushM W ba e1 k1 x (.slice none 0 0)) ba e1 k1 x u) bb e2 k2 y (.slice none 0 0)) bb e2 k2 y v).heap[b]? = (pushM (pushM W ba e1 k1 x (.slice none 0 0)) ba e1 k1 x u).heap[b]? := fun b h => (pushM_other m3 _ _ _ _ h).trans (o3 b h)
  refine ⟨k1, k2, _, _, _, _, r1, r2 _ m1, r3, r4 _ m3, ⟨?_, ?_⟩, fun b h1 h2 => ⟨o1 b h1, o2 b h1, (o3 b h2).trans (o2 b h1), (o4 b h2).trans (o2 b h1)⟩, by rw [pushM_size, pushM_size, pushM_size, pushM_size], fun B w0 h hb1' hb2' => pushM_below m3 _ _ _ _ (pushM_below hb2 _ _ _ _ (pushM_below m1 _ _ _ _ (pushM_below hb1 _ _ _ _ h hb1') hb1') hb2') hb2'⟩
  · refine i1.keep ((o4 ba hne).trans ?_)
    rw [m2, pushM_same hb1 e1 k1 x u]
  · refine i2.keep ?_
    rw [pushM_same m3 e2 k2 y v, pushM_same hb2 e2 k2 y v]

theorem owns_same {W W' : World} {B B' n size : Nat} {e : TypeId} {v : Value} {xs : List Value} (h : W.ownsRow B e size v n xs) (hb : B' ≤ B) (hk : ∀ b, B ≤ b → W'.heap[b]? = W.heap[b]?) : W'.ownsRow B' e size v n xs := by
  obtain ⟨h1, h2⟩ := h
  refine ⟨h1, ?_⟩
  rcases h2 with h2 | ⟨g, cap, cur, hv, hg, hh, r⟩
  · exact .inl h2
  · exact .inr ⟨g, cap, cur, hv, by omega, (hk g hg).trans hh, r⟩
theorem MatO.move {B B' ob : Nat} {own : Nat → Nat} {Ls : List (List Int)} {vals : List Value} {W W' : World} (h : MatO B own ob Ls vals W) (hb : B' ≤ B) (ho : B ≤ ob) (hk : ∀ b, B ≤ b → W'.heap[b]? = W.heap[b]?) : MatO B' own ob Ls vals W' :=
  ⟨h.row.keep (hk ob ho), h.len, fun j hj => owns_same (h.el j hj) hb hk, h.ap⟩

set_option maxRecDepth 100000 in
set_option maxHeartbeats 8000000 in
theorem join_new {p : Nat → Prop} (W : World) {sb mb mc n ba bb na nb aN bN mn mcap cm : Nat} {ma : Option Addr} {fa fb : MF} {M : List (List Int)} (hp : ∀ b, p b → b < W.heap.size)
    (q1 : W.cell? ⟨sb, 1, none⟩ = some (.slice (some ⟨mb, 0, none⟩) n mc)) (c1 : W.cell? ⟨mb, aN, none⟩ = some (.map (some ba))) (c2 : W.cell? ⟨mb, bN, none⟩ = some (.map (some bb))) (ha : aN < n) (hb : bN < n) (hn : n ≤ 300)
    (hA : IsMv W ba na fa) (hBm : IsMv W bb nb fb) (hne : ba ≠ bb) (hna : na ≤ 1000000) (hnb : nb ≤ 1000000) (hfa : fa bN = none) (hfb : fb aN = none)
    (hM : IsRows p W (.slice ma mn mcap) M) (hE : OkM M mn cm) (h0 : 0 < mn) (hmn : mn ≤ 300) (hcm : cm ≤ 300) :
    Calls Try.prog 35 #[.pointer (some ⟨sb, 0, none⟩), .int .i64 (aN : Int), .int .i64 (bN : Int), .slice ma mn mcap] W fun e w' => e = .returned (.tuple #[]) ∧ ∃ ob own vals, W.heap.size ≤ ob ∧ MatO W.heap.size own ob (turnS M cm) vals w' ∧
      IsMv w' ba (na + 1) (updF fa bN (.slice ma mn mcap)) ∧ IsMv w' bb (nb + 1) (updF fb aN (.slice (some ⟨ob, 0, none⟩) cm cm)) ∧ (∀ b, b < W.heap.size → b ≠ ba → b ≠ bb → w'.heap[b]? = W.heap[b]?) ∧ W.heap.size ≤ w'.heap.size ∧ (∀ B w0, Below B w0 W → B ≤ ba → B ≤ bb → Below B w0 w') := by
  obtain ⟨ea0, ka0, hba⟩ := hA.isMap
  obtain ⟨eb0, kb0, hbb⟩ := hBm.isMap
  have n1 := cell_ne_map q1 hba
  have n2 := cell_ne_map q1 hbb
  have n3 := cell_ne_map c1 hba
  have n4 := cell_ne_map c1 hbb
  have l1 := lt_of_cell q1
  have l2 := lt_of_cell c1
  dsimp only at l1 l2
  have la := hA.lt
  have lb := hBm.lt
  have xb : In64 (bN : Int) := In64.of (by omega) (by omega)
  have xa : In64 (aN : Int) := In64.of (by omega) (by omega)
  have hlk := hA.lookok xb
  rw [hfa] at hlk
  have hTu : ∀ Y, BkS W Y → Calls Try.prog 40 #[.slice ma mn mcap] Y fun e Y' => ∃ ob own vals, e = .returned (.slice (some ⟨ob, 0, none⟩) cm cm) ∧ W.heap.size ≤ ob ∧ (∃ B, W.heap.size ≤ B ∧ B ≤ ob ∧ MatO B own ob (turnS M cm) vals Y') ∧ BkS W Y' := fun Y hY =>
    (turned_c (p := p) Y (hM.keep (fun b hb hlt => ⟨hb, hY.block b hlt⟩)) (fun b hb => by have := hp b hb; have := hY.size; omega) h0 hE.cols (by omega) hcm).mono (by
      rintro e Y' ⟨ob, own, vals, rfl, hob, hMO, hb⟩
      have := hY.size
      exact ⟨ob, own, vals, rfl, by omega, ⟨_, this, hob, hMO⟩, bel_call hY hb⟩)
  have hTwo : ∀ Y ob, BkS W Y → ∃ (k1 k2 : Nat) (Y1 Y2 Y3 Y4 : World), _ := fun Y ob hY => lay_two (W := Y) (hA.keep (hY.block ba la)) (hBm.keep (hY.block bb lb)) hne hna hnb xb xa hfa hfb (.slice ma mn mcap) (.slice (some ⟨ob, 0, none⟩) cm cm)
  have hE0 : BkS W W := bel_refl W
  have hE1 : BkS W W.drew := bk_drew hE0
  have hKS : ∀ Y : World, (Y.heap[sb]? = W.heap[sb]? ∧ Y.heap[mb]? = W.heap[mb]?) → Y.cell? ⟨sb, 1, none⟩ = some (.slice (some ⟨mb, 0, none⟩) n mc) ∧ Y.cell? ⟨mb, aN, none⟩ = some (.map (some ba)) ∧ Y.cell? ⟨mb, bN, none⟩ = some (.map (some bb)) := fun Y hY =>
    ⟨(World.cell?_of_block (a := ⟨sb, 1, none⟩) hY.1).trans q1, (World.cell?_of_block (a := ⟨mb, aN, none⟩) hY.2).trans c1, (World.cell?_of_block (a := ⟨mb, bN, none⟩) hY.2).trans c2⟩
  have haz : (aN : Int) < (n : Int) := by omega
  have hbz : (bN : Int) < (n : Int) := by omega
  have HTW := hid_of hTwo
  clear hTwo hba hbb hM
  go_enter Try.func35, Try.ntmps35
  go_wp2_with fail
  go_region_held3 (fun Y => Y.cell? ⟨sb, 1, none⟩ = some (.slice (some ⟨mb, 0, none⟩) n mc) ∧ Y.cell? ⟨mb, aN, none⟩ = some (.map (some ba)) ∧ Y.cell? ⟨mb, bN, none⟩ = some (.map (some bb)))
    ((first | (with_reducible assumption) | exact hKS _ ⟨rfl, rfl⟩ | (refine hKS _ ⟨?_, ?_⟩ <;> (with_reducible assumption))))
    (first
    | (go_at_call 40; refine (hTu _ ?_).mono ?_; (first | with_reducible assumption | exact hE0 | exact hE1); rintro e1 Yt ⟨ob, own, vals, rfl, hob, hMO, hYb⟩; have s0 := hKS Yt ⟨hYb.block sb l1, hYb.block mb l2⟩; obtain ⟨k1, k2, Y1, Y2, Y3, Y4, m1, m2, m3, m4, hIM, hoth, hsz, hbw⟩ := HTW.out Yt ob hYb; have s1 := hKS Y1 ⟨(hoth sb n1 n2).1.trans (hYb.block sb l1), (hoth mb n3 n4).1.trans (hYb.block mb l2)⟩; have s2 := hKS Y2 ⟨(hoth sb n1 n2).2.1.trans (hYb.block sb l1), (hoth mb n3 n4).2.1.trans (hYb.block mb l2)⟩; have s3 := hKS Y3 ⟨(hoth sb n1 n2).2.2.1.trans (hYb.block sb l1), (hoth mb n3 n4).2.2.1.trans (hYb.block mb l2)⟩; have s4 := hKS Y4 ⟨(hoth sb n1 n2).2.2.2.trans (hYb.block sb l1), (hoth mb n3 n4).2.2.2.trans (hYb.block mb l2)⟩))
  all_goals (try go_wp2_with fail)
  all_goals go_end0
  all_goals obtain ⟨B, hB1, hB2, hMB⟩ := hMO
  all_goals exact ⟨rfl, ob, own, vals, hob, hMB.move hB1 hB2 (fun b hb => (hoth b (by omega) (by omega)).2.2.2), hIM.1, hIM.2, fun b h1 h2 h3 => (hoth b h2 h3).2.2.2.trans (hYb.block b h1), by have := Below.size hYb; omega, fun B0 w0 h1 h2 h3 => hbw B0 w0 (h1.trans (Below.mono hYb (by omega))) h2 h3⟩
end Go.Proofs.Ytdomnbgjafdnjaa
