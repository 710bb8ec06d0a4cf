/- 'join' where there is an edge already: the pair's costs are added. -/
import Derived.Test.YtdomnbgjafdnjaaPgX
namespace Go.Proofs.Ytdomnbgjafdnjaa
open Go.RowKit Go.Maps Go.ChangeMaps

theorem turned_other {W W' : World} {b i : Nat} (h : W.mapTurned W' b) (hi : i ≠ b) : W'.heap[i]? = W.heap[i]? := by
  obtain ⟨es, c, es', c', hb, rfl⟩ := h
  exact heap_setBlock_other hb _ hi

set_option maxRecDepth 100000 in
set_option maxHeartbeats 8000000 in
theorem join_old {p q : Nat → Prop} (W : World) {sb mb mc n ba bb na nb aN bN mn mcap oc ob cm : Nat} {ma : Option Addr} {rb rc : Nat → Nat} {fa fb : MF} {M O : List (List Int)} (hp : ∀ b, p b → b < W.heap.size ∧ b ≠ sb ∧ b ≠ mb ∧ b ≠ ba ∧ b ≠ bb)
    (q1 : W.cell? ⟨sb, 1, none⟩ = some (.slice (some ⟨mb, 0, none⟩) n mc)) (c1 : W.cell? ⟨mb, aN, none⟩ = some (.map (some ba))) (c2 : W.cell? ⟨mb, bN, none⟩ = some (.map (some bb))) (ha : aN < n) (hb : bN < n) (hn : n ≤ 300)
    (hA : IsMv W ba na fa) (hBm : IsMv W bb nb fb) (hnb : nb ≤ 1000000) (hfa : fa bN = some (.slice (some ⟨ob, 0, none⟩) mn oc))
    (hO : MxAt p W ob mn oc rb rc O) (hM : IsRows q W (.slice ma mn mcap) M) (hpq : ∀ b, q b → ¬ p b) (hE : OkM O mn cm) (hF : OkM M mn cm) (hcm : cm ≤ 300) :
    Calls Try.prog 35 #[.pointer (some ⟨sb, 0, none⟩), .int .i64 (aN : Int), .int .i64 (bN : Int), .slice ma mn mcap] W fun e w' => e = .returned (.tuple #[]) ∧ ∃ ob' own vals, W.heap.size ≤ ob' ∧ MatO W.heap.size own ob' (turnS (addMS O M mn) cm) vals w' ∧
      IsMv w' bb (nb + 1) (updF fb aN (.slice (some ⟨ob', 0, none⟩) cm cm)) ∧ MxAt p w' ob mn oc rb rc (addMS O M mn) ∧ (∀ b, b < W.heap.size → b ≠ bb → ¬ p b → w'.heap[b]? = W.heap[b]?) ∧ W.heap.size ≤ w'.heap.size ∧ (∀ B w0, Below B w0 W → B ≤ bb → (∀ b, p b → B ≤ b) → Below B w0 w') := by
  obtain ⟨eb0, kb0, hbb⟩ := hBm.isMap
  have n2 := cell_ne_map q1 hbb
  have n4 := cell_ne_map c1 hbb
  have l1 := lt_of_cell q1
  have l2 := lt_of_cell c1
  dsimp only at l1 l2 n2 n4
  have lb := hBm.lt
  have xb : In64 (bN : Int) := In64.of (by omega) (by omega)
  have xa : In64 (aN : Int) := In64.of (by omega) (by omega)
  have hlk := hA.lookok xb
  rw [hfa] at hlk
  have haz : (aN : Int) < (n : Int) := by omega
  have hbz : (bN : Int) < (n : Int) := by omega
  have HAD : Hid (∀ d, Calls Try.prog 48 #[.slice (some ⟨ob, 0, none⟩) mn oc, .slice ma mn mcap] (W.drewN d) fun e w' => e = .returned (.tuple #[]) ∧ MxAt p w' ob mn oc rb rc (addMS O M mn) ∧ OnlyP p (W.drewN d) w') := fun d =>
    addM_c (W := W.drewN d) (hO.keep (fun b hb _ => ⟨hb, rfl⟩)) (hM.keep (fun b hb _ => ⟨hb, rfl⟩)) hpq hE hF
  have HAF : Hid (∀ d X, OnlyP p (W.drewN d) X → MxAt p X ob mn oc rb rc (addMS O M mn) → X.cell? ⟨sb, 1, none⟩ = some (.slice (some ⟨mb, 0, none⟩) n mc) ∧ X.cell? ⟨mb, bN, none⟩ = some (.map (some bb)) ∧ IsMv X bb nb fb ∧ X.heap.size = W.heap.size ∧ (∀ b, ¬ p b → X.heap[b]? = W.heap[b]?) ∧ (∀ B w0, Below B w0 W → (∀ b, p b → B ≤ b) → Below B w0 X)) := fun d X h1 h2 => by
    have hk : ∀ b, ¬ p b → X.heap[b]? = W.heap[b]? := fun b hb => h1.kq b hb
    exact ⟨(World.cell?_of_block (a := ⟨sb, 1, none⟩) (hk sb (fun h => (hp _ h).2.1 rfl))).trans q1, (World.cell?_of_block (a := ⟨mb, bN, none⟩) (hk mb (fun h => (hp _ h).2.2.1 rfl))).trans c2, hBm.keep (hk bb (fun h => (hp _ h).2.2.2.2 rfl)), h1.sz.symm, hk, fun B w0 h3 h4 => h1.bel B w0 (by exact ⟨h3.os, h3.tape, h3.output, h3.size, h3.block⟩) h4⟩
  have HP : Hid (∀ b, p b → b < W.heap.size ∧ b ≠ bb) := fun b hb => ⟨(hp b hb).1, (hp b hb).2.2.2.2⟩
  have HEF := hid_of (And.intro hE hF)
  have hmn : mn ≤ 300 ∧ 0 < mn := ⟨hO.nb, hO.pos⟩
  clear hO hM hpq hp hE hF hBm hbb hA hfa
  go_enter Try.func35, Try.ntmps35
  go_wp2_with fail
  refine (HAD.out 0).mono ?_
  rintro e0 X ⟨rfl, hMx, hOn⟩
  obtain ⟨q1', c2', hBX, hsz, hkX, hbX⟩ := HAF.out 0 X hOn hMx
  have hTu : ∀ Y, BkS X Y → Calls Try.prog 40 #[.slice (some ⟨ob, 0, none⟩) mn oc] Y fun e Y' => ∃ ob own vals, e = .returned (.slice (some ⟨ob, 0, none⟩) cm cm) ∧ X.heap.size ≤ ob ∧ (∃ B, X.heap.size ≤ B ∧ B ≤ ob ∧ MatO B own ob (turnS (addMS O M mn) cm) vals Y') ∧ BkS X Y' := fun Y hY =>
    (turned_c (p := p) Y (hMx.rows.keep (fun b hb hlt => ⟨hb, hY.block b hlt⟩)) (fun b hb => by have := (HP.out b hb).1; have := hY.size; omega) hmn.2 (HEF.out.1.addM HEF.out.2 mn).cols (by omega) hcm).mono (by
      rintro e Y' ⟨ob, own, vals, rfl, hob, hMO, hb⟩
      have := hY.size
      exact ⟨ob, own, vals, rfl, by omega, ⟨_, this, hob, hMO⟩, bel_call hY hb⟩)
  have hlX := hBX.lt
  have hPut : ∀ Y ob', BkS X Y → ∃ Y4, (Instr.mapUpdate 67 (.map (some bb)) (.int .i64 (aN : Int)) (.slice (some ⟨ob', 0, none⟩) cm cm)).run Try.prog Y = .ok () Y4 ∧ IsMv Y4 bb (nb + 1) (updF fb aN (.slice (some ⟨ob', 0, none⟩) cm cm)) ∧ Y.mapTurned Y4 bb := fun Y ob' hY => (hBX.keep (hY.block bb hlX)).put hnb xa _
  have hE0 : BkS X X := bel_refl X
  have hE1 : BkS X X.drew := bk_drew hE0
  have l1' := lt_of_cell q1'
  have l2' := lt_of_cell c2'
  dsimp only at l1' l2'
  have hKS : ∀ Y : World, (Y.heap[sb]? = X.heap[sb]? ∧ Y.heap[mb]? = X.heap[mb]?) → Y.cell? ⟨sb, 1, none⟩ = some (.slice (some ⟨mb, 0, none⟩) n mc) ∧ Y.cell? ⟨mb, bN, none⟩ = some (.map (some bb)) := fun Y hY =>
    ⟨(World.cell?_of_block (a := ⟨sb, 1, none⟩) hY.1).trans q1', (World.cell?_of_block (a := ⟨mb, bN, none⟩) hY.2).trans c2'⟩
  have HMX := hid_of (And.intro hMx (And.intro hsz (And.intro hkX hbX)))
  have HPT := hid_of hPut
  clear hMx hOn hsz hkX hbX HAD HAF q1 c1 c2 hlk hPut HEF hBX
  go_wp2_with fail
  go_region_held3 (fun Y => Y.cell? ⟨sb, 1, none⟩ = some (.slice (some ⟨mb, 0, none⟩) n mc) ∧ Y.cell? ⟨mb, bN, none⟩ = some (.map (some bb)))
    ((first | (with_reducible assumption) | exact hKS _ ⟨rfl, rfl⟩ | (refine hKS _ ⟨?_, ?_⟩ <;> (with_reducible assumption))))
    (first
    | (go_at_call 40; refine (hTu _ ?_).mono ?_; (first | with_reducible assumption | exact hE0 | exact hE1); rintro e1 Yt ⟨ob', own, vals, rfl, hob, hMO, hYb⟩; have s0 := hKS Yt ⟨hYb.block sb l1', hYb.block mb l2'⟩; obtain ⟨Y4, m1, hIM, hmt⟩ := HPT.out Yt ob' hYb; have hgr := hmt.grown; have hsY := Below.size hYb; have s4 := hKS Y4 ⟨(hgr.block sb (by omega) (fun e => n2 (by simpa using e))).trans (hYb.block sb l1'), (hgr.block mb (by omega) (fun e => n4 (by simpa using e))).trans (hYb.block mb l2')⟩))
  all_goals (try go_wp2_with fail)
  all_goals (try simp only [Exit.inBlock, Exit.then])
  all_goals refine bodyPost_ret (results_none rfl _ _ _) rfl ?_
  all_goals obtain ⟨B, hB1, hB2, hMB⟩ := hMO
  all_goals obtain ⟨hMx, hsz, hkX, hbX⟩ := HMX.out
  all_goals have hy4 : ∀ b, b ≠ bb → Y4.heap[b]? = Yt.heap[b]? := fun b h2 => turned_other hmt h2
  all_goals have hsG := hgr.size
  all_goals refine ⟨rfl, ob', own, vals, by omega, ?_, hIM, hMx.keep (fun b hb hlt => ⟨hb, (hy4 b (HP.out b hb).2).trans (hYb.block b hlt)⟩), fun b h1 h2 h3 => ((hy4 b h2).trans (hYb.block b (by omega))).trans (hkX b h3), by omega, fun B0 w0 h1 h2 h3 => ((hbX B0 w0 h1 h3).trans (Below.mono hYb (by omega))).grown hgr (by have := hYb.size; omega) (fun b hb => by cases hb; exact h2)⟩
  all_goals exact hMB.move (by omega) hB2 (fun b hb => hy4 b (by omega))
end Go.Proofs.Ytdomnbgjafdnjaa
