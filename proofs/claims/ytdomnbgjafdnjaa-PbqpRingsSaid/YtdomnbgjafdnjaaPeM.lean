/- pbqp.Easy: it tells whether all nodes can be taken away. -/
import Derived.Test.YtdomnbgjafdnjaaPeJ
namespace Go.Proofs.Ytdomnbgjafdnjaa
open Go.RowKit Go.Maps Go.ChangeMaps Go.WideElems

theorem infoMI : (Try.prog.info? 61).map (fun i => (i.zero, i.size, i.bytes)) = some (some (.map none), 1, 8) := by kernel_rfl
/-- 'make([]map[int]int, n)'. -/
theorem mk_mapsI {ops : Array Oper} {rest : List Oper} {o : Oper} {a : Act} {Q : Exit → Act → World → Prop} {W : World}
    (hgd : o.guard = none) (l c : Operand) (hop : o.op = Op.makeSlice 60 l c) (n : Nat) (hl : a.eval l = .int .i64 n) (hc : a.eval c = .int .i64 n) (hn : n ≤ 1000000)
    (h : wpList Try.prog ops Q rest (a.put o.dst (.slice (some ⟨W.heap.size, 0, none⟩) n n)) (W.alloc (.cells (List.replicate n (Value.map none)).toArray 61))) :
    wpList Try.prog ops Q (o :: rest) a W := by
  obtain ⟨i0, hi, hz0, hz1, hz2⟩ := info_parts infoMI
  exact wp_make1 W hgd l c 60 hop 61 i0 _ (.map none) 8 Try.underlying60 hi hz0 hz1 hz2 rfl n hl hc (by omega) (by omega) h

set_option maxRecDepth 100000 in
set_option maxHeartbeats 8000000 in
theorem easy_bad {p : Nat → Prop} (w : World) {na : Option Addr} {nl nc : Nat} {ea : Option Addr} {el ec : Nat} {N : List (List Int)} {Es : List EdgeD} (hp : ∀ b, p b → b < w.heap.size) (h : IsPq p w na nl nc ea el ec N Es) (hc : chkS N Es ≠ 0) :
    Calls Try.prog 19 #[costsV na nl nc ea el ec] w fun e w' => e = .returned (.bool false) ∧ Below w.heap.size w w' := by
  have hB0 := bel_alloc (bel_refl w) (.cells #[.slice na nl nc, .slice ea el ec] 25)
  have HCK := hid_of (check_c (p := p) (w.alloc (.cells #[.slice na nl nc, .slice ea el ec] 25)) (fun b hb => by have := hp b hb; simp; omega) (h.keep (fun b hb hlt => ⟨hb, hB0.block b (hp b hb)⟩)))
  obtain ⟨x, Hx⟩ : ∃ x, Hid (chkS N Es = x) := ⟨_, (rfl : chkS N Es = _)⟩
  rw [Hx.out] at HCK
  have hx : (x != 0) = true := by rw [Hx.out] at hc; simpa using hc
  have HB0 := hid_of hB0
  clear h hB0 hc
  go_enter Try.func19, Try.ntmps19
  go_wp2_with fail
  refine HCK.out.mono ?_
  rintro e W1 ⟨rfl, hb1⟩
  have HB1 := hid_of (bel_call HB0.out hb1)
  clear hb1 HCK
  go_wp2_with fail
  go_ret
  exact ⟨rfl, HB1.out⟩

/-- At the head of the outer loop. -/
def EmA (w : World) (n nb gb : Nat) (pb : Nat → Nat) (E0 : Nat → Nat → Bool) (gh lf : Nat) (ag : Bool) (W : World) : Prop :=
  ∃ E g Q, EzI n E0 E g ∧ RowsE n E g Q ∧ EzM w n nb pb Q g W ∧ Row W gb 4 (bools ((List.range n).map g)) ∧ cntE n g = lf ∧ (ag = true → lf < gh) ∧ (ag = false → ∀ v, v < n → g v = false → 2 < (nbE n E v).length)
/-- Behind v nodes. -/
def EmV (w : World) (n nb gb : Nat) (pb : Nat → Nat) (E0 : Nat → Nat → Bool) (c0 v lf : Nat) (ag : Bool) (W : World) : Prop :=
  ∃ E g Q, EzI n E0 E g ∧ RowsE n E g Q ∧ EzM w n nb pb Q g W ∧ Row W gb 4 (bools ((List.range n).map g)) ∧ cntE n g = lf ∧ (ag = true → lf < c0) ∧ lf ≤ c0 ∧ (ag = false → ∀ j, j < v → g j = false → 2 < (nbE n E j).length)
theorem cnt_all (n : Nat) : cntE n (fun _ => false) = n := by
  show ((List.range n).filter fun _ => true).length = n
  rw [List.filter_eq_self.2 (fun _ _ => rfl), List.length_range]
theorem bools_out {W : World} {gb n v : Nat} {g : Nat → Bool} (h : Row W gb 4 (bools ((List.range n).map g))) : Row (W.setCell ⟨gb, v, none⟩ (.bool true)) gb 4 (bools ((List.range n).map (outE g v))) := by
  have h1 := h.set v (.bool true)
  have e : (bools ((List.range n).map g)).set v (.bool true) = bools ((List.range n).map (outE g v)) := by
    rw [bools_set]
    congr 1
    refine List.ext_getElem (by simp) fun j h1 h2 => ?_
    rw [List.getElem_set]
    by_cases e : v = j
    · subst e; simp [outE]
    · have : ¬ j = v := fun h => e h.symm
      simp [e, this, outE]
  rw [e] at h1
  exact h1

set_option maxRecDepth 100000 in
set_option maxHeartbeats 16000000 in
theorem easy_c {p : Nat → Prop} (w : World) {na : Option Addr} {nl nc : Nat} {ea : Option Addr} {el ec : Nat} {N : List (List Int)} {Es : List EdgeD} (hp : ∀ b, p b → b < w.heap.size) (h : IsPq p w na nl nc ea el ec N Es) (hc : chkS N Es = 0) :
    Calls Try.prog 19 #[costsV na nl nc ea el ec] w fun e w' => ∃ b : Bool, e = .returned (.bool b) ∧ Hid (b = true ↔ RedP nl (edE Es) (fun _ => false)) ∧ Below w.heap.size w w' := by
  obtain ⟨hn3, hle, -, hEE⟩ := chk_ok hc
  have hNL := (sl_len h.nd).1
  have HEL := hid_of (sl_len h.ed).1
  have hel : el ≤ 2000 := by have := HEL.out; omega
  have hxn : nl ≤ 300 := by omega
  have hB0 := bel_alloc (bel_refl w) (.cells #[.slice na nl nc, .slice ea el ec] 25)
  have HCK := hid_of (check_c (p := p) (w.alloc (.cells #[.slice na nl nc, .slice ea el ec] 25)) (fun b hb => by have := hp b hb; simp; omega) (h.keep (fun b hb hlt => ⟨hb, hB0.block b (hp b hb)⟩)))
  rw [hc] at HCK
  have HB0 := hid_of hB0
  have HED : Hid (∀ X, Below w.heap.size w X → IsEdges p X (.slice ea el ec) Es) := fun X hX => h.ed.keep (fun b hb hlt => ⟨hb, hX.block b (hp b hb)⟩)
  have HEZ := hid_of (ez_init hc)
  have HEE : Hid (∀ e ∈ Es, (0 ≤ e.a ∧ e.a < nl) ∧ (0 ≤ e.b ∧ e.b < nl) ∧ e.a ≠ e.b) := fun e he => by
    obtain ⟨h1, h2, h3, -⟩ := edge_ok (hEE e he)
    rw [hNL]; exact ⟨h1, h2, h3⟩
  rw [← hNL] at HEZ
  clear h hB0 hc hn3 hle hEE hNL
  go_enter Try.func19, Try.ntmps19
  go_wp2_with fail
  refine HCK.out.mono ?_
  rintro e W1 ⟨rfl, hb1⟩
  have r1 : Row W1 w.heap.size 25 [.slice na nl nc, .slice ea el ec] := Row.keep (W := w.alloc (.cells #[.slice na nl nc, .slice ea el ec] 25)) (heap_alloc_eq _ _ _ rfl) (hb1.block _ (by simp))
  have HB1 := hid_of (bel_call HB0.out hb1)
  have HR1 := hid_of r1
  have a0 := r1.cell (k := 0) rfl
  have hw1 : w.heap.size < W1.heap.size := r1.lt
  clear HCK hb1 r1
  go_wp2_with (at_make; refine stop_here ?_)
  refine stop_go (mk_mapsI rfl _ _ rfl nl rfl rfl (by omega) ?_)
  obtain ⟨nb, Hnb⟩ : ∃ nb, Hid (W1.heap.size = nb) := ⟨_, (rfl : W1.heap.size = _)⟩
  have H0 : Hid (∃ pb, EzB W1 nl nb pb 0 (W1.alloc (.cells (List.replicate nl (Value.map none)).toArray 61))) := by
    refine ⟨fun _ => 0, ?_, fun j hj => by omega, fun i j hi => by omega, bel_alloc (bel_refl W1) _, by have := Hnb.out; omega, fun j hj => by omega⟩
    have e : ((List.range nl).map fun j => if j < 0 then Value.map (some ((fun _ => 0) j)) else Value.map none) = List.replicate nl (Value.map none) := by
      refine List.ext_getElem (by simp) fun i h1 h2 => by simp
    rw [e, ← Hnb.out]
    exact heap_alloc_eq _ _ _ rfl
  clear a0
  generalize W1.alloc (.cells (List.replicate nl (Value.map none)).toArray 61) = W2 at *
  rw [Hnb.out]
  have hmm := @run_makeMap Try.prog
  go_wp2_with fail
  go_loopw [23] (fun s23 wx => ∃ k : Nat, k ≤ nl ∧ s23 = .int .i64 k ∧ Hid (∃ pb, EzB W1 nl nb pb k wx)) (fun s23 _ => nl - (intOf s23).toNat)
  case atStart => exact ⟨0, by omega, rfl, H0⟩
  case round =>
    obtain ⟨k, hk, rfl, HK⟩ := hrel
    clear H0
    obtain ⟨pb, hB⟩ := HK.out
    by_cases hlt : k < nl
    · have c0 := hB.nr.cell (k := k) (v := .map none) (by simp [hlt])
      have f0 := hB.nr.frozen k
      have hnl := hB.nr.lt
      have c1 := (World.cell?_of_block (a := ⟨nb, k, none⟩) ((bel_alloc (bel_refl wr) (.map #[] 0)).block nb hnl)).trans c0
      have hkz : (k : Int) < (nl : Int) := by omega
      have hst := hB.step
      rw [World.setCell_alloc_past (.map #[] 0) nb k (.map (some wr.heap.size)) hnl] at hst
      have HN : Hid (∃ pb, EzB W1 nl nb pb (k + 1) ((wr.setCell ⟨nb, k, none⟩ (.map (some wr.heap.size))).alloc (.map #[] 0))) := ⟨_, hst⟩
      clear hB HK hst
      go_wp2_with fail
      go_roundw
      case rel => exact ⟨k + 1, by omega, by go_num, HN⟩
      case measure => simp [intOf]; omega
    · obtain rfl : k = nl := by omega
      have HM0 := hid_of (hB.done)
      clear hB HK hmm hlt
      have a1 := (HR1.out.keep (HM0.out.bel.block _ hw1)).cell (k := 1) rfl
      have HM1 : Hid (EzM W1 k nb pb (edE (Es.take 0)) (fun _ => false) wr) := HM0.out.congr (fun i _ m _ => by simp [edE])
      clear HM0
      go_wp2_with fail
      clear a1
      go_loopw [34] (fun s34 wx => ∃ i : Nat, i ≤ el ∧ s34 = .int .i64 i ∧ Hid (EzM W1 k nb pb (edE (Es.take i)) (fun _ => false) wx)) (fun s34 _ => el - (intOf s34).toNat)
      case atStart => exact ⟨0, by omega, rfl, HM1⟩
      case round =>
        obtain ⟨i, hi, rfl, HI⟩ := hrel
        clear HM1
        by_cases hit : i < el
        · have hkE : i < Es.length := by have := HEL.out; omega
          have hbw := bel_call HB1.out HI.out.bel
          obtain ⟨eb, eo, rfl, hpb, hcc⟩ := sl_at (HED.out wr hbw) (by omega)
          have hci := hcc i hkE
          obtain ⟨⟨i1, i2⟩, ⟨i3, i4⟩, hab⟩ := HEE.out _ (List.getElem_mem hkE)
          obtain ⟨c0, c1, v2, c2, hMM⟩ := hci
          obtain ⟨ma, mc, rfl, -, -⟩ := id hMM
          obtain ⟨ml, Hml⟩ : ∃ ml, Hid (Es[i].cost.length = ml) := ⟨_, (rfl : Es[i].cost.length = _)⟩
          rw [Hml.out] at c2
          clear hMM
          obtain ⟨x, Hx⟩ : ∃ x : Nat, Hid (Es[i].a = x) := ⟨Es[i].a.toNat, by show _ = _; omega⟩
          obtain ⟨y, Hy⟩ : ∃ y : Nat, Hid (Es[i].b = y) := ⟨Es[i].b.toNat, by show _ = _; omega⟩
          rw [Hx.out] at c0 i1 i2 hab
          rw [Hy.out] at c1 i3 i4 hab
          have hxl : x < k := by omega
          have hyl : y < k := by omega
          have hxy : x ≠ y := by omega
          have HEP := hid_of (fun q m => edE_upd (Es := Es) hkE (a := x) (b := y) (by rw [Hx.out]; simp) (by rw [Hy.out]; simp) hxy q m)
          have hkz : (i : Int) < (el : Int) := by omega
          have hxz : (x : Int) < (k : Int) := by omega
          have hyz : (y : Int) < (k : Int) := by omega
          have hal := bel_alloc (bel_refl wr) (.cells #[.int .i64 (x : Int), .int .i64 (y : Int), .slice ma ml mc] 32)
          have hM := HI.out.below hal
          have hrb : Row (wr.alloc (.cells #[.int .i64 (x : Int), .int .i64 (y : Int), .slice ma ml mc] 32)) wr.heap.size 32 [.int .i64 (x : Int), .int .i64 (y : Int), .slice ma ml mc] := heap_alloc_eq _ _ _ rfl
          have HXY := hid_of hxy
          clear hcc hpb hbw hab i1 i2 i3 i4 HI hal
          go_upto_region 12 with fail
          clear c0 c1 c2
          refine wp_at (fun Z => EzM W1 k nb pb (edE (Es.take i)) (fun _ => false) Z ∧ Row Z wr.heap.size 32 [.int .i64 (x : Int), .int .i64 (y : Int), .slice ma ml mc]) ⟨hM, hrb⟩ ?_
          clear hM hrb
          rintro Z ⟨hM, hrb⟩
          have b0 := hrb.cell (k := 0) rfl
          have b1 := hrb.cell (k := 1) rfl
          have n0 := hM.cell hxl
          have n1 := hM.cell hyl
          obtain ⟨pa, Hpa⟩ : ∃ v, Hid (pb x = v) := ⟨_, (rfl : pb x = _)⟩
          obtain ⟨pc, Hpc⟩ : ∃ v, Hid (pb y = v) := ⟨_, (rfl : pb y = _)⟩
          obtain ⟨_, f1, -⟩ := hM.mp x hxl rfl
          obtain ⟨_, f2, -⟩ := hM.mp y hyl rfl
          obtain ⟨_, _, m1⟩ := f1.isMap
          obtain ⟨_, _, m2⟩ := f2.isMap
          have e1 := cell_ne_map n0 m1
          have e2 := cell_ne_map n0 m2
          have e3 := cell_ne_map b0 m1
          have e4 := cell_ne_map b0 m2
          have hL2 := (show EzM W1 k nb pb (edE (Es.take i)) (fun _ => false) Z.drew from hM.below (bk_drew (bel_refl Z))).lay2 (by omega) hxl hyl HXY.out rfl rfl
          rw [Hpa.out] at n0 e1 e3 hL2
          rw [Hpc.out] at n1 e2 e4 hL2
          obtain ⟨vv1, vv2, k1, k2, Y1, Y2, Y3, Y4, r1, r2, r3, r4, hE4, ho, hs4⟩ := hL2
          have hKS : ∀ Y : World, (Y.heap[nb]? = Z.heap[nb]? ∧ Y.heap[wr.heap.size]? = Z.heap[wr.heap.size]?) → Y.cell? ⟨wr.heap.size, 0, none⟩ = some (.int .i64 (x : Int)) ∧ Y.cell? ⟨wr.heap.size, 1, none⟩ = some (.int .i64 (y : Int)) ∧ Y.cell? ⟨nb, x, none⟩ = some (.map (some pa)) ∧ Y.cell? ⟨nb, y, none⟩ = some (.map (some pc)) := fun Y hY =>
            ⟨(World.cell?_of_block (a := ⟨wr.heap.size, 0, none⟩) hY.2).trans b0, (World.cell?_of_block (a := ⟨wr.heap.size, 1, none⟩) hY.2).trans b1, (World.cell?_of_block (a := ⟨nb, x, none⟩) hY.1).trans n0, (World.cell?_of_block (a := ⟨nb, y, none⟩) hY.1).trans n1⟩
          have s0 := hKS Z.drew ⟨rfl, rfl⟩
          have s1 := hKS Y1 ⟨(ho nb e1 e2).1, (ho _ e3 e4).1⟩
          have s2 := hKS Y2 ⟨(ho nb e1 e2).2.1, (ho _ e3 e4).2.1⟩
          have s3 := hKS Y3 ⟨(ho nb e1 e2).2.2.1, (ho _ e3 e4).2.2.1⟩
          have s4 := hKS Y4 ⟨(ho nb e1 e2).2.2.2, (ho _ e3 e4).2.2.2⟩
          have HE4 : Hid (EzM W1 k nb pb (edE (Es.take (i + 1))) (fun _ => false) Y4) := hE4.congr (fun q _ m _ => HEP.out q m)
          clear hM hrb f1 f2 m1 m2 e1 e2 e3 e4 hE4 ho hs4 b0 b1 n0 n1
          go_region_held3 (fun Y => Y.cell? ⟨wr.heap.size, 0, none⟩ = some (.int .i64 (x : Int)) ∧ Y.cell? ⟨wr.heap.size, 1, none⟩ = some (.int .i64 (y : Int)) ∧ Y.cell? ⟨nb, x, none⟩ = some (.map (some pa)) ∧ Y.cell? ⟨nb, y, none⟩ = some (.map (some pc)))
            ((first | (with_reducible assumption) | exact s0 | exact s1 | exact s2 | exact s3 | exact s4 | exact hKS _ ⟨rfl, rfl⟩)) (fail)
          all_goals clear s0 s1 s2 s3 s4 r1 r2 r3 r4 hKS
          all_goals (try go_wp2_with fail)
          all_goals go_roundw
          all_goals first | exact ⟨i + 1, by omega, by go_num, HE4⟩ | (simp [intOf]; omega)
        · obtain rfl : i = el := by omega
          have hM := HI.out
          rw [List.take_of_length_le (by rw [← HEL.out]; exact Nat.le_refl _)] at hM
          have HM := hid_of hM
          clear hM HI
          go_wp2_with (at_make; refine stop_here ?_)
          refine stop_go (mk_bools rfl _ _ rfl k rfl rfl (by omega) ?_)
          obtain ⟨gb, Hgb⟩ : ∃ gb, Hid (wr.heap.size = gb) := ⟨_, (rfl : wr.heap.size = _)⟩
          have H0 : Hid (EzM W1 k nb pb (edE Es) (fun _ => false) (wr.alloc (.cells (bools (List.replicate k false)).toArray 4)) ∧ Row (wr.alloc (.cells (bools (List.replicate k false)).toArray 4)) gb 4 (bools ((List.range k).map fun _ => false))) := by
            refine ⟨HM.out.below (bel_alloc (bel_refl wr) _), ?_⟩
            have e : (List.range k).map (fun _ => false) = List.replicate k false := by
              refine List.ext_getElem (by simp) fun i h1 h2 => by simp
            rw [e, ← Hgb.out]
            exact heap_alloc_eq _ _ _ rfl
          have HGN : Hid (gb ≠ nb ∧ W1.heap.size ≤ gb) := by have h1 := HM.out.nr.lt; have h2 := HM.out.bel.size; have h3 := Hgb.out; exact ⟨by omega, by omega⟩
          clear HM
          generalize wr.alloc (.cells (bools (List.replicate k false)).toArray 4) = W5 at *
          rw [Hgb.out]
          go_wp2_with fail
          go_loopg [8, 9] (k + 1) (fun gh s8 s9 wx => ∃ (ag : Bool) (lf : Nat), s8 = .int .i64 lf ∧ s9 = .bool ag ∧ Hid (EmA W1 k nb gb pb (edE Es) gh lf ag wx))
          case atStart => exact ⟨true, k, rfl, rfl, _, _, _, HEZ.out, fun _ _ _ _ _ => rfl, H0.out.1, H0.out.2, cnt_all k, fun _ => by omega, fun h => by cases h⟩
          case round =>
            obtain ⟨ag, lf, rfl, rfl, HA⟩ := hrel
            clear H0
            cases ag with
            | false =>
              obtain ⟨E, g, Q, hEz, -, hM, -, hcn, -, hst⟩ := HA.out
              have HST := hid_of (hEz.stuck (hst rfl))
              rw [← cnt_zero, hcn] at HST
              have HBE := hid_of (bel_call HB1.out hM.bel)
              clear hEz hst hM hcn HA
              by_cases hl0 : lf = 0
              · have hz : ((lf : Int) == 0) = true := by simp; omega
                have HL := hid_of hl0
                clear hl0
                go_wp2_with fail
                go_ret
                exact ⟨true, rfl, Iff.intro (fun _ => HST.out.2 HL.out) (fun _ => rfl), HBE.out⟩
              · have hz : ((lf : Int) == 0) = false := by simp; omega
                have HL := hid_of hl0
                clear hl0
                go_wp2_with fail
                go_ret
                exact ⟨false, rfl, Iff.intro (fun h => by cases h) (fun h => absurd (HST.out.1 h) HL.out), HBE.out⟩
            | true =>
              obtain ⟨E, g, Q, hEz, hRw, hM, hgr, hcn, hc0, -⟩ := HA.out
              have hc0 := hc0 rfl
              obtain ⟨c0, Hc0⟩ : ∃ c, Hid (lf = c) := ⟨_, (rfl : lf = _)⟩
              have hcg : c0 < gk := by rw [← Hc0.out]; exact hc0
              have HV0 : Hid (EmV W1 k nb gb pb (edE Es) c0 0 lf false wr) := ⟨E, g, Q, hEz, hRw, hM, hgr, hcn, (fun h => by cases h), Nat.le_of_eq Hc0.out, (fun _ j hj => by omega)⟩
              clear hEz hRw hM hgr hcn hc0 HA Hc0
              go_wp2_with fail
              go_loopw [8, 9, 65] (fun s8 s9 s65 wx => ∃ (v lf : Nat) (ag : Bool), v ≤ k ∧ s65 = .int .i64 v ∧ s8 = .int .i64 lf ∧ s9 = .bool ag ∧ Hid (EmV W1 k nb gb pb (edE Es) c0 v lf ag wx)) (fun _ _ s65 _ => k - (intOf s65).toNat)
              case atStart => exact ⟨0, lf, false, by omega, rfl, rfl, rfl, HV0⟩
              case round =>
                obtain ⟨v, l2, ag, hv, rfl, rfl, rfl, HV⟩ := hrel
                clear HV0
                by_cases hvt : v < k
                · obtain ⟨E, g, Q, hEz, hRw, hM, hgr, hcn, hc1, hc2, hst⟩ := HV.out
                  have gc := hgr.cell (k := v) (v := .bool (g v)) (by simp [hvt])
                  have hvz : (v : Int) < (k : Int) := by omega
                  have nv := hM.cell hvt
                  rcases hgv : g v with _ | _
                  · rw [hgv] at gc
                    obtain ⟨es, ec2, m1, m2⟩ := hM.size (by omega) hvt hgv
                    have hrow : rL k (Q v) = rL k (E v) := rL_congr fun m hm => hRw v hvt hgv m hm
                    rw [hrow] at m2
                    obtain ⟨pbv, Hpv⟩ : ∃ v', Hid (pb v = v') := ⟨_, (rfl : pb v = _)⟩
                    rw [Hpv.out] at m1 nv
                    have hln := run_len_map (P := Try.prog) (w := wr) 61 3 pbv es ec2 (by kernel_rfl) m1
                    obtain ⟨ln, Hln⟩ : ∃ l, Hid ((rL k (E v)).length = l) := ⟨_, (rfl : (rL k (E v)).length = _)⟩
                    rw [Hln.out] at m2
                    rw [m2] at hln
                    have HDG : Hid ((nbE k E v).length = ln) := (rL_nb k E v).symm.trans Hln.out
                    have hln3 : ln ≤ 300 := by have := rL_len k (E v); have := Hln.out; omega
                    clear m1 m2
                    by_cases hd2 : ln ≤ 2
                    · have hlz2 : ¬ (2 < (ln : Int)) := by omega
                      obtain ⟨f, f1, f2, f3⟩ := hM.mp v hvt hgv
                      have hal := bel_alloc (bel_refl wr) (.cells #[.map (some pbv)] 61)
                      have f1' := f1.keep (hal.block _ f1.lt)
                      rw [Hpv.out] at f1'
                      have hSo := sortedI_c (q := wr.heap.size) (wr.alloc (.cells #[.map (some pbv)] 61)) f1' (by omega) f2 (Row.cell (k := 0) (heap_alloc_eq _ _ _ rfl) rfl)
                      rw [keysF_rL f3, hrow, Hln.out] at hSo
                      have HSO := hid_of hSo
                      have HKE := hid_of (keysI_c (some pbv) wr)
                      have HEz := hid_of hEz
                      have HGV := hid_of hgv
                      have HCN := hid_of hcn
                      have HC2 := hid_of hc2
                      have HM := hid_of hM
                      have HGR := hid_of hgr
                      have HDL := hid_of (hRw.dl (v := v))
                      have HAL := hid_of hal
                      have HPB : Hid (∀ q, q < k → g q = false → pb q < wr.heap.size) := fun q hq hgq => by obtain ⟨f, h1, -⟩ := hM.mp q hq hgq; exact h1.lt
                      clear hEz hRw hM hgr hcn hc1 hc2 hst hrow hgv HV f1 f1' f2 f3 hal hSo
                      go_wp2_with fail
                      clear hln
                      refine HKE.out.mono ?_
                      rintro e W3 ⟨rfl, rfl⟩
                      go_wp2_with fail
                      refine HSO.out.mono ?_
                      rintro e W6 ⟨vl, rfl, hvl, hb6⟩
                      have hb7 := bel_call HAL.out hb6
                      obtain ⟨la, lc, rfl, -⟩ := owns_slice hvl
                      obtain ⟨B, HB⟩ : ∃ B, Hid (wr.heap.size = B) := ⟨_, (rfl : wr.heap.size = _)⟩
                      have hli : IsInts (fun b => B ≤ b) W6 (.slice la ln lc) (rL k (E v)) := by
                        have h1 := hvl
                        rw [← Hln.out] at h1 ⊢
                        exact ints_of_owns h1 (by have := Hln.out; omega) (fun b _ h1 _ => by have := HB.out; simp at h1; omega)
                      have HPB2 : Hid (∀ q, q < k → g q = false → pb q < B) := fun q hq hgq => by rw [← HB.out]; exact HPB.out q hq hgq
                      have HI0 : Hid (∃ Q, DL k E g v 0 Q ∧ EzM W1 k nb pb Q g W6 ∧ Row W6 gb 4 (bools ((List.range k).map g)) ∧ IsInts (fun b => B ≤ b) W6 (.slice la ln lc) (rL k (E v))) :=
                        ⟨Q, HDL.out, HM.out.below hb7, HGR.out.keep (hb7.block _ HGR.out.lt), hli⟩
                      have HGB : Hid (∀ q, q < k → g q = false → gb ≠ pb q) := fun q hq hgq => by
                        obtain ⟨f, h1, -⟩ := HM.out.mp q hq hgq
                        obtain ⟨es, cl, hm⟩ := h1.isMap
                        exact cell_ne_map (HGR.out.cell (k := q) (v := .bool (g q)) (by simp [hq])) hm
                      clear hvl hb6 hb7 hli HPB HM HGR HDL HAL HSO HKE gc nv
                      go_wp2_with fail
                      go_loopw [88] (fun s88 wx => ∃ i : Nat, i ≤ ln ∧ s88 = .int .i64 i ∧ Hid (∃ Q, DL k E g v i Q ∧ EzM W1 k nb pb Q g wx ∧ Row wx gb 4 (bools ((List.range k).map g)) ∧ IsInts (fun b => B ≤ b) wx (.slice la ln lc) (rL k (E v)))) (fun s88 _ => ln - (intOf s88).toNat)
                      case atStart => exact ⟨0, by omega, rfl, HI0⟩
                      case round =>
                        obtain ⟨i, hi, rfl, HI⟩ := hrel
                        clear HI0
                        obtain ⟨Q1, hDL, hM, hgr, hli⟩ := HI.out
                        by_cases hit : i < ln
                        · have hix : i < (rL k (E v)).length := by rw [Hln.out]; exact hit
                          obtain ⟨nb2, no, rfl, -, cn⟩ := ints_at hli hix
                          have hgk : (rL k (E v)).getD i 0 = (rL k (E v))[i] := by simp [List.getD, hix]
                          rw [hgk] at cn
                          obtain ⟨h0, h1, h2⟩ := mem_rL.1 (List.getElem_mem hix)
                          obtain ⟨u, Hu⟩ : ∃ u : Nat, Hid ((rL k (E v))[i] = u) := ⟨(rL k (E v))[i].toNat, by show _ = _; omega⟩
                          rw [Hu.out] at cn h1 h2
                          rw [Int.toNat_natCast] at h1 h2
                          have hue : E u v = true := by rw [HEz.out.wf.sym]; exact h2
                          have hgu : g u = false := (HEz.out.wf.al u v hue).1
                          have huv : u ≠ v := fun e => by rw [e, HEz.out.wf.irr] at hue; cases hue
                          have cu := hM.cell h1
                          obtain ⟨W8, hr8, hM8, ho8, hs8⟩ := hM.del (by omega) h1 hvt hgu
                          have hdl := hDL.step hgu huv hix Hu.out
                          have hpu := HPB2.out u h1 hgu
                          have HI2 : Hid (∃ Q, DL k E g v (i + 1) Q ∧ EzM W1 k nb pb Q g W8 ∧ Row W8 gb 4 (bools ((List.range k).map g)) ∧ IsInts (fun b => B ≤ b) W8 (.slice (some ⟨nb2, no, none⟩) ln lc) (rL k (E v))) :=
                            ⟨_, hdl, hM8, hgr.keep (ho8 _ hgr.lt (HGB.out u h1 hgu)), hli.keep (fun b hb hlt => ⟨hb, ho8 b hlt (by omega)⟩)⟩
                          have huz : (u : Int) < (k : Int) := by omega
                          have hiz : (i : Int) < (ln : Int) := by omega
                          obtain ⟨pbu, Hpu⟩ : ∃ v', Hid (pb u = v') := ⟨_, (rfl : pb u = _)⟩
                          rw [Hpu.out] at cu hr8
                          clear hDL hM hgr hli hgk h0 h1 h2 hue hgu huv hM8 ho8 hs8 hdl hpu HI
                          go_wp2_with fail
                          go_roundw
                          case rel => exact ⟨i + 1, by omega, by go_num, HI2⟩
                          case measure => simp [intOf]; omega
                        · obtain rfl : i = ln := by omega
                          have hd9 := hDL
                          rw [← Hln.out] at hd9
                          by_cases hl2 : i = 2
                          · subst hl2
                            obtain ⟨a0, b0', hnn⟩ : ∃ a0 b0', rL k (E v) = [a0, b0'] := by
                              have h2 := Hln.out
                              match hq : rL k (E v), h2 with
                              | [x, y], _ => exact ⟨x, y, rfl⟩
                            have hal9 : ∀ z : Int, z ∈ rL k (E v) → ∃ q : Nat, z = q ∧ q < k ∧ g q = false ∧ q ≠ v := fun z hz => by
                              obtain ⟨h0, h1, h2⟩ := mem_rL.1 hz
                              have hue : E z.toNat v = true := by rw [HEz.out.wf.sym]; exact h2
                              refine ⟨z.toNat, by omega, h1, (HEz.out.wf.al _ v hue).1, fun e => ?_⟩
                              rw [e, HEz.out.wf.irr] at hue; cases hue
                            obtain ⟨x, rfl, hxl, hgx, hxv⟩ := hal9 a0 (by rw [hnn]; simp)
                            obtain ⟨y, rfl, hyl, hgy, hyv⟩ := hal9 b0' (by rw [hnn]; simp)
                            have hxy : x ≠ y := by
                              have h1 := rL_ris k (E v)
                              rw [hnn] at h1
                              simp at h1
                              omega
                            have hz2 : (((2 : Nat) : Int) == 2) = true := rfl
                            obtain ⟨nb2, no, hla, -, cn⟩ := ints_at hli (show 0 < (rL k (E v)).length by rw [Hln.out]; exact Nat.two_pos)
                            obtain ⟨nb3, no3, hla2, -, cn2⟩ := ints_at hli (show 1 < (rL k (E v)).length by rw [Hln.out]; exact Nat.one_lt_two)
                            rw [hla] at hla2
                            simp only [Option.some.injEq, Addr.mk.injEq, and_true] at hla2
                            obtain ⟨rfl, rfl⟩ := hla2
                            subst hla
                            have hgk : (rL k (E v)).getD 0 0 = (x : Int) := by rw [hnn]; rfl
                            have hgk2 : (rL k (E v)).getD 1 0 = (y : Int) := by rw [hnn]; rfl
                            rw [hgk, Nat.add_zero] at cn
                            rw [hgk2] at cn2
                            have n0 := hM.cell hxl
                            have n1 := hM.cell hyl
                            have hRw2 := hd9.two HEz.out.wf hnn hgx hgy hxl hyl hxy hxv hyv
                            have gc := hgr.cell (k := v) (v := .bool (g v)) (by simp [hvt])
                            obtain ⟨pa, Hpa⟩ : ∃ v, Hid (pb x = v) := ⟨_, (rfl : pb x = _)⟩
                            obtain ⟨pc, Hpc⟩ : ∃ v, Hid (pb y = v) := ⟨_, (rfl : pb y = _)⟩
                            obtain ⟨_, f1, -⟩ := hM.mp x hxl hgx
                            obtain ⟨_, f2, -⟩ := hM.mp y hyl hgy
                            obtain ⟨_, _, m1⟩ := f1.isMap
                            obtain ⟨_, _, m2⟩ := f2.isMap
                            have e1 := cell_ne_map n0 m1
                            have e2 := cell_ne_map n0 m2
                            have e3 := cell_ne_map cn m1
                            have e4 := cell_ne_map cn m2
                            have e5 := cell_ne_map gc m1
                            have e6 := cell_ne_map gc m2
                            have hL2 := (show EzM W1 k nb pb Q1 g wr.drew from hM.below (bk_drew (bel_refl wr))).lay2 (by omega) hxl hyl hxy hgx hgy
                            rw [Hpa.out] at n0 e1 e3 e5 hL2
                            rw [Hpc.out] at n1 e2 e4 e6 hL2
                            obtain ⟨vv1, vv2, k1, k2, Y1, Y2, Y3, Y4, r1, r2, r3, r4, hE4, ho, hs4⟩ := hL2
                            have hKS : ∀ Y : World, (Y.heap[nb]? = wr.heap[nb]? ∧ Y.heap[nb2]? = wr.heap[nb2]?) → Y.cell? ⟨nb2, no, none⟩ = some (.int .i64 (x : Int)) ∧ Y.cell? ⟨nb2, no + 1, none⟩ = some (.int .i64 (y : Int)) ∧ Y.cell? ⟨nb, x, none⟩ = some (.map (some pa)) ∧ Y.cell? ⟨nb, y, none⟩ = some (.map (some pc)) := fun Y hY =>
                              ⟨(World.cell?_of_block (a := ⟨nb2, no, none⟩) hY.2).trans cn, (World.cell?_of_block (a := ⟨nb2, no + 1, none⟩) hY.2).trans cn2, (World.cell?_of_block (a := ⟨nb, x, none⟩) hY.1).trans n0, (World.cell?_of_block (a := ⟨nb, y, none⟩) hY.1).trans n1⟩
                            have s0 := hKS wr.drew ⟨rfl, rfl⟩
                            have s1 := hKS Y1 ⟨(ho nb e1 e2).1, (ho _ e3 e4).1⟩
                            have s2 := hKS Y2 ⟨(ho nb e1 e2).2.1, (ho _ e3 e4).2.1⟩
                            have s3 := hKS Y3 ⟨(ho nb e1 e2).2.2.1, (ho _ e3 e4).2.2.1⟩
                            have s4 := hKS Y4 ⟨(ho nb e1 e2).2.2.2, (ho _ e3 e4).2.2.2⟩
                            have hg4 := hgr.keep (W' := Y4) (ho gb e5 e6).2.2.2
                            have gc4 := hg4.cell (k := v) (v := .bool (g v)) (by simp [hvt])
                            have gf4 := hg4.frozen v
                            have hMo := (hE4.set (.bool true) gc4 HGN.out.1 HGN.out.2).out v
                            have hgo := bools_out (v := v) hg4
                            obtain ⟨l3, rfl⟩ : ∃ l3, l2 = l3 + 1 := ⟨l2 - 1, by have h1 := cnt_out (n := k) hvt HGV.out; have h3 := HCN.out; omega⟩
                            have hlb : l3 ≤ 300 := by have h1 := cnt_le k g; have h3 := HCN.out; omega
                            have HV2 : Hid (EmV W1 k nb gb pb (edE Es) c0 (v + 1) l3 true (Y4.setCell ⟨gb, v, none⟩ (.bool true))) := by
                              have h1 := cnt_out (n := k) hvt HGV.out
                              have h2 := HC2.out
                              have h3 := HCN.out
                              exact ⟨_, _, _, HEz.out.step hvt HGV.out (by rw [HDG.out]; exact hd2), hRw2, hMo, hgo, by omega, fun _ => by omega, by omega, fun h => by cases h⟩
                            have hxz : (x : Int) < (k : Int) := by omega
                            have hyz : (y : Int) < (k : Int) := by omega
                            clear hDL hM hgr hli hd9 hMo hgo HI hRw2 hgk hgk2 hnn hal9 f1 f2 m1 m2 e1 e2 e3 e4 e5 e6 hE4 ho hs4 hg4 cn cn2 n0 n1 gc hgx hgy hxv hyv
                            go_wp2_with fail
                            go_region_held3 (fun Y => Y.cell? ⟨nb2, no, none⟩ = some (.int .i64 (x : Int)) ∧ Y.cell? ⟨nb2, no + 1, none⟩ = some (.int .i64 (y : Int)) ∧ Y.cell? ⟨nb, x, none⟩ = some (.map (some pa)) ∧ Y.cell? ⟨nb, y, none⟩ = some (.map (some pc)))
                              ((first | (with_reducible assumption) | exact s0 | exact s1 | exact s2 | exact s3 | exact s4 | exact hKS _ ⟨rfl, rfl⟩)) (fail)
                            all_goals clear s0 s1 s2 s3 s4 r1 r2 r3 r4 hKS
                            all_goals (try go_wp2_with fail)
                            all_goals go_roundw
                            all_goals first | exact ⟨v + 1, l3, true, by omega, by go_num, by go_num, rfl, HV2⟩ | (simp [intOf]; omega)
                          · have hl1 : (rL k (E v)).length ≤ 1 := by have := Hln.out; omega
                            have hz2 : ((i : Int) == 2) = false := by simp; omega
                            have gc := hgr.cell (k := v) (v := .bool (g v)) (by simp [hvt])
                            have gf := hgr.frozen v
                            have hMo := (hM.set (.bool true) gc HGN.out.1 HGN.out.2).out v
                            have hgo := bools_out (v := v) hgr
                            obtain ⟨l3, rfl⟩ : ∃ l3, l2 = l3 + 1 := ⟨l2 - 1, by have h1 := cnt_out (n := k) hvt HGV.out; have h3 := HCN.out; omega⟩
                            have hlb : l3 ≤ 300 := by have h1 := cnt_le k g; have h3 := HCN.out; omega
                            have HV2 : Hid (EmV W1 k nb gb pb (edE Es) c0 (v + 1) l3 true (wr.setCell ⟨gb, v, none⟩ (.bool true))) := by
                              have h1 := cnt_out (n := k) hvt HGV.out
                              have h2 := HC2.out
                              have h3 := HCN.out
                              exact ⟨_, _, Q1, HEz.out.step hvt HGV.out (by rw [HDG.out]; exact hd2), hd9.few HEz.out.wf hl1, hMo, hgo, by omega, fun _ => by omega, by omega, fun h => by cases h⟩
                            clear hDL hM hgr hli hd9 hMo hgo HI
                            go_wp2_with fail
                            go_roundw
                            case rel => exact ⟨v + 1, l3, true, by omega, by go_num, by go_num, rfl, HV2⟩
                            case measure => simp [intOf]; omega
                    · have hlz : (2 : Int) < (ln : Int) := by omega
                      have HV2 : Hid (EmV W1 k nb gb pb (edE Es) c0 (v + 1) l2 ag wr) := ⟨E, g, Q, hEz, hRw, hM, hgr, hcn, hc1, hc2, fun h j hj hgj => by
                        by_cases e : j = v
                        · rw [e, HDG.out]; omega
                        · exact hst h j (by omega) hgj⟩
                      clear hEz hRw hM hgr hcn hc1 hc2 hst hrow hgv HV hd2
                      go_wp2_with fail
                      go_roundw
                      case rel => exact ⟨v + 1, l2, ag, by omega, by go_num, rfl, rfl, HV2⟩
                      case measure => simp [intOf]; omega
                  · rw [hgv] at gc
                    have HV2 : Hid (EmV W1 k nb gb pb (edE Es) c0 (v + 1) l2 ag wr) := ⟨E, g, Q, hEz, hRw, hM, hgr, hcn, hc1, hc2, fun h j hj hgj => by
                      by_cases e : j = v
                      · rw [e, hgv] at hgj; cases hgj
                      · exact hst h j (by omega) hgj⟩
                    clear hEz hRw hM hgr hcn hc1 hc2 hst hgv HV
                    go_wp2_with fail
                    go_roundw
                    case rel => exact ⟨v + 1, l2, ag, by omega, by go_num, rfl, rfl, HV2⟩
                    case measure => simp [intOf]; omega
                · obtain rfl : v = k := by omega
                  obtain ⟨E, g, Q, hEz, hRw, hM, hgr, hcn, hc1, hc2, hst⟩ := HV.out
                  have HA2 : Hid (EmA W1 v nb gb pb (edE Es) (gk - 1) l2 ag wr) := ⟨E, g, Q, hEz, hRw, hM, hgr, hcn, fun h => by have := hc1 h; omega, fun h j hj hgj => hst h j hj hgj⟩
                  clear hEz hRw hM hgr hcn hc1 hc2 hst HV
                  go_wp2_with fail
                  go_roundg (gk - 1)
                  case rel => exact ⟨ag, l2, rfl, rfl, HA2⟩
                  case measure => omega
end Go.Proofs.Ytdomnbgjafdnjaa
