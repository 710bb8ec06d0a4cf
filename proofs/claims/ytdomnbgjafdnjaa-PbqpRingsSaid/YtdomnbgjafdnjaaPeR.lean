/- The reference's 'Easy': it tells whether all nodes can be taken away. -/
import Derived.Test.YtdomnbgjafdnjaaPeP
namespace Go.Proofs.Ytdomnbgjafdnjaa
open Go.RowKit

/-- What the reference's 'Easy' holds: a row for each node, and who is gone. -/
structure EzR (w : World) (n nb gb : Nat) (Q : Nat → Nat → Bool) (g : Nat → Bool) (W : World) : Prop where
  nr : IRow (fun b => nb < b ∧ b ≠ gb) nb (rowsQ n Q) W
  gr : Row W gb 4 (bools ((List.range n).map g))
  bel : Below w.heap.size w W
  lo : w.heap.size ≤ nb ∧ nb < gb
section
variable {w W W' : World} {n nb gb : Nat} {Q : Nat → Nat → Bool} {g : Nat → Bool}
theorem EzR.below (h : EzR w n nb gb Q g W) (hb : Below W.heap.size W W') : EzR w n nb gb Q g W' := ⟨h.nr.below hb, h.gr.keep (hb.block _ h.gr.lt), bel_call h.bel hb, h.lo⟩
theorem EzR.setn (h : EzR w n nb gb Q g W) {k : Nat} {P : Nat → Bool} {z : Value} (hz : IsInts (fun b => nb < b ∧ b ≠ gb) W z (rL n P)) : EzR w n nb gb (updQ Q k P) g (W.setCell ⟨nb, k, none⟩ z) := by
  have h1 := h.nr.set hz k
  rw [rowsQ_set] at h1
  exact ⟨h1, h.gr.other (by show gb ≠ nb; have := h.lo; omega) _, h.bel.setCell (show w.heap.size ≤ (⟨nb, k, none⟩ : Addr).block from h.lo.1) _, h.lo⟩
theorem EzR.setg (h : EzR w n nb gb Q g W) (k : Nat) : EzR w n nb gb Q (outE g k) (W.setCell ⟨gb, k, none⟩ (.bool true)) := by
  have h1 := h.gr.set k (.bool true)
  have e : (bools ((List.range n).map g)).set k (.bool true) = bools ((List.range n).map (outE g k)) := by
    rw [bools_set]
    congr 1
    refine List.ext_getElem (by simp) fun j h1 h2 => ?_
    rw [List.getElem_set]
    by_cases e : k = j
    · subst e; simp [outE]
    · have : ¬ j = k := fun h => e h.symm
      simp [e, this, outE]
  rw [e] at h1
  exact ⟨h.nr.other (a := ⟨gb, k, none⟩) (by show nb ≠ gb; have := h.lo; omega) (fun hp => hp.2 rfl) _, h1, h.bel.setCell (show w.heap.size ≤ (⟨gb, k, none⟩ : Addr).block by show w.heap.size ≤ gb; have := h.lo; omega) _, h.lo⟩
theorem EzR.get (h : EzR w n nb gb Q g W) {k : Nat} (hk : k < n) : ∃ a c, W.cell? ⟨nb, k, none⟩ = some (.slice a (rL n (Q k)).length c) ∧ IsInts (fun b => nb < b ∧ b ≠ gb) W (.slice a (rL n (Q k)).length c) (rL n (Q k)) := by
  have := h.nr.get (j := k) (by simp [rowsQ, hk])
  rw [rowsQ_get hk] at this
  exact this
theorem EzR.gcell (h : EzR w n nb gb Q g W) {k : Nat} (hk : k < n) : W.cell? ⟨gb, k, none⟩ = some (.bool (g k)) := h.gr.cell (k := k) (v := .bool (g k)) (by simp [hk])
end
/-- At the head of the outer loop. -/
def EzA (w : World) (n nb gb : Nat) (E0 : Nat → Nat → Bool) (gh : Nat) (ag : Bool) (W : World) : Prop :=
  ∃ E g Q, EzI n E0 E g ∧ RowsE n E g Q ∧ EzR w n nb gb Q g W ∧ (ag = true → cntE n g < gh) ∧ (ag = false → ∀ v, v < n → g v = false → 2 < (nbE n E v).length)
/-- Behind v nodes. -/
def EzV (w : World) (n nb gb : Nat) (E0 : Nat → Nat → Bool) (c0 v : Nat) (ag : Bool) (W : World) : Prop :=
  ∃ E g Q, EzI n E0 E g ∧ RowsE n E g Q ∧ EzR w n nb gb Q g W ∧ (ag = true → cntE n g < c0) ∧ cntE n g ≤ c0 ∧ (ag = false → ∀ j, j < v → g j = false → 2 < (nbE n E j).length)
theorem rowsQ_congr {n : Nat} {Q Q' : Nat → Nat → Bool} (h : ∀ k, k < n → ∀ m, m < n → Q k m = Q' k m) : rowsQ n Q = rowsQ n Q' :=
  List.map_congr_left fun k hk => rL_congr fun m hm => h k (List.mem_range.1 hk) m hm
theorem edE_put {Es : List EdgeD} {i a b n : Nat} (hi : i < Es.length) (ha : Es[i].a.toNat = a) (hb : Es[i].b.toNat = b) (hab : a ≠ b) : rowsQ n (updQ (updQ (edE (Es.take i)) a fun m => edE (Es.take i) a m || decide (m = b)) b fun m => edE (Es.take i) b m || decide (m = a)) = rowsQ n (edE (Es.take (i + 1))) := by
  refine rowsQ_congr fun k _ m _ => ?_
  rw [edE_take hi, ha, hb]
  by_cases e1 : k = b
  · subst e1
    rw [updQ_same]
    by_cases e2 : m = a
    · subst e2; simp
    · simp [hab, e2, Ne.symm e2]
  · rw [updQ_ne _ _ e1]
    by_cases e2 : k = a
    · subst e2
      rw [updQ_same]
      by_cases e3 : m = b
      · subst e3; simp
      · simp [Ne.symm e1, e3, Ne.symm e3]
    · rw [updQ_ne _ _ e2]
      simp [Ne.symm e1, Ne.symm e2]

set_option maxRecDepth 100000 in
set_option maxHeartbeats 8000000 in
theorem easyR_bad {p : Nat → Prop} (w : World) {na : Option Addr} {nl nc : Nat} {ea : Option Addr} {el ec : Nat} {N : List (List Int)} {Es : List EdgeD} (hp : ∀ b, p b → b < w.heap.size) (h : IsPq p w na nl nc ea el ec N Es) (hc : chkS N Es ≠ 0) :
    Calls Try.prog 18 #[costsV na nl nc ea el ec] w fun e w' => e = .returned (.bool false) ∧ Below w.heap.size w w' := by
  have hB0 := bel_alloc (bel_refl w) (.cells #[.slice na nl nc, .slice ea el ec] 25)
  have HCK := hid_of (checkR_c (p := p) (w.alloc (.cells #[.slice na nl nc, .slice ea el ec] 25)) (fun b hb => by have := hp b hb; simp; omega) (h.keep (fun b hb hlt => ⟨hb, hB0.block b (hp b hb)⟩)))
  obtain ⟨x, Hx⟩ : ∃ x, Hid (chkS N Es = x) := ⟨_, (rfl : chkS N Es = _)⟩
  rw [Hx.out] at HCK
  have hx : (x != 0) = true := by rw [Hx.out] at hc; simpa using hc
  have HB0 := hid_of hB0
  clear h hB0 hc
  go_enter Try.func18, Try.ntmps18
  go_wp2_with fail
  refine HCK.out.mono ?_
  rintro e W1 ⟨rfl, hb1⟩
  have HB1 := hid_of (bel_call HB0.out hb1)
  clear hb1 HCK
  go_wp2_with fail
  go_ret
  exact ⟨rfl, HB1.out⟩

set_option maxRecDepth 100000 in
set_option maxHeartbeats 16000000 in
theorem easyR_c {p : Nat → Prop} (w : World) {na : Option Addr} {nl nc : Nat} {ea : Option Addr} {el ec : Nat} {N : List (List Int)} {Es : List EdgeD} (hp : ∀ b, p b → b < w.heap.size) (h : IsPq p w na nl nc ea el ec N Es) (hc : chkS N Es = 0) :
    Calls Try.prog 18 #[costsV na nl nc ea el ec] w fun e w' => ∃ b : Bool, e = .returned (.bool b) ∧ Hid (b = true ↔ RedP nl (edE Es) (fun _ => false)) ∧ Below w.heap.size w w' := by
  obtain ⟨hn3, hle, -, hEE⟩ := chk_ok hc
  have hNL := (sl_len h.nd).1
  have HEL := hid_of (sl_len h.ed).1
  have hel : el ≤ 2000 := by have := HEL.out; omega
  have hec := (sl_len h.ed).2.1
  have hxn : nl ≤ 300 := by omega
  have hB0 := bel_alloc (bel_refl w) (.cells #[.slice na nl nc, .slice ea el ec] 25)
  have HCK := hid_of (checkR_c (p := p) (w.alloc (.cells #[.slice na nl nc, .slice ea el ec] 25)) (fun b hb => by have := hp b hb; simp; omega) (h.keep (fun b hb hlt => ⟨hb, hB0.block b (hp b hb)⟩)))
  rw [hc] at HCK
  have HB0 := hid_of hB0
  have HED : Hid (∀ X, Below w.heap.size w X → IsEdges p X (.slice ea el ec) Es) := fun X hX => h.ed.keep (fun b hb hlt => ⟨hb, hX.block b (hp b hb)⟩)
  have HEZ := hid_of (ez_init hc)
  have HEE : Hid (∀ e ∈ Es, (0 ≤ e.a ∧ e.a < nl) ∧ (0 ≤ e.b ∧ e.b < nl) ∧ e.a ≠ e.b) := fun e he => by
    obtain ⟨h1, h2, h3, -⟩ := edge_ok (hEE e he)
    rw [hNL]; exact ⟨h1, h2, h3⟩
  rw [← hNL] at HEZ
  clear h hB0 hc hn3 hle hEE hNL
  go_enter Try.func18, Try.ntmps18
  go_wp2_with fail
  refine HCK.out.mono ?_
  rintro e W1 ⟨rfl, hb1⟩
  have r1 : Row W1 w.heap.size 25 [.slice na nl nc, .slice ea el ec] := Row.keep (W := w.alloc (.cells #[.slice na nl nc, .slice ea el ec] 25)) (heap_alloc_eq _ _ _ rfl) (hb1.block _ (by simp))
  have HB1 := hid_of (bel_call HB0.out hb1)
  have HR1 := hid_of r1
  have a0 := r1.cell (k := 0) rfl
  have hw1 : w.heap.size < W1.heap.size := r1.lt
  clear HCK hb1 r1
  go_wp2_with (at_make; refine stop_here ?_)
  refine stop_go (mk_rowsI rfl _ _ rfl nl rfl rfl (by omega) ?_)
  obtain ⟨nb, Hnb⟩ : ∃ nb, Hid (W1.heap.size = nb) := ⟨_, (rfl : W1.heap.size = _)⟩
  have H0 : Hid (IRow (fun b => nb < b) nb (rowsQ nl (edE (Es.take 0))) (W1.alloc (.cells (List.replicate nl (Value.slice none 0 0)).toArray 26)) ∧ Below W1.heap.size W1 (W1.alloc (.cells (List.replicate nl (Value.slice none 0 0)).toArray 26))) := by
    refine ⟨?_, bel_alloc (bel_refl W1) _⟩
    have e : rowsQ nl (edE (Es.take 0)) = List.replicate nl [] := by
      refine List.ext_getElem (by simp [rowsQ]) fun i h1 h2 => ?_
      simp [rowsQ, rL, edE]
    rw [e, ← Hnb.out]
    exact IRow.start (heap_alloc_eq _ _ _ rfl) (by omega)
  clear a0
  generalize W1.alloc (.cells (List.replicate nl (Value.slice none 0 0)).toArray 26) = W2 at *
  rw [Hnb.out]
  go_wp2_with fail
  go_loopw [4] (fun s4 wx => ∃ k : Nat, k ≤ el ∧ s4 = .int .i64 k ∧ Hid (IRow (fun b => nb < b) nb (rowsQ nl (edE (Es.take k))) wx ∧ Below W1.heap.size W1 wx)) (fun s4 _ => el - (intOf s4).toNat)
  case atStart => exact ⟨0, by omega, rfl, H0⟩
  case round =>
    obtain ⟨k, hk, rfl, HK⟩ := hrel
    clear H0
    obtain ⟨hI, hbl⟩ := HK.out
    have a1 := (HR1.out.keep (hbl.block _ hw1)).cell (k := 1) rfl
    by_cases hlt : k < el
    · have hkE : k < Es.length := by have := HEL.out; omega
      have hbw := bel_call HB1.out hbl
      obtain ⟨eb, eo, rfl, hpb, hcc⟩ := sl_at (HED.out wr hbw) (by omega)
      have hci := hcc k hkE
      obtain ⟨⟨i1, i2⟩, ⟨i3, i4⟩, hab⟩ := HEE.out _ (List.getElem_mem hkE)
      obtain ⟨c0, c1, -⟩ := hci
      obtain ⟨x, Hx⟩ : ∃ x : Nat, Hid (Es[k].a = x) := ⟨Es[k].a.toNat, by show _ = _; omega⟩
      obtain ⟨y, Hy⟩ : ∃ y : Nat, Hid (Es[k].b = y) := ⟨Es[k].b.toNat, by show _ = _; omega⟩
      rw [Hx.out] at c0 i1 i2 hab
      rw [Hy.out] at c1 i3 i4 hab
      have hxl : x < nl := by omega
      have hyl : y < nl := by omega
      have hxy : x ≠ y := by omega
      have HEP : Hid (rowsQ nl (updQ (updQ (edE (Es.take k)) x fun m => edE (Es.take k) x m || decide (m = y)) y fun m => edE (Es.take k) y m || decide (m = x)) = rowsQ nl (edE (Es.take (k + 1)))) := edE_put hkE (by rw [Hx.out]; simp) (by rw [Hy.out]; simp) hxy
      have hkz : (k : Int) < (el : Int) := by omega
      have hxz : (x : Int) < (nl : Int) := by omega
      have hyz : (y : Int) < (nl : Int) := by omega
      obtain ⟨ra, rc, cr, hri⟩ := hI.get (j := x) (by simp [rowsQ, hxl])
      rw [rowsQ_get hxl] at cr hri
      have HP1 := hid_of (put_c wr (y : Int) hri (Nat.le_trans (rL_len _ _) (by omega)))
      rw [putS_rL hyl (by omega)] at HP1
      obtain ⟨l1, Hl1⟩ : ∃ l, Hid ((rL nl (edE (Es.take k) x)).length = l) := ⟨_, (rfl : (rL nl (edE (Es.take k) x)).length = _)⟩
      rw [Hl1.out] at cr HP1
      have HI := hid_of hI
      have HB := hid_of hbl
      have hpe : eb < w.heap.size := hp _ hpb
      have HXY := hid_of hxy
      clear hcc hpb hI hbl hri HK hbw hab i1 i2 i3 i4
      go_wp2_with fail
      refine HP1.out.mono ?_
      rintro e W3 ⟨z, rfl, hz, hb3⟩
      have hI1 := HI.out.below hb3
      have hz1 : IsInts (fun b => nb < b) W3 z (rL nl fun m => edE (Es.take k) x m || decide (m = y)) := hz.mono (fun b hb => by have := HI.out.lt; omega)
      obtain ⟨za, zn, zc, rfl⟩ := ints_slice hz1
      have hI2 := hI1.set (j := x) hz1
      rw [rowsQ_set] at hI2
      have hgf := hI1.frozen x
      obtain ⟨ra', rc', cg, -⟩ := hI1.get (j := x) (by simp [rowsQ, hxl])
      have HI2 := hid_of hI2
      have hbw3 := bel_call HB.out hb3
      have HB2 := hid_of (bel_setCell (a := ⟨nb, x, none⟩) (u := .slice za zn zc) hbw3 (by show W1.heap.size ≤ nb; have := Hnb.out; omega))
      have c1 := (World.cell?_of_block (a := ⟨eb, eo + k * 3 + 1, none⟩) (hb3.block _ (lt_of_cell c1))).trans c1
      have c0 := (World.cell?_of_block (a := ⟨eb, eo + k * 3, none⟩) (hb3.block _ (lt_of_cell c0))).trans c0
      obtain ⟨sa, sc, cs, hsi⟩ := hI2.get (j := y) (by simp [rowsQ, hyl])
      rw [rowsQ_get hyl, updQ_ne _ _ (Ne.symm HXY.out)] at cs hsi
      have HP2 := hid_of (put_c (W3.setCell ⟨nb, x, none⟩ (.slice za zn zc)) (x : Int) hsi (Nat.le_trans (rL_len _ _) (by omega)))
      rw [putS_rL hxl (by omega)] at HP2
      obtain ⟨l2, Hl2⟩ : ∃ l, Hid ((rL nl (edE (Es.take k) y)).length = l) := ⟨_, (rfl : (rL nl (edE (Es.take k) y)).length = _)⟩
      rw [Hl2.out] at cs HP2
      have a1 := (HR1.out.keep (HB2.out.block _ hw1)).cell (k := 1) rfl
      have hnw : eb ≠ nb := by have := Hnb.out; omega
      clear hI1 hz hz1 hI2 hb3 hbw3 hsi HI HB HP1
      go_wp2_with fail
      refine HP2.out.mono ?_
      rintro e W4 ⟨z2, rfl, hz2, hb4⟩
      have hI3 := HI2.out.below hb4
      have hz3 : IsInts (fun b => nb < b) W4 z2 (rL nl fun m => edE (Es.take k) y m || decide (m = x)) := hz2.mono (fun b hb => by have := HI2.out.lt; omega)
      obtain ⟨za2, zn2, zc2, rfl⟩ := ints_slice hz3
      have hI4 := hI3.set (j := y) hz3
      have hgf2 := hI3.frozen y
      obtain ⟨ra2, rc2, cg2, -⟩ := hI3.get (j := y) (by simp [rowsQ, hyl])
      rw [rowsQ_set, HEP.out] at hI4
      have HF : Hid (IRow (fun b => nb < b) nb (rowsQ nl (edE (Es.take (k + 1)))) (W4.setCell ⟨nb, y, none⟩ (.slice za2 zn2 zc2)) ∧ Below W1.heap.size W1 (W4.setCell ⟨nb, y, none⟩ (.slice za2 zn2 zc2))) :=
        ⟨hI4, (bel_call HB2.out hb4).setCell (by show W1.heap.size ≤ nb; have := Hnb.out; omega) _⟩
      clear hI3 hz2 hz3 hI4 hb4 HI2 HB2 HP2
      go_wp2_with fail
      go_roundw
      case rel => exact ⟨k + 1, by omega, by go_num, HF⟩
      case measure => simp [intOf]; omega
    · obtain rfl : k = el := by omega
      rw [List.take_of_length_le (by rw [← HEL.out]; exact Nat.le_refl _)] at hI
      have HI := hid_of hI
      have HB := hid_of hbl
      clear hI hbl HK
      go_wp2_with (at_make; refine stop_here ?_)
      refine stop_go (mk_bools rfl _ _ rfl nl rfl rfl (by omega) ?_)
      obtain ⟨gb, Hgb⟩ : ∃ gb, Hid (wr.heap.size = gb) := ⟨_, (rfl : wr.heap.size = _)⟩
      have H0 : Hid (EzR w nl nb gb (edE Es) (fun _ => false) (wr.alloc (.cells (bools (List.replicate nl false)).toArray 4))) := by
        have hb9 := bel_alloc (bel_refl wr) (.cells (bools (List.replicate nl false)).toArray 4)
        refine ⟨HI.out.keep (hb9.block _ HI.out.lt) (fun b hb hlt => ⟨⟨hb, by have := Hgb.out; omega⟩, hb9.block b hlt⟩) (fun hh => Nat.lt_irrefl _ hh.1), ?_, bel_call (bel_call HB1.out HB.out) hb9, ?_⟩
        · have e : (List.range nl).map (fun _ => false) = List.replicate nl false := by
            refine List.ext_getElem (by simp) fun i h1 h2 => by simp
          rw [e, ← Hgb.out]
          exact heap_alloc_eq _ _ _ rfl
        · have := HI.out.lt; have := Hnb.out; have := Hgb.out; omega
      clear a1 HI HB
      generalize wr.alloc (.cells (bools (List.replicate nl false)).toArray 4) = W5 at *
      rw [Hgb.out]
      go_wp2_with fail
      go_loopg [8] (nl + 1) (fun gh s8 wx => ∃ ag : Bool, s8 = .bool ag ∧ Hid (EzA w nl nb gb (edE Es) gh ag wx))
      case atStart => exact ⟨true, rfl, _, _, _, HEZ.out, fun _ _ _ _ _ => rfl, H0.out, fun _ => by have := cnt_le nl (fun _ => false); omega, fun h => by cases h⟩
      case round =>
        obtain ⟨ag, rfl, HA⟩ := hrel
        clear H0
        cases ag with
        | false =>
          obtain ⟨E, g, Q, hEz, -, hM, -, hst⟩ := HA.out
          have HST := hid_of (hEz.stuck (hst rfl))
          have HM0 : Hid (EzR w nl nb gb Q g wr ∧ ∀ j, j < 0 → g j = true) := ⟨hM, fun j hj => by omega⟩
          clear hEz hst hM HA
          go_wp2_with fail
          go_loopw [13] (fun s13 wx => ∃ v : Nat, v ≤ nl ∧ s13 = .int .i64 v ∧ Hid (EzR w nl nb gb Q g wx ∧ ∀ j, j < v → g j = true)) (fun s13 _ => nl - (intOf s13).toNat)
          case atStart => exact ⟨0, by omega, rfl, HM0⟩
          case round =>
            obtain ⟨v, hv, rfl, HV⟩ := hrel
            clear HM0
            by_cases hvt : v < nl
            · have gc := HV.out.1.gcell hvt
              have hvz : (v : Int) < (nl : Int) := by omega
              rcases hgv : g v with _ | _
              · rw [hgv] at gc
                have HGV := hid_of hgv
                clear hgv
                go_wp2_with fail
                go_ret
                exact ⟨false, rfl, Iff.intro (fun h => by cases h) (fun h => by have := (HST.out.1 h) v hvt; rw [HGV.out] at this; cases this), HV.out.1.bel⟩
              · rw [hgv] at gc
                have HV2 : Hid (EzR w nl nb gb Q g wr ∧ ∀ j, j < v + 1 → g j = true) := ⟨HV.out.1, fun j hj => by
                  by_cases e : j = v
                  · rw [e]; exact hgv
                  · exact HV.out.2 j (by omega)⟩
                clear hgv HV
                go_wp2_with fail
                go_roundw
                case rel => exact ⟨v + 1, by omega, by go_num, HV2⟩
                case measure => simp [intOf]; omega
            · obtain rfl : v = nl := by omega
              go_wp2_with fail
              go_ret
              exact ⟨true, rfl, ⟨fun _ => HST.out.2 HV.out.2, fun _ => rfl⟩, HV.out.1.bel⟩
        | true =>
          obtain ⟨E, g, Q, hEz, hRw, hM, hcn, -⟩ := HA.out
          have hcn := hcn rfl
          obtain ⟨c0, Hc0⟩ : ∃ c, Hid (cntE nl g = c) := ⟨_, (rfl : cntE nl g = _)⟩
          rw [Hc0.out] at hcn
          have HV0 : Hid (EzV w nl nb gb (edE Es) c0 0 false wr) := ⟨E, g, Q, hEz, hRw, hM, (fun h => by cases h), Nat.le_of_eq Hc0.out, (fun _ j hj => by omega)⟩
          clear hEz hRw hM HA Hc0
          go_wp2_with fail
          go_loopw [8, 9] (fun s8 s9 wx => ∃ (v : Nat) (ag : Bool), v ≤ nl ∧ s9 = .int .i64 v ∧ s8 = .bool ag ∧ Hid (EzV w nl nb gb (edE Es) c0 v ag wx)) (fun _ s9 _ => nl - (intOf s9).toNat)
          case atStart => exact ⟨0, false, by omega, rfl, rfl, HV0⟩
          case round =>
            obtain ⟨v, ag, hv, rfl, rfl, HV⟩ := hrel
            clear HV0
            by_cases hvt : v < nl
            · obtain ⟨E, g, Q, hEz, hRw, hM, hc1, hc2, hst⟩ := HV.out
              have gc := hM.gcell hvt
              have hvz : (v : Int) < (nl : Int) := by omega
              rcases hgv : g v with _ | _
              · rw [hgv] at gc
                obtain ⟨va, vc, cv, hvi⟩ := hM.get hvt
                have hrow : rL nl (Q v) = rL nl (E v) := rL_congr fun m hm => hRw v hvt hgv m hm
                rw [hrow] at cv hvi
                obtain ⟨ln, Hln⟩ : ∃ l, Hid ((rL nl (E v)).length = l) := ⟨_, (rfl : (rL nl (E v)).length = _)⟩
                rw [Hln.out] at cv
                have HDG : Hid ((nbE nl E v).length = ln) := (rL_nb nl E v).symm.trans Hln.out
                have hln3 : ln ≤ 300 := by have := rL_len nl (E v); have := Hln.out; omega
                by_cases hd2 : ln ≤ 2
                · have hlz : ¬ ((ln : Int) > 2) := by omega
                  have hlz2 : ¬ (2 < (ln : Int)) := by omega
                  have HM1 := hid_of (hM.setg v)
                  have HIL := hid_of (hRw.il hvt hgv)
                  have hfz := hM.gr.frozen v
                  have HEz := hid_of hEz
                  have HGV := hid_of hgv
                  have HC2 := hid_of hc2
                  have HI0 : Hid (∃ Q, IL nl E g v 0 Q ∧ EzR w nl nb gb Q (outE g v) (wr.setCell ⟨gb, v, none⟩ (.bool true))) := ⟨Q, HIL.out, HM1.out⟩
                  clear hEz hRw hM hc1 hc2 hst hvi hrow hgv HV HM1 HIL
                  go_wp2_with fail
                  clear gc cv hfz
                  go_loopw [10] (fun s10 wx => ∃ i : Nat, i ≤ ln ∧ s10 = .int .i64 i ∧ Hid (∃ Q, IL nl E g v i Q ∧ EzR w nl nb gb Q (outE g v) wx)) (fun s10 _ => ln - (intOf s10).toNat)
                  case atStart => exact ⟨0, by omega, rfl, HI0⟩
                  case round =>
                    obtain ⟨i, hi, rfl, HI⟩ := hrel
                    clear HI0
                    obtain ⟨Q1, hIL, hM⟩ := HI.out
                    obtain ⟨va2, vc2, cv, hvi⟩ := hM.get hvt
                    have hrow : rL nl (Q1 v) = rL nl (E v) := rL_congr fun m hm => hIL.own m hm
                    rw [hrow] at cv hvi
                    rw [Hln.out] at cv hvi
                    by_cases hit : i < ln
                    · have hix : i < (rL nl (E v)).length := by rw [Hln.out]; exact hit
                      obtain ⟨nb2, no, rfl, -, cn⟩ := ints_at hvi hix
                      have hgk : (rL nl (E v)).getD i 0 = (rL nl (E v))[i] := by simp [List.getD, hix]
                      rw [hgk] at cn
                      obtain ⟨h0, h1, h2⟩ := mem_rL.1 (List.getElem_mem hix)
                      obtain ⟨u, Hu⟩ : ∃ u : Nat, Hid ((rL nl (E v))[i] = u) := ⟨(rL nl (E v))[i].toNat, by show _ = _; omega⟩
                      rw [Hu.out] at cn h1 h2
                      rw [Int.toNat_natCast] at h1 h2
                      have hue : E u v = true := by rw [HEz.out.wf.sym]; exact h2
                      have hgu : g u = false := (HEz.out.wf.al u v hue).1
                      have huv : u ≠ v := fun e => by rw [e, HEz.out.wf.irr] at hue; cases hue
                      obtain ⟨ua, uc, cu, hui⟩ := hM.get h1
                      obtain ⟨lu, Hlu⟩ : ∃ l, Hid ((rL nl (Q1 u)).length = l) := ⟨_, (rfl : (rL nl (Q1 u)).length = _)⟩
                      rw [Hlu.out] at cu hui
                      have hlu3 : (rL nl (Q1 u)).length ≤ 1000000 := by have := rL_len nl (Q1 u); omega
                      have hal := bel_alloc (bel_refl wr) (.cells #[.int .i64 (v : Int)] 3)
                      have hsz : nb < wr.heap.size ∧ gb < wr.heap.size := ⟨hM.nr.lt, hM.gr.lt⟩
                      have hFi := filter_c (wr.alloc (.cells #[.int .i64 (v : Int)] 3)) false (hui.keep (fun b hb hlt => ⟨by simp; omega, hal.block b hlt⟩)) (ints_of_row (xs := [(v : Int)]) (heap_alloc_eq _ _ _ rfl) (by simp) (by simp)) hlu3
                      rw [filterS_rL] at hFi
                      have HFI := hid_of hFi
                      have HKL := hid_of (hIL.kl hgu huv hix Hu.out)
                      have HM := hid_of hM
                      have HAL := hid_of hal
                      have huz : (u : Int) < (nl : Int) := by omega
                      have hiz : (i : Int) < (ln : Int) := by omega
                      have HUV := hid_of huv
                      have hul : u < nl := h1
                      clear hIL hM hvi hrow hgk h0 h1 h2 hue hgu huv hui hlu3 hFi hal HI
                      go_wp2_with fail
                      refine HFI.out.mono ?_
                      rintro e W6 ⟨z, rfl, hz, hb6⟩
                      have hM6 := HM.out.below (bel_call HAL.out hb6)
                      have hz6 : IsInts (fun b => nb < b ∧ b ≠ gb) W6 z (rL nl fun m => Q1 u m && decide (m ≠ v)) := ints_of_owns hz (by have := rL_len nl (fun m => Q1 u m && decide (m ≠ v)); omega) (fun b _ h1 _ => by simp at h1; exact ⟨by omega, by omega⟩)
                      obtain ⟨za, zn, zc, rfl⟩ := ints_slice hz6
                      have hM7 := hM6.setn (k := u) hz6
                      have hgf := hM6.nr.frozen u
                      obtain ⟨_, _, cg, -⟩ := hM6.get hul
                      have HK0 : Hid (∃ Q, KL nl E g v i u 0 Q ∧ EzR w nl nb gb Q (outE g v) (W6.setCell ⟨nb, u, none⟩ (.slice za zn zc))) := ⟨_, HKL.out, hM7⟩
                      clear cn cu cv hz hb6 hM6 hz6 hM7 HFI HKL HM HAL
                      go_wp2_with fail
                      clear cg hgf
                      go_loopw [12] (fun s12 wx => ∃ j : Nat, j ≤ ln ∧ s12 = .int .i64 j ∧ Hid (∃ Q, KL nl E g v i u j Q ∧ EzR w nl nb gb Q (outE g v) wx)) (fun s12 _ => ln - (intOf s12).toNat)
                      case atStart => exact ⟨0, by omega, rfl, HK0⟩
                      case round =>
                        obtain ⟨j, hj, rfl, HJ⟩ := hrel
                        clear HK0
                        obtain ⟨Q2, hKL, hM⟩ := HJ.out
                        obtain ⟨va3, vc3, cv, hvi⟩ := hM.get hvt
                        have hrow : rL nl (Q2 v) = rL nl (E v) := rL_congr fun m hm => hKL.own m hm
                        rw [hrow] at cv hvi
                        rw [Hln.out] at cv hvi
                        by_cases hjt : j < ln
                        · have hjx : j < (rL nl (E v)).length := by rw [Hln.out]; exact hjt
                          obtain ⟨nb3, no3, rfl, -, cn⟩ := ints_at hvi hjx
                          have hgk : (rL nl (E v)).getD j 0 = (rL nl (E v))[j] := by simp [List.getD, hjx]
                          rw [hgk] at cn
                          obtain ⟨h0, h1, -⟩ := mem_rL.1 (List.getElem_mem hjx)
                          obtain ⟨y, Hy⟩ : ∃ y : Nat, Hid ((rL nl (E v))[j] = y) := ⟨(rL nl (E v))[j].toNat, by show _ = _; omega⟩
                          rw [Hy.out] at cn h1
                          rw [Int.toNat_natCast] at h1
                          have hjz : (j : Int) < (ln : Int) := by omega
                          by_cases hyu : y = u
                          · subst hyu
                            have HK1 : Hid (∃ Q, KL nl E g v i y (j + 1) Q ∧ EzR w nl nb gb Q (outE g v) wr) := ⟨Q2, hKL.skip hjx Hy.out, hM⟩
                            have hnn : ((y : Int) != (y : Int)) = false := by simp
                            clear hKL hM hvi hrow hgk h0 h1 HJ
                            go_wp2_with fail
                            go_roundw
                            case rel => exact ⟨j + 1, by omega, by go_num, HK1⟩
                            case measure => simp [intOf]; omega
                          · have hyz : ((y : Int) != (u : Int)) = true := by simp; omega
                            obtain ⟨ua, uc, cu, hui⟩ := hM.get hul
                            obtain ⟨lu, Hlu⟩ : ∃ l, Hid ((rL nl (Q2 u)).length = l) := ⟨_, (rfl : (rL nl (Q2 u)).length = _)⟩
                            rw [Hlu.out] at cu hui
                            have hlu3 : (rL nl (Q2 u)).length ≤ 1000000 := by have := rL_len nl (Q2 u); omega
                            have hPt : ∀ q, Calls Try.prog 30 #[.slice ua lu uc, .int .i64 (y : Int)] (wr.drewN q) fun e w' => ∃ za zn zc vo, e = .returned (.slice za zn zc) ∧ w'.cell? ⟨nb, u, none⟩ = some vo ∧ w'.frozen? ⟨nb, u, none⟩ = false ∧ EzR w nl nb gb (updQ Q2 u fun m => Q2 u m || decide (m = y)) (outE g v) (w'.setCell ⟨nb, u, none⟩ (.slice za zn zc)) := fun q => by
                              refine (put_c (wr.drewN q) (y : Int) (hui.keep (p' := fun b => nb < b ∧ b ≠ gb) (w' := wr.drewN q) (fun b hb _ => ⟨hb, rfl⟩)) hlu3).mono ?_
                              rintro e w' ⟨z, rfl, hz, hb⟩
                              rw [putS_rL h1 (by omega)] at hz
                              have hM6 := hM.below (bel_call (bel_drewN (bel_refl wr) q) hb)
                              have hz6 := hz.mono (p' := fun b => nb < b ∧ b ≠ gb) (fun b hb => by
                                rcases hb with hb | hb
                                · exact hb
                                · have : wr.heap.size ≤ b := hb
                                  have := hM.nr.lt
                                  have := hM.gr.lt
                                  exact ⟨by omega, by omega⟩)
                              obtain ⟨za, zn, zc, rfl⟩ := ints_slice hz6
                              obtain ⟨_, _, cg, -⟩ := hM6.get hul
                              exact ⟨za, zn, zc, _, rfl, cg, hM6.nr.frozen u, hM6.setn hz6⟩
                            have HKP := hid_of (hKL.put HUV.out hjx Hy.out hyu)
                            have hun : (u : Int) < (nl : Int) := by omega
                            clear hKL hM hvi hrow hgk h0 h1 HJ hui hlu3 hyu
                            go_wp2_with fail
                            go_region_law (first
                              | (go_simp; go_at_call 30; refine (hPt _).mono ?_; rintro e6 Y6 ⟨za, zn, zc, vo, rfl, h61, h62, h63⟩))
                            all_goals clear cn cu cv hPt h61 h62
                            all_goals (try go_wp2_with fail)
                            all_goals go_roundw
                            all_goals first | exact ⟨j + 1, by omega, by go_num, ⟨_, HKP.out, h63⟩⟩ | (simp [intOf]; omega)
                        · obtain rfl : j = ln := by omega
                          rw [← Hln.out] at hKL
                          have HI2 : Hid (∃ Q, IL nl E g v (i + 1) Q ∧ EzR w nl nb gb Q (outE g v) wr) := ⟨Q2, hKL.done HEz.out.wf hix Hu.out, hM⟩
                          clear hKL hM hvi hrow HJ
                          go_wp2_with fail
                          go_roundw
                          case rel => exact ⟨i + 1, by omega, by go_num, HI2⟩
                          case measure => simp [intOf]; omega
                    · obtain rfl : i = ln := by omega
                      rw [← Hln.out] at hIL
                      have HV2 : Hid (EzV w nl nb gb (edE Es) c0 (v + 1) true wr) := by
                        have h1 := cnt_out (n := nl) hvt HGV.out
                        have h2 := HC2.out
                        exact ⟨_, _, Q1, HEz.out.step hvt HGV.out (by rw [HDG.out]; exact hd2), hIL.done HEz.out.wf, hM, fun _ => by omega, by omega, fun h => by cases h⟩
                      clear hIL hM hvi hrow HI
                      go_wp2_with fail
                      go_roundw
                      case rel => exact ⟨v + 1, true, by omega, by go_num, rfl, HV2⟩
                      case measure => simp [intOf]; omega
                · have hlz : (2 : Int) < (ln : Int) := by omega
                  have HV2 : Hid (EzV w nl nb gb (edE Es) c0 (v + 1) ag wr) := ⟨E, g, Q, hEz, hRw, hM, hc1, hc2, fun h j hj hgj => by
                    by_cases e : j = v
                    · rw [e, HDG.out]; omega
                    · exact hst h j (by omega) hgj⟩
                  clear hEz hRw hM hc1 hc2 hst hvi hrow hgv HV hd2
                  go_wp2_with fail
                  go_roundw
                  case rel => exact ⟨v + 1, ag, by omega, by go_num, rfl, HV2⟩
                  case measure => simp [intOf]; omega
              · rw [hgv] at gc
                have HV2 : Hid (EzV w nl nb gb (edE Es) c0 (v + 1) ag wr) := ⟨E, g, Q, hEz, hRw, hM, hc1, hc2, fun h j hj hgj => by
                  by_cases e : j = v
                  · rw [e, hgv] at hgj; cases hgj
                  · exact hst h j (by omega) hgj⟩
                clear hEz hRw hM hc1 hc2 hst hgv HV
                go_wp2_with fail
                go_roundw
                case rel => exact ⟨v + 1, ag, by omega, by go_num, rfl, HV2⟩
                case measure => simp [intOf]; omega
            · obtain rfl : v = nl := by omega
              obtain ⟨E, g, Q, hEz, hRw, hM, hc1, hc2, hst⟩ := HV.out
              have HA2 : Hid (EzA w v nb gb (edE Es) (gk - 1) ag wr) := ⟨E, g, Q, hEz, hRw, hM, fun h => by have := hc1 h; omega, fun h j hj hgj => hst h j hj hgj⟩
              clear hEz hRw hM hc1 hc2 hst HV
              go_wp2_with fail
              go_roundg (gk - 1)
              case rel => exact ⟨ag, rfl, HA2⟩
              case measure => omega
end Go.Proofs.Ytdomnbgjafdnjaa
