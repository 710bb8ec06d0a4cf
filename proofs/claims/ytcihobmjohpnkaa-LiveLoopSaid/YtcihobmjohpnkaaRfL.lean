/- The reference's 'Live': the walk. -/
import Derived.Test.YtcihobmjohpnkaaIRow
import Derived.Deep.LoopGhost
import Derived.Outline
namespace Go.Proofs.Ytcihobmjohpnkaa
open Go.RowKit Go.Sort

/-- What 'Live' has in memory while it runs. -/
structure RfSt (w : World) (B : Nat) (fc : List Value) (I O : List (List Int)) (W : World) : Prop where
  fb : Row W B 44 fc
  rI : IRow (B + 3 ≤ ·) (B + 1) I W
  rO : IRow (B + 3 ≤ ·) (B + 1 + 1) O W
  bel : Below B w W
theorem RfSt.below {w : World} {B : Nat} {fc : List Value} {I O : List (List Int)} {W W' : World} (h : RfSt w B fc I O W) (hb : Below W.heap.size W W') : RfSt w B fc I O W' :=
  ⟨h.fb.keep (hb.block _ h.fb.lt), h.rI.below hb, h.rO.below hb, h.bel.trans (hb.mono (Nat.le_of_lt h.fb.lt))⟩
theorem RfSt.setI {w : World} {B : Nat} {fc : List Value} {I O : List (List Int)} {W : World} (h : RfSt w B fc I O W) {z : Value} {ws : List Int} (hz : IsInts (B + 3 ≤ ·) W z ws) (j : Nat) : RfSt w B fc (I.set j ws) O (W.setCell ⟨B + 1, j, none⟩ z) :=
  ⟨h.fb.other (by show B ≠ B + 1; omega) z, h.rI.set hz j, h.rO.other (by show B + 1 + 1 ≠ B + 1; omega) (by show ¬ B + 3 ≤ B + 1; omega) z, h.bel.setCell (by show B ≤ B + 1; omega) z⟩
theorem RfSt.setO {w : World} {B : Nat} {fc : List Value} {I O : List (List Int)} {W : World} (h : RfSt w B fc I O W) {z : Value} {ws : List Int} (hz : IsInts (B + 3 ≤ ·) W z ws) (j : Nat) : RfSt w B fc I (O.set j ws) (W.setCell ⟨B + 1 + 1, j, none⟩ z) :=
  ⟨h.fb.other (by show B ≠ B + 1 + 1; omega) z, h.rI.other (by show B + 1 ≠ B + 1 + 1; omega) (by show ¬ B + 3 ≤ B + 1 + 1; omega) z, h.rO.set hz j, h.bel.setCell (by show B ≤ B + 1 + 1; omega) z⟩

def foldO (I : List (List Nat)) (ks : List Int) : List Nat := ks.foldl (fun o k => Bit.orW o (I.getD k.toNat [])) []

theorem foldO_succ (I : List (List Nat)) {ks : List Int} {m yn : Nat} (h : m < ks.length) (he : ks[m] = (yn : Int)) : foldO I (ks.take (m + 1)) = Bit.orW (foldO I (ks.take m)) (I.getD yn []) := by
  unfold foldO
  rw [List.take_succ_eq_append_getElem h, List.foldl_append, he]
  rfl
theorem foldO_good {I : List (List Nat)} (h : ∀ ws ∈ I, Good1 ws) (ks : List Int) : Good1 (foldO I ks) := good_fold h ks [] good_nil
def backD (l : List InsD) (r : Nat) (o : List Nat) : List Nat := (l.drop r).reverse.foldl backW o
theorem backD_succ {l : List InsD} {q : Nat} (h : q < l.length) (o : List Nat) : backD l q o = backW (backD l (q + 1) o) l[q] := by
  unfold backD; rw [drop_rev h, List.foldl_append]; rfl
theorem backD_all (l : List InsD) (o : List Nat) : backD l l.length o = o := by unfold backD; simp
theorem backD_good (l : List InsD) (r : Nat) {o : List Nat} (h : Good1 o) : Good1 (backD l r o) := foldl_back _ o h.2 h.1

set_option maxRecDepth 100000 in
set_option maxHeartbeats 20000000 in
theorem liveR_c (w : World) (nm : ByteArray) (va : Option Addr) (vn vc : Nat) (pa : Option Addr) (pn pc : Nat) (re : ByteArray) (ba : Option Addr) (n bc : Nat) {L : List (List InsD)}
    (h : IsBlocks (· < w.heap.size) w (.slice ba n bc) L) (hl : n ≤ 1000) (hbd : ∀ l ∈ L, l.length ≤ 100000 ∧ ∀ i ∈ l, i.args.length ≤ 400000) :
    Calls Try.prog 44 #[funcV nm va vn vc pa pn pc re ba n bc] w fun e w' => ∃ I O vi vo, e = .returned (.tuple #[vi, vo]) ∧ IsLive L I O ∧ IsRows (w.heap.size ≤ ·) w' vi (I.map listI) ∧ IsRows (w.heap.size ≤ ·) w' vo (O.map listI) ∧ Below w.heap.size w w' := by
  have hnL : n = L.length := by obtain ⟨_, _, hv0, hl0, hx⟩ := id h; simp only [Value.slice.injEq] at hv0; exact hv0.2.1
  have HNL := hid_of hnL
  have HBD := hid_of hbd
  have HA0 : Hid (LiveAt L (List.replicate n []) (List.replicate n [])) := by rw [hnL]; exact LiveAt.start L
  unfold funcV
  clear hnL hbd
  go_enter Try.func44, Try.ntmps44
  go_wp2_with (at_make; refine stop_here ?_)
  refine stop_go (mk_rowsI rfl _ _ rfl n rfl rfl (by omega) ?_)
  go_wp2_with (at_make; refine stop_here ?_)
  refine stop_go (mk_rowsI rfl _ _ rfl n rfl rfl (by omega) ?_)
  refine k_at (fun W => RfSt w w.heap.size (funcC nm va vn vc pa pn pc re ba n bc) ((List.replicate n ([] : List Nat)).map listI) ((List.replicate n ([] : List Nat)).map listI) W) ?_ ?_
  · have e0 : (List.replicate n ([] : List Nat)).map listI = List.replicate n [] := by rw [List.map_replicate]; rfl
    rw [e0]
    refine ⟨heap_alloc_ne _ _ _ _ (heap_alloc_ne _ _ _ _ (heap_alloc_eq _ _ _ rfl)), IRow.start (heap_alloc_ne _ _ _ _ (heap_alloc_eq _ _ _ (by simp))) (by omega), IRow.start (heap_alloc_eq _ _ _ (by simp)) (by omega), bel_alloc (bel_alloc (bel_alloc (bel_refl w) _) _) _⟩
  · intro W0 hI0
    simp only [World.size_alloc]
    go_wp2_with fail
    go_loopg [7] (leftW L (List.replicate n []) (List.replicate n []) + 1) (fun g s7 wx => ∃ (ag : Bool) (I O : List (List Nat)), s7 = .bool ag ∧ Hid (LiveAt L I O ∧ (ag = false → IsLive L I O) ∧ leftW L I O + (if ag = true then 1 else 0) ≤ g) ∧
        RfSt w w.heap.size (funcC nm va vn vc pa pn pc re ba n bc) (I.map listI) (O.map listI) wx)
    case atStart => exact ⟨true, _, _, rfl, (⟨HA0.out, by simp, by simp⟩ : LiveAt L (List.replicate n []) (List.replicate n []) ∧ (true = false → IsLive L (List.replicate n []) (List.replicate n [])) ∧ leftW L (List.replicate n []) (List.replicate n []) + (if true = true then 1 else 0) ≤ leftW L (List.replicate n []) (List.replicate n []) + 1), hI0⟩
    case round =>
      obtain ⟨ag, I, O, rfl, HA, hI1⟩ := hrel
      clear hI0 HA0
      cases ag with
      | false =>
        have hL := HA.out.2.1 rfl
        have iI := hI1.rI.rows (p' := (w.heap.size ≤ ·)) (by omega) (fun b hb => by omega) (by rw [List.length_map, hL.lI, ← HNL.out]; omega)
        have iO := hI1.rO.rows (p' := (w.heap.size ≤ ·)) (by omega) (fun b hb => by omega) (by rw [List.length_map, hL.lO, ← HNL.out]; omega)
        rw [List.length_map, hL.lI, ← HNL.out] at iI
        rw [List.length_map, hL.lO, ← HNL.out] at iO
        have HF := hid_of (And.intro hL (And.intro iI (And.intro iO hI1.bel)))
        clear hL iI iO
        go_wp2_with fail
        go_ret2
        exact ⟨I, O, _, _, rfl, HF.out.1, HF.out.2.1, HF.out.2.2.1, HF.out.2.2.2⟩
      | true =>
        obtain ⟨wo, rfl⟩ : ∃ wo : World, wo = wr := ⟨_, rfl⟩
        obtain ⟨g0, Hg0⟩ : ∃ g0, Hid (g0 = gk) := ⟨gk, (rfl : gk = gk)⟩
        go_wp2_with fail
        go_loopw [7, 8] (fun s7 s8 wx => ∃ r : Nat, r ≤ n ∧ s8 = .int .i64 ((r : Int) - 1) ∧ s7 = .bool (turnW L I O (n - r)) ∧ RfSt w w.heap.size (funcC nm va vn vc pa pn pc re ba n bc) ((sweepW L I O (n - r)).1.map listI) ((sweepW L I O (n - r)).2.1.map listI) wx) (fun _ s8 _ => (intOf s8 + 1).toNat)
        case atStart =>
          refine ⟨n, Nat.le_refl _, rfl, ?_, ?_⟩
          · rw [Nat.sub_self]; rfl
          · rw [Nat.sub_self]; exact hI1
        case round =>
          obtain ⟨r, hr, rfl, rfl, hI2⟩ := hrel
          rcases r with _ | q
          · have eq0 : (((0 : Nat) : Int) - 1) = -1 := rfl
            rw [eq0]
            clear eq0 hI1
            rw [Nat.sub_zero] at hI2 ⊢
            have hle := HA.out.1.left_le
            have hA2 := HA.out.1.sweep L.length
            have hdn := HA.out.1.doneR
            have hfl := turn_flag L I O L.length
            rw [← HNL.out] at hle hA2 hdn hfl
            have hg1 := HA.out.2.2
            rw [if_pos trivial] at hg1
            have HA' : Hid (LiveAt L (sweepW L I O n).1 (sweepW L I O n).2.1 ∧ (turnW L I O n = false → IsLive L (sweepW L I O n).1 (sweepW L I O n).2.1) ∧ leftW L (sweepW L I O n).1 (sweepW L I O n).2.1 + (if turnW L I O n = true then 1 else 0) < g0) := by
              refine ⟨hA2, hdn, ?_⟩
              have := Hg0.out
              by_cases ht : turnW L I O n = true
              · rw [if_pos (hfl ht)] at hle; rw [if_pos ht]; omega
              · rw [if_neg ht]; split at hle <;> omega
            clear hle hA2 hdn hg1 HA hfl
            generalize sweepW L I O n = S at HA' hI2
            generalize turnW L I O n = fl at HA' ⊢
            obtain ⟨I1, O1, fl2⟩ := S
            dsimp only at HA' hI2 ⊢
            go_wp2_with fail
            go_roundg (leftW L I1 O1 + (if fl = true then 1 else 0))
            case measure => have := HA'.out.2.2; have := Hg0.out; omega
            case rel => exact ⟨fl, I1, O1, rfl, (⟨HA'.out.1, HA'.out.2.1, Nat.le_refl _⟩ : LiveAt L I1 O1 ∧ (fl = false → IsLive L I1 O1) ∧ leftW L I1 O1 + (if fl = true then 1 else 0) ≤ leftW L I1 O1 + (if fl = true then 1 else 0)), hI2⟩
          · have eq1 : (((q + 1 : Nat) : Int) - 1) = (q : Int) := by omega
            rw [eq1]
            clear eq1 hI1
            have e1 : n - q = (n - (q + 1)) + 1 := by omega
            have e2 : L.length - 1 - (n - (q + 1)) = q := by rw [← HNL.out]; omega
            have HS : Hid (sweepW L I O (n - q) = stepW L (sweepW L I O (n - (q + 1))) q) := by
              rw [e1, sweepW_succ, e2]
              exact (rfl : stepW L (sweepW L I O (n - (q + 1))) q = _)
            have HT : Hid (turnW L I O (n - q) = (turnW L I O (n - (q + 1)) || decide (inW L (sweepW L I O (n - (q + 1))).1 q ≠ (sweepW L I O (n - (q + 1))).1.getD q []))) := by
              have := turnW_succ L I O (n - (q + 1))
              rw [e2] at this
              rw [e1]; exact this
            have HA2 := hid_of (HA.out.1.sweep (n - (q + 1)))
            clear e1 e2
            generalize sweepW L I O (n - (q + 1)) = S at HS HT HA2 hI2
            generalize turnW L I O (n - (q + 1)) = fl at HT ⊢
            obtain ⟨I1, O1, fl2⟩ := S
            dsimp only at HS HT HA2 hI2 ⊢
            have c0 := hI2.fb.cell (k := 4) (v := .slice ba n bc) rfl
            have hbk := h.keep (Keep.belowB hI2.bel)
            have hq1 : (0 : Int) ≤ (q : Int) := by omega
            have hq2 : (q : Int) < (n : Int) := by omega
            obtain ⟨wb, rfl⟩ : ∃ wb : World, wb = wr := ⟨_, rfl⟩
            have hwb := hI2.rO.lt
            go_wp2_with fail
            refine (succsR_c wb (q : Int) hbk).mono ?_
            rintro e W1 ⟨u, rfl, hu, hb1⟩
            have hrng := succS_range L (q : Int)
            rw [← HNL.out] at hrng
            have hsl := succS_length L (q : Int)
            have EO : Hid (outW L I1 q = foldO I1 (succS L q)) := (rfl : outW L I1 q = foldO I1 (succS L q))
            generalize succS L (q : Int) = ys at hu hrng hsl EO
            obtain ⟨ua, uc, rfl, -⟩ := owns_slice hu
            have HR := hid_of hrng
            have i1 : IsInts (· < W1.heap.size) W1 (.slice ua ys.length uc) ys := ints_of_owns hu (by omega) (fun b _ _ h2 => h2)
            have hI3 := hI2.below hb1
            have hs1 := hb1.size
            have hB1 : w.heap.size + 3 ≤ W1.heap.size := by omega
            clear hI2 hu hb1 hrng c0 hbk hwb
            go_wp2_with fail
            go_loopw [9, 11] (fun s9 s11 wx => ∃ m : Nat, m ≤ ys.length ∧ s11 = .int .i64 m ∧ IsInts (w.heap.size + 3 ≤ ·) wx s9 (listI (foldO I1 (ys.take m))) ∧ Below W1.heap.size W1 wx) (fun _ s11 _ => ys.length - (intOf s11).toNat)
            case atStart => exact ⟨0, by omega, rfl, ints_nil _ _, bel_refl _⟩
            case round =>
              obtain ⟨m, hm, rfl, hi9, hB9⟩ := hrel
              obtain ⟨oa, oc, rfl, -, -⟩ := id hi9
              by_cases hmt : m < ys.length
              · obtain ⟨_, _, hv0, -, hx⟩ := id i1
                simp only [Value.slice.injEq, true_and] at hv0
                obtain ⟨rfl, rfl⟩ := hv0
                rcases hx with hx | ⟨sb, so, rfl, hpb, hx⟩
                · rw [hx] at hmt; simp at hmt
                have t0 := hx m hmt
                simp only [CInt, Nat.mul_one] at t0
                obtain ⟨hy0, hyn⟩ := HR.out ys[m] (List.getElem_mem hmt)
                obtain ⟨yn, hye⟩ : ∃ yn : Nat, ys[m] = yn := ⟨ys[m].toNat, by omega⟩
                have EF := hid_of (foldO_succ I1 hmt hye)
                rw [hye] at t0 hyn
                have hyn' : yn < n := by omega
                replace t0 := (hB9.cell (p := ⟨sb, so + m, none⟩) hpb).trans t0
                have gF := good_getD HA2.out.gI yn
                have gO := foldO_good HA2.out.gI (ys.take m)
                have hI5 := hI3.below hB9
                obtain ⟨ia, ic, g4, gw4⟩ := hI5.rI.get (j := yn) (by rw [List.length_map, HA2.out.lI, ← HNL.out]; exact hyn')
                rw [map_getD_listI] at g4 gw4
                have GG := hid_of (And.intro gF gO)
                obtain ⟨F, HF⟩ : ∃ F, Hid (I1.getD yn [] = F) := ⟨_, (rfl : I1.getD yn [] = _)⟩
                rw [HF.out] at g4 gw4
                have hFl : (listI F).length ≤ 65536 := by rw [← HF.out]; exact listI_good gF
                have hOl : (listI (foldO I1 (ys.take m))).length ≤ 65536 := listI_good gO
                obtain ⟨wm, rfl⟩ : ∃ wm : World, wm = wr := ⟨_, rfl⟩
                have hlm := lt_of_cell t0
                have hlg := lt_of_cell g4
                clear hx hye hy0 gF gO hI5
                go_wp2_with fail
                go_loopw [9, 12] (fun s9 s12 wx => ∃ j : Nat, j ≤ (listI F).length ∧ s12 = .int .i64 j ∧ IsInts (w.heap.size + 3 ≤ ·) wx s9 (((listI F).take j).foldl putS (listI (foldO I1 (ys.take m)))) ∧ Below wm.heap.size wm wx) (fun _ s12 _ => (listI F).length - (intOf s12).toNat)
                case atStart => exact ⟨0, by omega, rfl, hi9, bel_refl _⟩
                case round =>
                  obtain ⟨j, hj, rfl, hi10, hB10⟩ := hrel
                  obtain ⟨oa2, oc2, rfl, -, -⟩ := id hi10
                  have t1 := (hB10.cell (p := ⟨sb, so + m, none⟩) hlm).trans t0
                  have g5 := (hB10.cell (p := ⟨w.heap.size + 1, yn, none⟩) hlg).trans g4
                  have hyn2 : (yn : Int) < (n : Int) := by omega
                  by_cases hjt : j < (listI F).length
                  · obtain ⟨_, _, hv1, -, hx⟩ := id gw4
                    simp only [Value.slice.injEq, true_and] at hv1
                    obtain ⟨rfl, rfl⟩ := hv1
                    rcases hx with hx | ⟨fb, fo, rfl, hpf, hx⟩
                    · rw [hx] at hjt; simp at hjt
                    have t2 := hx j hjt
                    simp only [CInt, Nat.mul_one] at t2
                    have hlf := lt_of_cell t2
                    replace t2 := (hB10.cell (p := ⟨fb, fo + j, none⟩) hlf).trans t2
                    have HE : Hid (((listI F).take (j + 1)).foldl putS (listI (foldO I1 (ys.take m))) = putS (((listI F).take j).foldl putS (listI (foldO I1 (ys.take m)))) (listI F)[j]) := by
                      rw [List.take_succ_eq_append_getElem hjt]; exact fold_put_snoc _ _ _
                    have hfl2 := fold_put_length ((listI F).take j) (listI (foldO I1 (ys.take m)))
                    have htl : ((listI F).take j).length ≤ 65536 := by rw [List.length_take]; omega
                    have HP := hid_of (put_c wr (listI F)[j] hi10 (by omega))
                    obtain ⟨x, hx2⟩ : ∃ x, (listI F)[j] = x := ⟨_, rfl⟩
                    rw [hx2] at t2 HE HP
                    clear hx hx2 hfl2 htl hi10
                    go_wp2_with fail
                    refine HP.out.mono ?_
                    rintro e W6 ⟨z, rfl, hz, hb6⟩
                    rw [← HE.out] at hz
                    have hsz := hB10.size
                    have hsz9 := hB9.size
                    have hz2 := hz.keep (p' := (w.heap.size + 3 ≤ ·)) (Keep.refl W6 fun b hb _ => by rcases hb with hb | hb <;> omega)
                    have hB11 := bel_call hB10 hb6
                    clear HP hz hb6 hB10 HE t1 t2 g5
                    go_wp2_with fail
                    go_roundw
                    case rel => exact ⟨j + 1, by omega, by go_num, hz2, hB11⟩
                    case measure => simp [intOf]; omega
                  · obtain rfl : j = (listI F).length := by omega
                    have e3 : ((listI F).take (listI F).length).foldl putS (listI (foldO I1 (ys.take m))) = listI (foldO I1 (ys.take (m + 1))) := by
                      rw [List.take_length, EF.out, HF.out, put_all _ _ (by rw [← HF.out]; exact GG.out.1.2)]
                    rw [e3] at hi10 ⊢
                    have hB11 := bel_call hB9 hB10
                    clear e3 hB10
                    go_wp2_with fail
                    go_roundw
                    case rel => exact ⟨m + 1, by omega, by go_num, hi10, hB11⟩
                    case measure => simp [intOf]; omega
              · obtain rfl : m = ys.length := by omega
                rw [List.take_length, ← EO.out] at hi9 ⊢
                have hI4 := hI3.below hB9
                have hB4 := hB1
                have hsz9 := hB9.size
                have hlq : q < L.length := by rw [← HNL.out]; omega
                obtain ⟨_, _, hv0, -, hx⟩ := id h
                simp only [Value.slice.injEq] at hv0
                obtain ⟨rfl, -, rfl⟩ := hv0
                rcases hx with hx | ⟨b, off, rfl, hpb, hx⟩
                · rw [hx] at hlq; simp at hlq
                obtain ⟨vi, c1, ai, capi, rfl, ⟨hli0, hli⟩, hxi⟩ := hx q hlq
                rw [Nat.mul_one] at c1
                have hbl := HBD.out _ (List.getElem_mem hlq)
                have hLk : L.getD q [] = L[q] := by simp [List.getD, hlq]
                obtain ⟨l, hl1, HLk⟩ : ∃ l, L[q] = l ∧ Hid (L.getD q [] = l) := ⟨L[q], rfl, hLk⟩
                rw [hl1] at c1 hli0 hli hxi hbl
                have gOut := good_out L HA2.out.gI q
                have EI := hid_of (inW_back L HA2.out.gI q)
                have gIn := hid_of (good_in L HA2.out.gI q)
                obtain ⟨ob, Hob⟩ : ∃ ob, Hid (outW L I1 q = ob) := ⟨_, (rfl : outW L I1 q = _)⟩
                rw [Hob.out] at hi9 gOut EI ⊢
                have EB : Hid (backD l 0 ob = inW L I1 q) := by rw [EI.out, HLk.out]; exact (rfl : backD l 0 ob = _)
                have HOG := hid_of gOut
                obtain ⟨hbl1, hbl2⟩ := hbl
                have HB2 := hid_of hbl2
                replace c1 := (hI4.bel.cell (p := ⟨b, off + q, none⟩) hpb).trans c1
                have c4 := hI4.fb.cell (k := 4) (v := .slice (some ⟨b, off, none⟩) n bc) rfl
                obtain ⟨wm, rfl⟩ : ∃ wm : World, wm = wr := ⟨_, rfl⟩
                have hlc1 := lt_of_cell c1
                have hlc4 := lt_of_cell c4
                clear hx hl1 hLk hlq hbl2 gOut EI hmt hm EO HR i1 hI3
                go_wp2_with fail
                go_loopw [13, 14] (fun s13 s14 wx => ∃ r : Nat, r ≤ l.length ∧ s14 = .int .i64 ((r : Int) - 1) ∧ IsInts (w.heap.size + 3 ≤ ·) wx s13 (listI (backD l r ob)) ∧ Below wm.heap.size wm wx) (fun _ s14 _ => (intOf s14 + 1).toNat)
                case atStart => exact ⟨l.length, Nat.le_refl _, rfl, by rw [backD_all]; exact hi9, bel_refl _⟩
                case round =>
                  obtain ⟨r, hr2, rfl, hi13, hB13⟩ := hrel
                  obtain ⟨xa, xc, rfl, -, -⟩ := id hi13
                  rcases r with _ | q2
                  · have eq0 : (((0 : Nat) : Int) - 1) = -1 := rfl
                    rw [eq0, EB.out]
                    rw [EB.out] at hi13
                    have hI6 := hI4.below hB13
                    obtain ⟨ia, ic, g6, gw6⟩ := hI6.rI.get (j := q) (by rw [List.length_map, HA2.out.lI, ← HNL.out]; omega)
                    rw [map_getD_listI] at g6 gw6
                    obtain ⟨ja, jc, g7, -⟩ := hI6.rO.get (j := q) (by rw [List.length_map, HA2.out.lO, ← HNL.out]; omega)
                    have f6 := hI6.rI.frozen q
                    have f7 := hI6.rO.frozen q
                    have hSm := sameInts_c wr hi13 gw6
                    have gPrev := good_getD HA2.out.gI q
                    have hb : sameS (listI (inW L I1 q)) (listI (I1.getD q [])) = decide (inW L I1 q = I1.getD q []) := by
                      unfold sameS
                      rw [decide_eq_decide]
                      exact ⟨fun e => listI_inj gIn.out gPrev e, fun e => by rw [e]⟩
                    rw [hb] at hSm
                    have hb13 := hi13
                    have hx9 := hi9.keep (p' := (w.heap.size + 3 ≤ ·)) (Keep.below hB13)
                    have HI6 := hid_of hI6
                    have H13 := hid_of hi13
                    have HX9 := hid_of hx9
                    obtain ⟨b1, Hb1⟩ : ∃ b1, Hid (decide (inW L I1 q = I1.getD q []) = b1) := ⟨_, (rfl : decide (inW L I1 q = I1.getD q []) = _)⟩
                    rw [Hb1.out] at hSm
                    have eS := HS.out
                    unfold stepW at eS
                    dsimp only at eS
                    have e1 : (sweepW L I O (n - q)).1.map listI = (I1.map listI).set q (listI (inW L I1 q)) := by rw [eS, map_set_listI]
                    have e2 : (sweepW L I O (n - q)).2.1.map listI = (O1.map listI).set q (listI ob) := by rw [eS, ← Hob.out, map_set_listI]
                    have e3 : turnW L I O (n - q) = (fl || !b1) := by rw [HT.out, ← Hb1.out]; simp
                    have HE1 := hid_of e1
                    have HE2 := hid_of e2
                    have HE3 := hid_of e3
                    have HSm := hid_of hSm
                    clear eq0 hxi hb hb13 hi13 hi9 hx9 gw6 gPrev hSm eS e1 e2 e3 hI6 hI4
                    cases b1
                    all_goals
                      go_wp2_with fail
                      refine HSm.out.mono ?_
                      rintro e W6 ⟨rfl, nd, rfl⟩
                      go_wp2_with fail
                      have hA1 := (HI6.out.below (bel_drewN (bel_refl wr) nd)).setI (H13.out.keep (p' := (w.heap.size + 3 ≤ ·)) (Keep.below (bel_drewN (bel_refl wr) nd))) q
                      have hA2 := hA1.setO ((HX9.out.keep (p' := (w.heap.size + 3 ≤ ·)) (Keep.below (bel_drewN (bel_refl wr) nd))).keep (p' := (w.heap.size + 3 ≤ ·)) (Keep.setCell (a := ⟨w.heap.size + 1, q, none⟩) (u := .slice xa (listI (inW L I1 q)).length xc) fun b hb _ => ⟨hb, by show b ≠ w.heap.size + 1; omega⟩)) q
                      rw [← HE1.out, ← HE2.out] at hA2
                      go_roundw
                      case rel => exact ⟨q, by omega, rfl, by rw [HE3.out]; simp, hA2⟩
                      case measure => simp [intOf]
                  · have eq1 : (((q2 + 1 : Nat) : Int) - 1) = (q2 : Int) := by omega
                    rw [eq1]
                    clear eq1
                    have hql : q2 < l.length := by omega
                    rcases hxi with hxi | ⟨lb, lo, rfl, hplb, hxi⟩
                    · rw [hxi] at hql; simp at hql
                    have hI6 := hI4.below hB13
                    have hci := CIns.keep (p := (· < w.heap.size)) (p' := (· < w.heap.size)) hplb (hxi q2 hql) (Keep.belowB hI6.bel)
                    have k1 := (hB13.cell (p := ⟨b, off + q, none⟩) hlc1).trans c1
                    have k4 := (hB13.cell (p := ⟨w.heap.size, 4, none⟩) hlc4).trans c4
                    have EG := hid_of (backD_succ hql ob)
                    obtain ⟨i, hli1⟩ : ∃ i, l[q2] = i := ⟨_, rfl⟩
                    have hia := HB2.out _ (List.getElem_mem hql)
                    rw [hli1] at hci EG hia
                    obtain ⟨ik, idd, ia, ib, inn, iname, iargs, it, jf⟩ := i
                    obtain ⟨d0, d1, d2, d3, d4, d5, ⟨v6, d6, hv6⟩, d7, d8⟩ := hci
                    obtain ⟨a6, cap6, rfl, hl6, hx6⟩ := id hv6
                    dsimp only at d0 d1 d2 d3 d4 d5 d6 d7 d8 hv6 hl6 hia
                    have gB := backD_good l (q2 + 1) HOG.out
                    have hszb := hI6.rO.lt
                    have hBk := hid_of (backR_c wr ⟨ik, idd, ia, ib, inn, iname, iargs, it, jf⟩ a6 iargs.length cap6 (hv6.keep (Keep.refl wr fun b hb hlt => hlt)) hia (hi13.keep (p' := (· < wr.heap.size)) (Keep.refl wr fun b hb hlt => hlt)) (by have := listI_good gB; omega))
                    unfold insV at hBk
                    rw [backI_list gB.2, ← EG.out] at hBk
                    clear hli1 hx6 gB hv6 hi13 hl6 hI6
                    go_wp2_with fail
                    refine hBk.out.mono ?_
                    rintro e W6 ⟨z, rfl, hz, hb6⟩
                    have hsz13 := hB13.size
                    have hz2 := hz.keep (p' := (w.heap.size + 3 ≤ ·)) (Keep.refl W6 fun b hb _ => by omega)
                    have hB14 := bel_call hB13 hb6
                    clear hBk hz hb6 hB13 EG d0 d1 d2 d3 d4 d5 d6 d7 d8 k1 k4
                    go_wp2_with fail
                    go_roundw
                    case rel => exact ⟨q2, by omega, rfl, hz2, hB14⟩
                    case measure => simp [intOf]
end Go.Proofs.Ytcihobmjohpnkaa
