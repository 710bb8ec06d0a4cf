/- 'PbqpChains': the walk. -/
import Derived.Test.YtdomnbgjafdnjaaPqCp
namespace Go.Proofs.Ytdomnbgjafdnjaa
open Go.RowKit Go.Maps Go.ChangeMaps

theorem infoInts : (Try.prog.info? 26).map (fun i => (i.zero, i.size, i.bytes)) = some (some (.slice none 0 0), 1, 24) := by kernel_rfl

set_option maxRecDepth 100000 in
set_option maxHeartbeats 8000000 in
theorem chains_out (w : World) {na : Option Addr} {nl nc : Nat} {ca : Option Addr} {cl cc : Nat} (h : nl < 1 ∨ nl > 40 ∨ cl < 1 ∨ cl > 400) :
    Calls Try.prog 4 #[.slice na nl nc, .slice ca cl cc] w fun e w' => e = .returned (.bool true) ∧ Below w.heap.size w w' := by
  have HAL := hid_of (alive25_c w)
  by_cases h1 : nl < 1
  · have d1 : decide ((nl : Int) < 1) = true := by simp; omega
    have d1' : decide (nl < 1) = true := by simpa using h1
    clear h h1
    go_enter Try.func4, Try.ntmps4
    go_wp2_with fail
    refine HAL.out.mono ?_
    rintro e W ⟨rfl, hb⟩
    go_wp2_with fail
    go_ret
    exact ⟨rfl, hb⟩
  have d1 : decide ((nl : Int) < 1) = false := by simp; omega
  by_cases h2 : nl > 40
  · have d2 : decide ((nl : Int) > 40) = true := by simp; omega
    have d2' : decide (40 < nl) = true := by simpa using h2
    clear h h1 h2
    go_enter Try.func4, Try.ntmps4
    go_wp2_with fail
    refine HAL.out.mono ?_
    rintro e W ⟨rfl, hb⟩
    go_wp2_with fail
    go_ret
    exact ⟨rfl, hb⟩
  have d2 : decide ((nl : Int) > 40) = false := by simp; omega
  have d2' : decide (40 < nl) = false := by simp; omega
  by_cases h3 : cl < 1
  · have d3 : decide ((cl : Int) < 1) = true := by simp; omega
    have d3' : decide (cl < 1) = true := by simpa using h3
    clear h h1 h2 h3
    go_enter Try.func4, Try.ntmps4
    go_wp2_with fail
    refine HAL.out.mono ?_
    rintro e W ⟨rfl, hb⟩
    go_wp2_with fail
    go_ret
    exact ⟨rfl, hb⟩
  have d3 : decide ((cl : Int) < 1) = false := by simp; omega
  have h4 : cl > 400 := by omega
  have d4 : decide ((cl : Int) > 400) = true := by simp; omega
  have d4' : decide (400 < cl) = true := by simpa using h4
  clear h h1 h2 h3 h4
  go_enter Try.func4, Try.ntmps4
  go_wp2_with fail
  refine HAL.out.mono ?_
  rintro e W ⟨rfl, hb⟩
  go_wp2_with fail
  go_ret
  exact ⟨rfl, hb⟩

/-- What the loop that builds the edges keeps. -/
def ChB (w : World) (cb : Nat) (na : Option Addr) (nl nc : Nat) (Es : List EdgeD) (W : World) : Prop :=
  ∃ (Z : Nat → Prop) (ea : Option Addr) (ec : Nat) (ve : List Value), Row W cb 25 [.slice na nl nc, .slice ea Es.length ec] ∧ EdS (cb + 1) Z Es (.slice ea Es.length ec) ve W ∧ (∀ b, Z b → cb + 1 ≤ b ∧ b < W.heap.size) ∧ Below w.heap.size w W
/-- What the loop that builds a matrix keeps. -/
def ChM (W0 : World) (xb : Nat) (a b : Int) (M : List (List Int)) (p : Nat) (W : World) : Prop :=
  ∃ (Z : Nat → Prop) (ma : Option Addr) (mc : Nat) (vs : List Value), Row W xb 32 [.int .i64 a, .int .i64 b, .slice ma p mc] ∧ RwS 26 (xb + 1) Z M (.slice ma p mc) vs W ∧ vs.length = p ∧ (∀ b, Z b → xb + 1 ≤ b ∧ b < W.heap.size) ∧ Below W0.heap.size W0 W

set_option maxRecDepth 100000 in
set_option maxHeartbeats 16000000 in
theorem chains_c (w : World) {na : Option Addr} {nl nc : Nat} {ca : Option Addr} {cl cc : Nat} {N : List (List Int)} {C : List Int} (h : IsRows (· < w.heap.size) w (.slice na nl nc) N) (hC : IsInts (· < w.heap.size) w (.slice ca cl cc) C) (hb0 : 1 ≤ nl ∧ nl ≤ 40 ∧ 1 ≤ cl ∧ cl ≤ 400) :
    Calls Try.prog 4 #[.slice na nl nc, .slice ca cl cc] w fun e w' => e = .returned (.bool true) ∧ Below w.heap.size w w' := by
  have HNL := hid_of (sl_len h).1
  have HCL := hid_of (sl_len hC).1
  have HN : Hid (∀ X, Below w.heap.size w X → IsRows (· < w.heap.size) X (.slice na nl nc) N) := fun X hX => h.keep (fun b hb hlt => ⟨hb, hX.block b hb⟩)
  have HCC : Hid (∀ X, Below w.heap.size w X → IsInts (· < w.heap.size) X (.slice ca cl cc) C) := fun X hX => hC.keep (fun b hb hlt => ⟨hb, hX.block b hb⟩)
  have HAL := hid_of (alive25_c w)
  have HNU := hid_of num_c
  obtain ⟨hb1, hb2, hb3, hb4⟩ := hb0
  have d1 : decide ((nl : Int) < 1) = false := by simp; omega
  have d2 : decide ((nl : Int) > 40) = false := by simp; omega
  have d3 : decide ((cl : Int) < 1) = false := by simp; omega
  have d4 : decide ((cl : Int) > 400) = false := by simp; omega
  have d1' : decide (nl < 1) = false := by simp; omega
  have d2' : decide (40 < nl) = false := by simp; omega
  have d3' : decide (cl < 1) = false := by simp; omega
  have d4' : decide (400 < cl) = false := by simp; omega
  clear h hC
  go_enter Try.func4, Try.ntmps4
  go_wp2_with fail
  refine HAL.out.mono ?_
  rintro e W ⟨rfl, hb⟩
  have HB := hid_of hb
  clear HAL hb
  go_upto_region 5 with fail
  refine wp_at (fun X => Row X W.heap.size 25 [.slice na nl nc, .slice none 0 0] ∧ Below W.heap.size W X) ⟨heap_alloc_eq _ _ _ rfl, bel_alloc (bel_refl W) _⟩ ?_
  clear d1 d2 d3 d4 d1' d2' d3' d4'
  rintro X ⟨hr, hX⟩
  obtain ⟨cb, Hcb⟩ : ∃ cb, Hid (W.heap.size = cb) := ⟨_, (rfl : W.heap.size = _)⟩
  have HCB : Hid (w.heap.size ≤ cb) := by show _ ≤ _; rw [← Hcb.out]; exact HB.out.size
  have H0 : Hid (ChB w cb na nl nc ((mkE N C).take 0) X) := by
    refine ⟨fun _ => False, none, 0, [], by rw [← Hcb.out]; exact hr, EdS.nil _ _ _, fun b hb => absurd hb id, bel_call HB.out hX⟩
  rw [Hcb.out]
  clear hr hX HB Hcb
  go_wp2_with fail
  go_loopw [7] (fun s7 wx => ∃ i : Nat, i ≤ nl - 1 ∧ s7 = .int .i64 i ∧ Hid (ChB w cb na nl nc ((mkE N C).take i) wx)) (fun s7 _ => nl - (intOf s7).toNat)
  case atStart => exact ⟨0, by omega, rfl, H0⟩
  case round =>
    obtain ⟨i, hi, rfl, HI⟩ := hrel
    clear H0
    by_cases hit : i < nl - 1
    · obtain ⟨Z, ea, ec, ve, hr, hE, hZ, hbl⟩ := HI.out
      have hix : i < N.length := by have := HNL.out; omega
      have hix2 : i + 1 < N.length := by have := HNL.out; omega
      obtain ⟨nb, no, a3, n3, c3, rfl, -, ck, -, hn3, -⟩ := rows_at2 (HN.out wr hbl) hix
      obtain ⟨nb2, no2, a4, n4, c4, hnae, -, ck2, -, hn4, -⟩ := rows_at2 (HN.out wr hbl) hix2
      simp only [Option.some.injEq, Addr.mk.injEq, and_true] at hnae
      obtain ⟨rfl, rfl⟩ := hnae
      have hiz : (i : Int) + 1 < (nl : Int) := by omega
      have hiz0 : (i : Int) < (nl : Int) := by omega
      have HN3 := hid_of hn3
      have HN4 := hid_of hn4
      have HR := hid_of hr
      have HE := hid_of hE
      have HZ := hid_of hZ
      have HBL := hid_of hbl
      clear hn3 hn4 hr hE hZ hbl HI
      obtain ⟨W0, rfl⟩ : ∃ W0, W0 = wr := ⟨wr, rfl⟩
      have HK : Hid (∀ Y, Below W0.heap.size W0 Y → Y.cell? ⟨nb, no + i, none⟩ = some (.slice a3 n3 c3) ∧ Y.cell? ⟨nb, no + (i + 1), none⟩ = some (.slice a4 n4 c4)) := fun Y hY => ⟨(World.cell?_of_block (a := ⟨nb, no + i, none⟩) (hY.block nb (lt_of_cell ck))).trans ck, (World.cell?_of_block (a := ⟨nb, no + (i + 1), none⟩) (hY.block nb (lt_of_cell ck2))).trans ck2⟩
      clear ck ck2
      go_upto_region 9 with fail
      refine wp_at (fun X => Row X W0.heap.size 32 [.int .i64 (i : Int), .int .i64 ((i : Int) + 1), .slice none 0 0] ∧ Below W0.heap.size W0 X) ⟨heap_alloc_eq _ _ _ rfl, bel_alloc (bel_refl W0) _⟩ ?_
      rintro X2 ⟨rx, hX2⟩
      obtain ⟨k1, k2⟩ := HK.out X2 hX2
      have HOUT : Hid (Below w.heap.size w X2) := bel_call HBL.out hX2
      by_cases h5 : n3 > 8
      · have d5 : decide ((n3 : Int) > 8) = true := by simp; omega
        have d5' : decide (8 < n3) = true := by simpa using h5
        clear h5
        go_wp2_with fail
        go_ret
        exact ⟨rfl, HOUT.out⟩
      have d5 : decide ((n3 : Int) > 8) = false := by simp; omega
      have d5' : decide (8 < n3) = false := by simp; omega
      by_cases h6 : n4 > 8
      · have d6 : decide ((n4 : Int) > 8) = true := by simp; omega
        have d6' : decide (8 < n4) = true := by simpa using h6
        clear h5 h6
        go_wp2_with fail
        go_ret
        exact ⟨rfl, HOUT.out⟩
      have d6 : decide ((n4 : Int) > 8) = false := by simp; omega
      have d6' : decide (8 < n4) = false := by simp; omega
      have hn38 : n3 ≤ 8 := by omega
      have hn48 : n4 ≤ 8 := by omega
      have HM0 : Hid (ChM W0 W0.heap.size (i : Int) ((i : Int) + 1) (mkM N C i) 0 X2) := ⟨fun _ => False, none, 0, [], rx, RwS.nil _ _ _ _ _, rfl, fun b hb => absurd hb id, hX2⟩
      clear h5 h6 HOUT rx hX2
      go_wp2_with fail
      clear k1 k2 d5 d5' d6 d6'
      go_loopw [9] (fun s9 wx => ∃ p : Nat, p ≤ n3 ∧ s9 = .int .i64 p ∧ Hid (ChM W0 W0.heap.size (i : Int) ((i : Int) + 1) (mkM N C i) p wx)) (fun s9 _ => n3 - (intOf s9).toNat)
      case atStart => exact ⟨0, by omega, rfl, HM0⟩
      case round =>
        obtain ⟨p, hp, rfl, HP⟩ := hrel
        clear HM0
        obtain ⟨Zm, ma, mc, vs, hrx, hRw, hvl, hZm, hbx⟩ := HP.out
        clear HP
        obtain ⟨k1, k2⟩ := HK.out wr hbx
        by_cases hpt : p < n3
        · have hpz : (p : Int) < (n3 : Int) := by omega
          have HQ0 : Hid (wr.ownsRow wr.heap.size 3 1 (.slice none 0 0) 0 (ints ((mkR N C i p).take 0)) ∧ Below wr.heap.size wr wr) := ⟨World.ownsRow_nil _ _ _ _, bel_refl wr⟩
          have HRX := hid_of hrx
          have HRW := hid_of hRw
          have HVL := hid_of hvl
          have HZM := hid_of hZm
          have HBX := hid_of hbx
          clear hrx hRw hvl hZm hbx
          obtain ⟨W2, rfl⟩ : ∃ W2, W2 = wr := ⟨wr, rfl⟩
          go_wp2_with fail
          clear k1 k2
          go_loopw [10, 11] (fun s10 s11 wx => ∃ (q : Nat) (ra : Option Addr) (rc : Nat), q ≤ n4 ∧ s11 = .int .i64 q ∧ s10 = .slice ra q rc ∧ Hid (wx.ownsRow W2.heap.size 3 1 (.slice ra q rc) q (ints ((mkR N C i p).take q)) ∧ Below W2.heap.size W2 wx)) (fun _ s11 _ => n4 - (intOf s11).toNat)
          case atStart => exact ⟨0, none, 0, by omega, rfl, rfl, HQ0⟩
          case round =>
            obtain ⟨q, ra, rc, hq, rfl, rfl, HQ⟩ := hrel
            clear HQ0
            obtain ⟨k1, k2⟩ := HK.out wr (bel_call HBX.out HQ.out.2)
            by_cases hqt : q < n4
            · have hqz : (q : Int) < (n4 : Int) := by omega
              have hqx : q < (N.getD (i + 1) []).length := by rw [← HN4.out]; exact hqt
              have htk := mkR_take (C := C) (i := i) (p := p) hqx
              have hcl : 0 < C.length := by have := HCL.out; omega
              have hmod := Nat.mod_lt (7 * i + 3 * p + q) hcl
              obtain ⟨xb, xo, rfl, -, cx⟩ := ints_at (HCC.out wr (bel_call HBL.out (bel_call HBX.out HQ.out.2))) hmod
              obtain ⟨ix, Hix⟩ : ∃ ix, Hid ((7 * i + 3 * p + q) % C.length = ix) := ⟨_, (rfl : (7 * i + 3 * p + q) % C.length = _)⟩
              rw [Hix.out] at htk hmod cx
              have hrem : (7 * (i : Int) + 3 * (p : Int) + (q : Int)).tmod (cl : Int) = (ix : Int) := by
                rw [← Hix.out, HCL.out]
                rw [show (7 * (i : Int) + 3 * (p : Int) + (q : Int)) = ((7 * i + 3 * p + q : Nat) : Int) by omega]
                exact (Int.ofNat_tmod _ _).symm
              have hixz : (ix : Int) < (cl : Int) := by have := HCL.out; omega
              have hclz : ((cl : Int) == 0) = false := by simp; omega
              obtain ⟨x, Hx⟩ : ∃ x, Hid (C.getD ix 0 = x) := ⟨_, (rfl : C.getD ix 0 = _)⟩
              rw [Hx.out] at cx htk
              obtain ⟨l, Hl⟩ : ∃ l, Hid ((mkR N C i p).take q = l) := ⟨_, (rfl : (mkR N C i p).take q = _)⟩
              have hll : (ints l).length = q := by rw [← Hl.out, List.length_map, List.length_take, mkR_length]; omega
              rw [Hl.out] at htk HQ
              have HTK := hid_of htk
              have HLL := hid_of hll
              clear hqx htk hmod hcl hll
              go_wp2_with (at_builtin; refine stop_here ?_)
              refine stop_go (app_cell 26 3 (.int .i64 0) 8 Try.underlying26 infoInt rfl rfl _ _ rfl W2.heap.size (.slice ra q rc) (ints l) rfl (by rw [HLL.out]; exact owns_below HQ.out.1 (bel_alloc (bel_refl wr) _)) _ (.int .i64 x) rfl rfl (heap_alloc_eq _ _ _ rfl) (by have := HLL.out; omega) (by have := HLL.out; unfold maxLen; omega) (by have := HQ.out.2.size; simp; omega) ?_)
              intro v' w' ho hgr hv
              have ho2 : w'.ownsRow W2.heap.size 3 1 v' (q + 1) (ints ((mkR N C i p).take (q + 1))) := by
                rw [HTK.out]
                have e1 : (ints l ++ [Value.int .i64 x]).length = q + 1 := by rw [List.length_append, HLL.out]; rfl
                have e2 : ints l ++ [Value.int .i64 x] = ints (l ++ [x]) := by simp [ints]
                rw [e1, e2] at ho
                exact ho
              have hb6 : Below W2.heap.size W2 w' := bel_grown (bel_alloc HQ.out.2 _) hgr (fun b e => (HQ.out.1.lt b e).1)
              obtain ⟨ra2, rc2, rfl, -⟩ := owns_slice ho2
              have HN : Hid (w'.ownsRow W2.heap.size 3 1 (.slice ra2 (q + 1) rc2) (q + 1) (ints ((mkR N C i p).take (q + 1))) ∧ Below W2.heap.size W2 w') := ⟨ho2, hb6⟩
              clear ho ho2 hgr hv hb6 k1 k2 cx HQ
              go_wp2_with fail
              go_roundw
              case rel => exact ⟨q + 1, ra2, rc2, by omega, by go_num, rfl, HN⟩
              case measure => simp [intOf]; omega
            · obtain rfl : q = n4 := by omega
              obtain ⟨hqo, hqb⟩ := HQ.out
              have hpx : p < (N.getD i []).length := by rw [← HN3.out]; exact hpt
              have hrow := mkM_get (C := C) hpx
              have hrl := mkR_length N C i p
              rw [List.take_of_length_le (by rw [hrl, ← HN4.out]; exact Nat.le_refl _)] at hqo
              obtain ⟨R, HR⟩ : ∃ R, Hid (mkR N C i p = R) := ⟨_, (rfl : mkR N C i p = _)⟩
              rw [HR.out] at hrow hrl hqo
              have hRX := HRX.out.keep (hqb.block _ HRX.out.lt)
              have hRW := HRW.out.keep (W' := wr) (fun b _ hlt => hqb.block b hlt)
              have x2 := hRX.cell (k := 2) rfl
              have fx2 := hRX.frozen 2
              have hRi : IsInts (fun b => W2.heap.size ≤ b ∧ b < wr.heap.size) wr (.slice ra q rc) R := by
                have hq2 : q = R.length := by rw [hrl, ← HN4.out]
                rw [hq2] at hqo ⊢
                exact ints_of_owns hqo (by omega) (fun b _ h1 h2 => ⟨h1, h2⟩)
              have HRO := hid_of hrow
              have HRL := hid_of hrl
              have HRI := hid_of hRi
              have HQB := hid_of hqb
              have HX2 := hid_of hRX
              have HW2 := hid_of hRW
              clear hqo hqb hpx hrow hrl hRX hRW hRi HQ
              go_wp2_with (at_builtin; refine stop_here ?_)
              refine stop_go (app_cell 22 26 (.slice none 0 0) 24 Try.underlying22 infoInts rfl rfl _ _ rfl (W0.heap.size + 1) (.slice ma p mc) vs rfl (owns_below (by have h1 := HW2.out.ow; exact h1) (bel_alloc (bel_refl wr) _)) _ (.slice ra q rc) rfl rfl (heap_alloc_eq _ _ _ rfl) (by have := HVL.out; omega) (by have := HVL.out; unfold maxLen; omega) (by have h1 := HX2.out.lt; simp; omega) ?_)
              intro v' w' ho hgr hv
              have hps := RwS.push (Y := wr.alloc (.cells #[.slice ra q rc] 26)) (u := .slice ra q rc) HRW.out (fun b hb => (HZM.out b hb).2) (bel_alloc HQB.out _) (ua := ra) (uc := rc) (by rw [HVL.out, HRO.out, HRL.out, HN4.out]) (by rw [HVL.out, HRO.out]; exact HRI.out.keep (fun b hb hlt => ⟨⟨hb.1, by simp; omega⟩, Below.heap_alloc _ _ _ hlt⟩)) ho hgr (hv.imp id (fun e => ⟨_, e, Nat.le_refl _⟩))
              obtain ⟨ma2, mc2, rfl, -⟩ := owns_slice hps.ow
              have hl2 : (vs ++ [Value.slice ra q rc]).length = p + 1 := by rw [List.length_append, HVL.out]; rfl
              rw [hl2] at hps hv ⊢
              have hxw : W0.heap.size < wr.heap.size := HX2.out.lt
              have hown := fun b => HW2.out.ow.lt b
              have hX3 := HX2.out.keep (hgr.block W0.heap.size (by simp; omega) (fun e => by have := (hown _ e.symm).1; omega) |>.trans (Below.heap_alloc _ _ _ hxw))
              have HX3 := hid_of (hX3.set 2 (.slice ma2 (p + 1) mc2))
              have y2 := hX3.cell (k := 2) rfl
              have fy2 := hX3.frozen 2
              have hb7 : Below W0.heap.size W0 w' := bel_grown (bel_alloc (bel_call HBX.out HQB.out) _) hgr (fun b e => by have := (hown b e).1; omega)
              have HN : Hid (ChM W0 W0.heap.size (i : Int) ((i : Int) + 1) (mkM N C i) (p + 1) (w'.setCell ⟨W0.heap.size, 2, none⟩ (.slice ma2 (p + 1) mc2))) :=
                ⟨_, ma2, mc2, _, HX3.out, hps.keep (fun b hb hlt => Below.heap_setCell _ _ _ _ (fun e => by
                  have e : b = W0.heap.size := e
                  rcases hb with hb | hb
                  · have := (HZM.out b hb).1; omega
                  · have h1 := HBX.out.size; have h2 := HRX.out.lt; omega)), hl2, fun b hb => by
                  have hgz := hgr.size
                  have hqz := HQB.out.size
                  have hrz := HRX.out.lt
                  simp at hgz ⊢
                  rcases hb with hb | hb
                  · have := HZM.out b hb; omega
                  · omega, Below.setCell hb7 (by show W0.heap.size ≤ W0.heap.size; exact Nat.le_refl _) _⟩
              clear ho hgr hv hps hl2 hxw hown hX3 HX3 hb7 x2 fx2 k1 k2 HRO HRL HRI HX2 HW2
              go_wp2_with fail
              go_roundw
              case rel => exact ⟨p + 1, by omega, by go_num, HN⟩
              case measure => simp [intOf]; omega
        · obtain rfl : p = n3 := by omega
          have hMl : (mkM N C i).length = p := by rw [mkM_length]; exact HN3.out.symm
          obtain ⟨ma', mc', hme, hRows⟩ := hRw.rows (by rw [hvl, hMl]) (by rw [hMl]; omega)
          rw [hMl] at hme hRows
          simp only [Value.slice.injEq] at hme
          obtain ⟨rfl, -, rfl⟩ := hme
          have hEl : ((mkE N C).take i).length = i := by rw [List.length_take, mkE_length]; have := HNL.out; omega
          have hEt := mkE_take (N := N) (C := C) (i := i) (by have := HNL.out; omega)
          have hic : ((i + 1 : Nat) : Int) = (i : Int) + 1 := by omega
          rw [hic] at hEt
          obtain ⟨M, HM⟩ : ∃ M, Hid (mkM N C i = M) := ⟨_, (rfl : mkM N C i = _)⟩
          rw [HM.out] at hEt hMl hRows
          obtain ⟨Es, HEs⟩ : ∃ Es, Hid ((mkE N C).take i = Es) := ⟨_, (rfl : (mkE N C).take i = _)⟩
          have hE1 := HE.out
          have hR1 := HR.out
          rw [HEs.out] at hEl hEt hE1 hR1
          rw [hEl] at hE1 hR1
          have hxl := hrx.lt
          have hcbl := hR1.lt
          have hW0 := hbx.size
          have x0 := hrx.cell (k := 0) rfl
          have x1 := hrx.cell (k := 1) rfl
          have x2 := hrx.cell (k := 2) rfl
          have hR2 := hR1.keep (hbx.block _ hcbl)
          have e1 := hR2.cell (k := 1) rfl
          have fe1 := hR2.frozen 1
          have HE1 := hid_of hE1
          have HR2 := hid_of hR2
          have HRO := hid_of hRows
          have HBX := hid_of hbx
          have HML := hid_of hMl
          have HEL := hid_of hEl
          have HET := hid_of hEt
          have HXL := hid_of hxl
          have HZMB := hid_of hZm
          clear hMl hRows hEl hEt hic hE1 hR1 hR2 hRw hvl hZm hbx hrx hxl
          go_wp2_with (at_builtin; refine stop_here ?_)
          refine stop_go (app_edge rfl _ _ rfl (cb + 1) i (.slice ea i ec) ve rfl (by have h1 := (HE1.out.keep (W' := wr) (fun b _ hlt => HBX.out.block b hlt)).ow; rw [HEL.out] at h1; exact owns_below h1 (bel_alloc (bel_refl wr) _)) _ (.int .i64 (i : Int)) (.int .i64 ((i : Int) + 1)) (.slice ma p mc) ⟨rfl, rfl, rfl⟩ rfl (heap_alloc_eq _ _ _ rfl) (by omega) (by simp; omega) ?_)
          intro v' w' ho hgr hv
          obtain ⟨ea2, ec2, rfl, -⟩ := owns_slice ho
          have hps := EdS.push (Y := wr.alloc (.cells #[.int .i64 (i : Int), .int .i64 ((i : Int) + 1), .slice ma p mc] 32)) HE1.out (fun b hb => (HZ.out b hb).2) (fun b _ hlt => (Below.heap_alloc _ _ _ (by omega)).trans (HBX.out.block b hlt)) (by simp; omega) ⟨(i : Int), (i : Int) + 1, M⟩ (ua := ma) (uc := mc) (by
            rw [show (⟨(i : Int), (i : Int) + 1, M⟩ : EdgeD).cost.length = p from HML.out]
            exact HRO.out.keep (fun b hb hlt => ⟨⟨by have := (HZMB.out b hb.1).1; omega, by simp; omega⟩, Below.heap_alloc _ _ _ hlt⟩)) (by rw [show (⟨(i : Int), (i : Int) + 1, M⟩ : EdgeD).cost.length = p from HML.out, HEL.out]; exact ho) hgr (hv.imp id (fun e => ⟨_, e, Nat.le_refl _⟩))
          rw [← HET.out] at hps
          have hub := fun b => HE1.out.ow.lt b
          have hcw : cb < wr.heap.size := HR2.out.lt
          have hR3 := HR2.out.keep (hgr.block cb (by simp; omega) (fun e => by have := (hub _ e.symm).1; omega) |>.trans (Below.heap_alloc _ _ _ hcw))
          have g1 := hR3.cell (k := 1) rfl
          have fg1 := hR3.frozen 1
          have hR4 := hR3.set 1 (.slice ea2 (i + 1) ec2)
          have hb7 : Below w.heap.size w w' := bel_grown (bel_alloc (bel_call HBL.out HBX.out) _) hgr (fun b e => by have := (hub b e).1; have := HCB.out; omega)
          have hgz := hgr.size
          have HN : Hid (ChB w cb (some ⟨nb, no, none⟩) nl nc ((mkE N C).take (i + 1)) (w'.setCell ⟨cb, 1, none⟩ (.slice ea2 (i + 1) ec2))) := by
            have hl1 : ((mkE N C).take (i + 1)).length = i + 1 := by rw [HET.out, List.length_append, HEL.out]; rfl
            refine ⟨_, ea2, ec2, _, by rw [hl1]; exact hR4, by rw [hl1]; exact hps.keep (fun b hb hlt => Below.heap_setCell _ _ _ _ (fun e => by
              have e : b = cb := e
              rcases hb with hb | hb
              · have := (HZ.out b hb).1; omega
              · omega)), fun b hb => ?_, Below.setCell hb7 (by show w.heap.size ≤ cb; exact HCB.out) _⟩
            simp at hgz ⊢
            rcases hb with hb | hb
            · have := HZ.out b hb; omega
            · omega
          clear ho hgr hv hps hub hcw hR3 hR4 hb7 hgz x0 x1 x2 e1 fe1 k1 k2 HE1 HR2 HRO HML
          go_wp2_with fail
          go_roundw
          case rel => exact ⟨i + 1, by omega, by go_num, HN⟩
          case measure => simp [intOf]; omega
    · have hin : i + 1 = nl := by omega
      obtain ⟨Z, ea, ec, ve, hr, hE, hZ, hbl⟩ := HI.out
      clear HI
      have hEl : (mkE N C).length = i := by rw [mkE_length]; have := HNL.out; omega
      rw [List.take_of_length_le (by omega)] at hr hE
      have hch : IsChain N (mkE N C) := mkE_chain C (by have := HNL.out; omega)
      have hme : ∀ k, k < i → mtC (mkE N C) k = mkM N C k := fun k hk => by unfold mtC; rw [mkE_get (by have := HNL.out; omega)]
      obtain ⟨Es, HEs⟩ : ∃ Es, Hid (mkE N C = Es) := ⟨_, (rfl : mkE N C = _)⟩
      rw [HEs.out] at hr hE hEl hch hme
      obtain ⟨ea', ec', hev, hEd⟩ := hE.edges (by omega)
      simp only [Value.slice.injEq] at hev
      obtain ⟨rfl, -, rfl⟩ := hev
      rw [hEl] at hr hEd
      obtain ⟨W1, rfl⟩ : ∃ W1, W1 = wr := ⟨wr, rfl⟩
      have HP : Hid (∀ X, Below W1.heap.size W1 X → IsPq (· < W1.heap.size) X na nl nc ea i ec N Es) := fun X hX => ⟨(HN.out X (bel_call hbl hX)).keep (Keep.refl X fun b hb _ => by have := hbl.size; omega), hEd.keep (fun b hb hlt => ⟨hb.2, hX.block b hlt⟩)⟩
      obtain ⟨Q, HQ⟩ : ∃ Q, Hid (chkS N Es = Q) := ⟨_, (rfl : chkS N Es = _)⟩
      have HCK := hid_of (checkR_c (p := (· < W1.heap.size)) W1 (fun b hb => hb) (HP.out _ (bel_refl W1)))
      rw [HQ.out] at HCK
      have r0 := hr.cell (k := 0) rfl
      have r1 := hr.cell (k := 1) rfl
      have HR := hid_of hr
      have HBL := hid_of hbl
      have HCH := hid_of hch
      have HME := hid_of hme
      have HEL := hid_of hEl
      have d7 : decide ((i : Int) + 1 < (nl : Int)) = false := by simp; omega
      have d7' : decide (i + 1 < nl) = false := by simp; omega
      clear hr hE hZ hbl hEd hch hme hEl hit
      go_wp2_with fail
      refine HCK.out.mono ?_
      rintro e W2 ⟨rfl, hb1⟩
      have HB1 := hid_of hb1
      have HB2 := hid_of (bel_call HBL.out hb1)
      have HR2 := hid_of (HR.out.keep (hb1.block _ HR.out.lt))
      clear r0 r1 hb1 HCK d7 d7'
      by_cases hq : Q ≠ 0
      · have dq : (Q != 0) = true := by simpa using hq
        have dq' : (Q == 0) = false := by simpa using hq
        clear hq
        go_wp2_with fail
        go_ret
        exact ⟨rfl, HB2.out⟩
      obtain rfl : Q = 0 := by omega
      clear hq
      obtain ⟨nb, no, a0, n0, c0, rfl, -, ck, hi0, hn0, -⟩ := rows_at2 (HN.out W2 HB2.out) (show 0 < N.length by have := HNL.out; omega)
      rw [Nat.add_zero] at ck
      have HI0 : Hid (IsInts (fun b => b < W2.heap.size) W2 (.slice a0 n0 c0) (bstS N Es 0) ∧ Below W2.heap.size W2 W2) := ⟨hi0.keep (Keep.refl W2 fun b _ hlt => hlt), bel_refl W2⟩
      have hnlz : (0 : Int) < (nl : Int) := by omega
      clear hi0 hn0
      go_wp2_with fail
      clear ck
      go_loopw [12, 13] (fun s12 s13 wx => ∃ (k : Nat) (ba : Option Addr) (bl bc : Nat), k ≤ i ∧ s13 = .int .i64 k ∧ s12 = .slice ba bl bc ∧ Hid (IsInts (fun b => b < wx.heap.size) wx (.slice ba bl bc) (bstS N Es k) ∧ Below W2.heap.size W2 wx)) (fun _ s13 _ => i - (intOf s13).toNat)
      case atStart => exact ⟨0, a0, n0, c0, by omega, rfl, rfl, HI0⟩
      case round =>
        obtain ⟨k, ba, bl, bc, hk, rfl, rfl, HK⟩ := hrel
        clear HI0
        by_cases hkt : k < i
        · have hkx : k + 1 < N.length := by have := HNL.out; omega
          have hkz : (k : Int) + 1 < (nl : Int) := by omega
          have HO := hid_of (chain_edge HCH.out HQ.out (i := k) (by have := HEL.out; omega))
          have HBO := hid_of (bst_ok HCH.out HQ.out (j := k) (by omega))
          have HBN : Hid (bl = (N.getD k []).length) := by show _ = _; rw [← bst_length HCH.out HQ.out (by omega), ← (sl_len HK.out.1).1]
          have hbl32 : bl ≤ 32 := by have := (chain_node HQ.out (show k < N.length by omega)).2.1; have := HBN.out; omega
          obtain ⟨n4, Hn4⟩ : ∃ n4, Hid ((N.getD (k + 1) []).length = n4) := ⟨_, (rfl : (N.getD (k + 1) []).length = _)⟩
          have hnm := chain_node HQ.out hkx
          rw [Hn4.out] at hnm
          have hn48 : n4 ≤ 32 := hnm.2.1
          have HNO := hid_of hnm.2.2
          have HQ0 : Hid (wr.ownsRow wr.heap.size 3 1 (.slice none 0 0) 0 (ints ((bstS N Es (k + 1)).take 0)) ∧ Below wr.heap.size wr wr) := ⟨World.ownsRow_nil _ _ _ _, bel_refl wr⟩
          obtain ⟨W3, rfl⟩ : ∃ W3, W3 = wr := ⟨wr, rfl⟩
          have HA : Hid (∀ X, Below W3.heap.size W3 X → ∃ a4 c4, X.cell? ⟨nb, no + (k + 1), none⟩ = some (.slice a4 n4 c4) ∧ IsInts (fun b => b < X.heap.size) X (.slice a4 n4 c4) (N.getD (k + 1) [])) := fun X hX => by
            obtain ⟨nb2, no2, a4, n5, c4, hnae, -, ck2, hi4, hn4, -⟩ := rows_at2 (HN.out X (bel_call HB2.out (bel_call HK.out.2 hX))) hkx
            simp only [Option.some.injEq, Addr.mk.injEq, and_true] at hnae
            obtain ⟨rfl, rfl⟩ := hnae
            rw [Hn4.out] at hn4
            subst hn4
            exact ⟨a4, c4, ck2, hi4.keep (Keep.refl X fun b hb _ => by have h1 := HB2.out.size; have h2 := HK.out.2.size; have h3 := hX.size; omega)⟩
          have HBST : Hid (∀ X, Below W3.heap.size W3 X → IsInts (fun b => b < X.heap.size) X (.slice ba bl bc) (bstS N Es k)) := fun X hX => HK.out.1.keep (fun b hb hlt => ⟨by have := hX.size; omega, hX.block b hlt⟩)
          have HED : Hid (∀ X, Below W3.heap.size W3 X → ∃ eb eo ma mc, ea = some ⟨eb, eo, none⟩ ∧ X.cell? ⟨cb, 1, none⟩ = some (.slice ea i ec) ∧ X.cell? ⟨eb, eo + k * 3 + 2, none⟩ = some (.slice ma bl mc) ∧ IsRows (fun b => b < X.heap.size) X (.slice ma bl mc) (mtC Es k)) := fun X hX => by
            have hX2 := bel_call HK.out.2 hX
            obtain ⟨eb, eo, h1, -, hc⟩ := sl_at (HP.out X (bel_call HB1.out hX2)).ed (by have := HEL.out; omega)
            have hkl : k < Es.length := by have := HEL.out; omega
            obtain ⟨-, -, v, h2, h3⟩ := hc k hkl
            have e1 : Es[k].cost = mtC Es k := by unfold mtC; simp [List.getD, hkl]
            rw [e1] at h3
            obtain ⟨ma, mc, rfl, -, -⟩ := id h3
            have e2 : (mtC Es k).length = bl := by rw [HO.out.rows]; exact HBN.out.symm
            rw [e2] at h2 h3
            exact ⟨eb, eo, ma, mc, h1, (HR2.out.keep (hX2.block _ HR2.out.lt)).cell (k := 1) rfl, h2, h3.keep (Keep.refl X fun b hb _ => by have h1 := HB1.out.size; have h2 := hX2.size; omega)⟩
          clear hnm
          obtain ⟨a4, c4, k1, -⟩ := HA.out W3 (bel_refl W3)
          go_wp2_with fail
          clear k1
          go_loopw [14, 15] (fun s14 s15 wx => ∃ (q : Nat) (ra : Option Addr) (rc : Nat), q ≤ n4 ∧ s15 = .int .i64 q ∧ s14 = .slice ra q rc ∧ Hid (wx.ownsRow W3.heap.size 3 1 (.slice ra q rc) q (ints ((bstS N Es (k + 1)).take q)) ∧ Below W3.heap.size W3 wx)) (fun _ s15 _ => n4 - (intOf s15).toNat)
          case atStart => exact ⟨0, none, 0, by omega, rfl, rfl, HQ0⟩
          case round =>
            obtain ⟨q, ra, rc, hq, rfl, rfl, HX⟩ := hrel
            clear HQ0
            obtain ⟨a4, c4, k1, -⟩ := HA.out wr HX.out.2
            by_cases hqt : q < n4
            · have hqz : (q : Int) < (n4 : Int) := by omega
              obtain ⟨y, Hy⟩ : ∃ y, Hid ((N.getD (k + 1) []).getD q 0 = y) := ⟨_, (rfl : (N.getD (k + 1) []).getD q 0 = _)⟩
              have hyo := HNO.out q
              rw [Hy.out] at hyo
              obtain ⟨hy0, hy1⟩ := hyo
              have HL0 : Hid (lstP (bstS N Es k) (mtC Es k) y q 0 = 1099511627776) := rfl
              go_wp2_with fail
              clear k1
              go_loopw [16, 17] (fun s16 s17 wx => ∃ (p : Nat) (x : Int), p ≤ bl ∧ s17 = .int .i64 p ∧ s16 = .int .i64 x ∧ Hid (lstP (bstS N Es k) (mtC Es k) y q p = x) ∧ Hid (wx.ownsRow W3.heap.size 3 1 (.slice ra q rc) q (ints ((bstS N Es (k + 1)).take q)) ∧ Below W3.heap.size W3 wx)) (fun _ s17 _ => bl - (intOf s17).toNat)
              case atStart => exact ⟨0, _, by omega, rfl, rfl, HL0, HX⟩
              case round =>
                obtain ⟨p, x, hp, rfl, rfl, HL, HX⟩ := hrel
                clear HL0
                by_cases hpt : p < bl
                · have hpz : (p : Int) < (bl : Int) := by omega
                  obtain ⟨a4, c4, k1, hi4⟩ := HA.out wr HX.out.2
                  obtain ⟨b4, o4, rfl, -, k2⟩ := ints_at hi4 (show q < _ by rw [Hn4.out]; exact hqt)
                  rw [Hy.out] at k2
                  obtain ⟨eb, eo, ma, mc, rfl, k3, k4, hM⟩ := HED.out wr HX.out.2
                  obtain ⟨mb, mo, a5, n5, c5, rfl, -, k5, hi5, hn5, -⟩ := rows_at2 hM (show p < (mtC Es k).length by rw [HO.out.rows, ← HBN.out]; exact hpt)
                  have hn54 : n5 = n4 := by rw [hn5, HO.out.cols p (by rw [← HBN.out]; exact hpt), Hn4.out]
                  subst hn54
                  obtain ⟨b5, o5, rfl, -, k6⟩ := ints_at hi5 (show q < _ by omega)
                  obtain ⟨bb, bo, rfl, -, k7⟩ := ints_at (HBST.out wr HX.out.2) (show p < (bstS N Es k).length by have := (sl_len HK.out.1).1; omega)
                  obtain ⟨x1, Hx1⟩ : ∃ x1, Hid ((bstS N Es k).getD p 0 = x1) := ⟨_, (rfl : (bstS N Es k).getD p 0 = _)⟩
                  obtain ⟨x2, Hx2⟩ : ∃ x2, Hid (((mtC Es k).getD p []).getD q 0 = x2) := ⟨_, (rfl : ((mtC Es k).getD p []).getD q 0 = _)⟩
                  have hx1 := HBO.out p
                  have hx2 := HO.out.ok p q
                  have HLS : Hid (lstP (bstS N Es k) (mtC Es k) y q (p + 1) = if x1 + x2 + y < x then x1 + x2 + y else x) := by show _ = _; rw [← HL.out, ← Hx1.out, ← Hx2.out]; rfl
                  rw [Hx1.out] at k7 hx1
                  rw [Hx2.out] at k6 hx2
                  obtain ⟨x10, x11⟩ := hx1
                  obtain ⟨x20, x21⟩ := hx2
                  clear hi4 hM hi5 hn5
                  have hki : (k : Int) < (i : Int) := by omega
                  go_wp2_with fail
                  go_quiet (fail)
                  have HX2 : Hid ((wr.drewN nq).ownsRow W3.heap.size 3 1 (.slice ra q rc) q (ints ((bstS N Es (k + 1)).take q)) ∧ Below W3.heap.size W3 (wr.drewN nq)) := ⟨HX.out.1, bel_drewN HX.out.2 _⟩
                  clear k1 k2 k3 k4 k5 k6 k7 HX HL
                  by_cases h8 : x1 + x2 + y < x
                  · have d8 : decide (x1 + x2 + y < x) = true := by simpa using h8
                    have HLN : Hid (lstP (bstS N Es k) (mtC Es k) y q (p + 1) = x1 + x2 + y) := by show _ = _; rw [HLS.out, if_pos h8]
                    clear h8 HLS
                    go_wp2_with fail
                    go_roundw
                    case rel => exact ⟨p + 1, _, by omega, by go_num, rfl, HLN, HX2⟩
                    case measure => simp [intOf]; omega
                  · have d8 : decide (x1 + x2 + y < x) = false := by simpa using h8
                    have HLN : Hid (lstP (bstS N Es k) (mtC Es k) y q (p + 1) = x) := by show _ = _; rw [HLS.out, if_neg h8]
                    clear h8 HLS
                    go_wp2_with fail
                    go_roundw
                    case rel => exact ⟨p + 1, _, by omega, by go_num, rfl, HLN, HX2⟩
                    case measure => simp [intOf]; omega
                · obtain rfl : p = bl := by omega
                  have htk : (bstS N Es (k + 1)).take (q + 1) = (bstS N Es (k + 1)).take q ++ [x] := by
                    rw [List.take_succ_eq_append_getElem (by rw [bst_length HCH.out HQ.out hkx, Hn4.out]; exact hqt)]
                    congr 1
                    rw [← HL.out, (sl_len HK.out.1).1, ← Hy.out]
                    simp [bstS]
                  obtain ⟨l, Hl⟩ : ∃ l, Hid ((bstS N Es (k + 1)).take q = l) := ⟨_, (rfl : (bstS N Es (k + 1)).take q = _)⟩
                  have hll : (ints l).length = q := by rw [← Hl.out, List.length_map, List.length_take, bst_length HCH.out HQ.out hkx, Hn4.out]; omega
                  rw [Hl.out] at htk HX
                  have HTK := hid_of htk
                  have HLL := hid_of hll
                  clear htk hll
                  go_wp2_with (at_builtin; refine stop_here ?_)
                  refine stop_go (app_cell 26 3 (.int .i64 0) 8 Try.underlying26 infoInt rfl rfl _ _ rfl W3.heap.size (.slice ra q rc) (ints l) rfl (by rw [HLL.out]; exact owns_below HX.out.1 (bel_alloc (bel_refl wr) _)) _ (.int .i64 x) rfl rfl (heap_alloc_eq _ _ _ rfl) (by have := HLL.out; omega) (by have := HLL.out; unfold maxLen; omega) (by have := HX.out.2.size; simp; omega) ?_)
                  intro v' w' ho hgr hv
                  have ho2 : w'.ownsRow W3.heap.size 3 1 v' (q + 1) (ints ((bstS N Es (k + 1)).take (q + 1))) := by
                    rw [HTK.out]
                    have e1 : (ints l ++ [Value.int .i64 x]).length = q + 1 := by rw [List.length_append, HLL.out]; rfl
                    have e2 : ints l ++ [Value.int .i64 x] = ints (l ++ [x]) := by simp [ints]
                    rw [e1, e2] at ho
                    exact ho
                  have hb6 : Below W3.heap.size W3 w' := bel_grown (bel_alloc HX.out.2 _) hgr (fun b e => (HX.out.1.lt b e).1)
                  obtain ⟨ra2, rc2, rfl, -⟩ := owns_slice ho2
                  have HNX : Hid (w'.ownsRow W3.heap.size 3 1 (.slice ra2 (q + 1) rc2) (q + 1) (ints ((bstS N Es (k + 1)).take (q + 1))) ∧ Below W3.heap.size W3 w') := ⟨ho2, hb6⟩
                  clear ho ho2 hgr hv hb6 HX
                  go_wp2_with fail
                  go_roundw
                  case rel => exact ⟨q + 1, ra2, rc2, by omega, by go_num, rfl, HNX⟩
                  case measure => simp [intOf]; omega
            · obtain rfl : q = n4 := by omega
              have hbl' := bst_length HCH.out HQ.out hkx
              rw [Hn4.out] at hbl'
              have ho := HX.out.1
              rw [List.take_of_length_le (by omega), ← hbl'] at ho
              have hii : IsInts (fun b => b < wr.heap.size) wr (.slice ra q rc) (bstS N Es (k + 1)) := by
                rw [hbl'] at ho
                have := ints_of_owns (p := fun b => b < wr.heap.size) (v := .slice ra q rc) (xs := bstS N Es (k + 1)) (by rw [hbl']; exact ho) (by omega) (fun b _ _ h2 => h2)
                exact this
              have HNX : Hid (IsInts (fun b => b < wr.heap.size) wr (.slice ra q rc) (bstS N Es (k + 1)) ∧ Below W2.heap.size W2 wr) := ⟨hii, bel_call HK.out.2 HX.out.2⟩
              clear hbl' ho hii HX
              go_wp2_with fail
              go_roundw
              case rel => exact ⟨k + 1, ra, q, rc, by omega, by go_num, rfl, HNX⟩
              case measure => simp [intOf]; omega
        · obtain rfl : k = i := by omega
          have hil : N.length - 1 = k := by have := HNL.out; omega
          have hsl := (sl_len HK.out.1).1
          have hWC := wnt_chain HCH.out HQ.out
          have hSO := solve_chain (p := (· < W1.heap.size)) wr (fun b hb => by have := HB1.out.size; have := HK.out.2.size; omega) (HP.out wr (bel_call HB1.out HK.out.2)) HQ.out HCH.out
          rw [hil, ← hsl] at hWC
          rw [hil] at hSO
          obtain ⟨D, HD⟩ : ∃ D, Hid (minV (dpS N Es k) = D) := ⟨_, (rfl : minV (dpS N Es k) = _)⟩
          rw [HD.out] at hWC hSO
          have HWC := hid_of hWC
          have HSO := hid_of hSO
          have HSL := hid_of hsl
          have hbl32 : bl ≤ 32 := by have := (chain_node HQ.out (show k < N.length by have := HNL.out; omega)).2.1; have := bst_length HCH.out HQ.out (show k < N.length by have := HNL.out; omega); omega
          have hr5 := HR2.out.keep (HK.out.2.block _ HR2.out.lt)
          have e0 := hr5.cell (k := 0) rfl
          have e1 := hr5.cell (k := 1) rfl
          have d9 : decide ((k : Int) + 1 < (nl : Int)) = false := by simp; omega
          have d9' : decide (k + 1 < nl) = false := by simp; omega
          have HW0 : Hid (wntK (bstS N Es k) 0 = 1099511627776) := rfl
          have HB5 := hid_of (bel_call HB2.out HK.out.2)
          clear hil hsl hWC hSO hr5 hkt
          go_wp2_with fail
          clear d9 d9'
          go_loop [19, 20] (fun s19 s20 => ∃ (q : Nat) (x : Int), q ≤ bl ∧ s20 = .int .i64 q ∧ s19 = .int .i64 x ∧ Hid (wntK (bstS N Es k) q = x)) (fun _ s20 => bl - (intOf s20).toNat)
          case atStart => exact ⟨0, _, by omega, rfl, rfl, HW0⟩
          case round =>
            obtain ⟨q, x, hq, rfl, rfl, HX⟩ := hrel
            clear HW0
            by_cases hqt : q < bl
            · obtain ⟨bb, bo, rfl, -, k1⟩ := ints_at HK.out.1 (show q < (bstS N Es k).length by have := HSL.out; omega)
              obtain ⟨x1, Hx1⟩ : ∃ x1, Hid ((bstS N Es k).getD q 0 = x1) := ⟨_, (rfl : (bstS N Es k).getD q 0 = _)⟩
              rw [Hx1.out] at k1
              have HS1 : Hid (wntK (bstS N Es k) (q + 1) = if x1 < x then x1 else x) := by show _ = _; rw [← HX.out, ← Hx1.out]; rfl
              have hqz : (q : Int) < (bl : Int) := by omega
              by_cases h8 : x1 < x
              · have d8 : decide (x1 < x) = true := by simpa using h8
                have HLN : Hid (wntK (bstS N Es k) (q + 1) = x1) := by show _ = _; rw [HS1.out, if_pos h8]
                clear h8 HS1
                go_wp2_with fail
                go_round
                case rel => exact ⟨q + 1, _, by omega, by go_num, rfl, HLN⟩
                case measure => simp [intOf]; omega
              · have d8 : decide (x1 < x) = false := by simpa using h8
                have HLN : Hid (wntK (bstS N Es k) (q + 1) = x) := by show _ = _; rw [HS1.out, if_neg h8]
                clear h8 HS1
                go_wp2_with fail
                go_round
                case rel => exact ⟨q + 1, _, by omega, by go_num, rfl, HLN⟩
                case measure => simp [intOf]; omega
            · obtain rfl : q = bl := by omega
              obtain rfl : x = D := by rw [← HX.out]; exact HWC.out
              have hxx : (x == x) = true := by simp
              have hll : ((nl : Int) == (nl : Int)) = true := by simp
              go_wp2_with fail
              refine HSO.out.mono ?_
              rintro e W5 ⟨lb, rfl, hb5⟩
              have HB6 := hid_of (bel_call HB5.out hb5)
              clear e0 e1 hb5
              go_wp2_with fail
              refine (HNU.out _ _).mono ?_
              rintro e W6 ⟨rfl, rfl⟩
              go_wp2_with fail
              go_ret
              exact ⟨rfl, HB6.out⟩

theorem pbqpChains_c (w : World) {na : Option Addr} {nl nc : Nat} {ca : Option Addr} {cl cc : Nat} {N : List (List Int)} {C : List Int} (h : IsRows (· < w.heap.size) w (.slice na nl nc) N) (hC : IsInts (· < w.heap.size) w (.slice ca cl cc) C) :
    Calls Try.prog 4 #[.slice na nl nc, .slice ca cl cc] w fun e w' => e = .returned (.bool true) ∧ Below w.heap.size w w' := by
  by_cases hb : 1 ≤ nl ∧ nl ≤ 40 ∧ 1 ≤ cl ∧ cl ≤ 400
  · exact chains_c w h hC hb
  · exact chains_out w (by omega)
end Go.Proofs.Ytdomnbgjafdnjaa
