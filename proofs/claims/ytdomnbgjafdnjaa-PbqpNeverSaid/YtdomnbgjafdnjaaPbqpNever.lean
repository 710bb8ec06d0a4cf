/- 'PbqpNever': the walk. -/
import Derived.Test.YtdomnbgjafdnjaaNvP
namespace Go.Proofs.Ytdomnbgjafdnjaa
open Go.RowKit Go.Maps Go.ChangeMaps

set_option maxRecDepth 100000 in
set_option maxHeartbeats 8000000 in
theorem never_out (w : World) (n k : Int) (h : n < 1 ∨ n > 30 ∨ k < 1 ∨ k > 6) :
    Calls Try.prog 6 #[.int .i64 n, .int .i64 k] w fun e w' => e = .returned (.bool true) ∧ Below w.heap.size w w' := by
  have HAL := hid_of (alive25_c w)
  by_cases h1 : n < 1
  · have d1 : decide (n < 1) = true := by simpa using h1
    clear h h1
    go_enter Try.func6, Try.ntmps6
    go_wp2_with fail
    refine HAL.out.mono ?_
    rintro e W ⟨rfl, hb⟩
    go_wp2_with fail
    go_ret
    exact ⟨rfl, hb⟩
  have d1 : decide (n < 1) = false := by simpa using h1
  by_cases h2 : n > 30
  · have d2 : decide (n > 30) = true := by simpa using h2
    have d2' : decide (30 < n) = true := by simpa using h2
    clear h h1 h2
    go_enter Try.func6, Try.ntmps6
    go_wp2_with fail
    refine HAL.out.mono ?_
    rintro e W ⟨rfl, hb⟩
    go_wp2_with fail
    go_ret
    exact ⟨rfl, hb⟩
  have d2 : decide (n > 30) = false := by simpa using h2
  have d2' : decide (30 < n) = false := by simpa using h2
  by_cases h3 : k < 1
  · have d3 : decide (k < 1) = true := by simpa using h3
    clear h h1 h2 h3
    go_enter Try.func6, Try.ntmps6
    go_wp2_with fail
    refine HAL.out.mono ?_
    rintro e W ⟨rfl, hb⟩
    go_wp2_with fail
    go_ret
    exact ⟨rfl, hb⟩
  have d3 : decide (k < 1) = false := by simpa using h3
  have h4 : k > 6 := by omega
  have d4 : decide (k > 6) = true := by simpa using h4
  have d4' : decide (6 < k) = true := by simpa using h4
  clear h h1 h2 h3 h4
  go_enter Try.func6, Try.ntmps6
  go_wp2_with fail
  refine HAL.out.mono ?_
  rintro e W ⟨rfl, hb⟩
  go_wp2_with fail
  go_ret
  exact ⟨rfl, hb⟩

set_option maxRecDepth 100000 in
set_option maxHeartbeats 16000000 in
theorem never_c (w : World) (n k : Nat) (hn1 : 1 ≤ n) (hn2 : n ≤ 30) (hk1 : 1 ≤ k) (hk2 : k ≤ 6) :
    Calls Try.prog 6 #[.int .i64 (n : Int), .int .i64 (k : Int)] w fun e w' => e = .returned (.bool true) ∧ Below w.heap.size w w' := by
  have HAL := hid_of (alive25_c w)
  have HNU := hid_of num_c
  obtain ⟨zs, HZ⟩ : ∃ zs : Array Value, Hid (zs = (List.replicate k (Value.int .i64 0)).toArray) := ⟨_, (rfl : _ = (List.replicate k (Value.int .i64 0)).toArray)⟩
  have hmk : ∀ W : World, (Instr.makeSlice 26 (.int .i64 (k : Int)) (.int .i64 (k : Int))).run Try.prog W = .ok (.slice (some ⟨W.heap.size, 0, none⟩) k k) (W.alloc (.cells zs 3)) := fun W => by
    rw [HZ.out]; exact run_mk_int W k (by omega)
  have d1 : decide ((n : Int) < 1) = false := by simp; omega
  have d2 : decide ((n : Int) > 30) = false := by simp; omega
  have d3 : decide ((k : Int) < 1) = false := by simp; omega
  have d4 : decide ((k : Int) > 6) = false := by simp; omega
  have d1' : decide (n < 1) = false := by simp; omega
  have d2' : decide (30 < n) = false := by simp; omega
  have d3' : decide (k < 1) = false := by simp; omega
  have d4' : decide (6 < k) = false := by simp; omega
  go_enter Try.func6, Try.ntmps6
  go_wp2_with fail
  refine HAL.out.mono ?_
  rintro e W ⟨rfl, hb⟩
  have HB := hid_of hb
  clear HAL hb
  go_upto_region 5 with fail
  refine wp_at (fun X => Row X W.heap.size 25 [.slice none 0 0, .slice none 0 0] ∧ Below W.heap.size W X) ⟨heap_alloc_eq _ _ _ rfl, bel_alloc (bel_refl W) _⟩ ?_
  clear d1 d2 d3 d4 d1' d2' d3' d4'
  rintro X ⟨hr, hX⟩
  obtain ⟨cb, Hcb⟩ : ∃ cb, Hid (W.heap.size = cb) := ⟨_, (rfl : W.heap.size = _)⟩
  have H0 : Hid (NvB w cb n k 0 0 X) := by
    have hbx := bel_call HB.out hX
    rw [Hcb.out] at hr
    refine ⟨fun _ => False, fun _ => False, none, 0, [], none, 0, [], hr, RwS.nil _ _ _ _ _, rfl, by rw [List.take_zero]; exact EdS.nil _ _ _, fun _ h => absurd h id, fun _ h => absurd h id, fun _ h => absurd h id, ?_, hbx⟩
    rw [← Hcb.out]; exact HB.out.size
  rw [Hcb.out]
  clear hr hX HB Hcb
  go_wp2_with fail
  go_loopw [7] (fun s7 wx => ∃ i : Nat, i ≤ n ∧ s7 = .int .i64 i ∧ Hid (NvB w cb n k i (i - 1) wx)) (fun s7 _ => n - (intOf s7).toNat)
  case atStart => exact ⟨0, by omega, rfl, H0⟩
  case round =>
    obtain ⟨i, hi, rfl, HI⟩ := hrel
    clear H0
    by_cases hit : i < n
    · have hiz : (i : Int) < (n : Int) := by omega
      obtain ⟨W0, rfl⟩ : ∃ W0, W0 = wr := ⟨wr, rfl⟩
      obtain ⟨Zn, Z, na, nc, vn, ea, ec, ve, hr, hRw, hvl, hE, hZn, hZ, hd, hcb, hbl⟩ := HI.out
      have c0 := hr.cell (k := 0) rfl
      have hon : W0.ownsRow (cb + 1) 26 1 (.slice na i nc) i vn := by have h1 := hRw.ow; rw [hvl] at h1; exact h1
      have hcl := hr.lt
      have hT : ∀ (gg cap : Nat) (w1 : World), w1.ownsRow (cb + 1) 26 1 (.slice (some ⟨gg, 0, none⟩) (i + 1) cap) (i + 1) (vn ++ [.slice (some ⟨W0.heap.size, 0, none⟩) k k]) →
          ((W0.alloc (.cells zs 3)).alloc (.cells #[.slice (some ⟨W0.heap.size, 0, none⟩) k k] 26)).drew.grownBy w1 (Value.slice na i nc).ownBlock → ((Value.slice na i nc).ownBlock = some gg ∨ gg = W0.heap.size + 2) →
          w1.cell? ⟨cb, 0, none⟩ = some (.slice na i nc) ∧ w1.frozen? ⟨cb, 0, none⟩ = false ∧ NvB w cb n k (i + 1) (i - 1) (w1.setCell ⟨cb, 0, none⟩ (.slice (some ⟨gg, 0, none⟩) (i + 1) cap)) := fun gg cap w1 ho hg hat => by
        refine NvB.node (w := w) (uc := k) (ua := some ⟨W0.heap.size, 0, none⟩) hr hRw hvl hE hZn hZ hd hcb hbl hit (bel_alloc (bel_alloc (bel_refl W0) _) _).drew ?_ ho hg (hat.imp id fun e => by simp; omega)
        have h1 : Row ((W0.alloc (.cells zs 3)).alloc (.cells #[.slice (some ⟨W0.heap.size, 0, none⟩) k k] 26)).drew W0.heap.size 3 (ints (List.replicate k 0)) := by
          show ((W0.alloc _).alloc _).heap[W0.heap.size]? = _
          refine heap_alloc_ne _ _ _ _ ((heap_alloc_eq W0 (.cells zs 3) _ rfl).trans ?_)
          rw [HZ.out]; simp [Go.Proofs.Ytdomnbgjafdnjaa.ints]
        have h2 := ints_of_row (p := fun b => W0.heap.size ≤ b ∧ b < ((W0.alloc (.cells zs 3)).alloc (.cells #[.slice (some ⟨W0.heap.size, 0, none⟩) k k] 26)).drew.heap.size) h1 ⟨Nat.le_refl _, by simp; omega⟩ (by simp; omega)
        rw [List.length_replicate] at h2
        exact h2
      obtain ⟨i0, hi0, hz0, hz1, hz2⟩ := info_parts infoInts1
      have hi30 : i ≤ 30 := by omega
      clear hr hRw hvl hE hZn hZ hd hbl HI
      go_upto_region 8 with fail
      go_cut [] (fun wx => NvB w cb n k (i + 1) (i - 1) wx)
      case first =>
        go_region_law (first
          | (refine step_append_lies _ (by rfl) _ _ _ (by rfl) (cb + 1) 26 i0 _ 1 24 Try.underlying22 hi0 hz0 hz1 hz2 rfl (by omega) (.slice na i nc) i vn (by rfl) (owns_below hon (bel_alloc (bel_alloc (bel_refl W0) (.cells zs 3)) (.cells #[.slice (some ⟨W0.heap.size, 0, none⟩) k k] 26)).drew) ⟨W0.heap.size + 1, 0, none⟩ 1 1 [.slice (some ⟨W0.heap.size, 0, none⟩) k k] (by rfl) (by rfl) (World.news_of_block (cs := #[.slice (some ⟨W0.heap.size, 0, none⟩) k k]) (t := 26) (fr := (0, 0)) (heap_alloc_eq (W0.alloc (.cells zs 3)) _ _ (by simp))) (by simp [Value.oneCell']) (by omega) (by unfold maxLen; omega) (by omega) (by simp; omega) (W0.heap.size + 2) (by simp) ?_; intro gg cap w1 hown1 hgrow hat hlt1; obtain ⟨u1, u2, u3⟩ := hT gg cap w1 hown1 hgrow hat))
        all_goals (try go_wp2_with fail)
        all_goals go_meet
        all_goals exact u3
      case rest =>
        have HH := hid_of hcut
        clear hT hon c0 hcl
        by_cases h0 : i = 0
        · subst h0
          go_wp2_with fail
          go_roundw
          case rel => exact ⟨0 + 1, by omega, by go_num, HH⟩
          case measure => simp [intOf]; omega
        · have d0 : ((i : Int) == 0) = false := by simpa using h0
          have d0' : (i == 0) = false := by simpa using h0
          have hi1 : 1 ≤ i := by omega
          obtain ⟨W1, rfl⟩ : ∃ W1, W1 = wc := ⟨wc, rfl⟩
          clear h0 hcut
          go_upto_region 11 with fail
          refine wp_at (fun X => Row X W1.heap.size 32 [.int .i64 ((i : Int) - 1), .int .i64 (i : Int), .slice none 0 0] ∧ Below W1.heap.size W1 X) ⟨heap_alloc_eq _ _ _ rfl, bel_alloc (bel_refl W1) _⟩ ?_
          rintro X2 ⟨rx, hX2⟩
          have HM0 : Hid (NvM W1 W1.heap.size ((i : Int) - 1) (i : Int) (nvM k) 0 X2) := ⟨fun _ => False, none, 0, [], rx, RwS.nil _ _ _ _ _, rfl, fun b hb => absurd hb id, hX2⟩
          clear rx hX2 d0 d0'
          go_wp2_with fail
          go_loopw [9] (fun s9 wx => ∃ p : Nat, p ≤ k ∧ s9 = .int .i64 p ∧ Hid (NvM W1 W1.heap.size ((i : Int) - 1) (i : Int) (nvM k) p wx)) (fun s9 _ => k - (intOf s9).toNat)
          case atStart => exact ⟨0, by omega, rfl, HM0⟩
          case round =>
            obtain ⟨p, hp, rfl, HP⟩ := hrel
            clear HM0
            obtain ⟨Zm, ma, mc, vs, hrx, hRw, hvl, hZm, hbx⟩ := HP.out
            clear HP
            by_cases hpt : p < k
            · have hpz : (p : Int) < (k : Int) := by omega
              have HRX := hid_of hrx
              have HRW := hid_of hRw
              have HVL := hid_of hvl
              have HZM := hid_of hZm
              have HBX := hid_of hbx
              clear hrx hRw hvl hZm hbx
              obtain ⟨W2, rfl⟩ : ∃ W2, W2 = wr := ⟨wr, rfl⟩
              go_upto_region 15 with fail
              refine wp_at (fun X => Row X W2.heap.size 3 (ints (List.replicate k 0)) ∧ Below W2.heap.size W2 X) ⟨(heap_alloc_eq W2 (.cells zs 3) _ rfl).trans (by rw [HZ.out]; simp [Go.Proofs.Ytdomnbgjafdnjaa.ints]), bel_alloc (bel_refl W2) _⟩ ?_
              rintro X3 ⟨hg3, hX3⟩
              have HX3 := hid_of hX3
              have HG3 := hid_of hg3
              have g1 := hg3.cell (k := p) (v := .int .i64 0) (by simp [Go.Proofs.Ytdomnbgjafdnjaa.ints, hpt])
              have g2 := hg3.frozen p
              clear hg3 hX3
              go_upto_region 16 with fail
              refine wp_at (fun X => Row X W2.heap.size 3 (ints (nvR k p)) ∧ Below W2.heap.size W2 X) ⟨by have h1 := HG3.out.set p (.int .i64 1099511627776); rw [ints_set] at h1; exact h1, bel_setCell HX3.out (Nat.le_refl _)⟩ ?_
              clear g1 g2 HX3 HG3
              rintro X4 ⟨hg4, hX4⟩
              have hrl := nvR_length k p
              have hrow := nvM_get hpt
              obtain ⟨R, HR⟩ : ∃ R, Hid (nvR k p = R) := ⟨_, (rfl : nvR k p = _)⟩
              rw [HR.out] at hg4 hrl hrow
              have hRi : IsInts (fun b => W2.heap.size ≤ b ∧ b < X4.heap.size) X4 (.slice (some ⟨W2.heap.size, 0, none⟩) k k) R := by
                have h2 := ints_of_row (p := fun b => W2.heap.size ≤ b ∧ b < X4.heap.size) hg4 ⟨Nat.le_refl _, hg4.lt⟩ (by omega)
                rw [hrl] at h2
                exact h2
              have hRX := HRX.out.keep (hX4.block _ HRX.out.lt)
              have hRW := HRW.out.keep (W' := X4) (fun b _ hlt => hX4.block b hlt)
              have x2 := hRX.cell (k := 2) rfl
              have fx2 := hRX.frozen 2
              have HRO := hid_of hrow
              have HRL := hid_of hrl
              have HRI := hid_of hRi
              have HQB := hid_of hX4
              have HX2 := hid_of hRX
              have HW2 := hid_of hRW
              clear hg4 hX4 hrl hrow hRi hRX hRW
              go_wp2_with (at_builtin; refine stop_here ?_)
              refine stop_go (app_cell 22 26 (.slice none 0 0) 24 Try.underlying22 infoInts1 rfl rfl _ _ rfl (W1.heap.size + 1) (.slice ma p mc) vs rfl (owns_below (by have h1 := HW2.out.ow; exact h1) (bel_alloc (bel_refl X4) _)) _ (.slice (some ⟨W2.heap.size, 0, none⟩) k k) rfl rfl (heap_alloc_eq _ _ _ rfl) (by have := HVL.out; omega) (by have := HVL.out; unfold maxLen; omega) (by have h1 := HX2.out.lt; simp; omega) ?_)
              intro v' w' ho hgr hv
              have hps := RwS.push (Y := X4.alloc (.cells #[.slice (some ⟨W2.heap.size, 0, none⟩) k k] 26)) (u := .slice (some ⟨W2.heap.size, 0, none⟩) k k) HRW.out (fun b hb => (HZM.out b hb).2) (bel_alloc HQB.out _) (ua := some ⟨W2.heap.size, 0, none⟩) (uc := k) (by rw [HVL.out, HRO.out, HRL.out]) (by rw [HVL.out, HRO.out]; exact HRI.out.keep (fun b hb hlt => ⟨⟨hb.1, by simp; omega⟩, Below.heap_alloc _ _ _ hlt⟩)) ho hgr (hv.imp id (fun e => ⟨_, e, Nat.le_refl _⟩))
              obtain ⟨ma2, mc2, rfl, -⟩ := owns_slice hps.ow
              have hl2 : (vs ++ [Value.slice (some ⟨W2.heap.size, 0, none⟩) k k]).length = p + 1 := by rw [List.length_append, HVL.out]; rfl
              rw [hl2] at hps hv ⊢
              have hxw : W1.heap.size < X4.heap.size := HX2.out.lt
              have hown := fun b => HW2.out.ow.lt b
              have hX5 := HX2.out.keep (hgr.block W1.heap.size (by simp; omega) (fun e => by have := (hown _ e.symm).1; omega) |>.trans (Below.heap_alloc _ _ _ hxw))
              have HX5 := hid_of (hX5.set 2 (.slice ma2 (p + 1) mc2))
              have y2 := hX5.cell (k := 2) rfl
              have fy2 := hX5.frozen 2
              have hb7 : Below W1.heap.size W1 w' := bel_grown (bel_alloc (bel_call HBX.out HQB.out) _) hgr (fun b e => by have := (hown b e).1; omega)
              have HN : Hid (NvM W1 W1.heap.size ((i : Int) - 1) (i : Int) (nvM k) (p + 1) (w'.setCell ⟨W1.heap.size, 2, none⟩ (.slice ma2 (p + 1) mc2))) :=
                ⟨_, ma2, mc2, _, HX5.out, hps.keep (fun b hb hlt => Below.heap_setCell _ _ _ _ (fun e => by
                  have e : b = W1.heap.size := e
                  rcases hb with hb | hb
                  · have := (HZM.out b hb).1; omega
                  · have h1 := HBX.out.size; have h2 := HRX.out.lt; omega)), hl2, fun b hb => by
                  have hgz := hgr.size
                  have hqz := HQB.out.size
                  have hrz := HRX.out.lt
                  simp at hgz ⊢
                  rcases hb with hb | hb
                  · have := HZM.out b hb; omega
                  · omega, Below.setCell hb7 (by show W1.heap.size ≤ W1.heap.size; exact Nat.le_refl _) _⟩
              clear ho hgr hv hps hl2 hxw hown hX5 HX5 hb7 x2 fx2 HRO HRL HRI HX2 HW2
              go_wp2_with fail
              go_roundw
              case rel => exact ⟨p + 1, by omega, by go_num, HN⟩
              case measure => simp [intOf]; omega
            · obtain rfl : p = k := by omega
              have hMl := nvM_length p
              obtain ⟨ma', mc', hme, hRows⟩ := hRw.rows (by rw [hvl, hMl]) (by rw [hMl]; omega)
              rw [hMl] at hme hRows
              simp only [Value.slice.injEq] at hme
              obtain ⟨rfl, -, rfl⟩ := hme
              obtain ⟨Zn, Z, na, nc, vn, ea, ec, ve, hR1, hRn, hvn, hE1, hZn, hZ, hd, -, hbl⟩ := HH.out
              have hEl : ((nvE n p).take (i - 1)).length = i - 1 := by rw [List.length_take, nvE_length]; omega
              have hEt := nvE_take (n := n) (k := p) (i := i - 1) (by omega)
              have hic : (((i - 1 : Nat)) : Int) = (i : Int) - 1 := by omega
              have hi2 : i - 1 + 1 = i := by omega
              rw [hic, hi2] at hEt
              obtain ⟨M, HM⟩ : ∃ M, Hid (nvM p = M) := ⟨_, (rfl : nvM p = _)⟩
              rw [HM.out] at hEt hMl hRows
              obtain ⟨Es, HEs⟩ : ∃ Es, Hid ((nvE n p).take (i - 1) = Es) := ⟨_, (rfl : (nvE n p).take (i - 1) = _)⟩
              rw [HEs.out] at hEl hEt hE1
              obtain ⟨j, Hj⟩ : ∃ j, Hid (i - 1 = j) := ⟨_, (rfl : i - 1 = _)⟩
              rw [Hj.out] at hE1 hR1 hEl
              have hj30 : j ≤ 30 := by have := Hj.out; omega
              have hxl := hrx.lt
              have hcbl := hR1.lt
              have x0 := hrx.cell (k := 0) rfl
              have x1 := hrx.cell (k := 1) rfl
              have x2 := hrx.cell (k := 2) rfl
              have hR2 := hR1.keep (hbx.block _ hcbl)
              have e1 := hR2.cell (k := 1) rfl
              have fe1 := hR2.frozen 1
              have HE1 := hid_of hE1
              have HR2 := hid_of hR2
              have HRO := hid_of hRows
              have HBX := hid_of hbx
              have HML := hid_of hMl
              have HEL := hid_of hEl
              have HET := hid_of hEt
              have HXL := hid_of hxl
              have HZMB := hid_of hZm
              have HRN := hid_of hRn
              have HVN := hid_of hvn
              have HZN := hid_of hZn
              have HZ := hid_of hZ
              have HD := hid_of hd
              have HBL := hid_of hbl
              clear hMl hRows hEl hEt hic hi2 hE1 hR1 hR2 hRw hvl hZm hbx hrx hxl hRn hvn hZn hZ hd hbl HH
              go_wp2_with (at_builtin; refine stop_here ?_)
              refine stop_go (app_edge rfl _ _ rfl (cb + 1) j (.slice ea j ec) ve rfl (by have h1 := (HE1.out.keep (W' := wr) (fun b _ hlt => HBX.out.block b hlt)).ow; rw [HEL.out] at h1; exact owns_below h1 (bel_alloc (bel_refl wr) _)) _ (.int .i64 ((i : Int) - 1)) (.int .i64 (i : Int)) (.slice ma p mc) ⟨rfl, rfl, rfl⟩ rfl (heap_alloc_eq _ _ _ rfl) (by omega) (by have h1 := HBX.out.size; have h2 := HR2.out.lt; simp; omega) ?_)
              intro v' w' ho hgr hv
              obtain ⟨ea2, ec2, rfl, -⟩ := owns_slice ho
              have hps := EdS.push (Y := wr.alloc (.cells #[.int .i64 ((i : Int) - 1), .int .i64 (i : Int), .slice ma p mc] 32)) HE1.out (fun b hb => (HZ.out b hb).2) (fun b _ hlt => (Below.heap_alloc _ _ _ (by have := HBX.out.size; omega)).trans (HBX.out.block b hlt)) (by have := HBX.out.size; simp; omega) ⟨(i : Int) - 1, (i : Int), M⟩ (ua := ma) (uc := mc) (by
                rw [show (⟨(i : Int) - 1, (i : Int), M⟩ : EdgeD).cost.length = p from HML.out]
                exact HRO.out.keep (fun b hb hlt => ⟨⟨by have := (HZMB.out b hb.1).1; omega, by simp; omega⟩, Below.heap_alloc _ _ _ hlt⟩)) (by rw [show (⟨(i : Int) - 1, (i : Int), M⟩ : EdgeD).cost.length = p from HML.out, HEL.out]; exact ho) hgr (hv.imp id (fun e => ⟨_, e, Nat.le_refl _⟩))
              rw [← HET.out] at hps
              have hub := fun b => HE1.out.ow.lt b
              have hcw : cb < wr.heap.size := HR2.out.lt
              have hR3 := HR2.out.keep (hgr.block cb (by simp; omega) (fun e => by have := (hub _ e.symm).1; omega) |>.trans (Below.heap_alloc _ _ _ hcw))
              have g1 := hR3.cell (k := 1) rfl
              have fg1 := hR3.frozen 1
              have hR4 := hR3.set 1 (.slice ea2 (j + 1) ec2)
              have hb7 : Below w.heap.size w w' := bel_grown (bel_alloc (bel_call HBL.out HBX.out) _) hgr (fun b e => by have := (hub b e).1; omega)
              have hgz := hgr.size
              have hbz := HBX.out.size
              have hzo := HE1.out.oz
              have HN : Hid (NvB w cb n p (i + 1) (j + 1) (w'.setCell ⟨cb, 1, none⟩ (.slice ea2 (j + 1) ec2))) := by
                have hij : j + 1 = i := by have := Hj.out; omega
                have htk : (nvE n p).take i = (nvE n p).take (j + 1) := by rw [hij]
                rw [htk] at hps
                refine ⟨Zn, _, na, nc, vn, ea2, ec2, _, hR4, HRN.out.keep fun b hb hlt => ?_, HVN.out, by exact hps.keep (fun b hb hlt => Below.heap_setCell w' ⟨cb, 1, none⟩ _ _ (fun e => by
                  have e : b = cb := e
                  rcases hb with hb | hb
                  · have := (HZ.out b hb).1; omega
                  · omega)), fun b hb => ?_, fun b hb => ?_, fun b hb hz => ?_, hcb, Below.setCell hb7 (by show w.heap.size ≤ cb; exact hcb) _⟩
                · have h1 := HZN.out b hb
                  have hne : b ≠ cb := by omega
                  have hns : some b ≠ (Value.slice ea j ec).ownBlock := fun e => HD.out b hb (hzo b e.symm)
                  exact (Below.heap_setCell w' _ _ _ hne).trans ((hgr.block b (by simp; omega) hns).trans ((Below.heap_alloc _ _ _ (by omega)).trans (HBX.out.block b hlt)))
                · have := HZN.out b hb
                  simp at hgz ⊢
                  omega
                · simp at hgz ⊢
                  rcases hb with hb | hb
                  · have := HZ.out b hb; omega
                  · omega
                · rcases hz with hz | hz
                  · exact HD.out b hb hz
                  · have := HZN.out b hb; omega
              have HIJ : Hid (i + 1 - 1 = j + 1) := by show _ = _; have := Hj.out; omega
              clear ho hgr hv hps hub hcw hR3 hR4 hb7 hgz hbz hzo x0 x1 x2 e1 fe1 HE1 HR2 HRO HML
              go_wp2_with fail
              go_roundw
              case rel => exact ⟨i + 1, by omega, by go_num, by rw [HIJ.out]; exact HN⟩
              case measure => simp [intOf]; omega
    · obtain rfl : i = n := by omega
      obtain ⟨Zn, Z, na, nc, vn, ea, ec, ve, hr, hRw, hvl, hE, hZn, hZ, hd, hcb, hbl⟩ := HI.out
      clear HI
      rw [List.take_of_length_le (by rw [nvE_length]; exact Nat.le_refl _)] at hE
      have hNl := nvN_length i k
      have hEl := nvE_length i k
      obtain ⟨ma', mc', hme, hRows⟩ := hRw.rows (by rw [hvl, hNl]) (by rw [hNl]; omega)
      rw [hNl] at hme hRows
      simp only [Value.slice.injEq] at hme
      obtain ⟨rfl, -, rfl⟩ := hme
      obtain ⟨ea', ec', hev, hEd⟩ := hE.edges (by rw [hEl]; omega)
      rw [hEl] at hev hEd
      simp only [Value.slice.injEq] at hev
      obtain ⟨rfl, -, rfl⟩ := hev
      have hpq : IsPq (· < wr.heap.size) wr na i nc ea (i - 1) ec (nvN i k) (nvE i k) := ⟨hRows.keep (Keep.refl wr fun b hb _ => hb.2), hEd.keep (Keep.refl wr fun b hb _ => hb.2)⟩
      have hS := solve_chain wr (fun b hb => hb) hpq (nv_chk hn2 ⟨hk1, hk2⟩) (nv_chain (by omega))
      rw [nv_cost hn1 ⟨hk1, hk2⟩] at hS
      obtain ⟨el, Hel⟩ : ∃ el, Hid (i - 1 = el) := ⟨_, (rfl : i - 1 = _)⟩
      rw [Hel.out] at hS hr
      have r0 := hr.cell (k := 0) rfl
      have r1 := hr.cell (k := 1) rfl
      have HBL := hid_of hbl
      have hii : ((i : Int) == (i : Int)) = true := by simp
      clear hr hRw hvl hE hZn hZ hd hbl hNl hEl hRows hEd hpq hmk
      by_cases hk : k = 1
      · have dk : ((k : Int) == 1) = true := by simp; omega
        have dk' : (k == 1) = true := by simp; omega
        by_cases hn : 1 < i
        · rw [if_pos ⟨hk, hn⟩] at hS
          have dn : decide ((i : Int) > 1) = true := by simp; omega
          have dn' : decide (1 < i) = true := by simpa using hn
          have HSO := hid_of hS
          clear hS hk hn
          go_wp2_with fail
          refine HSO.out.mono ?_
          rintro e W5 ⟨lb, rfl, hb5⟩
          have HB6 := hid_of (bel_call HBL.out hb5)
          clear r0 r1 hb5
          go_wp2_with fail
          refine (HNU.out _ _).mono ?_
          rintro e W6 ⟨rfl, rfl⟩
          go_wp2_with fail
          go_ret
          exact ⟨rfl, HB6.out⟩
        · rw [if_neg (fun e => hn e.2)] at hS
          have dn : decide ((i : Int) > 1) = false := by simp; omega
          have dn' : decide (1 < i) = false := by simpa using hn
          have HSO := hid_of hS
          clear hS hk hn
          go_wp2_with fail
          refine HSO.out.mono ?_
          rintro e W5 ⟨lb, rfl, hb5⟩
          have HB6 := hid_of (bel_call HBL.out hb5)
          clear r0 r1 hb5
          go_wp2_with fail
          refine (HNU.out _ _).mono ?_
          rintro e W6 ⟨rfl, rfl⟩
          go_wp2_with fail
          go_ret
          exact ⟨rfl, HB6.out⟩
      · rw [if_neg (fun e => hk e.1)] at hS
        have dk : ((k : Int) == 1) = false := by simp; omega
        have dk' : (k == 1) = false := by simp; omega
        have HSO := hid_of hS
        clear hS hk
        go_wp2_with fail
        refine HSO.out.mono ?_
        rintro e W5 ⟨lb, rfl, hb5⟩
        have HB6 := hid_of (bel_call HBL.out hb5)
        clear r0 r1 hb5
        go_wp2_with fail
        refine (HNU.out _ _).mono ?_
        rintro e W6 ⟨rfl, rfl⟩
        go_wp2_with fail
        go_ret
        exact ⟨rfl, HB6.out⟩

theorem pbqpNever_c (w : World) (n k : Int) :
    Calls Try.prog 6 #[.int .i64 n, .int .i64 k] w fun e w' => e = .returned (.bool true) ∧ Below w.heap.size w w' := by
  by_cases hb : 1 ≤ n ∧ n ≤ 30 ∧ 1 ≤ k ∧ k ≤ 6
  · obtain ⟨nN, rfl⟩ : ∃ nN : Nat, n = nN := ⟨n.toNat, by omega⟩
    obtain ⟨kN, rfl⟩ : ∃ kN : Nat, k = kN := ⟨k.toNat, by omega⟩
    exact never_c w nN kN (by omega) (by omega) (by omega) (by omega)
  · exact never_out w n k (by omega)
end Go.Proofs.Ytdomnbgjafdnjaa
