/- The law CfgLine. -/
import Derived.Test.YtcihobmjohpnkaaAlive14
import Derived.Test.YtcihobmjohpnkaaReach
import Derived.Test.YtcihobmjohpnkaaTopo
import Derived.Test.YtcihobmjohpnkaaOpen
import Derived.BigQuiet
import Derived.Deep.RegionWith
import Derived.Deep.LoopGhost
import Derived.Deep.DeepCutAuto
namespace Go.Proofs.Ytcihobmjohpnkaa
open Go.RowKit Go.Sort

def LineTo (ll : List (List Int)) (k : Nat) : Prop := ∀ (i : Nat) (h : i < ll.length), i < k → ∀ x ∈ ll[i], (i : Int) < x ∧ x < ll.length

set_option maxRecDepth 100000 in
set_option maxHeartbeats 4000000 in
theorem cfgLine_c {p : Nat → Prop} {v : Value} {ll : List (List Int)} (w : World) (h0 : IsRows p w v ll) :
    Calls Try.prog 4 #[v] w fun e w' => e = .returned (.bool true) ∧ Below w.heap.size w w' := by
  have h : IsRows (· < w.heap.size) w v ll := h0.keep (Keep.refl w fun _ _ hb => hb)
  clear h0
  obtain ⟨a, cap, hv, hlen, _⟩ := id h
  subst hv
  go_enter Try.func4, Try.ntmps4
  go_wp2_with fail
  refine (alive14_c w).mono ?_
  rintro e w1 ⟨rfl, hB1⟩
  have hk1 := h.keep (Keep.belowB hB1)
  by_cases h60 : 60 < ll.length
  · have hd : decide ((ll.length : Int) > 60) = true := by simpa using (by omega : (60 : Int) < ll.length)
    go_wp2
    go_ret
    exact ⟨rfl, hB1⟩
  · have hd : decide ((ll.length : Int) > 60) = false := by simpa using (by omega : (ll.length : Int) ≤ 60)
    go_wp2_with fail
    go_loop [4, 5] (fun i j => ∃ k : Nat, k ≤ ll.length ∧ i = .int .i64 k ∧ LineTo ll k) (fun i _ => ll.length - (intOf i).toNat)
    case atStart => exact ⟨0, by omega, rfl, fun i _ hi => by omega⟩
    case round =>
      obtain ⟨k, hk, rfl, hI⟩ := hrel
      by_cases hlt : k < ll.length
      · obtain ⟨_, _, hv0, -, hx⟩ := id hk1
        simp only [Value.slice.injEq, true_and] at hv0
        obtain ⟨rfl, rfl⟩ := hv0
        rcases hx with rfl | ⟨b, off, rfl, hpb, hx⟩
        · simp at hlt
        obtain ⟨vi, c1, ai, capi, rfl, ⟨hli0, hli⟩, hxi⟩ := hx k hlt
        rw [Nat.mul_one] at c1
        clear hx
        obtain ⟨row, HR⟩ : ∃ row, Hid (ll[k] = row) := ⟨ll[k], (rfl : ll[k] = ll[k])⟩
        rw [HR.out] at c1 hxi hli hli0
        go_wp2_with fail
        go_loop [5] (fun j => ∃ m : Nat, m ≤ row.length ∧ j = .int .i64 m ∧ ∀ i (hi : i < row.length), i < m → (k : Int) < row[i] ∧ row[i] < ll.length) (fun j => row.length - (intOf j).toNat)
        case atStart => exact ⟨0, by omega, rfl, fun i _ hi => by omega⟩
        case round =>
          obtain ⟨m, hm, rfl, hJ⟩ := hrel
          by_cases hmt : m < row.length
          · rcases hxi with rfl | ⟨bt, ot, rfl, _, hxi⟩
            · simp at hmt
            have t0 := hxi m hmt
            simp only [CInt, Nat.mul_one] at t0
            clear hxi
            obtain ⟨x, HX⟩ : ∃ x, Hid (row[m] = x) := ⟨row[m], (rfl : row[m] = row[m])⟩
            rw [HX.out] at t0
            by_cases hx1 : x ≤ (k : Int)
            · go_wp2
              go_ret
              exact ⟨rfl, hB1⟩
            · by_cases hx2 : (ll.length : Int) ≤ x
              · go_wp2
                go_ret
                exact ⟨rfl, hB1⟩
              · go_wp2_with fail
                go_round
                case rel =>
                  refine ⟨m + 1, by omega, by go_num, fun i hi him => ?_⟩
                  by_cases e : i = m
                  · subst e; rw [HX.out]; omega
                  · exact hJ i hi (by omega)
                case measure => simp [intOf]; omega
          · have hme : m = row.length := by omega
            go_wp2_with fail
            go_round
            case rel =>
              refine ⟨k + 1, by omega, by go_num, fun i hi him x hx => ?_⟩
              by_cases e : i = k
              · subst e
                rw [HR.out] at hx
                obtain ⟨q, hq, rfl⟩ := List.mem_iff_getElem.1 hx
                exact hJ q hq (by omega)
              · exact hI i hi (by omega) x hx
            case measure => simp [intOf]; omega
      · have hL : Line ll := fun i hi x hx => hI i hi (by omega) x hx
        have HS := line_succ hL
        clear hI hL
        have hfl : (flowS ll).length = ll.length := by simp [flowS]
        go_wp2_with fail
        refine (flow_c w1 hk1 (by omega)).mono ?_
        rintro e w2 ⟨u, rfl, hbl, hb2⟩
        have hB2 := bel_call hB1 hb2
        have hol := orderS_length (flowS ll)
        obtain ⟨hnd, hrg⟩ := orderS_nodup (flowS ll)
        have htp : ∀ {x y : Int}, x ∈ orderS (flowS ll) → y ∈ succS (flowS ll) x → atV (orderS (flowS ll)) (orderS (flowS ll)).length x < atV (orderS (flowS ll)) (orderS (flowS ll)).length y := fun hx hy => topo_at _ HS hx hy
        rw [hfl] at hol hrg
        have hle : (flowS ll).length ≤ 1000 := by omega
        have HLE : Hid ((flowS ll).length ≤ 1000 ∧ ∀ b, ∀ x ∈ succS (flowS ll) b, 0 ≤ x ∧ x < (ll.length : Int)) := ⟨hle, fun b x hx => by have := succS_range _ b x hx; rwa [hfl] at this⟩
        clear HS hk1
        obtain ⟨O, HO⟩ : ∃ O, Hid (orderS (flowS ll) = O) := ⟨_, (rfl : orderS (flowS ll) = orderS (flowS ll))⟩
        rw [HO.out] at hol hnd hrg htp
        have HT : Hid (O.Nodup ∧ (∀ x ∈ O, (0 : Int) ≤ x ∧ x < ll.length) ∧ ∀ x y : Int, x ∈ O → y ∈ succS (flowS ll) x → atV O O.length x < atV O O.length y) := ⟨hnd, hrg, fun x y => htp⟩
        clear hnd hrg htp hfl
        obtain ⟨L, HLL⟩ : ∃ L, Hid (flowS ll = L) := ⟨_, (rfl : flowS ll = flowS ll)⟩
        rw [HLL.out] at hbl hle HO HT HLE
        go_wp2_with fail
        refine (order_c w2 hbl hle).mono ?_
        rintro e w3 ⟨uo, rfl, ho, hb3⟩
        rw [HO.out] at ho
        have hB3 := bel_call hB2 hb3
        obtain ⟨B, HB⟩ : ∃ B, Hid (w3.heap.size = B) := ⟨_, (rfl : w3.heap.size = w3.heap.size)⟩
        have hbl3 : IsBlocks (· < B) w3 u L := (hbl.keep (Keep.below hb3)).keep (Keep.refl w3 fun _ _ hb => by have := HB.out; omega)
        have hio : IsInts (· < B) w3 uo O := (ints_of_own ho (by omega)).keep (Keep.refl w3 fun _ _ hb => by have := HB.out; omega)
        clear hbl hb2 ho hb3 hB2
        obtain ⟨ol, hol'⟩ : ∃ ol, Hid (ol = O.length) := ⟨_, (rfl : O.length = O.length)⟩
        obtain ⟨oa, oc, rfl, -, hox⟩ := id hio
        go_wp2_with (at_make; refine stop_here ?_)
        refine stop_go (mk_ints rfl _ _ rfl ll.length rfl rfl (by omega) ?_)
        refine k_at (fun W => Row W B 3 (ints (List.replicate ll.length 0)) ∧ Below B w3 W) ⟨heap_alloc_eq _ _ _ HB.out.symm, by rw [← HB.out]; exact bel_alloc (bel_refl w3) _⟩ ?_
        rintro W4 ⟨hr4, hb4⟩
        rw [HB.out]
        go_wp2_with fail
        go_loopw [9] (fun i wr => ∃ (k : Nat) (zs : List Int), k ≤ ll.length ∧ zs.length = ll.length ∧ i = .int .i64 k ∧ Row wr B 3 (ints zs) ∧ Below B w3 wr ∧ (∀ i (hi : i < zs.length), i < k → zs[i] = -1)) (fun i _ => ll.length - (intOf i).toNat)
        case atStart => exact ⟨0, _, by omega, by simp, rfl, hr4, hb4, fun i _ hi => by omega⟩
        case round =>
          obtain ⟨k, zs, hk, hz, rfl, hR, hb, hzs⟩ := hrel
          clear hr4 hb4
          by_cases hlt : k < ll.length
          · have c1 := hR.cell (k := k) (v := .int .i64 zs[k]) (by simp [ints, hz, hlt])
            have f1 := hR.frozen k
            have hR1 := hR.set k (.int .i64 (-1))
            rw [ints_set] at hR1
            have hb1 := hb.setCell (p := ⟨B, k, none⟩) (Nat.le_refl _) (.int .i64 (-1))
            have hlb := hR.lt
            clear hR hb
            go_wp2_with fail
            go_roundw
            case rel =>
              refine ⟨k + 1, zs.set k (-1), by omega, by simpa using hz, by go_num, hR1, hb1, fun i hi hik => ?_⟩
              rw [List.getElem_set]
              split
              · rfl
              · exact hzs i (by simpa using hi) (by omega)
            case measure => simp [intOf]; omega
          · have hze : zs = atS O 0 ll.length := by
              rw [atS_zero]
              refine List.ext_getElem (by simpa using hz) fun i h1 h2 => ?_
              rw [hzs i h1 (by omega)]; simp
            subst hze
            clear hzs hz
            go_wp2_with fail
            go_loopw [10] (fun i wr => ∃ k : Nat, k ≤ O.length ∧ i = .int .i64 k ∧ Row wr B 3 (ints (atS O k ll.length)) ∧ Below B w3 wr) (fun i _ => O.length - (intOf i).toNat)
            case atStart => exact ⟨0, by omega, rfl, hR, hb⟩
            case round =>
              obtain ⟨k2, hk2, rfl, hR2, hb2⟩ := hrel
              clear hR hb
              by_cases hlt2 : k2 < O.length
              · have hio2 := hio.keep (Keep.belowB hb2)
                obtain ⟨_, _, hv0, -, hx⟩ := hio2
                simp only [Value.slice.injEq, true_and] at hv0
                obtain ⟨rfl, rfl⟩ := hv0
                rcases hx with rfl | ⟨ob, oo, rfl, hpb, hx⟩
                · simp at hlt2
                have t0 := hx k2 hlt2
                simp only [CInt, Nat.mul_one] at t0
                have hbl2 := lt_of_cell t0
                clear hx
                obtain ⟨hx0, hxn⟩ := HT.out.2.1 O[k2] (List.getElem_mem hlt2)
                have hfr := atV_fresh HT.out.1 hlt2
                have hst := atS_step (n := ll.length) HT.out.1 hlt2 hx0 hxn
                obtain ⟨xn, hxe⟩ : ∃ xn : Nat, O[k2] = xn := ⟨O[k2].toNat, by omega⟩
                rw [hxe] at t0 hx0 hxn hfr hst
                have hxn' : xn < ll.length := by omega
                have c1 := hR2.cell (k := xn) (v := .int .i64 (-1)) (by simp [ints, atS_length, hxn', atS_get hxn', hfr])
                have f1 := hR2.frozen xn
                have hR1 := hR2.set xn (.int .i64 k2)
                rw [ints_set, show xn = (xn : Int).toNat by omega, hst] at hR1
                have hb1 := hb2.setCell (p := ⟨B, xn, none⟩) (Nat.le_refl _) (.int .i64 k2)
                have hlb := hR2.lt
                clear hR2 hb2 hfr hst hxe
                go_wp2_with fail
                go_roundw
                case rel =>
                  exact ⟨k2 + 1, by omega, by go_num, by simpa using hR1, hb1⟩
                case measure => simp [intOf]; omega
              · have hke : k2 = O.length := by omega
                subst hke
                clear hk2
                go_wp2_with fail
                go_loopg [11, 12, 13] ll.length (fun g i s j wr => ∃ k : Nat, k + g = ll.length ∧ i = .int .i64 k ∧ Row wr B 3 (ints (atS O O.length ll.length)) ∧ Below B w3 wr)
                case atStart => exact ⟨0, by omega, rfl, hR2, hb2⟩
                case round =>
                  obtain ⟨k3, hk3, rfl, hR3, hb3⟩ := hrel
                  clear hR2 hb2
                  by_cases hlt3 : k3 < ll.length
                  · obtain ⟨av, HAV⟩ : ∃ av, Hid (atV O O.length (k3 : Int) = av) := ⟨_, (rfl : atV O O.length (k3 : Int) = atV O O.length (k3 : Int))⟩
                    have c1 := hR3.cell (k := k3) (v := .int .i64 av) (by simp [ints, atS_length, hlt3, atS_get hlt3, HAV.out])
                    have hbl4 := hbl3.keep (Keep.belowB hb3)
                    have hsz := hR3.lt
                    have hav : inS O (k3 : Int) = decide (av ≥ 0) := by
                      unfold inS
                      rw [decide_eq_decide, ← HAV.out, ← atV_nonneg]
                    have hbd : Below wr.heap.size wr wr.drew := (bel_refl _).drew
                    have hreach : Calls Try.prog 29 #[u, .int .i64 (k3 : Int)] wr.drew fun e W2 => e = .returned (.bool (decide (av ≥ 0))) ∧ W2.cell? ⟨B, k3, none⟩ = some (.int .i64 av) ∧ Row W2 B 3 (ints (atS O O.length ll.length)) ∧ Below B w3 W2 := by
                      refine (reached_c wr.drew k3 (hbl4.keep (Keep.below hbd)) hle).mono ?_
                      rintro e W2 ⟨rfl, hb5⟩
                      rw [HO.out, hav]
                      have hb6 : Below wr.heap.size wr W2 := bel_call hbd hb5
                      have hR5 := hR3.keep (hb6.block B hsz)
                      exact ⟨rfl, hR5.cell (by simp [ints, atS_length, hlt3, atS_get hlt3, HAV.out]), hR5, hb3.trans (hb6.mono (Nat.le_of_lt hsz))⟩
                    have hbn : (decide (av ≥ 0) != decide (av ≥ 0)) = false := by simp
                    go_upto_region 28 with fail
                    go_cut [126] (fun bb wx => bb = .bool false ∧ Row wx B 3 (ints (atS O O.length ll.length)) ∧ Below B w3 wx)
                    case first =>
                      clear hio hbl3 hbl4 h
                      go_region_with (refine hreach.mono ?_; rintro e W2 ⟨rfl, c2, hR5, hb5⟩)
                      all_goals (try go_wp2_with fail)
                      all_goals go_meet
                      all_goals exact ⟨by simp, by assumption, by assumption⟩
                    case rest =>
                      obtain ⟨rfl, hR4, hb4⟩ := hcut
                      clear hR3 hb3 c1 hbl4 hsz hreach hbd hav hbn
                      go_wp2_with fail
                      refine (succs_c wc k3 (hbl3.keep (Keep.belowB hb4))).mono ?_
                      rintro e W5 ⟨us, rfl, hs, hb5⟩
                      have hR5 := hR4.keep (hb5.block B hR4.lt)
                      have hB5 := hb4.trans (hb5.mono (Nat.le_of_lt hR4.lt))
                      have hsl := succS_length L (k3 : Int)
                      have his := ints_of_own hs (by omega)
                      have HSS : Hid (∀ y ∈ succS L (k3 : Int), (0 ≤ y ∧ y < (ll.length : Int)) ∧ (0 ≤ av → av < atV O O.length y)) := fun y hy => ⟨HLE.out.2 _ y hy, fun h0 => by
                        rw [← HAV.out] at h0 ⊢
                        exact HT.out.2.2 _ y (atV_nonneg.1 h0) hy⟩
                      generalize succS L (k3 : Int) = ys at his hsl HSS
                      obtain ⟨sa, sc, rfl, -, -⟩ := id his
                      clear hs hR4 hb4 hb5
                      go_wp2_with fail
                      obtain ⟨go, hgo⟩ : ∃ go, go = gk := ⟨gk, rfl⟩
                      go_loopg [13] ys.length (fun g j wr => ∃ m : Nat, m + g = ys.length ∧ j = .int .i64 m ∧ Below W5.heap.size W5 wr)
                      case atStart => exact ⟨0, by omega, rfl, bel_refl _⟩
                      case round =>
                        obtain ⟨m, hm, rfl, hb6⟩ := hrel
                        have hR6 := hR5.keep (hb6.block B hR5.lt)
                        by_cases hmt : m < ys.length
                        · have his6 := his.keep (Keep.below hb6)
                          obtain ⟨_, _, hv0, -, hx⟩ := his6
                          simp only [Value.slice.injEq, true_and] at hv0
                          obtain ⟨rfl, rfl⟩ := hv0
                          rcases hx with rfl | ⟨sb, so, rfl, hpb, hx⟩
                          · simp at hmt
                          have t0 := hx m hmt
                          simp only [CInt, Nat.mul_one] at t0
                          have hbs := lt_of_cell t0
                          clear hx
                          obtain ⟨⟨hy0, hyn⟩, hlt7⟩ := HSS.out ys[m] (List.getElem_mem hmt)
                          obtain ⟨yn, hye⟩ : ∃ yn : Nat, ys[m] = yn := ⟨ys[m].toNat, by omega⟩
                          rw [hye] at t0 hy0 hyn hlt7
                          have hyn' : yn < ll.length := by omega
                          have c1 := hR6.cell (k := k3) (v := .int .i64 av) (by simp [ints, atS_length, hlt3, atS_get hlt3, HAV.out])
                          obtain ⟨ay, HAY⟩ : ∃ ay, Hid (atV O O.length (yn : Int) = ay) := ⟨_, (rfl : atV O O.length (yn : Int) = atV O O.length (yn : Int))⟩
                          rw [HAY.out] at hlt7
                          have c2 := hR6.cell (k := yn) (v := .int .i64 ay) (by simp [ints, atS_length, hyn', atS_get hyn', HAY.out])
                          have hlb := hR6.lt
                          have hdd := bel_drewN hb6
                          clear hye hR6 hb6
                          by_cases hav0 : 0 ≤ av
                          · have hd1 : decide (av ≥ 0) = true := by simpa using hav0
                            have hd2 : decide (ay ≤ av) = false := by have := hlt7 hav0; simpa using (by omega : av < ay)
                            clear hlt7
                            go_wp2_with fail
                            go_quiet (fail)
                            go_wp2_with fail
                            go_roundg (gk - 1)
                            case measure => omega
                            case rel => exact ⟨m + 1, by omega, by go_num, hdd _⟩
                          · have hd1 : decide (av ≥ 0) = false := by simpa using (by omega : av < 0)
                            clear hlt7
                            go_wp2_with fail
                            go_quiet (fail)
                            go_wp2_with fail
                            go_roundg (gk - 1)
                            case measure => omega
                            case rel => exact ⟨m + 1, by omega, by go_num, hdd _⟩
                        · have hB6 := hB5.trans (hb6.mono (Nat.le_of_lt hR5.lt))
                          go_wp2_with fail
                          go_roundg (go - 1)
                          case measure => omega
                          case rel => exact ⟨k3 + 1, by omega, by go_num, hR6, hB6⟩
                  · go_wp2_with fail
                    go_ret
                    refine ⟨rfl, ?_⟩
                    exact bel_call hB3 (by rw [HB.out]; exact hb3)
end Go.Proofs.Ytcihobmjohpnkaa
