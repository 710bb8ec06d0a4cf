/- 'LiveWays': the walk. -/
import Derived.Test.YtcihobmjohpnkaaLvWy
import Derived.Test.YtcihobmjohpnkaaLiveUses
namespace Go.Proofs.Ytcihobmjohpnkaa
open Go.RowKit Go.Sort

set_option maxRecDepth 100000 in
set_option maxHeartbeats 16000000 in
theorem liveWays_c {v : Value} {l : List InsD} (w : World) (h : IsInsL (· < w.heap.size) w v l) (_hN : ∀ i ∈ l, i.name.size ≤ 9223372036854775807) : Calls Try.prog 7 #[v] w fun e w' => e = .returned (.bool true) ∧ Below w.heap.size w w' := by
  have HAL := hid_of (alive17_c w)
  obtain ⟨a, cap, rfl, hl, hx⟩ := id h
  obtain ⟨n, Hn⟩ : ∃ n, Hid (l.length = n) := ⟨_, (rfl : l.length = _)⟩
  rw [Hn.out] at hl h ⊢
  by_cases h2 : (n : Int) > 60
  · have d2 : decide ((n : Int) > 60) = true := by simpa using h2
    have d2' : decide (60 < n) = true := by simp; omega
    clear hx
    go_enter Try.func7, Try.ntmps7
    go_wp2_with fail
    refine HAL.out.mono ?_
    rintro e W ⟨rfl, hb⟩
    go_wp2_with fail
    go_ret
    exact ⟨rfl, hb⟩
  have d2 : decide ((n : Int) > 60) = false := by simpa using h2
  have d2' : decide (60 < n) = false := by simp; omega
  have hn : n ≤ 60 := by omega
  clear h2
  go_enter Try.func7, Try.ntmps7
  go_wp2_with fail
  refine HAL.out.mono ?_
  rintro e W ⟨rfl, hb⟩
  go_wp2_with fail
  have H0 : Hid (∀ j (hj : j < l.length), j < 0 → (l[j].k ≠ 7 ∧ l[j].k ≠ 8) ∧ l[j].args.length ≤ 20) := fun j hj h => by omega
  go_loop [4] (fun s4 => ∃ k : Nat, k ≤ n ∧ s4 = .int .i64 k ∧ Hid (∀ j (hj : j < l.length), j < k → (l[j].k ≠ 7 ∧ l[j].k ≠ 8) ∧ l[j].args.length ≤ 20)) (fun s4 => n - (intOf s4).toNat)
  case atStart => exact ⟨0, by omega, rfl, H0⟩
  case round =>
    obtain ⟨k, hk, rfl, HK⟩ := hrel
    clear H0
    by_cases hlt : k < n
    · have hlt' : k < l.length := by rw [Hn.out]; exact hlt
      rcases hx with hx | ⟨lb, lo, rfl, hplb, hx⟩
      · rw [hx] at hlt'; simp at hlt'
      obtain ⟨e0, e1, e2, e3, e4, e5, ⟨v6, e6, hv6⟩, e7, e8⟩ := hx k hlt'
      obtain ⟨a6, cap6, rfl, -, -⟩ := id hv6
      have t0 := (hb.cell (p := ⟨lb, lo + k * 9, none⟩) hplb).trans e0
      have t6 := (hb.cell (p := ⟨lb, lo + k * 9 + 6, none⟩) hplb).trans e6
      have hkI : (k : Int) < (n : Int) := by omega
      have hk0 : (0 : Int) ≤ (k : Int) := by omega
      clear e0 e1 e2 e3 e4 e5 e6 e7 e8 hv6
      by_cases h7 : l[k].k = 7
      · have q7 : (l[k].k == 7) = true := by simpa using h7
        clear hx h7
        go_wp2_with fail
        go_ret
        exact ⟨rfl, hb⟩
      · have q7 : (l[k].k == 7) = false := by simpa using h7
        by_cases h8 : l[k].k = 8
        · have q8 : (l[k].k == 8) = true := by simpa using h8
          clear hx h7 h8
          go_wp2_with fail
          go_ret
          exact ⟨rfl, hb⟩
        · have q8 : (l[k].k == 8) = false := by simpa using h8
          by_cases h20 : 20 < l[k].args.length
          · have q9 : decide ((l[k].args.length : Int) > 20) = true := by simp; omega
            have q9' : decide (20 < l[k].args.length) = true := by simpa using h20
            clear hx h7 h8 h20
            go_wp2_with fail
            go_ret
            exact ⟨rfl, hb⟩
          · have q9 : decide ((l[k].args.length : Int) > 20) = false := by simp; omega
            have q9' : decide (20 < l[k].args.length) = false := by simpa using h20
            have HK2 : Hid (∀ j (hj : j < l.length), j < k + 1 → (l[j].k ≠ 7 ∧ l[j].k ≠ 8) ∧ l[j].args.length ≤ 20) := fun j hj hjk => by
              by_cases e : j = k
              · subst e; exact ⟨⟨h7, h8⟩, by omega⟩
              · exact HK.out j hj (by omega)
            clear hx h7 h8 h20 HK
            go_wp2_with fail
            go_round
            case rel => exact ⟨k + 1, by omega, by go_num, HK2⟩
            case measure => simp [intOf]; omega
    · obtain rfl : k = n := by omega
      go_wp2_with fail
      have HL : Hid ((∀ i ∈ l, i.k ≠ 7 ∧ i.k ≠ 8) ∧ ∀ i ∈ l, i.args.length ≤ 20) := by
        have hall : ∀ i ∈ l, (i.k ≠ 7 ∧ i.k ≠ 8) ∧ i.args.length ≤ 20 := fun i hi => by
          obtain ⟨j, hj, rfl⟩ := List.mem_iff_getElem.1 hi
          exact HK.out j hj (by rw [← Hn.out]; exact hj)
        exact ⟨fun i hi => (hall i hi).1, fun i hi => (hall i hi).2⟩
      have hb1 := bel_alloc (bel_refl W) (.cells #[.slice a k cap] 40)
      have hB1 := bel_call hb hb1
      have hbl : IsBlocks (· < (W.alloc (.cells #[.slice a k cap] 40)).heap.size) (W.alloc (.cells #[.slice a k cap] 40)) (.slice (some ⟨W.heap.size, 0, none⟩) 1 1) [l] := by
        refine ⟨_, 1, rfl, ⟨by simp, by simp⟩, .inr ⟨W.heap.size, 0, rfl, by show W.heap.size < _; simp, fun j hj => ?_⟩⟩
        have : j = 0 := by simpa using hj
        subst this
        refine ⟨_, Row.cell (e := 40) (vs := [.slice a k cap]) (heap_alloc_eq _ _ _ rfl) rfl, ?_⟩
        exact h.keep (fun b hb' hlt => ⟨by have := hB1.size; show b < _; omega, hB1.block b hlt⟩)
      have hbd : ∀ q ∈ [l], q.length ≤ 100000 ∧ ∀ i ∈ q, i.args.length ≤ 1000000 := by
        intro q hq
        simp only [List.mem_singleton] at hq
        subst hq
        exact ⟨by rw [Hn.out]; omega, fun i hi => by have := HL.out.2 i hi; omega⟩
      have hIn := liveIn_c (W.alloc (.cells #[.slice a k cap] 40)) ⟨#[]⟩ none 0 0 none 0 0 ⟨#[]⟩ _ 1 1 hbl (by omega) hbd
      unfold funcV at hIn
      have HIN := hid_of hIn
      clear hIn hbl hbd HK hk hlt
      refine HIN.out.mono ?_
      rintro e W2 ⟨u, own, vals, I, O, rfl, hLv, hr, hb2⟩
      obtain ⟨rfl, rfl⟩ := live_one (way_succ HL.out.1) hLv
      have hm : ([genW l] : List (List Nat)).map listI = [listI (genW l)] := rfl
      rw [hm] at hr
      have hB2 := bel_call hB1 hb2
      have hlen := hr.len
      match vals, hlen, hr with
      | [v0], _, hr =>
        have hrow := hr.row
        have hel := hr.el 0 (by simp)
        have hgl := listI_good ⟨(gen_can l).1, (gen_can l).2⟩
        have hv0 : IsInts (· < W2.heap.size) W2 v0 (listI (genW l)) := ints_of_owns hel (by show (listI (genW l)).length ≤ _; omega) (fun _ _ _ h => h)
        obtain ⟨ua, uc, rfl, hua⟩ := owns_slice hrow
        obtain ⟨ug, rfl⟩ := hua (by simp)
        obtain ⟨va, vc, rfl, -⟩ := owns_slice hel
        have c0 := hrow.cellAt 0 (by simp)
        simp only [List.getElem?_cons_zero] at c0
        have hlu := (hrow.lt ug rfl).2
        have HV0 := hid_of hv0
        clear hr hrow hel hLv hm HIN hlen hua hb1 hB1 hb2 hb HAL hv0
        go_wp2_with fail
        go_loopw [6, 7, 8] (fun s6 s7 s8 wx => ∃ i : Nat, i ≤ k ∧ s8 = .int .i64 i ∧ IsInts (pD W2.heap.size s7) wx s6 (listI (genW (l.take i))) ∧ wx.ownsRow W2.heap.size 3 1 s7 ((l.take i).map defS).length (ints ((l.take i).map defS)) ∧ Below W2.heap.size W2 wx) (fun _ _ s8 _ => k - (intOf s8).toNat)
        case atStart => exact ⟨0, by omega, rfl, ints_nil _ _, World.ownsRow_nil _ _ _ _, bel_refl _⟩
        case round =>
          obtain ⟨i, hi, rfl, hw, ho, hB3⟩ := hrel
          obtain ⟨wa, wc2, rfl, -, -⟩ := id hw
          have hgi := listI_good ⟨(gen_can (l.take i)).1, (gen_can (l.take i)).2⟩
          by_cases hit : i < k
          · have hil : i < l.length := by rw [Hn.out]; exact hit
            rcases hx with hx | ⟨lb, lo, rfl, hplb, hx⟩
            · rw [hx] at hil; simp at hil
            have hBw := bel_call hB2 hB3
            have hci := CIns.keep (p := (· < w.heap.size)) (p' := (· < w.heap.size)) hplb (hx i hil) (Keep.belowB hBw)
            have EG : Hid (listI (genW (l.take (i + 1))) = wantU ((l.take i).map defS) (listI (genW (l.take i))) (usesS l[i])) := by
              rw [List.take_succ_eq_append_getElem hil]; exact gen_snoc _ _
            have ED : Hid ((l.take (i + 1)).map defS = (l.take i).map defS ++ [defS l[i]]) := by
              rw [List.take_succ_eq_append_getElem hil, List.map_append]; exact (rfl : _ ++ [defS l[i]] = _)
            have hia := HL.out.2 _ (List.getElem_mem hil)
            obtain ⟨ii, hli1⟩ : ∃ ii, l[i] = ii := ⟨_, rfl⟩
            rw [hli1] at hci EG ED hia
            have hul := usesS_length ii
            have hxx := hx
            have hli2 := hli1
            have hw3 : True := trivial
            obtain ⟨ik, idd, ja, ib, inn, iname, iargs, it, jf⟩ := ii
            obtain ⟨d0, d1, d2', d3, d4, d5, ⟨v6, d6, hv6⟩, d7, d8⟩ := hci
            obtain ⟨a6, cap6, rfl, hl6, hx6⟩ := id hv6
            dsimp only at d0 d1 d2' d3 d4 d5 d6 d7 d8 hv6 hl6 hia hul
            have hszw := hBw.size
            have hv6w := (Below.cell (p := ⟨lb, lo + i * 9 + 6, none⟩) hBw hplb).symm.trans d6
            have HXX := hid_of hxx
            have HLI2 := hid_of hli2
            have HV6W := hid_of hv6w
            clear hxx hli2 hv6w
            have hU := hid_of (uses_c wr ⟨ik, idd, ja, ib, inn, iname, iargs, it, jf⟩ a6 iargs.length cap6 (hv6.keep (Keep.refl wr fun b hb hlt => hlt)) (by show iargs.length ≤ 1000000; omega))
            have hD := hid_of (fun X => def_c X ⟨ik, idd, ja, ib, inn, iname, iargs, it, jf⟩ a6 iargs.length cap6)
            unfold insV at hU hD
            obtain ⟨us, Hus⟩ : ∃ us, Hid (usesS ⟨ik, idd, ja, ib, inn, iname, iargs, it, jf⟩ = us) := ⟨_, (rfl : usesS ⟨ik, idd, ja, ib, inn, iname, iargs, it, jf⟩ = _)⟩
            rw [Hus.out] at hU hul EG
            have hkI : (i : Int) < (k : Int) := by omega
            have hk0 : (0 : Int) ≤ (i : Int) := by omega
            obtain ⟨D, HD⟩ : ∃ D, Hid (defS ⟨ik, idd, ja, ib, inn, iname, iargs, it, jf⟩ = D) := ⟨_, (rfl : defS ⟨ik, idd, ja, ib, inn, iname, iargs, it, jf⟩ = _)⟩
            rw [HD.out] at hD ED
            obtain ⟨T, HT⟩ : ∃ T, Hid (listI (genW (l.take i)) = T) := ⟨_, (rfl : listI (genW (l.take i)) = _)⟩
            rw [HT.out] at hw hgi EG ⊢
            obtain ⟨wro, Hwro⟩ : ∃ wro, Hid ((l.take i).map defS = wro) := ⟨_, (rfl : (l.take i).map defS = _)⟩
            rw [Hwro.out] at ho EG ED
            have hwl : wro.length ≤ 60 := by rw [← Hwro.out]; simp; omega
            clear hli1 hx6 hl6 hv6 hx
            go_wp2_with fail
            refine hU.out.mono ?_
            rintro e W4 ⟨z, rfl, hz, hb4⟩
            have hzi : IsInts (fun _ => True) W4 z us := ints_of_owns hz (by omega) (fun _ _ _ _ => trivial)
            obtain ⟨za, zc, rfl, -⟩ := owns_slice hz
            have hw4 := hw.keep (p' := pD W2.heap.size u7) (Keep.below hb4)
            have ho4 := owns_below ho hb4
            have hB4 := bel_call hB3 hb4
            have hs4 := hb4.size
            clear hz hw ho hU d0 d1 d2' d3 d4 d5 d6 d7 d8
            obtain ⟨wm, rfl⟩ : ∃ wm : World, wm = W4 := ⟨_, rfl⟩
            go_wp2_with fail
            go_loopw [6, 10] (fun s6 s10 wy => ∃ j : Nat, j ≤ us.length ∧ s10 = .int .i64 j ∧ IsInts (pD W2.heap.size u7) wy s6 (wantU wro T (us.take j)) ∧ Below wm.heap.size wm wy) (fun _ s10 _ => us.length - (intOf s10).toNat)
            case atStart => exact ⟨0, by omega, rfl, hw4, bel_refl _⟩
            case round =>
              obtain ⟨j, hj, rfl, hw5, hB5⟩ := hrel
              obtain ⟨ya, yc, rfl, -, -⟩ := id hw5
              have ho5 := owns_below ho4 hB5
              have hs5 := hB5.size
              by_cases hjt : j < us.length
              · obtain ⟨_, _, hv0, -, hx⟩ := id hzi
                simp only [Value.slice.injEq, true_and] at hv0
                obtain ⟨rfl, rfl⟩ := hv0
                rcases hx with hx | ⟨sb, so, rfl, -, hx⟩
                · rw [hx] at hjt; simp at hjt
                have t0 := hx j hjt
                simp only [CInt, Nat.mul_one] at t0
                have hls := lt_of_cell t0
                replace t0 := (hB5.cell (p := ⟨sb, so + j, none⟩) hls).trans t0
                have HE := hid_of (wantU_snoc wro T (us.take j) us[j])
                rw [← List.take_succ_eq_append_getElem hjt] at HE
                have hwlen := wantU_length wro (us.take j) T
                have htl : (us.take j).length ≤ 22 := by rw [List.length_take]; omega
                have hro : IsInts (fun _ => True) wr u7 wro := ints_of_owns ho5 (by omega) (fun _ _ _ _ => trivial)
                have hIn2 := hid_of (in_c (n := us[j]) wr hro)
                have hPut := hid_of (put_c wr us[j] hw5 (by omega))
                obtain ⟨x, hx2⟩ : ∃ x, us[j] = x := ⟨_, rfl⟩
                rw [hx2] at t0 HE hIn2 hPut
                have HW5 := hid_of hw5
                have HO5 := hid_of ho5
                clear hx hx2 hwlen htl hro hw5 ho5
                go_wp2_with fail
                refine hIn2.out.mono ?_
                rintro e W6 ⟨rfl, rfl⟩
                cases hib : inS wro x with
                | true =>
                  rw [hib, if_pos rfl] at HE
                  clear hIn2 hPut HO5
                  go_wp2_with fail
                  go_roundw
                  case rel => exact ⟨j + 1, by omega, by go_num, by rw [HE.out]; exact HW5.out, hB5⟩
                  case measure => simp [intOf]; omega
                | false =>
                  rw [hib, if_neg (by simp)] at HE
                  go_wp2_with fail
                  refine hPut.out.mono ?_
                  rintro e W7 ⟨z2, rfl, hz2, hb7⟩
                  rw [← HE.out] at hz2
                  have hB7 := bel_call hB5 hb7
                  have hw7 := hz2.keep (p' := pD W2.heap.size u7) (Keep.refl W7 fun b hb _ => by
                    rcases hb with hb | hb
                    · exact hb
                    · exact ⟨by have := hB4.size; omega, fun e => by have := (ho4.lt b e.symm).2; omega⟩)
                  clear hIn2 hPut HE HW5 HO5 hz2 hb7 hB5 t0
                  go_wp2_with fail
                  go_roundw
                  case rel => exact ⟨j + 1, by omega, by go_num, hw7, hB7⟩
                  case measure => simp [intOf]; omega
              · obtain rfl : j = us.length := by omega
                rw [List.take_length, ← EG.out] at hw5 ⊢
                have hB6 := bel_call hB4 hB5
                have hBw6 := bel_call hB2 hB6
                have ho6 := ho5
                have hci := CIns.keep (p := (· < w.heap.size)) (p' := (· < w.heap.size)) hplb (HXX.out i hil) (Keep.belowB hBw6)
                rw [HLI2.out] at hci
                obtain ⟨d0, d1, d2', d3, d4, d5, ⟨v6, d6, hv6⟩, d7, d8⟩ := hci
                dsimp only at d0 d1 d2' d3 d4 d5 d6 d7 d8
                have hv6e : v6 = .slice a6 iargs.length cap6 := by
                  have := (Below.cell (p := ⟨lb, lo + i * 9 + 6, none⟩) hBw6 hplb).symm.trans d6
                  rw [HV6W.out] at this
                  exact (Option.some.inj this).symm
                subst hv6e
                have hs6 := hB6.size
                have hkI : (i : Int) < (k : Int) := by omega
                have hk0 : (0 : Int) ≤ (i : Int) := by omega
                have hln : wro.length + 1 ≤ 17592186044416 := by omega
                clear hzi ho4 ho5 hw4 hj hjt hv6 hw3
                go_wp2_with fail
                refine (hD.out wr).mono ?_
                rintro e W8 ⟨rfl, hb8⟩
                have hw8 := hw5.keep (p' := pD W2.heap.size u7) (Keep.below hb8)
                have ho8 := owns_below ho6 hb8
                have hB8 := bel_call hB6 hb8
                have hs8 := hb8.size
                clear hw5 ho6 hb8 hB6 d0 d1 d2' d3 d4 d5 d6 d7 d8
                go_wp2_with (at_builtin; refine stop_here ?_)
                refine stop_go (app_int rfl _ _ rfl W2.heap.size u7 wro rfl (ho8.alloc _) _ _ rfl (heap_alloc_eq _ _ _ rfl) hln (by simp <;> omega) ?_)
                intro v' w' ho9 hg hv
                have hB9 := bel_grown (bel_alloc hB8 (.cells #[.int .i64 D] 3)) hg (fun k hk => (ho8.lt k hk).1)
                have hw9 := (hw8.keep (p' := pD W2.heap.size u7) (Keep.below (bel_alloc (bel_refl W8) (.cells #[.int .i64 D] 3)))).keep (p' := pD W2.heap.size v') (Keep.grown hg fun b hb hlt => ⟨⟨hb.1, fun e => by
                  rcases hv with e' | e'
                  · exact hb.2 (e.trans e')
                  · rw [e'] at e; simp at e hlt; omega⟩, hb.2⟩)
                rw [← ED.out] at ho9
                have HW9 := hid_of hw9
                have HO9 := hid_of ho9
                clear hw8 ho8 hB8 hg hv hw9 ho9
                go_wp2_with fail
                go_roundw
                case rel => exact ⟨i + 1, by omega, by go_num, HW9.out, HO9.out, hB9⟩
                case measure => simp [intOf]; omega
          · obtain rfl : i = k := by omega
            have et : l.take i = l := by rw [← Hn.out, List.take_length]
            rw [et] at hw ⊢
            have c1 := (hB3.cell (p := ⟨ug, 0, none⟩) hlu).trans c0
            have hv1 := HV0.out.keep (p' := fun _ => True) (fun b hb hlt => ⟨trivial, hB3.block b hlt⟩)
            have hSm := sameInts_c wr hv1 hw
            rw [sameS_self] at hSm
            have HSM := hid_of hSm
            have hBe := bel_call hB2 hB3
            have hlu2 := lt_of_cell c1
            clear c0 hv1 hw hSm ho et
            go_wp2_with fail
            refine HSM.out.mono ?_
            rintro e W9 ⟨rfl, nd, rfl⟩
            have hBf := bel_drewN hBe nd
            go_wp2_with fail
            go_ret
            exact ⟨rfl, hBf⟩
end Go.Proofs.Ytcihobmjohpnkaa
