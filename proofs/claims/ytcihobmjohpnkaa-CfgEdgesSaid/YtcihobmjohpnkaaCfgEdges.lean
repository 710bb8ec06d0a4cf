/- The law CfgEdges. -/
import Derived.Test.YtcihobmjohpnkaaAlive14
import Derived.Test.YtcihobmjohpnkaaReach
import Derived.Test.YtcihobmjohpnkaaPredsR
import Derived.Test.YtcihobmjohpnkaaTopo
import Derived.Test.YtcihobmjohpnkaaOpen
import Derived.BigQuiet
import Derived.Deep.RegionWith
import Derived.Deep.RegionHeld3
import Derived.Deep.LoopGhost
import Derived.Deep.DeepCutAuto
namespace Go.Proofs.Ytcihobmjohpnkaa
open Go.RowKit Go.Sort

set_option maxRecDepth 100000 in
theorem reachedR_c {p : Nat → Prop} {v : Value} {l : List (List InsD)} (w : World) (h : IsBlocks p w v l) (hl : l.length ≤ 1000) :
    Calls Try.prog 31 #[v] w fun e w' => ∃ g, e = .returned (.slice (some ⟨g, 0, none⟩) l.length l.length) ∧ w.heap.size ≤ g ∧ Row w' g 4 (bools (fromS l 0 (-1))) ∧ Below w.heap.size w w' := by
  have h0 := h
  obtain ⟨a, cap, hv, _, _⟩ := id h
  subst hv
  obtain ⟨F, HF⟩ : ∃ F, Hid (fromS l 0 (-1) = F) := ⟨_, (rfl : fromS l 0 (-1) = fromS l 0 (-1))⟩
  rw [HF.out]
  go_enter Try.func31, Try.ntmps31
  go_wp2_with fail
  refine (fromR_c w 0 (-1) h0 hl).mono ?_
  rintro e w2 ⟨g, rfl, hg, hr, hb2⟩
  rw [HF.out] at hr
  go_wp2_with fail
  go_ret
  exact ⟨g, rfl, hg, hr, hb2⟩

theorem out_none {l : List (List InsD)} {b : Int} (h : ¬ (0 ≤ b ∧ b < (l.length : Int))) : succS l b = [] ∧ predS l b = [] ∧ inS (orderS l) b = false := by
  refine ⟨?_, ?_, ?_⟩
  · unfold succS
    split
    · unfold succN
      have : l.length ≤ b.toNat := by omega
      rw [List.getD_eq_getElem?_getD, List.getElem?_eq_none this]; rfl
    · rfl
  · unfold predS
    rw [List.map_eq_nil_iff, List.filter_eq_nil_iff]
    intro i _ hi
    unfold inS at hi
    have := succS_range l (i : Int) b (by simpa using hi)
    exact h this
  · unfold inS
    have := (orderS_nodup l).2
    simp only [decide_eq_false_iff_not]
    intro hm
    exact h (this b hm)

/-- The cell to come is there, and all that was. -/
def EdS (W : World) (gr k : Nat) (bk : Bool) (X : World) : Prop := X.cell? ⟨gr, k, none⟩ = some (.bool bk) ∧ Below W.heap.size W X
theorem EdS.call {W X Y : World} {gr k : Nat} {bk : Bool} (h : EdS W gr k bk X) (hb : Below X.heap.size X Y) (hg : gr < W.heap.size) : EdS W gr k bk Y :=
  ⟨(hb.cell (p := ⟨gr, k, none⟩) (by have := h.2.size; show gr < _; omega)).trans h.1, bel_call h.2 hb⟩
theorem EdS.drew {W X : World} {gr k : Nat} {bk : Bool} (h : EdS W gr k bk X) : EdS W gr k bk X.drew := ⟨h.1, h.2.drew⟩

set_option maxRecDepth 100000 in
set_option maxHeartbeats 4000000 in
theorem cfgEdges_c {p : Nat → Prop} {v : Value} {l : List (List InsD)} (w : World) (h0 : IsBlocks p w v l) (b : Int) :
    Calls Try.prog 5 #[v, .int .i64 b] w fun e w' => e = .returned (.bool true) ∧ Below w.heap.size w w' := by
  have h : IsBlocks (· < w.heap.size) w v l := h0.keep (Keep.refl w fun _ _ hb => hb)
  clear h0
  obtain ⟨a, cap, hv, _, _⟩ := id h
  subst hv
  go_enter Try.func5, Try.ntmps5
  go_wp2_with fail
  refine (alive14_c w).mono ?_
  rintro e w1 ⟨rfl, hB1⟩
  have hk1 := h.keep (Keep.belowB hB1)
  go_wp2_with fail
  refine (big_c w1 hk1).mono ?_
  rintro e w1' ⟨r, rfl, rfl, hr⟩
  cases r with
  | true =>
    go_wp2
    go_ret
    exact ⟨rfl, hB1⟩
  | false =>
    have hl := hr rfl
    clear hr
    go_wp2_with fail
    refine (reachedR_c w1' hk1 (by omega)).mono ?_
    rintro e w2 ⟨gr, rfl, hgr, hR, hb2⟩
    have hB2 := bel_call hB1 hb2
    have hgl := hR.lt
    have HG := hB1.size
    clear hb2 hk1 hB1
    go_wp2_with fail
    go_loopg [8, 9, 10] l.length (fun g i s9 s10 wr => ∃ k : Nat, k + g = l.length ∧ i = .int .i64 k ∧ Row wr gr 4 (bools (fromS l 0 (-1))) ∧ Below w.heap.size w wr ∧ gr < wr.heap.size)
    case atStart => exact ⟨0, by omega, rfl, hR, hB2, hgl⟩
    case round =>
      obtain ⟨k, hk, rfl, hR1, hB3, hgl3⟩ := hrel
      clear hR hB2 hgl
      by_cases hlt : k < l.length
      · have hk1 : IsBlocks (· < w.heap.size) wr (.slice a l.length cap) l := h.keep (Keep.belowB hB3)
        have hRT := reach_two hlt
        have hsz := hB3.size
        go_wp2_with fail
        refine (succs_c wr k hk1).mono ?_
        rintro e W ⟨us, rfl, hs, hb4⟩
        have hR4 := hR1.keep (hb4.block _ hgl3)
        have hB4 := bel_call hB3 hb4
        have hsl := succS_length l (k : Int)
        have his := (ints_of_own hs (by omega)).keep (Keep.refl (p' := (· < W.heap.size)) W fun _ _ hb => hb)
        have hgl4 := hR4.lt
        have hsW := hB4.size
        have hk2 : IsBlocks (· < W.heap.size) W (.slice a l.length cap) l := (h.keep (Keep.belowB hB4)).keep (Keep.refl W fun _ _ hb => hb)
        have c1 : W.cell? ⟨gr, k, none⟩ = some (.bool (inS (orderS l) (k : Int))) := hR4.cell (by simp [bools, hRT])
        have hpl := predS_length l (k : Int)
        obtain ⟨bk, HBK⟩ : ∃ bk, Hid (inS (orderS l) (k : Int) = bk) := ⟨_, (rfl : inS (orderS l) (k : Int) = inS (orderS l) (k : Int))⟩
        rw [HBK.out] at c1
        obtain ⟨ys, HYS⟩ : ∃ ys, Hid (succS l (k : Int) = ys) := ⟨_, (rfl : succS l (k : Int) = succS l (k : Int))⟩
        rw [HYS.out] at hs hsl his
        obtain ⟨ps, HPS⟩ : ∃ ps, Hid (predS l (k : Int) = ps) := ⟨_, (rfl : predS l (k : Int) = predS l (k : Int))⟩
        rw [HPS.out] at hpl
        have hA32 : ∀ X, EdS W gr k bk X → Calls Try.prog 32 #[.slice a l.length cap, .int .i64 (k : Int)] X fun e Y => ∃ u, e = .returned u ∧ EdS W gr k bk Y ∧ X.heap.size ≤ Y.heap.size ∧ IsInts (· < Y.heap.size) Y u ys := by
          intro X hX
          refine (succsR_c X k (hk2.keep (Keep.below hX.2))).mono ?_
          rintro e Y ⟨u, rfl, hu, hb⟩
          rw [HYS.out] at hu
          exact ⟨u, rfl, hX.call hb hgl4, hb.size, (ints_of_own hu (by omega)).keep (Keep.refl Y fun _ _ hb => hb)⟩
        have hA33 : ∀ X, EdS W gr k bk X → Calls Try.prog 33 #[.slice a l.length cap, .int .i64 (k : Int)] X fun e Y => ∃ u, e = .returned u ∧ EdS W gr k bk Y ∧ X.heap.size ≤ Y.heap.size ∧ IsInts (· < Y.heap.size) Y u ps := by
          intro X hX
          refine (preds_c X k ((hk2.keep (Keep.below hX.2)).keep (Keep.refl X fun _ _ hb => hb)) (by omega)).mono ?_
          rintro e Y ⟨u, rfl, hu, hb⟩
          rw [HPS.out] at hu
          exact ⟨u, rfl, hX.call hb hgl4, hb.size, (ints_of_own hu (by omega)).keep (Keep.refl Y fun _ _ hb => hb)⟩
        have hA34 : ∀ X, EdS W gr k bk X → Calls Try.prog 34 #[.slice a l.length cap, .int .i64 (k : Int)] X fun e Y => ∃ u, e = .returned u ∧ EdS W gr k bk Y ∧ Below X.heap.size X Y ∧ IsInts (· < Y.heap.size) Y u ps := by
          intro X hX
          refine (predsR_c X k (hk2.keep (Keep.below hX.2)) (by omega)).mono ?_
          rintro e Y ⟨u, rfl, hu, hb⟩
          rw [HPS.out] at hu
          exact ⟨u, rfl, hX.call hb hgl4, hb, (ints_of_own hu (by omega)).keep (Keep.refl Y fun _ _ hb => hb)⟩
        have hA26 : ∀ X u v (q q' : Nat → Prop) zs, EdS W gr k bk X → IsInts q X u zs → IsInts q' X v zs → Calls Try.prog 26 #[u, v] X fun e Y => e = .returned (.bool true) ∧ EdS W gr k bk Y := by
          intro X u v q q' zs hX hu hv
          refine (sameInts_c X hu hv).mono ?_
          rintro e Y ⟨rfl, n, rfl⟩
          rw [sameS_self]
          exact ⟨rfl, hX.1, bel_drewN hX.2 n⟩
        have hA29 : ∀ X, EdS W gr k bk X → Calls Try.prog 29 #[.slice a l.length cap, .int .i64 (k : Int)] X fun e Y => e = .returned (.bool bk) ∧ EdS W gr k bk Y := by
          intro X hX
          refine (reached_c X k (hk2.keep (Keep.below hX.2)) (by omega)).mono ?_
          rintro e Y ⟨rfl, hb⟩
          rw [HBK.out]
          exact ⟨rfl, hX.call hb hgl4⟩
        have hE0 : EdS W gr k bk W := ⟨c1, bel_refl _⟩
        have hbn : (bk != bk) = false := by simp
        clear hk1 hRT hb4 hR1 hB3
        go_upto_region 10 with fail
        go_cut [57] (fun bb wx => bb = .bool false ∧ EdS W gr k bk wx)
        case first =>
          go_region_held3 (fun X => X.cell? ⟨gr, k, none⟩ = some (.bool bk) ∧ EdS W gr k bk X) (first | exact ⟨hE0.1, hE0⟩ | exact ⟨hE0.1, hE0.drew⟩ | exact ⟨hEa.1, hEa⟩ | exact ⟨hEb.1, hEb⟩ | exact ⟨hEc.1, hEc⟩ | exact ⟨hEd.1, hEd⟩ | exact ⟨hEe.1, hEe⟩ | exact ⟨hEf.1, hEf⟩)
            (first
              | (go_at_call 32; refine (hA32 _ hE0.drew).mono ?_; rintro e Ya ⟨ua, rfl, hEa, hza, hua⟩)
              | (go_at_call 26; refine (hA26 _ _ _ _ _ _ hEa (his.keep (Keep.below hEa.2)) hua).mono ?_; clear hEa hua hza; rintro e Yb ⟨rfl, hEb⟩)
              | (go_at_call 33; refine (hA33 _ hEb).mono ?_; rintro e Yc ⟨uc, rfl, hEc, hzc, huc⟩)
              | (go_at_call 34; refine (hA34 _ hEc).mono ?_; rintro e Yd ⟨ud, rfl, hEd, hbd, hud⟩)
              | (go_at_call 26; refine (hA26 _ _ _ _ _ _ hEd (huc.keep (Keep.below hbd)) hud).mono ?_; clear hEd hud hbd huc hEc hzc; rintro e Ye ⟨rfl, hEe⟩)
              | (go_at_call 29; refine (hA29 _ hEe).mono ?_; rintro e Yf ⟨rfl, hEf⟩))
          all_goals (try go_wp2_with fail)
          all_goals go_meet
          all_goals exact ⟨by simp, by assumption⟩
        case rest =>
          obtain ⟨rfl, hE⟩ := hcut
          have hs5 := owns_below hs hE.2
          have hB5 := bel_call hB4 hE.2
          have hR5 := hR4.keep (hE.2.block _ hgl4)
          have hns : ∀ k, us.ownBlock = some k → w.heap.size ≤ k ∧ gr ≠ k ∧ k < wc.heap.size := fun k e => by
            have h1 := (hs.lt k e)
            have := hE.2.size
            omega
          clear hA32 hA33 hA34 hA26 hA29 hE0 c1 hs hR4 hB4 his hk2 hbn hE
          obtain ⟨sa, sc, rfl, hsa⟩ := owns_slice hs5
          go_wp2_with fail
          have hB5' := hB5
          obtain ⟨Bs, HBS⟩ : ∃ Bs, Hid (Bs = wr.heap.size) := ⟨_, (rfl : wr.heap.size = wr.heap.size)⟩
          rw [← HBS.out] at hs5 hgl3 hsz
          obtain ⟨go, hgo⟩ : ∃ go, go = gk := ⟨gk, rfl⟩
          go_loopg [10] ys.length (fun g j wx => ∃ (m : Nat) (zs : List Int), m + g = ys.length ∧ zs.length = ys.length ∧ j = .int .i64 m ∧ wx.ownsRow Bs 3 1 (.slice sa ys.length sc) ys.length (ints zs) ∧ Row wx gr 4 (bools (fromS l 0 (-1))) ∧ Below w.heap.size w wx ∧ gr < wx.heap.size)
          case atStart => exact ⟨0, ys, by omega, rfl, rfl, hs5, hR5, hB5, hR5.lt⟩
          case round =>
            obtain ⟨m, zs, hm, hz, rfl, hI, hR6, hB6, hgl6⟩ := hrel
            clear hs5 hR5 hB5 hB5'
            by_cases hmt : m < ys.length
            · obtain ⟨g, rfl⟩ := hsa (by omega)
              have c1 : wr.cell? ⟨g, m, none⟩ = _ := hI.cellAt m (by omega)
              have hf := hI.frozenAt m
              have hI1 := (hI.stored m (.int .i64 (-1))).1
              rw [ints_set] at hI1
              have hg := hI.lt g rfl
              have hB7 := bel_setCell (a := ⟨g, m, none⟩) (u := .int .i64 (-1)) hB6 (by show _ ≤ g; omega)
              have hR7 := hR6.other (a := ⟨g, m, none⟩) (by show gr ≠ g; omega) (.int .i64 (-1))
              have hzk : (ints zs)[m]? = some (.int .i64 zs[m]) := by simp [ints, hz, hmt]
              clear hI hB6 hR6
              go_wp2_with fail
              go_roundg (gk - 1)
              case measure => omega
              case rel => exact ⟨m + 1, zs.set m (-1), by omega, by simpa using hz, by go_num, hI1, hR7, hB7, by simpa using hgl6⟩
            · go_wp2_with fail
              go_roundg (go - 1)
              case measure => omega
              case rel => exact ⟨k + 1, by omega, by go_num, hR6, hB6, hgl6⟩
      · have hke : k = l.length := by omega
        have hkb : IsBlocks (· < wr.heap.size) wr (.slice a l.length cap) l := (h.keep (Keep.belowB hB3)).keep (Keep.refl wr fun x hx _ => by have := hB3.size; omega)
        by_cases hin : 0 ≤ b ∧ b < (l.length : Int)
        · have hd1 : decide (b ≥ 0) = true := by simpa using hin.1
          have hd2 : decide (b < (l.length : Int)) = true := by simpa using hin.2
          clear hin
          go_wp2_with fail
          go_ret
          exact ⟨rfl, hB3⟩
        · obtain ⟨hS, hP, hO⟩ := out_none hin
          have HO : Hid (inS (orderS l) b = false) := hO
          have HSP : Hid (succS l b = [] ∧ predS l b = []) := ⟨hS, hP⟩
          clear hS hP hO hR1 hgl3
          by_cases h1 : 0 ≤ b
          · have hd1 : decide (b ≥ 0) = true := by simpa using h1
            have hd2 : decide (b < (l.length : Int)) = false := by simpa using (by omega : (l.length : Int) ≤ b)
            clear hin h1
            go_wp2_with fail
            refine (succs_c _ b hkb).mono ?_
            rintro e W2 ⟨us, rfl, hs, hb4⟩
            rw [HSP.out.1] at hs
            have hB4 := bel_call hB3 hb4
            have hk4 := (hkb.keep (Keep.below hb4)).keep (Keep.refl (p' := (· < W2.heap.size)) W2 fun _ _ hb => hb)
            obtain ⟨sa, sc, rfl, -⟩ := owns_slice hs
            clear hs hkb hb4 hB3
            go_wp2_with fail
            refine (preds_c _ b hk4 (by omega)).mono ?_
            rintro e W3 ⟨up, rfl, hp, hb5⟩
            rw [HSP.out.2] at hp
            have hB5 := bel_call hB4 hb5
            have hk5 := (hk4.keep (Keep.below hb5)).keep (Keep.refl (p' := (· < W3.heap.size)) W3 fun _ _ hb => hb)
            obtain ⟨pa, pc, rfl, -⟩ := owns_slice hp
            clear hp hk4 hb5 hB4
            go_wp2_with fail
            refine (reached_c _ b hk5 (by omega)).mono ?_
            rintro e W4 ⟨rfl, hb6⟩
            rw [HO.out]
            have hB6 := bel_call hB5 hb6
            clear hk5 hb6 hB5
            go_wp2_with fail
            go_ret
            exact ⟨rfl, hB6⟩
          · have hd1 : decide (b ≥ 0) = false := by simpa using (by omega : b < 0)
            clear hin h1
            go_wp2_with fail
            refine (succs_c _ b hkb).mono ?_
            rintro e W2 ⟨us, rfl, hs, hb4⟩
            rw [HSP.out.1] at hs
            have hB4 := bel_call hB3 hb4
            have hk4 := (hkb.keep (Keep.below hb4)).keep (Keep.refl (p' := (· < W2.heap.size)) W2 fun _ _ hb => hb)
            obtain ⟨sa, sc, rfl, -⟩ := owns_slice hs
            clear hs hkb hb4 hB3
            go_wp2_with fail
            refine (preds_c _ b hk4 (by omega)).mono ?_
            rintro e W3 ⟨up, rfl, hp, hb5⟩
            rw [HSP.out.2] at hp
            have hB5 := bel_call hB4 hb5
            have hk5 := (hk4.keep (Keep.below hb5)).keep (Keep.refl (p' := (· < W3.heap.size)) W3 fun _ _ hb => hb)
            obtain ⟨pa, pc, rfl, -⟩ := owns_slice hp
            clear hp hk4 hb5 hB4
            go_wp2_with fail
            refine (reached_c _ b hk5 (by omega)).mono ?_
            rintro e W4 ⟨rfl, hb6⟩
            rw [HO.out]
            have hB6 := bel_call hB5 hb6
            clear hk5 hb6 hB5
            go_wp2_with fail
            go_ret
            exact ⟨rfl, hB6⟩
end Go.Proofs.Ytcihobmjohpnkaa
