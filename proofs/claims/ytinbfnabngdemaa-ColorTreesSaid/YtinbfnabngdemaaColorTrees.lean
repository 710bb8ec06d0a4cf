/- 'ColorTrees' walked: it returns true. -/
import Derived.Test.YtinbfnabngdemaaCwH
namespace Go.Proofs.Ytinbfnabngdemaa
open Go.RowKit

theorem tree_take {xs : List Int} {i : Nat} (h : i < xs.length) : ((List.range (i + 1)).map fun i => (xs.getD i 0, ((i : Int) + 1))) = ((List.range i).map fun i => (xs.getD i 0, ((i : Int) + 1))) ++ [(xs[i], (i : Int) + 1)] := by
  rw [List.range_succ, List.map_append]
  simp [List.getD, h]
set_option maxRecDepth 100000 in
set_option maxHeartbeats 8000000 in
theorem colorTrees_c (w : World) {ua : Option Addr} {un uc : Nat} {xs : List Int} (h : IsInts (· < w.heap.size) w (.slice ua un uc) xs) : Calls Try.prog 6 #[.slice ua un uc] w fun e w' => e = .returned (.bool true) ∧ Below w.heap.size w w' := by
  have HU := hid_of (sl_len h)
  have huc := (sl_len h).2.1
  have hub := (sl_len h).2.2
  have HH := hid_of h
  clear h
  go_enter Try.func6, Try.ntmps6
  go_wp2_with fail
  refine (alive_c w).mono ?_
  rintro e W0 ⟨rfl, hb0⟩
  have HB0 := hid_of hb0
  by_cases h1 : un > 80
  · have e1 : decide ((un : Int) > 80) = true := by simp; omega
    have e1' : decide (80 < (un : Int)) = true := by simp; omega
    clear h1 hb0
    go_wp2_with fail
    go_ret
    exact ⟨rfl, HB0.out⟩
  have e1 : decide ((un : Int) > 80) = false := by simp; omega
  have e1' : decide (80 < (un : Int)) = false := by simp; omega
  have hun : un ≤ 80 := by omega
  have hI0 : IsInts (· < w.heap.size) W0 (.slice ua un uc) xs := HH.out.keep (fun b hb hlt => ⟨hb, hb0.block b hlt⟩)
  have HI := hid_of hI0
  have H0 : Hid ((∀ j, j < 0 → 0 ≤ xs.getD j 0 ∧ xs.getD j 0 ≤ (j : Int)) ∧ W0.ownsRow W0.heap.size 37 2 (.slice none 0 0) 0 (prs ((List.range 0).map fun i => (xs.getD i 0, ((i : Int) + 1)))) ∧ Below W0.heap.size W0 W0) := ⟨fun j h => by omega, World.ownsRow_nil _ _ _ _, bel_refl _⟩
  have hws := hb0.size
  clear h1 hb0 hI0 HH
  go_wp2_with fail
  clear e1 e1'
  go_loopw [4, 5] (fun s4 s5 wx => ∃ (i : Nat) (ya : Option Addr) (yc : Nat), i ≤ un ∧ s5 = .int .i64 i ∧ s4 = .slice ya i yc ∧ Hid ((∀ j, j < i → 0 ≤ xs.getD j 0 ∧ xs.getD j 0 ≤ (j : Int)) ∧ wx.ownsRow W0.heap.size 37 2 (.slice ya i yc) i (prs ((List.range i).map fun i => (xs.getD i 0, ((i : Int) + 1)))) ∧ Below W0.heap.size W0 wx)) (fun _ s5 _ => un - (intOf s5).toNat)
  case atStart => exact ⟨0, none, 0, by omega, rfl, rfl, H0⟩
  case round =>
    obtain ⟨i, ya, yc, hi, rfl, rfl, HK⟩ := hrel
    clear H0
    by_cases hlt : i < un
    · have hiz : (i : Int) < (un : Int) := by omega
      have hix : i < xs.length := by have := HU.out.1; omega
      obtain ⟨hall, ho, hbl⟩ := HK.out
      obtain ⟨b, off, rfl, hbp, c1⟩ := ints_cell HI.out hix
      have c1 := (hbl.cell (p := ⟨b, off + i, none⟩) (by show b < _; omega)).trans c1
      have hts := tree_take hix
      have hgd : xs.getD i 0 = xs[i] := by simp [List.getD, hix]
      obtain ⟨x, Hx⟩ : ∃ x, Hid (xs[i] = x) := ⟨_, (rfl : xs[i] = _)⟩
      rw [Hx.out] at c1 hts hgd
      have HTS := hid_of hts
      have HGD := hid_of hgd
      have HALL := hid_of hall
      have HBl := hid_of hbl
      have hszr := hbl.size
      clear hts hgd hall hbl HK
      by_cases h1 : x < 0
      · have e1 : decide (x < 0) = true := by simpa using h1
        clear h1
        go_wp2_with fail
        go_ret
        exact ⟨rfl, HB0.out.trans (HBl.out.mono HB0.out.size)⟩
      have e1 : decide (x < 0) = false := by simpa using h1
      by_cases h2 : x > (i : Int)
      · have e2 : decide (x > (i : Int)) = true := by simpa using h2
        have e2' : decide ((i : Int) < x) = true := by simpa using h2
        clear h1 h2
        go_wp2_with fail
        go_ret
        exact ⟨rfl, HB0.out.trans (HBl.out.mono HB0.out.size)⟩
      have e2 : decide (x > (i : Int)) = false := by simpa using h2
      have e2' : decide ((i : Int) < x) = false := by simpa using h2
      have hba : BkS wr (wr.alloc (.cells #[.int .i64 x, .int .i64 ((i : Int) + 1)] 37)) := bk_alloc (bk_refl wr) _
      have HNa : Hid (∀ j, j < i + 1 → 0 ≤ xs.getD j 0 ∧ xs.getD j 0 ≤ (j : Int)) := fun j hj => by
        by_cases e : j = i
        · subst e; rw [HGD.out]; omega
        · exact HALL.out j (by omega)
      have hlz : ((List.range i).map fun i => (xs.getD i 0, ((i : Int) + 1))).length = i := by simp
      have HFin : Hid (∀ v' w', w'.ownsRow W0.heap.size 37 2 v' (((List.range i).map fun i => (xs.getD i 0, ((i : Int) + 1))) ++ [(x, (i : Int) + 1)]).length (prs (((List.range i).map fun i => (xs.getD i 0, ((i : Int) + 1))) ++ [(x, (i : Int) + 1)])) → (wr.alloc (.cells #[.int .i64 x, .int .i64 ((i : Int) + 1)] 37)).grownBy w' (Value.slice ya i yc).ownBlock → ∃ za zc, v' = .slice za (i + 1) zc ∧ Hid ((∀ j, j < i + 1 → 0 ≤ xs.getD j 0 ∧ xs.getD j 0 ≤ (j : Int)) ∧ w'.ownsRow W0.heap.size 37 2 (.slice za (i + 1) zc) (i + 1) (prs ((List.range (i + 1)).map fun i => (xs.getD i 0, ((i : Int) + 1)))) ∧ Below W0.heap.size W0 w')) := fun v' w' h1 h2 => by
        rw [← HTS.out] at h1
        rw [List.length_map, List.length_range] at h1
        obtain ⟨za, zc, rfl, -⟩ := owns_slice h1
        exact ⟨za, zc, rfl, HNa.out, h1, bel_grown (bel_call HBl.out hba) h2 (fun b e => (ho.lt b e).1)⟩
      have HO0 : Hid ((wr.alloc (.cells #[.int .i64 x, .int .i64 ((i : Int) + 1)] 37)).ownsRow W0.heap.size 37 2 (.slice ya i yc) ((List.range i).map fun i => (xs.getD i 0, ((i : Int) + 1))).length (prs ((List.range i).map fun i => (xs.getD i 0, ((i : Int) + 1))))) := by
        show World.ownsRow _ _ _ _ _ _ _
        rw [hlz]; exact owns_below ho hba
      have hszb : W0.heap.size ≤ (wr.alloc (.cells #[.int .i64 x, .int .i64 ((i : Int) + 1)] 37)).heap.size := by have := hba.size; omega
      have HLz : Hid (((List.range i).map fun i => (xs.getD i 0, ((i : Int) + 1))).length + 1 ≤ 1000000) := by show _ ≤ _; rw [hlz]; omega
      clear ho HTS HGD HALL HNa hlz h1 h2
      go_wp2_with (at_builtin; refine stop_here ?_)
      refine stop_go (app_pr rfl _ _ rfl W0.heap.size (.slice ya i yc) ((List.range i).map fun i => (xs.getD i 0, ((i : Int) + 1))) rfl HO0.out _ (x, (i : Int) + 1) rfl (heap_alloc_eq _ _ _ rfl) HLz.out hszb ?_)
      intro v' w' ho1 hg1 _
      obtain ⟨za, zc, rfl, HN⟩ := HFin.out v' w' ho1 hg1
      clear ho1 hg1 HFin HO0 HBl hba hszr hszb HLz c1 e1 e2 e2'
      go_wp2_with fail
      go_roundw
      case rel => exact ⟨i + 1, za, zc, by omega, by go_num, rfl, HN⟩
      case measure => simp [intOf]; omega
    · obtain rfl : un = i := by omega
      obtain ⟨hall, ho, hbl⟩ := HK.out
      have hxl : xs.length = un := HU.out.1.symm
      have hlz : (treeE xs).length = un := by simp [treeE, hxl]
      have ho2 : wr.ownsRow W0.heap.size 37 2 (.slice ya un yc) (treeE xs).length (prs (treeE xs)) := by
        rw [hlz]; unfold treeE; rw [hxl]; exact ho
      have hpr := pairs_of_owns ho2 (by rw [hlz]; omega)
      have hall2 : ∀ i, i < xs.length → 0 ≤ xs.getD i 0 ∧ xs.getD i 0 ≤ (i : Int) := fun i hi => hall i (by omega)
      obtain ⟨n, Hn⟩ : ∃ n, Hid (un + 1 = n) := ⟨_, (rfl : un + 1 = _)⟩
      obtain ⟨m, Hm⟩ : ∃ m, Hid (un = m) := ⟨_, (rfl : un = _)⟩
      have hend : ∀ p ∈ treeE xs, EndP p n := by rw [← Hn.out, ← hxl]; exact treeE_end hall2
      obtain ⟨G, HG⟩ : ∃ G, Hid (plainG n 2 (treeE xs) [] = G) := ⟨_, (rfl : plainG n 2 (treeE xs) [] = _)⟩
      have hok : OkG G := by rw [← HG.out]; exact plain_ok hend (by simp)
      have hsu : sureS G = true := by rw [← HG.out, ← Hn.out, ← hxl]; exact tree_sure hall2
      have hn1 : n ≤ 81 := by have := Hn.out; omega
      have hfw : Few G := by rw [← HG.out]; exact few_plain (by omega) (by omega) (by rw [hlz]; omega) (by simp)
      have hn3 : G.A.length = n := by rw [← HG.out, plain_n]
      have hez : (un : Int) + 1 = (n : Int) := by have := Hn.out; omega
      have hez' : IntKind.i64.wrap ((un : Int) + 1) = (n : Int) := by rw [IntKind.wrap_i64]; omega
      have HPl := hid_of (plain_c wr n 2 (by omega) (by omega) (ea := ya) (en := un) (ec := yc))
      have HGr := hid_of (fun (X : World) {aa la : Option Addr} {ac lc B2 : Nat} {Z1 Z2 : Nat → Prop} {vs1 vs2 : List Value} (hb : Below wr.heap.size wr X) => @plain_gr wr X n 2 B2 un yc ac lc ya aa la Z1 Z2 vs1 vs2 (treeE xs) _ (by omega) (by omega) hpr (fun b hb => hb.2) hb)
      have HB1 := hid_of (HB0.out.trans (hbl.mono HB0.out.size))
      rw [HG.out] at HGr
      have HOk0 := hid_of hok
      clear HK ho ho2 hpr hall hall2 hbl hend hlz hxl HI
      go_wp2_with fail
      refine HPl.out.mono ?_
      rintro e X ⟨aa, ac, la, lc, rfl, hb1, B2, Z1, Z2, vs1, vs2, l1, l2, n1, n2, hB⟩
      have hgr := HGr.out X hb1 l1 l2 n1 n2 hB
      have HGR := hid_of hgr
      have HB := hid_of (HB1.out.trans (hb1.mono HB1.out.size))
      rw [Hm.out] at HGR
      rw [Hm.out]
      clear hb1 l1 l2 n1 n2 hB hgr HPl HGr HB1 hez hez'
      go_upto_region 12 with fail
      refine wp_at (fun Y => Row Y X.heap.size 25 [.slice ya m yc, .slice none 0 0, .slice aa n ac, .slice la 2 lc] ∧ Below X.heap.size X Y) ⟨heap_alloc_eq _ _ _ rfl, bel_alloc (bel_refl X) _⟩ ?_
      rintro Y ⟨r0, hY⟩
      have hgY : ∀ U, Below X.heap.size X U → IsGr (· < U.heap.size) U ⟨ya, m, yc, none, 0, 0, aa, n, ac, la, 2, lc⟩ G := fun U hU => HGR.out.keep (fun b hb hlt => ⟨by have := hU.size; omega, hU.block b hlt⟩)
      have q0 := r0.cell (k := 0) rfl
      have q1 := r0.cell (k := 1) rfl
      have q2 := r0.cell (k := 2) rfl
      have q3 := r0.cell (k := 3) rfl
      have HCo := hid_of (color_c Y (hgY Y hY) hfw)
      have HGY := hid_of hgY
      have HR := hid_of r0
      have HY := hid_of hY
      have hok1 : OkG G := hok
      have HOK := hid_of hok
      have HFW := hid_of hfw
      clear hgY r0 hY hok hfw
      go_wp2_with fail
      clear q0 q1 q2 q3
      refine HCo.out.mono ?_
      rintro e Y1 ⟨hb1, hc⟩
      obtain ⟨-, kb, hkb, rfl, hrow⟩ := hc.resolve_left (fun h => h.1 HOK.out)
      have hY1 : Below X.heap.size X Y1 := bel_call HY.out hb1
      have HR1 := hid_of (HR.out.keep (hb1.block _ HR.out.lt))
      have HN := hid_of (fun (U : World) => num_c U 0)
      have hcl : IsInts (fun b => b = kb) Y1 (.slice (some ⟨kb, 0, none⟩) n n) (colS G) := by
        have := ints_of_row (p := fun b => b = kb) (xs := colS G) hrow rfl (by rw [colS_length, hn3]; omega)
        rw [colS_length, hn3] at this
        exact this
      have hkl := hrow.lt
      have q0 := HR1.out.cell (k := 0) rfl
      have q1 := HR1.out.cell (k := 1) rfl
      have q2 := HR1.out.cell (k := 2) rfl
      have q3 := HR1.out.cell (k := 3) rfl
      have HNO : Hid (inS (colS G) (-1) = false) := by show _ = _; rw [inS_dec]; exact decide_eq_false (sure_no HOK.out hsu)
      have HS := hid_of (sure_c Y1 (HGY.out Y1 hY1) HFW.out)
      rw [show sureB G = true by unfold sureB; rw [if_pos HOK.out]; exact hsu] at HS
      have HCL := hid_of hcl
      have HY1 := hid_of hY1
      clear hc hrow hcl hY1 hsu hn3
      go_wp2_with fail
      refine (HN.out _).mono ?_
      rintro e U ⟨rfl, rfl⟩
      go_wp2_with fail
      refine HS.out.mono ?_
      rintro e Y2 ⟨rfl, hb2⟩
      clear q0 q1 q2 q3
      have HR2 := hid_of (HR1.out.keep (hb2.block _ HR1.out.lt))
      have q0 := HR2.out.cell (k := 0) rfl
      have q1 := HR2.out.cell (k := 1) rfl
      have q2 := HR2.out.cell (k := 2) rfl
      have q3 := HR2.out.cell (k := 3) rfl
      have hY2 := bel_call HY1.out hb2
      have HCL2 := hid_of (HCL.out.keep (p' := (· < Y2.heap.size)) (fun b hb hlt => ⟨by have := hb2.size; rw [hb]; omega, hb2.block b hlt⟩))
      have HGd := hid_of (good_c Y2 (HGY.out Y2 hY2) HOK.out HFW.out HCL2.out (colS_good HOK.out))
      have HY2 := hid_of hY2
      clear hb2 hY2 HS
      go_wp2_with fail
      refine HGd.out.mono ?_
      rintro e Y3 ⟨rfl, hb3⟩
      clear q0 q1 q2 q3
      have HIn := hid_of (in_c (n := -1) Y3 (HCL2.out.keep (p' := fun _ => True) (fun b _ hlt => ⟨trivial, hb3.block b hlt⟩)))
      rw [HNO.out] at HIn
      have HY3 := hid_of (HB.out.trans ((bel_call HY2.out hb3).mono HB.out.size))
      clear hb3 HGd
      go_wp2_with fail
      refine HIn.out.mono ?_
      rintro e U ⟨rfl, rfl⟩
      go_wp2_with fail
      go_ret
      exact ⟨rfl, HY3.out⟩
end Go.Proofs.Ytinbfnabngdemaa
