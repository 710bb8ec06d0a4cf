/- 'alive': the example of the document. -/
import Derived.Test.YtinbfnabngdemaaCwQ
import Derived.Test.YtinbfnabngdemaaCqC
import Derived.Test.YtinbfnabngdemaaCrG
namespace Go.Proofs.Ytinbfnabngdemaa
open Go.RowKit

theorem num_c (w : World) (x : Int) : Calls Try.prog 16 #[.int .i64 x] w fun e w' => e = .returned (.int .i64 x) ∧ w' = w := by
  go_enter Try.func16, Try.ntmps16
  go_wp2_with fail
  go_ret
  exact ⟨rfl, rfl⟩
/-- The graph that 'Plain' gave. -/
theorem plain_gr {w w' : World} {n k B2 en ec ac lc : Nat} {ea aa la : Option Addr} {Z1 Z2 : Nat → Prop} {vs1 vs2 : List Value} {E : List (Int × Int)} {p : Nat → Prop} (hn : n ≤ 1000) (hk : k ≤ 1000) (hE : IsPairs p w (.slice ea en ec) E) (hp : ∀ b, p b → b < w.heap.size) (hb : Below w.heap.size w w')
    (l1 : RwO (w.heap.size + 2) Z1 (.slice la k lc) vs1 ((List.range k).map fun (c : Nat) => [(c : Int)]) w') (l2 : ∀ b, Z1 b → w.heap.size + 2 ≤ b ∧ b < B2) (n1 : RwO B2 Z2 (.slice aa n ac) vs2 (List.replicate n (upI k)) w') (n2 : ∀ b, Z2 b → B2 ≤ b ∧ b < w'.heap.size) (hB : B2 ≤ w'.heap.size) : IsGr (· < w'.heap.size) w' ⟨ea, en, ec, none, 0, 0, aa, n, ac, la, k, lc⟩ (plainG n k E []) :=
  ⟨hE.keep (fun b hb2 hlt => ⟨by have := hb.size; have := hp b hb2; omega, hb.block b hlt⟩), ⟨none, 0, rfl, ⟨Nat.le_refl _, Nat.zero_le _⟩, .inl rfl⟩, n1.rows (by rw [List.length_replicate]; omega) (fun b hb => (n2 b hb).2), l1.rows (by rw [List.length_map, List.length_range]; omega) (fun b hb => by have := (l2 b hb).2; omega)⟩
theorem pairs_of_row {W : World} {g : Nat} {zs : List (Int × Int)} {p : Nat → Prop} (h : Row W g 37 (prs zs)) (hp : p g) (hl : zs.length ≤ 140737488351232) : IsPairs p W (.slice (some ⟨g, 0, none⟩) zs.length zs.length) zs :=
  ⟨_, _, rfl, ⟨Nat.le_refl _, hl⟩, .inr ⟨g, 0, rfl, hp, fun j hj => ⟨by rw [Nat.zero_add]; exact h.cell (prs_fst hj), by rw [Nat.zero_add]; exact h.cell (prs_snd hj)⟩⟩⟩
set_option maxRecDepth 100000 in
set_option maxHeartbeats 8000000 in
theorem alive_c (w : World) : Calls Try.prog 10 #[] w fun e w' => e = .returned (.bool true) ∧ Below w.heap.size w w' := by
  go_enter Try.func10, Try.ntmps10
  have hr0 : Row (w.alloc (.cells #[.int .i64 0, .int .i64 1, .int .i64 1, .int .i64 2, .int .i64 0, .int .i64 2] 37)) w.heap.size 37 (prs [(0, 1), (1, 2), (0, 2)]) := heap_alloc_eq _ _ _ rfl
  have hb0 := bel_alloc (bel_refl w) (.cells #[.int .i64 0, .int .i64 1, .int .i64 1, .int .i64 2, .int .i64 0, .int .i64 2] 37)
  have hpr := pairs_of_row (p := fun b => b = w.heap.size) hr0 rfl (by simp)
  have hlt0 := hr0.lt
  go_wp2_with fail
  refine (plain_c _ 3 3 (by omega) (by omega)).mono ?_
  rintro e X ⟨aa, ac, la, lc, rfl, hb1, B2, Z1, Z2, vs1, vs2, l1, l2, n1, n2, hB⟩
  have hgr := plain_gr (by omega) (by omega) hpr (fun b hb => by rw [hb]; exact hlt0) hb1 l1 l2 n1 n2 hB
  have hbX : Below w.heap.size w X := bel_call hb0 hb1
  obtain ⟨G, HG⟩ : ∃ G, Hid (plainG 3 3 [(0, 1), (1, 2), (0, 2)] [] = G) := ⟨_, (rfl : plainG 3 3 [(0, 1), (1, 2), (0, 2)] [] = _)⟩
  have hend : ∀ p ∈ ([(0, 1), (1, 2), (0, 2)] : List (Int × Int)), EndP p 3 := by decide
  have hok : OkG G := by rw [← HG.out]; exact plain_ok hend (by simp)
  have hsu : sureS G = true := by rw [← HG.out]; exact plain_sure hend (by simp) (by omega)
  have hfw : Few G := by rw [← HG.out]; exact ⟨by simp [plainG], by simp [plainG], by simp [plainG], by simp [plainG], fun l hl => by simp [plainG] at hl; rw [hl]; simp [upI], fun l hl => by simp [plainG] at hl; obtain ⟨c, -, rfl⟩ := hl; simp⟩
  have hn3 : G.A.length = 3 := by rw [← HG.out]; simp [plainG]
  rw [HG.out] at hgr
  have HGR := hid_of hgr
  have HB := hid_of hbX
  clear hr0 hb0 hpr hlt0 hb1 l1 l2 n1 n2 hB hgr hbX hend
  go_upto_region 2 with fail
  refine wp_at (fun Y => Row Y X.heap.size 25 [.slice (some ⟨w.heap.size, 0, none⟩) 3 3, .slice none 0 0, .slice aa 3 ac, .slice la 3 lc] ∧ Below X.heap.size X Y) ⟨heap_alloc_eq _ _ _ rfl, bel_alloc (bel_refl X) _⟩ ?_
  rintro Y ⟨r0, hY⟩
  have hgY : ∀ U, Below X.heap.size X U → IsGr (· < U.heap.size) U ⟨some ⟨w.heap.size, 0, none⟩, 3, 3, none, 0, 0, aa, 3, ac, la, 3, lc⟩ G := fun U hU => HGR.out.keep (fun b hb hlt => ⟨by have := hU.size; omega, hU.block b hlt⟩)
  have q0 := r0.cell (k := 0) rfl
  have q1 := r0.cell (k := 1) rfl
  have q2 := r0.cell (k := 2) rfl
  have q3 := r0.cell (k := 3) rfl
  have HCo := hid_of (color_c Y (hgY Y hY) hfw)
  have HGY := hid_of hgY
  have HR := hid_of r0
  have HY := hid_of hY
  have hok1 : OkG G := hok
  have HOK := hid_of hok
  have HFW := hid_of hfw
  clear hgY r0 hY hok hfw
  go_wp2_with fail
  clear q0 q1 q2 q3
  refine HCo.out.mono ?_
  rintro e Y1 ⟨hb1, hc⟩
  obtain ⟨-, kb, hkb, rfl, hrow⟩ := hc.resolve_left (fun h => h.1 HOK.out)
  have hY1 : Below X.heap.size X Y1 := bel_call HY.out hb1
  have HR1 := hid_of (HR.out.keep (hb1.block _ HR.out.lt))
  have HN := hid_of (fun (U : World) => num_c U 0)
  have hcl : IsInts (fun b => b = kb) Y1 (.slice (some ⟨kb, 0, none⟩) 3 3) (colS G) := by
    have := ints_of_row (p := fun b => b = kb) (xs := colS G) hrow rfl (by rw [colS_length, hn3]; omega)
    rw [colS_length, hn3] at this
    exact this
  have hkl := hrow.lt
  have q0 := HR1.out.cell (k := 0) rfl
  have q1 := HR1.out.cell (k := 1) rfl
  have q2 := HR1.out.cell (k := 2) rfl
  have q3 := HR1.out.cell (k := 3) rfl
  have HNO : Hid (inS (colS G) (-1) = false) := by show _ = _; rw [inS_dec]; exact decide_eq_false (sure_no HOK.out hsu)
  have HS := hid_of (sure_c Y1 (HGY.out Y1 hY1) HFW.out)
  rw [show sureB G = true by unfold sureB; rw [if_pos HOK.out]; exact hsu] at HS
  have HCL := hid_of hcl
  have HY1 := hid_of hY1
  clear hc hrow hcl hY1 hsu hn3
  go_wp2_with fail
  refine (HN.out _).mono ?_
  rintro e U ⟨rfl, rfl⟩
  go_wp2_with fail
  refine HS.out.mono ?_
  rintro e Y2 ⟨rfl, hb2⟩
  clear q0 q1 q2 q3
  have HR2 := hid_of (HR1.out.keep (hb2.block _ HR1.out.lt))
  have q0 := HR2.out.cell (k := 0) rfl
  have q1 := HR2.out.cell (k := 1) rfl
  have q2 := HR2.out.cell (k := 2) rfl
  have q3 := HR2.out.cell (k := 3) rfl
  have hY2 := bel_call HY1.out hb2
  have HCL2 := hid_of (HCL.out.keep (p' := (· < Y2.heap.size)) (fun b hb hlt => ⟨by have := hb2.size; rw [hb]; omega, hb2.block b hlt⟩))
  have HGd := hid_of (good_c Y2 (HGY.out Y2 hY2) HOK.out HFW.out HCL2.out (colS_good HOK.out))
  have HY2 := hid_of hY2
  clear hb2 hY2 HS
  go_wp2_with fail
  refine HGd.out.mono ?_
  rintro e Y3 ⟨rfl, hb3⟩
  clear q0 q1 q2 q3
  have HIn := hid_of (in_c (n := -1) Y3 (HCL2.out.keep (p' := fun _ => True) (fun b _ hlt => ⟨trivial, hb3.block b hlt⟩)))
  rw [HNO.out] at HIn
  have HY3 := hid_of (HB.out.trans ((bel_call HY2.out hb3).mono HB.out.size))
  clear hb3 HGd
  go_wp2_with fail
  refine HIn.out.mono ?_
  rintro e U ⟨rfl, rfl⟩
  go_wp2_with fail
  go_ret
  exact ⟨rfl, HY3.out⟩
end Go.Proofs.Ytinbfnabngdemaa
