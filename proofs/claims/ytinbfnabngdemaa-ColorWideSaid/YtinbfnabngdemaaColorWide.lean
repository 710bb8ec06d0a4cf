/- 'ColorWide' walked: it returns true. -/
import Derived.Test.YtinbfnabngdemaaCwW
import Derived.Deep.RegionHeld3
namespace Go.Proofs.Ytinbfnabngdemaa
open Go.RowKit

theorem lapW_0 (k : Nat) : lapW (3 * k) = [3 * (k : Int), 3 * (k : Int) + 1, 3 * (k : Int) + 2] := by
  unfold lapW
  rw [if_pos (by omega)]
  simp
theorem lapW_1 (k : Nat) : lapW (3 * k + 1) = [3 * (k : Int), 3 * (k : Int) + 1] := by
  unfold lapW
  have h : (3 * k + 1) % 3 = 1 := by omega
  rw [if_neg (by omega), h]
  simp
theorem lapW_2 (k : Nat) : lapW (3 * k + 2) = [3 * (k : Int), 3 * (k : Int) + 2] := by
  unfold lapW
  have h : (3 * k + 2) % 3 = 2 := by omega
  rw [if_neg (by omega), h]
  simp
theorem laps_succ (k : Nat) : (List.range (3 * (k + 1))).map lapW = (List.range (3 * k)).map lapW ++ [[3 * (k : Int), 3 * (k : Int) + 1, 3 * (k : Int) + 2], [3 * (k : Int), 3 * (k : Int) + 1], [3 * (k : Int), 3 * (k : Int) + 2]] := by
  rw [show 3 * (k + 1) = 3 * k + 1 + 1 + 1 by omega, List.range_succ, List.range_succ, List.range_succ]
  simp [lapW_0, lapW_1, lapW_2]
/-- The four blocks that one round of laps makes. -/
def lapY (W : World) (x y z : Int) : World :=
  (((W.alloc (.cells #[.int .i64 x, .int .i64 y, .int .i64 z] 3)).alloc (.cells #[.int .i64 x, .int .i64 y] 3)).alloc (.cells #[.int .i64 x, .int .i64 z] 3)).alloc (.cells #[.slice (some ⟨W.heap.size, 0, none⟩) 3 3, .slice (some ⟨W.heap.size + 1, 0, none⟩) 2 2, .slice (some ⟨W.heap.size + 1 + 1, 0, none⟩) 2 2] 31)
theorem lapY_facts (W : World) (x y z : Int) : BkS W (lapY W x y z) ∧ (lapY W x y z).heap.size = W.heap.size + 4 ∧ Row (lapY W x y z) (W.heap.size + 1 + 1 + 1) 31 [.slice (some ⟨W.heap.size, 0, none⟩) 3 3, .slice (some ⟨W.heap.size + 1, 0, none⟩) 2 2, .slice (some ⟨W.heap.size + 1 + 1, 0, none⟩) 2 2] ∧
    IsInts (fun b => W.heap.size ≤ b ∧ b < (lapY W x y z).heap.size) (lapY W x y z) (.slice (some ⟨W.heap.size, 0, none⟩) 3 3) [x, y, z] ∧ IsInts (fun b => W.heap.size ≤ b ∧ b < (lapY W x y z).heap.size) (lapY W x y z) (.slice (some ⟨W.heap.size + 1, 0, none⟩) 2 2) [x, y] ∧ IsInts (fun b => W.heap.size ≤ b ∧ b < (lapY W x y z).heap.size) (lapY W x y z) (.slice (some ⟨W.heap.size + 1 + 1, 0, none⟩) 2 2) [x, z] := by
  have hs : (lapY W x y z).heap.size = W.heap.size + 4 := by simp [lapY]
  refine ⟨bk_alloc (bk_alloc (bk_alloc (bk_alloc (bk_refl W) _) _) _) _, hs, heap_alloc_eq _ _ _ (by simp), ?_, ?_, ?_⟩
  · refine ints_of_row (xs := [x, y, z]) (e := 3) ?_ ⟨Nat.le_refl _, by omega⟩ (by simp)
    have h0 : Row (W.alloc (.cells #[.int .i64 x, .int .i64 y, .int .i64 z] 3)) W.heap.size 3 [.int .i64 x, .int .i64 y, .int .i64 z] := heap_alloc_eq _ _ _ rfl
    exact ((h0.keep (Below.heap_alloc _ _ _ (by simp))).keep (Below.heap_alloc _ _ _ (by simp; try omega))).keep (Below.heap_alloc _ _ _ (by simp; try omega))
  · refine ints_of_row (xs := [x, y]) (e := 3) ?_ ⟨by omega, by omega⟩ (by simp)
    have h0 : Row ((W.alloc (.cells #[.int .i64 x, .int .i64 y, .int .i64 z] 3)).alloc (.cells #[.int .i64 x, .int .i64 y] 3)) (W.heap.size + 1) 3 [.int .i64 x, .int .i64 y] := heap_alloc_eq _ _ _ (by simp)
    exact (h0.keep (Below.heap_alloc _ _ _ (by simp))).keep (Below.heap_alloc _ _ _ (by simp; try omega))
  · refine ints_of_row (xs := [x, z]) (e := 3) ?_ ⟨by omega, by omega⟩ (by simp)
    have h0 : Row (((W.alloc (.cells #[.int .i64 x, .int .i64 y, .int .i64 z] 3)).alloc (.cells #[.int .i64 x, .int .i64 y] 3)).alloc (.cells #[.int .i64 x, .int .i64 z] 3)) (W.heap.size + 1 + 1) 3 [.int .i64 x, .int .i64 z] := heap_alloc_eq _ _ _ (by simp)
    exact h0.keep (Below.heap_alloc _ _ _ (by simp))
def rowW (wd p j : Nat) : List Int := if j < wd then wideL p else halfL p
theorem rowsW_eq (wd nr p : Nat) : (List.range (wd + nr)).map (rowW wd p) = List.replicate wd (wideL p) ++ List.replicate nr (halfL p) := by
  refine List.ext_getElem (by simp) fun j h1 h2 => ?_
  simp only [List.getElem_map, List.getElem_range, rowW]
  by_cases h : j < wd
  · rw [if_pos h, List.getElem_append_left (by simpa using h)]; simp
  · rw [if_neg h, List.getElem_append_right (by simpa using h)]; simp
theorem wide_few {wd nr p : Nat} (hw : wd ≤ 6) (hn : nr ≤ 12) (hp : p ≤ 8) (he : (wideE (wd + nr)).length ≤ 1500) : Few (wideG wd nr p) := by
  refine ⟨by rw [wide_n]; omega, by rw [wide_k]; omega, he, by simp [wideG], fun l hl => ?_, fun l hl => ?_⟩
  · rcases List.mem_append.1 hl with hl | hl
    · rw [(List.mem_replicate.1 hl).2, wideL_len]; omega
    · rw [(List.mem_replicate.1 hl).2, halfL_len]; omega
  · obtain ⟨c, -, rfl⟩ := List.mem_map.1 hl
    unfold lapW
    split <;> simp
theorem Wd.graph {w W : World} {B xb m n l ec ac lc : Nat} {ea ab la : Option Addr} {O : Nat → Nat → Prop} {L A : List (List Int)} {zs : List (Int × Int)} {wl hl : List Int} {wv hv : Value} (h : Wd w B xb O L A zs wl hl (.slice ea m ec) (.slice ab n ac) (.slice la l lc) wv hv W) (h1 : zs.length ≤ 1000000) (h2 : A.length ≤ 1000000) (h3 : L.length ≤ 1000000) :
    IsGr (· < W.heap.size) W ⟨ea, m, ec, none, 0, 0, ab, n, ac, la, l, lc⟩ ⟨zs, [], A, L⟩ := by
  obtain ⟨v1, l1⟩ := h.lp
  obtain ⟨v2, l2⟩ := h.al
  exact ⟨(pairs_of_owns h.es h1).keep (fun _ hb _ => ⟨hb.2, rfl⟩), ⟨none, 0, rfl, ⟨Nat.le_refl _, Nat.zero_le _⟩, .inl rfl⟩, l2.rows h2 (fun b hb => (h.rg 1 b hb).1), l1.rows h3 (fun b hb => (h.rg 0 b hb).1)⟩
theorem ints_new (W : World) (xs : List Int) (hl : xs.length ≤ 1000) : IsInts (fun b => b = W.heap.size) (W.alloc (.cells (ints xs).toArray 3)) (.slice (some ⟨W.heap.size, 0, none⟩) xs.length xs.length) xs :=
  ints_of_row (xs := xs) (e := 3) (heap_alloc_eq _ _ _ rfl) rfl (by omega)

set_option maxRecDepth 100000 in
set_option maxHeartbeats 16000000 in
theorem colorWide_c (w : World) (wd nr p : Int) : Calls Try.prog 8 #[.int .i64 wd, .int .i64 nr, .int .i64 p] w fun e w' => e = .returned (.bool true) ∧ Below w.heap.size w w' := by
  go_enter Try.func8, Try.ntmps8
  go_wp2_with fail
  refine (alive_c w).mono ?_
  rintro e W0 ⟨rfl, hb0⟩
  have HB0 := hid_of hb0
  clear hb0
  by_cases h1 : wd < 0
  · have e1 : decide (wd < 0) = true := by simpa using h1
    clear h1
    go_wp2_with fail
    go_ret
    exact ⟨rfl, HB0.out⟩
  have e1 : decide (wd < 0) = false := by simpa using h1
  by_cases h2 : nr < 0
  · have e2 : decide (nr < 0) = true := by simpa using h2
    clear h1 h2
    go_wp2_with fail
    go_ret
    exact ⟨rfl, HB0.out⟩
  have e2 : decide (nr < 0) = false := by simpa using h2
  by_cases h3 : wd > 6
  · have e3 : decide (wd > 6) = true := by simpa using h3
    have e3' : decide (6 < wd) = true := by simpa using h3
    clear h1 h2 h3
    go_wp2_with fail
    go_ret
    exact ⟨rfl, HB0.out⟩
  have e3 : decide (wd > 6) = false := by simpa using h3
  have e3' : decide (6 < wd) = false := by simpa using h3
  by_cases h4 : nr > 12
  · have e4 : decide (nr > 12) = true := by simpa using h4
    have e4' : decide (12 < nr) = true := by simpa using h4
    clear h1 h2 h3 h4
    go_wp2_with fail
    go_ret
    exact ⟨rfl, HB0.out⟩
  have e4 : decide (nr > 12) = false := by simpa using h4
  have e4' : decide (12 < nr) = false := by simpa using h4
  by_cases h5 : p < 1
  · have e5 : decide (p < 1) = true := by simpa using h5
    clear h1 h2 h3 h4 h5
    go_wp2_with fail
    go_ret
    exact ⟨rfl, HB0.out⟩
  have e5 : decide (p < 1) = false := by simpa using h5
  by_cases h6 : p > 8
  · have e6 : decide (p > 8) = true := by simpa using h6
    have e6' : decide (8 < p) = true := by simpa using h6
    clear h1 h2 h3 h4 h5 h6
    go_wp2_with fail
    go_ret
    exact ⟨rfl, HB0.out⟩
  have e6 : decide (p > 8) = false := by simpa using h6
  have e6' : decide (8 < p) = false := by simpa using h6
  obtain ⟨wd, rfl⟩ : ∃ m : Nat, wd = (m : Int) := ⟨wd.toNat, by omega⟩
  obtain ⟨nr, rfl⟩ : ∃ m : Nat, nr = (m : Int) := ⟨nr.toNat, by omega⟩
  obtain ⟨p, rfl⟩ : ∃ m : Nat, p = (m : Int) := ⟨p.toNat, by omega⟩
  have hwd : wd ≤ 6 := by omega
  have hnr : nr ≤ 12 := by omega
  have hp : 1 ≤ p ∧ p ≤ 8 := by omega
  clear h1 h2 h3 h4 h5 h6
  go_wp2_with fail
  clear e1 e2 e3 e3' e4 e4' e5 e6 e6'
  refine (plain_c2 W0 0 0 (by omega) (by omega)).mono ?_
  rintro e X ⟨aa, ac, la, lc, rfl, hb1, B2, Z1, Z2, vs1, vs2, l1, l2, n1, n2, hB0, hB⟩
  have HW0 : Hid (∃ O, Wd w W0.heap.size X.heap.size O ((List.range (3 * 0)).map lapW) [] [] (wideL 0) (halfL 0) (.slice none 0 0) (.slice aa 0 ac) (.slice la 0 lc) (.slice none 0 0) (.slice none 0 0) (X.alloc (.cells #[.slice none 0 0, .slice none 0 0, .slice aa 0 ac, .slice la 0 lc] 25))) := by
    have hwX : Below w.heap.size w X := HB0.out.trans (hb1.mono HB0.out.size)
    have hs := HB0.out.size
    have hs1 := hb1.size
    refine ⟨fun j b => (j = 0 ∧ Z1 b) ∨ (j = 1 ∧ Z2 b), heap_alloc_eq _ _ _ rfl, ⟨vs1, ((l1.base (B' := W0.heap.size) (by omega)).mono fun b hb => .inl ⟨rfl, hb⟩).keep (fun b _ hlt => Below.heap_alloc _ _ _ hlt)⟩, ⟨vs2, ((n1.base (B' := W0.heap.size) (by omega)).mono fun b hb => .inr ⟨rfl, hb⟩).keep (fun b _ hlt => Below.heap_alloc _ _ _ hlt)⟩, World.ownsRow_nil _ _ _ _, fun b hb => by simp [Value.ownBlock] at hb, World.ownsRow_nil _ _ _ _, fun b hb => by simp [Value.ownBlock] at hb, World.ownsRow_nil _ _ _ _, fun b hb => by simp [Value.ownBlock] at hb, fun i j b h1 h2 => ?_, fun i b h1 => ?_, bel_alloc hwX _, by omega, by omega, by simp; omega⟩
    · rcases h1 with ⟨h1, h3⟩ | ⟨h1, h3⟩ <;> rcases h2 with ⟨h2, h4⟩ | ⟨h2, h4⟩
      · omega
      · have := (l2 b h3).2; have := (n2 b h4).1; omega
      · have := (n2 b h3).1; have := (l2 b h4).2; omega
      · omega
    · rcases h1 with ⟨h1, h3⟩ | ⟨h1, h3⟩
      · have := (l2 b h3).2; simp; omega
      · have := (n2 b h3).2; simp; omega
  obtain ⟨xb, Hxb⟩ : ∃ x, Hid (X.heap.size = x) := ⟨_, (rfl : X.heap.size = _)⟩
  obtain ⟨B, HBB⟩ : ∃ x, Hid (W0.heap.size = x) := ⟨_, (rfl : W0.heap.size = _)⟩
  clear hb1 l1 l2 n1 n2 hB0 hB
  go_upto_region 8 with fail
  rw [Hxb.out, HBB.out] at HW0
  rw [Hxb.out]
  generalize X.alloc (.cells #[.slice none 0 0, .slice none 0 0, .slice aa 0 ac, .slice la 0 lc] 25) = X1 at *
  obtain ⟨i0, hi0, hz0, hz1, hz2⟩ := info_parts infoR
  go_loopw [9, 10, 11] (fun s9 s10 s11 wx => ∃ (k : Nat) (wa ha la : Option Addr) (vc hc lc : Nat), k ≤ p ∧ s11 = .int .i64 k ∧ s9 = .slice wa k vc ∧ s10 = .slice ha (2 * k) hc ∧ Hid (∃ O, Wd w B xb O ((List.range (3 * k)).map lapW) [] [] (wideL k) (halfL k) (.slice none 0 0) (.slice aa 0 ac) (.slice la (3 * k) lc) (.slice wa k vc) (.slice ha (2 * k) hc) wx)) (fun _ _ s11 _ => p - (intOf s11).toNat)
  case atStart => exact ⟨0, none, none, la, 0, 0, lc, by omega, rfl, rfl, rfl, HW0⟩
  case round =>
    obtain ⟨k, wa, ha, la, vc, hc, lc, hk, rfl, rfl, rfl, HK⟩ := hrel
    clear HW0
    by_cases hlt : k < p
    ·
      have hkz : (k : Int) < (p : Int) := by omega
      obtain ⟨O, hW⟩ := HK.out
      obtain ⟨vs, hl⟩ := hW.lp
      have c3 : wr.cell? ⟨xb, 3, none⟩ = some (.slice la (3 * k) lc) := hW.row.cell rfl
      have hxl := hW.row.lt
      go_wp2_with (at_builtin; refine stop_here ?_)
      obtain ⟨y1, y2, y3, y4, y5, y6⟩ := lapY_facts wr (3 * (k : Int)) (3 * (k : Int) + 1) (3 * (k : Int) + 2)
      have hLl : ((List.range (3 * k)).map lapW).length = 3 * k := by simp
      have hlo : (lapY wr (3 * (k : Int)) (3 * (k : Int) + 1) (3 * (k : Int) + 2)).ownsRow B 31 1 (.slice la (3 * k) lc) (3 * k) vs := by
        have := hl.ow
        rw [hLl] at this
        exact owns_below this y1
      have hBs : B ≤ (lapY wr (3 * (k : Int)) (3 * (k : Int) + 1) (3 * (k : Int) + 2)).heap.size := by have := hW.ge; omega
      refine stop_go (wp_app _ rfl _ _ 23 rfl B 31 i0 _ 1 24 Try.underlying23 hi0 hz0 hz1 hz2 rfl (by decide) (.slice la (3 * k) lc) (3 * k) vs rfl hlo ⟨wr.heap.size + 1 + 1 + 1, 0, none⟩ 3 3 [.slice (some ⟨wr.heap.size, 0, none⟩) 3 3, .slice (some ⟨wr.heap.size + 1, 0, none⟩) 2 2, .slice (some ⟨wr.heap.size + 1 + 1, 0, none⟩) 2 2] rfl rfl ?_ ?_ ?_ ?_ hBs ?_)
      · intro j u hj
        have e : (⟨wr.heap.size + 1 + 1 + 1, 0, none⟩ : Addr).add j = ⟨wr.heap.size + 1 + 1 + 1, j, none⟩ := by cases j <;> simp [Addr.add]
        rw [e]
        exact y3.cell hj
      · intro u hu; simp at hu; rcases hu with rfl | rfl | rfl <;> rfl
      · unfold maxLen; omega
      · omega
      intro v1 w1 ho1 hg1 hv1
      have HL1 : ∃ la' lc', v1 = .slice la' (3 * (k + 1)) lc' ∧ w1.frozen? ⟨xb, 3, none⟩ = false ∧ w1.cell? ⟨xb, 3, none⟩ = some (.slice la (3 * k) lc) ∧ Hid (∃ O, Wd w B xb O ((List.range (3 * (k + 1))).map lapW) [] [] (wideL k) (halfL k) (.slice none 0 0) (.slice aa 0 ac) (.slice la' (3 * (k + 1)) lc') (.slice wa k vc) (.slice ha (2 * k) hc) (w1.setCell ⟨xb, 3, none⟩ (.slice la' (3 * (k + 1)) lc'))) := by
        obtain ⟨f1, f2, f3⟩ := hW.lapX hl y1 (us := [.slice (some ⟨wr.heap.size, 0, none⟩) 3 3, .slice (some ⟨wr.heap.size + 1, 0, none⟩) 2 2, .slice (some ⟨wr.heap.size + 1 + 1, 0, none⟩) 2 2]) (ls := [[3 * (k : Int), 3 * (k : Int) + 1, 3 * (k : Int) + 2], [3 * (k : Int), 3 * (k : Int) + 1], [3 * (k : Int), 3 * (k : Int) + 2]]) rfl (fun j hj => by
          match j, hj with
          | 0, _ => exact y4
          | 1, _ => exact y5
          | 2, _ => exact y6) (by rw [hLl]; exact ho1) hg1 (hv1.imp id fun e => ⟨_, e, Nat.le_refl _⟩)
        rw [← laps_succ] at f3
        obtain ⟨vs', hl'⟩ := f3.lp
        obtain ⟨la', lc', e⟩ := hl'.sl
        rw [List.length_map, List.length_range] at e
        subst e
        exact ⟨la', lc', rfl, f1, f2, _, f3⟩
      obtain ⟨la', lc', rfl, f1, f2, HW1⟩ := HL1
      clear y1 y2 y3 y4 y5 y6 hLl hlo hBs ho1 hg1 hv1 hW hl HK c3 hxl
      go_upto_region 11 with fail
      clear f1 f2
      generalize w1.setCell ⟨xb, 3, none⟩ (.slice la' (3 * (k + 1)) lc') = W2 at *
      obtain ⟨O2, hW2⟩ := HW1.out
      have hba2 : BkS W2 (W2.alloc (.cells #[.int .i64 (3 * (k : Int))] 3)) := bk_alloc (bk_refl W2) _
      have hwl := wideL_len k
      have hhl := halfL_len k
      have HI2 := hid_of (ints_new W2 [3 * (k : Int)] (by simp))
      have HO2 := hid_of (owns_below hW2.wo hba2)
      have HSz : Hid ((wideL k).length + [3 * (k : Int)].length ≤ 17000000000000 ∧ B ≤ (W2.alloc (.cells #[.int .i64 (3 * (k : Int))] 3)).heap.size) := by
        have := hW2.ge
        exact ⟨by rw [hwl]; simp; omega, by simp; omega⟩
      have HN2 : Hid (∀ v2 w2, w2.ownsRow B 3 1 v2 (wideL k ++ [3 * (k : Int)]).length (ints (wideL k ++ [3 * (k : Int)])) → (W2.alloc (.cells #[.int .i64 (3 * (k : Int))] 3)).grownBy w2 (Value.slice wa k vc).ownBlock → (v2.ownBlock = (Value.slice wa k vc).ownBlock ∨ v2.ownBlock = some (W2.alloc (.cells #[.int .i64 (3 * (k : Int))] 3)).heap.size) →
          ∃ wa' wc', v2 = .slice wa' (k + 1) wc' ∧ Hid (∃ O, Wd w B xb O ((List.range (3 * (k + 1))).map lapW) [] [] (wideL (k + 1)) (halfL k) (.slice none 0 0) (.slice aa 0 ac) (.slice la' (3 * (k + 1)) lc') (.slice wa' (k + 1) wc') (.slice ha (2 * k) hc) w2)) := fun v2 w2 h1 h2 h3 => by
        have h4 := hW2.wideX hba2 h1 h2 h3
        have e : wideL k ++ [3 * (k : Int)] = wideL (k + 1) := by rw [wideL_succ]; simp
        rw [e] at h1 h4
        rw [wideL_len] at h1
        obtain ⟨wa', wc', rfl, -⟩ := owns_slice h1
        exact ⟨wa', wc', rfl, _, h4⟩
      clear hba2 hwl hW2 HW1
      go_wp2_with (at_builtin; refine stop_here ?_)
      refine stop_go (wp_appI rfl _ _ rfl B (.slice wa k vc) (wideL k) rfl HO2.out [3 * (k : Int)] rfl HI2.out HSz.out.1 HSz.out.2 ?_)
      intro v2 w2 ho2 hg2 hv2
      obtain ⟨wa', wc', rfl, HW3⟩ := HN2.out v2 w2 ho2 hg2 hv2
      clear ho2 hg2 hv2 HN2 HSz HO2 HI2
      obtain ⟨O3, hW3⟩ := HW3.out
      have hba3 : BkS w2 (w2.alloc (.cells #[.int .i64 (3 * (k : Int) + 1), .int .i64 (3 * (k : Int) + 2)] 3)) := bk_alloc (bk_refl w2) _
      have HI3 := hid_of (ints_new w2 [3 * (k : Int) + 1, 3 * (k : Int) + 2] (by simp))
      have HO3 := hid_of (owns_below hW3.ho hba3)
      have HSz : Hid ((halfL k).length + [3 * (k : Int) + 1, 3 * (k : Int) + 2].length ≤ 17000000000000 ∧ B ≤ (w2.alloc (.cells #[.int .i64 (3 * (k : Int) + 1), .int .i64 (3 * (k : Int) + 2)] 3)).heap.size) := by
        have := hW3.ge
        exact ⟨by rw [hhl]; simp; omega, by simp; omega⟩
      have HN3 : Hid (∀ v3 w3, w3.ownsRow B 3 1 v3 (halfL k ++ [3 * (k : Int) + 1, 3 * (k : Int) + 2]).length (ints (halfL k ++ [3 * (k : Int) + 1, 3 * (k : Int) + 2])) → (w2.alloc (.cells #[.int .i64 (3 * (k : Int) + 1), .int .i64 (3 * (k : Int) + 2)] 3)).grownBy w3 (Value.slice ha (2 * k) hc).ownBlock → (v3.ownBlock = (Value.slice ha (2 * k) hc).ownBlock ∨ v3.ownBlock = some (w2.alloc (.cells #[.int .i64 (3 * (k : Int) + 1), .int .i64 (3 * (k : Int) + 2)] 3)).heap.size) →
          ∃ ha' hc', v3 = .slice ha' (2 * (k + 1)) hc' ∧ Hid (∃ O, Wd w B xb O ((List.range (3 * (k + 1))).map lapW) [] [] (wideL (k + 1)) (halfL (k + 1)) (.slice none 0 0) (.slice aa 0 ac) (.slice la' (3 * (k + 1)) lc') (.slice wa' (k + 1) wc') (.slice ha' (2 * (k + 1)) hc') w3)) := fun v3 w3 h1 h2 h3 => by
        have h4 := hW3.halfX hba3 h1 h2 h3
        have e : halfL k ++ [3 * (k : Int) + 1, 3 * (k : Int) + 2] = halfL (k + 1) := by rw [halfL_succ]; simp
        rw [e] at h1 h4
        rw [halfL_len] at h1
        obtain ⟨ha', hc', rfl, -⟩ := owns_slice h1
        exact ⟨ha', hc', rfl, _, h4⟩
      clear hba3 hhl hW3 HW3
      go_wp2_with (at_builtin; refine stop_here ?_)
      refine stop_go (wp_appI rfl _ _ rfl B (.slice ha (2 * k) hc) (halfL k) rfl HO3.out [3 * (k : Int) + 1, 3 * (k : Int) + 2] rfl HI3.out HSz.out.1 HSz.out.2 ?_)
      intro v3 w3 ho3 hg3 hv3
      obtain ⟨ha', hc', rfl, HW4⟩ := HN3.out v3 w3 ho3 hg3 hv3
      clear ho3 hg3 hv3 HN3 HSz HO3 HI3
      go_wp2_with fail
      go_roundw
      case rel => exact ⟨k + 1, wa', ha', la', wc', hc', lc', by omega, by go_num, rfl, rfl, HW4⟩
      case measure => simp [intOf]; omega
    · obtain rfl : p = k := by omega
      have HV0 : Hid ((∃ O, Wd w B xb O ((List.range (3 * p)).map lapW) ((List.range 0).map (rowW wd p)) (wideE 0) (wideL p) (halfL p) (.slice none 0 0) (.slice aa 0 ac) (.slice la (3 * p) lc) (.slice wa p vc) (.slice ha (2 * p) hc) wr) ∧ (wideE 0).length = 0) := ⟨HK.out, rfl⟩
      clear HK
      have hwrp : IntKind.i64.wrap ((wd : Int) + (nr : Int)) = (wd : Int) + (nr : Int) := by rw [IntKind.wrap_i64]; omega
      go_wp2_with fail
      go_loopw [12] (fun s12 wx => ∃ (i m : Nat) (ea ab : Option Addr) (ec ac : Nat), i ≤ wd + nr ∧ s12 = .int .i64 i ∧ Hid ((∃ O, Wd w B xb O ((List.range (3 * p)).map lapW) ((List.range i).map (rowW wd p)) (wideE i) (wideL p) (halfL p) (.slice ea m ec) (.slice ab i ac) (.slice la (3 * p) lc) (.slice wa p vc) (.slice ha (2 * p) hc) wx) ∧ (wideE i).length = m ∧ m ≤ i * 18)) (fun s12 _ => wd + nr - (intOf s12).toNat)
      case atStart => exact ⟨0, 0, none, aa, 0, ac, by omega, rfl, HV0.out.1, HV0.out.2, by omega⟩
      case round =>
        obtain ⟨i, m, ea, ab, ec, ac, hi, rfl, HK⟩ := hrel
        clear HV0
        by_cases hlt : i < wd + nr
        ·
          have hiz : (i : Int) < (wd : Int) + (nr : Int) := by omega
          have hm18 : m ≤ 400 := by have := HK.out.2.2; have : i * 18 ≤ 18 * 18 := Nat.mul_le_mul_right _ (by omega); omega
          obtain ⟨O, hW⟩ := HK.out.1
          obtain ⟨vs, hl⟩ := hW.al
          have c2 : wr.cell? ⟨xb, 2, none⟩ = some (.slice ab i ac) := hW.row.cell rfl
          have hxl := hW.row.lt
          have hBw := hW.ge.2.2
          have hAl : ((List.range i).map (rowW wd p)).length = i := by simp
          have hvo : wr.ownsRow B 31 1 (.slice ab i ac) i vs := by
            have := hl.ow
            rwa [hAl] at this
          by_cases hw : i < wd
          · have hwz : (i : Int) < (wd : Int) := by omega
            have hpA : IsInts (fun _ => True) wr.drew (.slice wa p vc) (wideL p) := (ints_of_owns hW.wo (by rw [wideL_len]; omega) (fun _ _ _ _ => trivial)).keep (fun _ _ _ => ⟨trivial, rfl⟩)
            have hle1 : ([] : List Int).length + (wideL p).length ≤ 1000000 := by rw [wideL_len]; simp; omega
            have hS : ∀ v1 w1, w1.ownsRow wr.drew.heap.size 3 1 v1 ([] ++ wideL p).length (ints ([] ++ wideL p)) → wr.drew.grownBy w1 (Value.slice none 0 0).ownBlock →
                ∃ ua uc, v1 = .slice ua (p) uc ∧ IsInts (fun b => wr.heap.size ≤ b ∧ b < w1.heap.size) w1 (.slice ua (p) uc) (wideL p) ∧ BkS wr w1 ∧ w1.cell? ⟨xb, 2, none⟩ = some (.slice ab i ac) ∧ xb < w1.heap.size ∧ w1.ownsRow B 31 1 (.slice ab i ac) i vs := fun v1 w1 h1 h2 => by
              rw [List.nil_append] at h1
              have hb : BkS wr w1 := bel_call (bk_drew (bk_refl wr)) ⟨h2.os, h2.tape, h2.output, h2.size, fun b hb => h2.block b hb (by simp [Value.ownBlock])⟩
              have h3 := ints_of_owns (p := fun b => wr.heap.size ≤ b ∧ b < w1.heap.size) h1 (by rw [wideL_len]; omega) (fun b _ h4 h5 => ⟨h4, h5⟩)
              rw [wideL_len] at h1
              obtain ⟨ua, uc, rfl, -⟩ := owns_slice h1
              exact ⟨ua, uc, rfl, h3, hb, (cell_of_block (hb.block _ hxl) 2).trans c2, by have := hb.size; omega, owns_below hvo hb⟩
            have hT : ∀ w1 ua uc gg cap w2, IsInts (fun b => wr.heap.size ≤ b ∧ b < w1.heap.size) w1 (.slice ua (p) uc) (wideL p) → BkS wr w1 → w2.ownsRow B 31 1 (.slice (some ⟨gg, 0, none⟩) (i + 1) cap) (i + 1) (vs ++ [.slice ua (p) uc]) → (w1.alloc (.cells #[.slice ua (p) uc] 31)).grownBy w2 (Value.slice ab i ac).ownBlock → ((Value.slice ab i ac).ownBlock = some gg ∨ gg = (w1.alloc (.cells #[.slice ua (p) uc] 31)).heap.size) →
                w2.frozen? ⟨xb, 2, none⟩ = false ∧ w2.cell? ⟨xb, 2, none⟩ = some (.slice ab i ac) ∧ Hid (∃ O, Wd w B xb O ((List.range (3 * p)).map lapW) ((List.range (i + 1)).map (rowW wd p)) (wideE i) (wideL p) (halfL p) (.slice ea m ec) (.slice (some ⟨gg, 0, none⟩) (i + 1) cap) (.slice la (3 * p) lc) (.slice wa p vc) (.slice ha (2 * p) hc) (w2.setCell ⟨xb, 2, none⟩ (.slice (some ⟨gg, 0, none⟩) (i + 1) cap))) := fun w1 ua uc gg cap w2 hi hb ho hg hat => by
              obtain ⟨f1, f2, f3⟩ := hW.nodeX (v' := .slice (some ⟨gg, 0, none⟩) (i + 1) cap) hl (bk_alloc hb _) (us := [.slice ua (p) uc]) (ls := [wideL p]) rfl (fun j hj => by
                match j, hj with
                | 0, _ => exact hi.keep (fun b hb hlt => ⟨⟨hb.1, by simp; omega⟩, Below.heap_alloc _ _ _ hlt⟩)) (by rw [hAl]; exact ho) hg (hat.imp (fun e => e.symm) (fun e => ⟨gg, rfl, by omega⟩))
              have e : (List.range (i + 1)).map (rowW wd p) = (List.range i).map (rowW wd p) ++ [wideL p] := by
                rw [List.range_succ, List.map_append]
                simp [rowW, hw]
              rw [← e] at f3
              exact ⟨f1, f2, _, f3⟩
            go_wp2_with fail
            go_cut [] (fun wx => ∃ (ab : Option Addr) (ac : Nat), Hid (∃ O, Wd w B xb O ((List.range (3 * p)).map lapW) ((List.range (i + 1)).map (rowW wd p)) (wideE i) (wideL p) (halfL p) (.slice ea m ec) (.slice ab (i + 1) ac) (.slice la (3 * p) lc) (.slice wa p vc) (.slice ha (2 * p) hc) wx))
            case first =>
              go_region_law (first
                | (refine step_appI (by rfl) _ _ (by rfl) wr.drew.heap.size (.slice none 0 0) [] (by rfl) (World.ownsRow_nil _ _ _ _) (wideL p) (wideL_len p).symm (by rfl) hpA hle1 (Nat.le_refl _) ?_; intro v1 w1 ho1 hg1; obtain ⟨ua, uc, rfl, hi1, hb1, c2', hl1, hvo1⟩ := hS v1 w1 ho1 hg1)
                | (refine step_append_lies _ (by rfl) _ _ _ (by rfl) B 31 i0 _ 1 24 Try.underlying23 hi0 hz0 hz1 hz2 rfl (by omega) (.slice ab i ac) i vs (by rfl) (owns_below hvo1 (bk_alloc (bk_refl w1) _)) ⟨w1.heap.size, 0, none⟩ 1 1 [.slice ua (p) uc] (by rfl) (by rfl) (World.news_of_block (cs := #[.slice ua (p) uc]) (t := 31) (fr := (0, 0)) (heap_alloc_new w1 _)) (by simp [Value.oneCell']) (by omega) (by unfold maxLen; omega) (by omega) (by have := hb1.size; have := hBw; simp; omega) _ rfl ?_; intro gg cap w2 ho2 hg2 hat2 hlt2; obtain ⟨f1, f2, HP3⟩ := hT w1 ua uc gg cap w2 hi1 hb1 ho2 hg2 hat2))
              all_goals (clear hS hT hvo hle1 hpA hl hW)
              all_goals go_wp2_with fail
              all_goals go_meet
              all_goals exact ⟨_, _, HP3⟩
            case rest =>
              obtain ⟨ab', ac', HN⟩ := hcut
              have HE0 : Hid ((∃ O, Wd w B xb O ((List.range (3 * p)).map lapW) ((List.range (i + 1)).map (rowW wd p)) (wideE i ++ (List.range 0).map fun (k : Nat) => ((k : Int), (i : Int))) (wideL p) (halfL p) (.slice ea m ec) (.slice ab' (i + 1) ac') (.slice la (3 * p) lc) (.slice wa p vc) (.slice ha (2 * p) hc) wc) ∧ (wideE i).length + 0 = m) := ⟨by
                have := HN.out
                rw [show wideE i ++ (List.range 0).map (fun (k : Nat) => ((k : Int), (i : Int))) = wideE i by simp]
                exact this, HK.out.2.1⟩
              have HM18 := hid_of HK.out.2.2
              clear HN HK
              go_wp2_with fail
              go_loopw [13] (fun s13 wx => ∃ (k m2 : Nat) (ea : Option Addr) (ec : Nat), k ≤ i ∧ s13 = .int .i64 k ∧ Hid ((∃ O, Wd w B xb O ((List.range (3 * p)).map lapW) ((List.range (i + 1)).map (rowW wd p)) (wideE i ++ (List.range k).map fun (k : Nat) => ((k : Int), (i : Int))) (wideL p) (halfL p) (.slice ea m2 ec) (.slice ab' (i + 1) ac') (.slice la (3 * p) lc) (.slice wa p vc) (.slice ha (2 * p) hc) wx) ∧ m + k = m2)) (fun s13 _ => i - (intOf s13).toNat)
              case atStart => exact ⟨0, m, ea, ec, by omega, rfl, HE0.out.1, rfl⟩
              case round =>
                obtain ⟨k, m2, ea, ec, hk, rfl, HJ⟩ := hrel
                have HEL := hid_of HE0.out.2
                clear HE0
                by_cases hki : k < i
                · have hkz : (k : Int) < (i : Int) := by omega
                  obtain ⟨⟨O, hW⟩, hm2⟩ := HJ.out
                  have c0 : wr.cell? ⟨xb, 0, none⟩ = some (.slice ea m2 ec) := hW.row.cell rfl
                  have hxl := hW.row.lt
                  have hba : BkS wr (wr.alloc (.cells #[.int .i64 (k : Int), .int .i64 (i : Int)] 37)) := bk_alloc (bk_refl wr) _
                  have hzl : (wideE i ++ (List.range k).map fun (k : Nat) => ((k : Int), (i : Int))).length = m2 := by rw [List.length_append, List.length_map, List.length_range]; have := HEL.out; omega
                  have HO := hid_of (owns_below hW.es hba)
                  have HSz : Hid ((wideE i ++ (List.range k).map fun (k : Nat) => ((k : Int), (i : Int))).length + 1 ≤ 1000000 ∧ B ≤ (wr.alloc (.cells #[.int .i64 (k : Int), .int .i64 (i : Int)] 37)).heap.size) := ⟨by rw [hzl]; omega, by have := hW.ge; simp; omega⟩
                  have HN2 : Hid (∀ v2 w2, w2.ownsRow B 37 2 v2 ((wideE i ++ (List.range k).map fun (k : Nat) => ((k : Int), (i : Int))) ++ [((k : Int), (i : Int))]).length (prs ((wideE i ++ (List.range k).map fun (k : Nat) => ((k : Int), (i : Int))) ++ [((k : Int), (i : Int))])) → (wr.alloc (.cells #[.int .i64 (k : Int), .int .i64 (i : Int)] 37)).grownBy w2 (Value.slice ea m2 ec).ownBlock → (v2.ownBlock = (Value.slice ea m2 ec).ownBlock ∨ v2.ownBlock = some (wr.alloc (.cells #[.int .i64 (k : Int), .int .i64 (i : Int)] 37)).heap.size) →
                      ∃ ea' ec', v2 = .slice ea' (m2 + 1) ec' ∧ w2.frozen? ⟨xb, 0, none⟩ = false ∧ w2.cell? ⟨xb, 0, none⟩ = some (.slice ea m2 ec) ∧ Hid ((∃ O, Wd w B xb O ((List.range (3 * p)).map lapW) ((List.range (i + 1)).map (rowW wd p)) (wideE i ++ (List.range (k + 1)).map fun (k : Nat) => ((k : Int), (i : Int))) (wideL p) (halfL p) (.slice ea' (m2 + 1) ec') (.slice ab' (i + 1) ac') (.slice la (3 * p) lc) (.slice wa p vc) (.slice ha (2 * p) hc) (w2.setCell ⟨xb, 0, none⟩ (.slice ea' (m2 + 1) ec'))) ∧ m + (k + 1) = m2 + 1)) := fun v2 w2 h1 h2 h3 => by
                    obtain ⟨f1, f2, f3⟩ := hW.edgeX hba h1 h2 h3
                    have e : (wideE i ++ (List.range k).map fun (k : Nat) => ((k : Int), (i : Int))) ++ [((k : Int), (i : Int))] = wideE i ++ (List.range (k + 1)).map fun (k : Nat) => ((k : Int), (i : Int)) := by rw [List.range_succ, List.map_append, List.append_assoc]; rfl
                    rw [List.length_append, hzl] at h1
                    obtain ⟨ea', ec', rfl, -⟩ := owns_slice h1
                    rw [e] at f3
                    exact ⟨ea', ec', rfl, f1, f2, ⟨_, f3⟩, by omega⟩
                  clear hba hzl hW hm2 HJ
                  go_wp2_with (at_builtin; refine stop_here ?_)
                  refine stop_go (app_pr rfl _ _ rfl B (.slice ea m2 ec) (wideE i ++ (List.range k).map fun (k : Nat) => ((k : Int), (i : Int))) rfl HO.out _ ((k : Int), (i : Int)) rfl (heap_alloc_eq _ _ _ rfl) HSz.out.1 HSz.out.2 ?_)
                  intro v2 w2 ho2 hg2 hv2
                  obtain ⟨ea', ec', rfl, f1, f2, HN3⟩ := HN2.out v2 w2 ho2 hg2 hv2
                  clear ho2 hg2 hv2 HN2 HSz HO c0 hxl
                  go_wp2_with fail
                  go_roundw
                  case rel => exact ⟨k + 1, m2 + 1, ea', ec', by omega, by go_num, HN3⟩
                  case measure => simp [intOf]; omega
                · obtain rfl : i = k := by omega
                  have HN4 : Hid ((∃ O, Wd w B xb O ((List.range (3 * p)).map lapW) ((List.range (i + 1)).map (rowW wd p)) (wideE (i + 1)) (wideL p) (halfL p) (.slice ea m2 ec) (.slice ab' (i + 1) ac') (.slice la (3 * p) lc) (.slice wa p vc) (.slice ha (2 * p) hc) wr) ∧ (wideE (i + 1)).length = m2 ∧ m2 ≤ (i + 1) * 18) := by
                    obtain ⟨⟨O, h1⟩, h2⟩ := HJ.out
                    have e : wideE (i + 1) = wideE i ++ (List.range i).map fun (k : Nat) => ((k : Int), (i : Int)) := by
                      unfold wideE
                      rw [List.range_succ, List.flatMap_append]
                      simp
                    refine ⟨⟨O, by rw [e]; exact h1⟩, by rw [e, List.length_append, List.length_map, List.length_range]; have := HEL.out; omega, ?_⟩
                    have := HM18.out
                    have : i < 18 := by omega
                    omega
                  clear HJ
                  go_wp2_with fail
                  go_roundw
                  case rel => exact ⟨i + 1, m2, ea, ab', ec, ac', by omega, by go_num, HN4⟩
                  case measure => simp [intOf]; omega
          · have hwz : ¬ (i : Int) < (wd : Int) := by omega
            have hpA : IsInts (fun _ => True) wr.drew (.slice ha (2 * p) hc) (halfL p) := (ints_of_owns hW.ho (by rw [halfL_len]; omega) (fun _ _ _ _ => trivial)).keep (fun _ _ _ => ⟨trivial, rfl⟩)
            have hle1 : ([] : List Int).length + (halfL p).length ≤ 1000000 := by rw [halfL_len]; simp; omega
            have hS : ∀ v1 w1, w1.ownsRow wr.drew.heap.size 3 1 v1 ([] ++ halfL p).length (ints ([] ++ halfL p)) → wr.drew.grownBy w1 (Value.slice none 0 0).ownBlock →
                ∃ ua uc, v1 = .slice ua (2 * p) uc ∧ IsInts (fun b => wr.heap.size ≤ b ∧ b < w1.heap.size) w1 (.slice ua (2 * p) uc) (halfL p) ∧ BkS wr w1 ∧ w1.cell? ⟨xb, 2, none⟩ = some (.slice ab i ac) ∧ xb < w1.heap.size ∧ w1.ownsRow B 31 1 (.slice ab i ac) i vs := fun v1 w1 h1 h2 => by
              rw [List.nil_append] at h1
              have hb : BkS wr w1 := bel_call (bk_drew (bk_refl wr)) ⟨h2.os, h2.tape, h2.output, h2.size, fun b hb => h2.block b hb (by simp [Value.ownBlock])⟩
              have h3 := ints_of_owns (p := fun b => wr.heap.size ≤ b ∧ b < w1.heap.size) h1 (by rw [halfL_len]; omega) (fun b _ h4 h5 => ⟨h4, h5⟩)
              rw [halfL_len] at h1
              obtain ⟨ua, uc, rfl, -⟩ := owns_slice h1
              exact ⟨ua, uc, rfl, h3, hb, (cell_of_block (hb.block _ hxl) 2).trans c2, by have := hb.size; omega, owns_below hvo hb⟩
            have hT : ∀ w1 ua uc gg cap w2, IsInts (fun b => wr.heap.size ≤ b ∧ b < w1.heap.size) w1 (.slice ua (2 * p) uc) (halfL p) → BkS wr w1 → w2.ownsRow B 31 1 (.slice (some ⟨gg, 0, none⟩) (i + 1) cap) (i + 1) (vs ++ [.slice ua (2 * p) uc]) → (w1.alloc (.cells #[.slice ua (2 * p) uc] 31)).grownBy w2 (Value.slice ab i ac).ownBlock → ((Value.slice ab i ac).ownBlock = some gg ∨ gg = (w1.alloc (.cells #[.slice ua (2 * p) uc] 31)).heap.size) →
                w2.frozen? ⟨xb, 2, none⟩ = false ∧ w2.cell? ⟨xb, 2, none⟩ = some (.slice ab i ac) ∧ Hid (∃ O, Wd w B xb O ((List.range (3 * p)).map lapW) ((List.range (i + 1)).map (rowW wd p)) (wideE i) (wideL p) (halfL p) (.slice ea m ec) (.slice (some ⟨gg, 0, none⟩) (i + 1) cap) (.slice la (3 * p) lc) (.slice wa p vc) (.slice ha (2 * p) hc) (w2.setCell ⟨xb, 2, none⟩ (.slice (some ⟨gg, 0, none⟩) (i + 1) cap))) := fun w1 ua uc gg cap w2 hi hb ho hg hat => by
              obtain ⟨f1, f2, f3⟩ := hW.nodeX (v' := .slice (some ⟨gg, 0, none⟩) (i + 1) cap) hl (bk_alloc hb _) (us := [.slice ua (2 * p) uc]) (ls := [halfL p]) rfl (fun j hj => by
                match j, hj with
                | 0, _ => exact hi.keep (fun b hb hlt => ⟨⟨hb.1, by simp; omega⟩, Below.heap_alloc _ _ _ hlt⟩)) (by rw [hAl]; exact ho) hg (hat.imp (fun e => e.symm) (fun e => ⟨gg, rfl, by omega⟩))
              have e : (List.range (i + 1)).map (rowW wd p) = (List.range i).map (rowW wd p) ++ [halfL p] := by
                rw [List.range_succ, List.map_append]
                simp [rowW, hw]
              rw [← e] at f3
              exact ⟨f1, f2, _, f3⟩
            go_wp2_with fail
            go_cut [] (fun wx => ∃ (ab : Option Addr) (ac : Nat), Hid (∃ O, Wd w B xb O ((List.range (3 * p)).map lapW) ((List.range (i + 1)).map (rowW wd p)) (wideE i) (wideL p) (halfL p) (.slice ea m ec) (.slice ab (i + 1) ac) (.slice la (3 * p) lc) (.slice wa p vc) (.slice ha (2 * p) hc) wx))
            case first =>
              go_region_law (first
                | (refine step_appI (by rfl) _ _ (by rfl) wr.drew.heap.size (.slice none 0 0) [] (by rfl) (World.ownsRow_nil _ _ _ _) (halfL p) (halfL_len p).symm (by rfl) hpA hle1 (Nat.le_refl _) ?_; intro v1 w1 ho1 hg1; obtain ⟨ua, uc, rfl, hi1, hb1, c2', hl1, hvo1⟩ := hS v1 w1 ho1 hg1)
                | (refine step_append_lies _ (by rfl) _ _ _ (by rfl) B 31 i0 _ 1 24 Try.underlying23 hi0 hz0 hz1 hz2 rfl (by omega) (.slice ab i ac) i vs (by rfl) (owns_below hvo1 (bk_alloc (bk_refl w1) _)) ⟨w1.heap.size, 0, none⟩ 1 1 [.slice ua (2 * p) uc] (by rfl) (by rfl) (World.news_of_block (cs := #[.slice ua (2 * p) uc]) (t := 31) (fr := (0, 0)) (heap_alloc_new w1 _)) (by simp [Value.oneCell']) (by omega) (by unfold maxLen; omega) (by omega) (by have := hb1.size; have := hBw; simp; omega) _ rfl ?_; intro gg cap w2 ho2 hg2 hat2 hlt2; obtain ⟨f1, f2, HP3⟩ := hT w1 ua uc gg cap w2 hi1 hb1 ho2 hg2 hat2))
              all_goals (clear hS hT hvo hle1 hpA hl hW)
              all_goals go_wp2_with fail
              all_goals go_meet
              all_goals exact ⟨_, _, HP3⟩
            case rest =>
              obtain ⟨ab', ac', HN⟩ := hcut
              have HE0 : Hid ((∃ O, Wd w B xb O ((List.range (3 * p)).map lapW) ((List.range (i + 1)).map (rowW wd p)) (wideE i ++ (List.range 0).map fun (k : Nat) => ((k : Int), (i : Int))) (wideL p) (halfL p) (.slice ea m ec) (.slice ab' (i + 1) ac') (.slice la (3 * p) lc) (.slice wa p vc) (.slice ha (2 * p) hc) wc) ∧ (wideE i).length + 0 = m) := ⟨by
                have := HN.out
                rw [show wideE i ++ (List.range 0).map (fun (k : Nat) => ((k : Int), (i : Int))) = wideE i by simp]
                exact this, HK.out.2.1⟩
              have HM18 := hid_of HK.out.2.2
              clear HN HK
              go_wp2_with fail
              go_loopw [13] (fun s13 wx => ∃ (k m2 : Nat) (ea : Option Addr) (ec : Nat), k ≤ i ∧ s13 = .int .i64 k ∧ Hid ((∃ O, Wd w B xb O ((List.range (3 * p)).map lapW) ((List.range (i + 1)).map (rowW wd p)) (wideE i ++ (List.range k).map fun (k : Nat) => ((k : Int), (i : Int))) (wideL p) (halfL p) (.slice ea m2 ec) (.slice ab' (i + 1) ac') (.slice la (3 * p) lc) (.slice wa p vc) (.slice ha (2 * p) hc) wx) ∧ m + k = m2)) (fun s13 _ => i - (intOf s13).toNat)
              case atStart => exact ⟨0, m, ea, ec, by omega, rfl, HE0.out.1, rfl⟩
              case round =>
                obtain ⟨k, m2, ea, ec, hk, rfl, HJ⟩ := hrel
                have HEL := hid_of HE0.out.2
                clear HE0
                by_cases hki : k < i
                · have hkz : (k : Int) < (i : Int) := by omega
                  obtain ⟨⟨O, hW⟩, hm2⟩ := HJ.out
                  have c0 : wr.cell? ⟨xb, 0, none⟩ = some (.slice ea m2 ec) := hW.row.cell rfl
                  have hxl := hW.row.lt
                  have hba : BkS wr (wr.alloc (.cells #[.int .i64 (k : Int), .int .i64 (i : Int)] 37)) := bk_alloc (bk_refl wr) _
                  have hzl : (wideE i ++ (List.range k).map fun (k : Nat) => ((k : Int), (i : Int))).length = m2 := by rw [List.length_append, List.length_map, List.length_range]; have := HEL.out; omega
                  have HO := hid_of (owns_below hW.es hba)
                  have HSz : Hid ((wideE i ++ (List.range k).map fun (k : Nat) => ((k : Int), (i : Int))).length + 1 ≤ 1000000 ∧ B ≤ (wr.alloc (.cells #[.int .i64 (k : Int), .int .i64 (i : Int)] 37)).heap.size) := ⟨by rw [hzl]; omega, by have := hW.ge; simp; omega⟩
                  have HN2 : Hid (∀ v2 w2, w2.ownsRow B 37 2 v2 ((wideE i ++ (List.range k).map fun (k : Nat) => ((k : Int), (i : Int))) ++ [((k : Int), (i : Int))]).length (prs ((wideE i ++ (List.range k).map fun (k : Nat) => ((k : Int), (i : Int))) ++ [((k : Int), (i : Int))])) → (wr.alloc (.cells #[.int .i64 (k : Int), .int .i64 (i : Int)] 37)).grownBy w2 (Value.slice ea m2 ec).ownBlock → (v2.ownBlock = (Value.slice ea m2 ec).ownBlock ∨ v2.ownBlock = some (wr.alloc (.cells #[.int .i64 (k : Int), .int .i64 (i : Int)] 37)).heap.size) →
                      ∃ ea' ec', v2 = .slice ea' (m2 + 1) ec' ∧ w2.frozen? ⟨xb, 0, none⟩ = false ∧ w2.cell? ⟨xb, 0, none⟩ = some (.slice ea m2 ec) ∧ Hid ((∃ O, Wd w B xb O ((List.range (3 * p)).map lapW) ((List.range (i + 1)).map (rowW wd p)) (wideE i ++ (List.range (k + 1)).map fun (k : Nat) => ((k : Int), (i : Int))) (wideL p) (halfL p) (.slice ea' (m2 + 1) ec') (.slice ab' (i + 1) ac') (.slice la (3 * p) lc) (.slice wa p vc) (.slice ha (2 * p) hc) (w2.setCell ⟨xb, 0, none⟩ (.slice ea' (m2 + 1) ec'))) ∧ m + (k + 1) = m2 + 1)) := fun v2 w2 h1 h2 h3 => by
                    obtain ⟨f1, f2, f3⟩ := hW.edgeX hba h1 h2 h3
                    have e : (wideE i ++ (List.range k).map fun (k : Nat) => ((k : Int), (i : Int))) ++ [((k : Int), (i : Int))] = wideE i ++ (List.range (k + 1)).map fun (k : Nat) => ((k : Int), (i : Int)) := by rw [List.range_succ, List.map_append, List.append_assoc]; rfl
                    rw [List.length_append, hzl] at h1
                    obtain ⟨ea', ec', rfl, -⟩ := owns_slice h1
                    rw [e] at f3
                    exact ⟨ea', ec', rfl, f1, f2, ⟨_, f3⟩, by omega⟩
                  clear hba hzl hW hm2 HJ
                  go_wp2_with (at_builtin; refine stop_here ?_)
                  refine stop_go (app_pr rfl _ _ rfl B (.slice ea m2 ec) (wideE i ++ (List.range k).map fun (k : Nat) => ((k : Int), (i : Int))) rfl HO.out _ ((k : Int), (i : Int)) rfl (heap_alloc_eq _ _ _ rfl) HSz.out.1 HSz.out.2 ?_)
                  intro v2 w2 ho2 hg2 hv2
                  obtain ⟨ea', ec', rfl, f1, f2, HN3⟩ := HN2.out v2 w2 ho2 hg2 hv2
                  clear ho2 hg2 hv2 HN2 HSz HO c0 hxl
                  go_wp2_with fail
                  go_roundw
                  case rel => exact ⟨k + 1, m2 + 1, ea', ec', by omega, by go_num, HN3⟩
                  case measure => simp [intOf]; omega
                · obtain rfl : i = k := by omega
                  have HN4 : Hid ((∃ O, Wd w B xb O ((List.range (3 * p)).map lapW) ((List.range (i + 1)).map (rowW wd p)) (wideE (i + 1)) (wideL p) (halfL p) (.slice ea m2 ec) (.slice ab' (i + 1) ac') (.slice la (3 * p) lc) (.slice wa p vc) (.slice ha (2 * p) hc) wr) ∧ (wideE (i + 1)).length = m2 ∧ m2 ≤ (i + 1) * 18) := by
                    obtain ⟨⟨O, h1⟩, h2⟩ := HJ.out
                    have e : wideE (i + 1) = wideE i ++ (List.range i).map fun (k : Nat) => ((k : Int), (i : Int)) := by
                      unfold wideE
                      rw [List.range_succ, List.flatMap_append]
                      simp
                    refine ⟨⟨O, by rw [e]; exact h1⟩, by rw [e, List.length_append, List.length_map, List.length_range]; have := HEL.out; omega, ?_⟩
                    have := HM18.out
                    have : i < 18 := by omega
                    omega
                  clear HJ
                  go_wp2_with fail
                  go_roundw
                  case rel => exact ⟨i + 1, m2, ea, ab', ec, ac', by omega, by go_num, HN4⟩
                  case measure => simp [intOf]; omega
        · have hiz : ¬ (i : Int) < (wd : Int) + (nr : Int) := by omega
          have hie : i = wd + nr := by omega
          obtain ⟨⟨O, hW⟩, hm, hm18⟩ := HK.out
          have hm1500 : m ≤ 1500 := by have : i * 18 ≤ 18 * 18 := Nat.mul_le_mul_right _ (by omega); omega
          have hgr := hW.graph (by rw [hm]; omega) (by rw [List.length_map, List.length_range]; omega) (by rw [List.length_map, List.length_range]; omega)
          have hG : (⟨wideE i, [], (List.range i).map (rowW wd p), (List.range (3 * p)).map lapW⟩ : GD) = wideG wd nr p := by rw [hie, rowsW_eq]; rfl
          rw [hG] at hgr
          have hfw : Few (wideG wd nr p) := wide_few hwd hnr hp.2 (by rw [← hie, hm]; exact hm1500)
          have hno : wd + nr ≤ p → inS (colS (wideG wd nr p)) (-1) = false := fun h => by rw [inS_dec]; exact decide_eq_false (sure_no wide_ok (wide_sure h hp.1))
          obtain ⟨G, HG⟩ : ∃ G, Hid (wideG wd nr p = G) := ⟨_, (rfl : wideG wd nr p = _)⟩
          have hok : OkG G := by rw [← HG.out]; exact wide_ok
          rw [HG.out] at hgr hfw hno
          have HRow := hid_of hW.row
          have HBl := hid_of hW.bl
          have HGR := hid_of hgr
          have HFW := hid_of hfw
          have HNO := hid_of hno
          have HCo := hid_of (color_ok wr hgr hok hfw)
          have q0 := HRow.out.cell (k := 0) rfl
          have q1 := HRow.out.cell (k := 1) rfl
          have q2 := HRow.out.cell (k := 2) rfl
          have q3 := HRow.out.cell (k := 3) rfl
          have HIE := hid_of hie
          clear hW hm hm18 hG hgr hfw hno HK hie
          go_wp2_with fail
          clear q0 q1 q2 q3
          refine HCo.out.mono ?_
          rintro e U ⟨kb, rfl, hkb, hcl, hkl, -, hb⟩
          have HUw := hid_of (HBl.out.trans (hb.mono HBl.out.size))
          obtain ⟨sb, Hsb⟩ : ∃ b, Hid (sureB G = b) := ⟨_, (rfl : sureB G = _)⟩
          have hE0 : BkS U U := bk_refl U
          have hgU : ∀ Y, BkS U Y → IsGr (· < Y.heap.size) Y ⟨ea, m, ec, none, 0, 0, ab, i, ac, la, 3 * p, lc⟩ G := fun Y hY => gr_keep HGR.out (bel_call hb hY)
          have hS : ∀ Y, BkS U Y → Y.cell? ⟨xb, 0, none⟩ = some (.slice ea m ec) ∧ Y.cell? ⟨xb, 1, none⟩ = some (.slice none 0 0) ∧ Y.cell? ⟨xb, 2, none⟩ = some (.slice ab i ac) ∧ Y.cell? ⟨xb, 3, none⟩ = some (.slice la (3 * p) lc) := fun Y hY => by
            have hr := HRow.out.keep ((bel_call hb hY).block _ HRow.out.lt)
            exact ⟨hr.cell rfl, hr.cell rfl, hr.cell rfl, hr.cell rfl⟩
          have hNm : ∀ Y, BkS U Y → Calls Try.prog 16 #[.int .i64 0] Y fun e Y' => e = .returned (.int .i64 0) ∧ BkS U Y' := fun Y hY => (num_c Y 0).mono (by rintro e Y' ⟨rfl, rfl⟩; exact ⟨rfl, hY⟩)
          have hCY : ∀ Y, BkS U Y → IsInts (· < Y.heap.size) Y (.slice (some ⟨kb, 0, none⟩) i i) (colS G) := fun Y hY => hcl.keep (fun b hb2 hlt => ⟨by have := hY.size; rw [hb2]; omega, hY.block b hlt⟩)
          have hGd : ∀ Y, BkS U Y → Calls Try.prog 18 #[.agg #[.slice ea m ec, .slice none 0 0, .slice ab i ac, .slice la (3 * p) lc], .slice (some ⟨kb, 0, none⟩) i i] Y fun e Y' => e = .returned (.bool true) ∧ BkS U Y' := fun Y hY => (good_c Y (hgU Y hY) hok HFW.out (hCY Y hY) (colS_good hok)).mono (by rintro e Y' ⟨rfl, hb⟩; exact ⟨rfl, bel_call hY hb⟩)
          have hSu : ∀ Y, BkS U Y → Calls Try.prog 17 #[.agg #[.slice ea m ec, .slice none 0 0, .slice ab i ac, .slice la (3 * p) lc]] Y fun e Y' => e = .returned (.bool sb) ∧ BkS U Y' := fun Y hY => (sure_c Y (hgU Y hY) HFW.out).mono (by rintro e Y' ⟨rfl, hb⟩; exact ⟨by rw [Hsb.out], bel_call hY hb⟩)
          have hSr : ∀ Y, BkS U Y → Calls Try.prog 15 #[.agg #[.slice ea m ec, .slice none 0 0, .slice ab i ac, .slice la (3 * p) lc]] Y fun e Y' => e = .returned (.bool sb) ∧ BkS U Y' := fun Y hY => (sureR_c Y (hgU Y hY) HFW.out).mono (by rintro e Y' ⟨rfl, hb⟩; exact ⟨by rw [Hsb.out], bel_call hY hb⟩)
          have HCY := hid_of hCY
          clear hkb hcl hb HCo HRow HBl HGR hCY hgU Hsb hok
          cases sb
          all_goals
            go_wp2_with fail
            go_region_held3 (fun X => X.cell? ⟨xb, 0, none⟩ = some (.slice ea m ec) ∧ X.cell? ⟨xb, 1, none⟩ = some (.slice none 0 0) ∧ X.cell? ⟨xb, 2, none⟩ = some (.slice ab i ac) ∧ X.cell? ⟨xb, 3, none⟩ = some (.slice la (3 * p) lc))
              ((refine hS _ ?_; (first | with_reducible assumption | exact bk_drew hE0)))
              (first
                | (go_at_call 16; (with_reducible refine (hNm _ ?_).mono ?_); (first | with_reducible assumption | exact bk_drew hE0); rintro e Ya ⟨rfl, hEa⟩)
                | (go_at_call 18; (with_reducible refine (hGd _ ?_).mono ?_); (first | with_reducible assumption | exact bk_drew hE0); rintro e Yb ⟨rfl, hEb⟩)
                | (go_at_call 17; (with_reducible refine (hSu _ ?_).mono ?_); (first | with_reducible assumption | exact bk_drew hE0); rintro e Yc ⟨rfl, hEc⟩)
                | (go_at_call 15; (with_reducible refine (hSr _ ?_).mono ?_); (first | with_reducible assumption | exact bk_drew hE0); rintro e Yd ⟨rfl, hEd⟩))
          all_goals
            have HEd := hid_of hEd
            clear hS hNm hGd hSu hSr hE0 hEd
            by_cases hle : wd + nr ≤ p
            · have hlz : (wd : Int) + (nr : Int) ≤ (p : Int) := by omega
              have HIn := hid_of (in_c (n := -1) Yd ((HCY.out Yd HEd.out).keep (p' := fun _ => True) (fun _ _ _ => ⟨trivial, rfl⟩)))
              rw [HNO.out hle] at HIn
              go_wp2_with fail
              refine HIn.out.mono ?_
              rintro e U2 ⟨rfl, rfl⟩
              go_wp2_with fail
              go_ret
              exact ⟨rfl, HUw.out.trans (Below.mono HEd.out HUw.out.size)⟩
            · have hlz : ¬ (wd : Int) + (nr : Int) ≤ (p : Int) := by omega
              go_wp2_with fail
              go_ret
              exact ⟨rfl, HUw.out.trans (Below.mono HEd.out HUw.out.size)⟩
end Go.Proofs.Ytinbfnabngdemaa
