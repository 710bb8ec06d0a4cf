/- 'PbqpRings': the walk. -/
import Derived.Test.YtdomnbgjafdnjaaPrE
import Derived.Test.YtdomnbgjafdnjaaPrP
namespace Go.Proofs.Ytdomnbgjafdnjaa
open Go.RowKit Go.Maps Go.ChangeMaps

set_option maxRecDepth 100000 in
set_option maxHeartbeats 8000000 in
theorem rings_out (w : World) (n : Int) {ca : Option Addr} {cl cc : Nat} (h : n < 3 ∨ n > 9 ∨ cl < 1 ∨ cl > 100) :
    Calls Try.prog 8 #[.int .i64 n, .slice ca cl cc] w fun e w' => e = .returned (.bool true) ∧ Below w.heap.size w w' := by
  have HAL := hid_of (alive25_c w)
  by_cases h1 : n < 3
  · have d1 : decide (n < 3) = true := by simpa using h1
    clear h h1
    go_enter Try.func8, Try.ntmps8
    go_wp2_with fail
    refine HAL.out.mono ?_
    rintro e W ⟨rfl, hb⟩
    go_wp2_with fail
    go_ret
    exact ⟨rfl, hb⟩
  have d1 : decide (n < 3) = false := by simpa using h1
  by_cases h2 : n > 9
  · have d2 : decide (n > 9) = true := by simpa using h2
    have d2' : decide (9 < n) = true := by simpa using h2
    clear h h1 h2
    go_enter Try.func8, Try.ntmps8
    go_wp2_with fail
    refine HAL.out.mono ?_
    rintro e W ⟨rfl, hb⟩
    go_wp2_with fail
    go_ret
    exact ⟨rfl, hb⟩
  have d2 : decide (n > 9) = false := by simpa using h2
  have d2' : decide (9 < n) = false := by simpa using h2
  by_cases h3 : cl < 1
  · have d3 : decide ((cl : Int) < 1) = true := by simp; omega
    have d3' : decide (cl < 1) = true := by simpa using h3
    clear h h1 h2 h3
    go_enter Try.func8, Try.ntmps8
    go_wp2_with fail
    refine HAL.out.mono ?_
    rintro e W ⟨rfl, hb⟩
    go_wp2_with fail
    go_ret
    exact ⟨rfl, hb⟩
  have d3 : decide ((cl : Int) < 1) = false := by simp; omega
  have d3' : decide (cl < 1) = false := by simpa using h3
  have h4 : cl > 100 := by omega
  have d4 : decide ((cl : Int) > 100) = true := by simp; omega
  have d4' : decide (100 < cl) = true := by simpa using h4
  · clear h h1 h2 h3 h4
    go_enter Try.func8, Try.ntmps8
    go_wp2_with fail
    refine HAL.out.mono ?_
    rintro e W ⟨rfl, hb⟩
    go_wp2_with fail
    go_ret
    exact ⟨rfl, hb⟩

theorem wrap_of {x : Int} (h0 : 0 ≤ x) (h1 : x ≤ 1000000) : IntKind.i64.wrap x = x := by
  rw [IntKind.wrap_i64]; omega
theorem rem_at {C : List Int} {cl : Nat} (h : cl = C.length) (x : Nat) : ((x : Nat) : Int).tmod (cl : Int) = ((x % C.length : Nat) : Int) := by
  rw [h]; exact (Int.ofNat_tmod _ _).symm

set_option maxRecDepth 100000 in
set_option maxHeartbeats 16000000 in
theorem rings_c (w : World) (n : Nat) {ca : Option Addr} {cl cc : Nat} {C : List Int} (hC : IsInts (· < w.heap.size) w (.slice ca cl cc) C) (hn1 : 3 ≤ n) (hn2 : n ≤ 9) (hc1 : 1 ≤ cl) (hc2 : cl ≤ 100) :
    Calls Try.prog 8 #[.int .i64 (n : Int), .slice ca cl cc] w fun e w' => e = .returned (.bool true) ∧ Below w.heap.size w w' := by
  have HAL := hid_of (alive25_c w)
  have HCL := hid_of (sl_len hC).1
  have HCC : Hid (∀ X, Below w.heap.size w X → IsInts (· < w.heap.size) X (.slice ca cl cc) C) := fun X hX => hC.keep (fun b hb hlt => ⟨hb, hX.block b hb⟩)
  have d1 : decide ((n : Int) < 3) = false := by simp; omega
  have d2 : decide ((n : Int) > 9) = false := by simp; omega
  have d3 : decide ((cl : Int) < 1) = false := by simp; omega
  have d4 : decide ((cl : Int) > 100) = false := by simp; omega
  have d1' : decide (n < 3) = false := by simp; omega
  have d2' : decide (9 < n) = false := by simp; omega
  have d3' : decide (cl < 1) = false := by simp; omega
  have d4' : decide (100 < cl) = false := by simp; omega
  clear hC
  go_enter Try.func8, Try.ntmps8
  go_wp2_with fail
  refine HAL.out.mono ?_
  rintro e W ⟨rfl, hb⟩
  have HB := hid_of hb
  clear HAL hb
  go_upto_region 5 with fail
  refine wp_at (fun X => Row X W.heap.size 25 [.slice none 0 0, .slice none 0 0] ∧ Below W.heap.size W X) ⟨heap_alloc_eq _ _ _ rfl, bel_alloc (bel_refl W) _⟩ ?_
  clear d1 d2 d3 d4 d1' d2' d3' d4'
  rintro X ⟨hr, hX⟩
  obtain ⟨cb, Hcb⟩ : ∃ cb, Hid (W.heap.size = cb) := ⟨_, (rfl : W.heap.size = _)⟩
  have H0 : Hid (BdS w cb (rgN n C) (rgE n C) 0 0 X) := by
    have hbx := bel_call HB.out hX
    rw [Hcb.out] at hr
    exact BdS.start hr hbx (by rw [← Hcb.out]; exact HB.out.size)
  rw [Hcb.out]
  have hclz : ((cl : Int) == 0) = false := by simp; omega
  have hcl0 : ¬ cl = 0 := by omega
  clear hr hX HB Hcb
  go_wp2_with fail
  go_loopw [7] (fun s7 wx => ∃ i : Nat, i ≤ n ∧ s7 = .int .i64 i ∧ Hid (BdS w cb (rgN n C) (rgE n C) i 0 wx)) (fun s7 _ => n - (intOf s7).toNat)
  case atStart => exact ⟨0, by omega, rfl, H0⟩
  case round =>
    obtain ⟨i, hi, rfl, HI⟩ := hrel
    clear H0
    by_cases hit : i < n
    · have hiz : (i : Int) < (n : Int) := by omega
      obtain ⟨W0, rfl⟩ : ∃ W0, W0 = wr := ⟨wr, rfl⟩
      obtain ⟨Zn, Z, na, nc, vn, ea, ec, ve, hBd⟩ := HI.out
      have c0 := hBd.r.cell (k := 0) rfl
      have hon : W0.ownsRow (cb + 1) 26 1 (.slice na i nc) i vn := by have h1 := hBd.n.ow; rw [hBd.vl] at h1; exact h1
      have hcl := hBd.r.lt
      have hC0 : 0 < C.length := by have := HCL.out; omega
      have hci := HCC.out W0 hBd.bel
      obtain ⟨xb, xo, rfl, hpb, cx⟩ := ints_at hci (Nat.mod_lt i hC0)
      obtain ⟨xb', xo', hxe, -, cy⟩ := ints_at hci (Nat.mod_lt (3 * i + 1) hC0)
      simp only [Option.some.injEq, Addr.mk.injEq, and_true] at hxe
      obtain ⟨rfl, rfl⟩ := hxe
      have hR := rgN_get C hit
      have r1 := rem_at HCL.out i
      have r2 := rem_at HCL.out (3 * i + 1)
      have l1 := Nat.mod_lt i hC0
      have l2 := Nat.mod_lt (3 * i + 1) hC0
      obtain ⟨i1, Hi1⟩ : ∃ q, Hid (i % C.length = q) := ⟨_, (rfl : i % C.length = _)⟩
      obtain ⟨i2, Hi2⟩ : ∃ q, Hid ((3 * i + 1) % C.length = q) := ⟨_, (rfl : (3 * i + 1) % C.length = _)⟩
      unfold atR at hR
      rw [Hi1.out] at r1 l1 cx hR
      rw [Hi2.out] at r2 l2 cy hR
      rw [← HCL.out] at l1 l2
      have r2' : (3 * (i : Int) + 1).tmod (cl : Int) = (i2 : Int) := by rw [← r2]; congr 1
      obtain ⟨x, Hx⟩ : ∃ x, Hid (C.getD i1 0 = x) := ⟨_, (rfl : C.getD i1 0 = _)⟩
      obtain ⟨y, Hy⟩ : ∃ y, Hid (C.getD i2 0 = y) := ⟨_, (rfl : C.getD i2 0 = _)⟩
      rw [Hx.out] at cx hR
      rw [Hy.out] at cy hR
      have l1z : (i1 : Int) < (cl : Int) := by omega
      have l2z : (i2 : Int) < (cl : Int) := by omega
      have hT : ∀ (gg cap : Nat) (w1 : World), w1.ownsRow (cb + 1) 26 1 (.slice (some ⟨gg, 0, none⟩) (i + 1) cap) (i + 1) (vn ++ [.slice (some ⟨W0.heap.size, 0, none⟩) 2 2]) →
          ((W0.alloc (.cells #[.int .i64 x, .int .i64 y] 3)).alloc (.cells #[.slice (some ⟨W0.heap.size, 0, none⟩) 2 2] 26)).drew.grownBy w1 (Value.slice na i nc).ownBlock → ((Value.slice na i nc).ownBlock = some gg ∨ gg = W0.heap.size + 2) →
          w1.cell? ⟨cb, 0, none⟩ = some (.slice na i nc) ∧ w1.frozen? ⟨cb, 0, none⟩ = false ∧ BdS w cb (rgN n C) (rgE n C) (i + 1) 0 (w1.setCell ⟨cb, 0, none⟩ (.slice (some ⟨gg, 0, none⟩) (i + 1) cap)) := fun gg cap w1 ho hg hat => by
        refine hBd.node (m := 2) (ua := some ⟨W0.heap.size, 0, none⟩) (uc := 2) (bel_alloc (bel_alloc (bel_refl W0) _) _).drew (by rw [hR]; rfl) ?_ ho hg (hat.imp id fun e => by simp; omega)
        have h1 : Row ((W0.alloc (.cells #[.int .i64 x, .int .i64 y] 3)).alloc (.cells #[.slice (some ⟨W0.heap.size, 0, none⟩) 2 2] 26)).drew W0.heap.size 3 (ints [x, y]) := by
          show ((W0.alloc _).alloc _).heap[W0.heap.size]? = _
          exact heap_alloc_ne _ _ _ _ (heap_alloc_eq W0 (.cells #[.int .i64 x, .int .i64 y] 3) _ rfl)
        rw [hR]
        exact ints_of_row (p := fun b => W0.heap.size ≤ b ∧ b < ((W0.alloc (.cells #[.int .i64 x, .int .i64 y] 3)).alloc (.cells #[.slice (some ⟨W0.heap.size, 0, none⟩) 2 2] 26)).drew.heap.size) h1 ⟨Nat.le_refl _, by simp; omega⟩ (by simp)
      obtain ⟨i0, hi0, hz0, hz1, hz2⟩ := info_parts infoIntsL
      have hi30 : i ≤ 9 := by omega
      have hw1 := wrap_of (x := 3 * (i : Int)) (by omega) (by omega)
      have hw2 := wrap_of (x := 3 * (i : Int) + 1) (by omega) (by omega)
      clear hBd HI hci hpb hR
      go_upto_region 8 with fail
      go_region_law (first
          | (refine step_append_lies _ (by rfl) _ _ _ (by rfl) (cb + 1) 26 i0 _ 1 24 Try.underlying22 hi0 hz0 hz1 hz2 rfl (by omega) (.slice na i nc) i vn (by rfl) (owns_below hon (bel_alloc (bel_alloc (bel_refl W0) (.cells #[.int .i64 x, .int .i64 y] 3)) (.cells #[.slice (some ⟨W0.heap.size, 0, none⟩) 2 2] 26)).drew) ⟨W0.heap.size + 1, 0, none⟩ 1 1 [.slice (some ⟨W0.heap.size, 0, none⟩) 2 2] (by rfl) (by rfl) (World.news_of_block (cs := #[.slice (some ⟨W0.heap.size, 0, none⟩) 2 2]) (t := 26) (fr := (0, 0)) (heap_alloc_eq (W0.alloc (.cells #[.int .i64 x, .int .i64 y] 3)) _ _ (by simp))) (by simp [Value.oneCell']) (by omega) (by unfold maxLen; omega) (by omega) (by simp; omega) (W0.heap.size + 2) (by simp) ?_; intro gg cap w1 hown1 hgrow hat hlt1; obtain ⟨u1, u2, u3⟩ := hT gg cap w1 hown1 hgrow hat))
      all_goals clear hT hon c0 hcl cx cy hown1 hgrow hat hlt1 u1 u2
      all_goals (try go_wp2_with fail)
      all_goals go_roundw
      all_goals first | exact ⟨i + 1, by omega, by go_num, u3⟩ | (simp [intOf]; omega)
    · obtain rfl : i = n := by omega
      clear hit hi
      have H1 := HI
      clear HI
      obtain ⟨n, rfl⟩ : ∃ n, n = i := ⟨i, rfl⟩
      have hnz : ¬ n = 0 := by omega
      go_wp2_with fail
      go_loopw [8] (fun s8 wx => ∃ j : Nat, j ≤ n ∧ s8 = .int .i64 j ∧ Hid (BdS w cb (rgN n C) (rgE n C) n j wx)) (fun s8 _ => n - (intOf s8).toNat)
      case atStart => exact ⟨0, by omega, rfl, H1⟩
      case round =>
        obtain ⟨j, hj, rfl, HI⟩ := hrel
        clear H1
        by_cases hjt : j < n
        · obtain ⟨W0, rfl⟩ : ∃ W0, W0 = wr := ⟨wr, rfl⟩
          have hiz : (j : Int) < (n : Int) := by omega
          obtain ⟨Zn, Z, na, nc, vn, ea, ec, ve, hBd⟩ := HI.out
          have c0 := hBd.r.cell (k := 1) rfl
          have hon : W0.ownsRow (cb + 1) 32 3 (.slice ea j ec) j ve := by
            have h1 := hBd.e.ow
            rw [List.length_take, rgE_length, Nat.min_eq_left hj] at h1
            exact h1
          have hcl := hBd.r.lt
          have hC0 : 0 < C.length := by have := HCL.out; omega
          have hci := HCC.out W0 hBd.bel
          have hj9 : j ≤ 9 := by omega
          have hM : rgM C j = [[C.getD ((5 * j) % C.length) 0, C.getD ((7 * j + 2) % C.length) 0], [C.getD ((2 * j + 1) % C.length) 0, C.getD ((j + 3) % C.length) 0]] := rfl
          obtain ⟨xb1, xo1, hxe1, hpb1, cx1⟩ := ints_at hci (Nat.mod_lt (5 * j) hC0)
          have r1 := rem_at HCL.out (5 * j)
          have l1 := Nat.mod_lt (5 * j) hC0
          obtain ⟨q1, Hq1⟩ : ∃ q, Hid ((5 * j) % C.length = q) := ⟨_, (rfl : (5 * j) % C.length = _)⟩
          rw [Hq1.out] at r1 l1 cx1 hM
          rw [← HCL.out] at l1
          have r1' : (5 * (j : Int)).tmod (cl : Int) = (q1 : Int) := by rw [← r1]; congr 1
          obtain ⟨x1, Hv1⟩ : ∃ x, Hid (C.getD q1 0 = x) := ⟨_, (rfl : C.getD q1 0 = _)⟩
          rw [Hv1.out] at cx1 hM
          have l1z : (q1 : Int) < (cl : Int) := by omega
          have hw10 := wrap_of (x := 5 * (j : Int)) (by omega) (by omega)
          obtain ⟨xb2, xo2, hxe2, hpb2, cx2⟩ := ints_at hci (Nat.mod_lt (7 * j + 2) hC0)
          have r2 := rem_at HCL.out (7 * j + 2)
          have l2 := Nat.mod_lt (7 * j + 2) hC0
          obtain ⟨q2, Hq2⟩ : ∃ q, Hid ((7 * j + 2) % C.length = q) := ⟨_, (rfl : (7 * j + 2) % C.length = _)⟩
          rw [Hq2.out] at r2 l2 cx2 hM
          rw [← HCL.out] at l2
          have r2' : (7 * (j : Int) + 2).tmod (cl : Int) = (q2 : Int) := by rw [← r2]; congr 1
          obtain ⟨x2, Hv2⟩ : ∃ x, Hid (C.getD q2 0 = x) := ⟨_, (rfl : C.getD q2 0 = _)⟩
          rw [Hv2.out] at cx2 hM
          have l2z : (q2 : Int) < (cl : Int) := by omega
          have hw20 := wrap_of (x := 7 * (j : Int)) (by omega) (by omega)
          have hw21 := wrap_of (x := 7 * (j : Int) + 2) (by omega) (by omega)
          obtain ⟨xb3, xo3, hxe3, hpb3, cx3⟩ := ints_at hci (Nat.mod_lt (2 * j + 1) hC0)
          have r3 := rem_at HCL.out (2 * j + 1)
          have l3 := Nat.mod_lt (2 * j + 1) hC0
          obtain ⟨q3, Hq3⟩ : ∃ q, Hid ((2 * j + 1) % C.length = q) := ⟨_, (rfl : (2 * j + 1) % C.length = _)⟩
          rw [Hq3.out] at r3 l3 cx3 hM
          rw [← HCL.out] at l3
          have r3' : (2 * (j : Int) + 1).tmod (cl : Int) = (q3 : Int) := by rw [← r3]; congr 1
          obtain ⟨y1, Hv3⟩ : ∃ x, Hid (C.getD q3 0 = x) := ⟨_, (rfl : C.getD q3 0 = _)⟩
          rw [Hv3.out] at cx3 hM
          have l3z : (q3 : Int) < (cl : Int) := by omega
          have hw30 := wrap_of (x := 2 * (j : Int)) (by omega) (by omega)
          have hw31 := wrap_of (x := 2 * (j : Int) + 1) (by omega) (by omega)
          obtain ⟨xb4, xo4, hxe4, hpb4, cx4⟩ := ints_at hci (Nat.mod_lt (j + 3) hC0)
          have r4 := rem_at HCL.out (j + 3)
          have l4 := Nat.mod_lt (j + 3) hC0
          obtain ⟨q4, Hq4⟩ : ∃ q, Hid ((j + 3) % C.length = q) := ⟨_, (rfl : (j + 3) % C.length = _)⟩
          rw [Hq4.out] at r4 l4 cx4 hM
          rw [← HCL.out] at l4
          have r4' : ((j : Int) + 3).tmod (cl : Int) = (q4 : Int) := by rw [← r4]; congr 1
          obtain ⟨y2, Hv4⟩ : ∃ x, Hid (C.getD q4 0 = x) := ⟨_, (rfl : C.getD q4 0 = _)⟩
          rw [Hv4.out] at cx4 hM
          have l4z : (q4 : Int) < (cl : Int) := by omega
          have hw40 := wrap_of (x := (j : Int) + 3) (by omega) (by omega)
          have hw5 := wrap_of (x := (j : Int) + 1) (by omega) (by omega)
          obtain ⟨nx, Hnx⟩ : ∃ q, Hid ((j + 1) % n = q) := ⟨_, (rfl : (j + 1) % n = _)⟩
          have r5 : ((j : Int) + 1).tmod (n : Int) = (nx : Int) := by rw [← Hnx.out]; exact (Int.ofNat_tmod (j + 1) n).symm
          subst hxe1
          have hxl : xb1 < W0.heap.size := lt_of_cell cx1
          simp only [Option.some.injEq, Addr.mk.injEq, and_true] at hxe2 hxe3 hxe4
          obtain ⟨rfl, rfl⟩ := hxe2
          obtain ⟨rfl, rfl⟩ := hxe3
          obtain ⟨rfl, rfl⟩ := hxe4
          have htk := rgE_take C hjt
          have hub := fun b => hBd.e.ow.lt b
          have hxw : xb1 < w.heap.size := hpb1
          have hcbw := hBd.cb
          have hT : ∀ (p1 p2 : Nat) (Yw : World) (gg cap : Nat) (w1 : World), Below W0.heap.size W0 Yw → Yw.heap.size = W0.heap.size + 4 → (W0.heap.size ≤ p1 ∧ p1 < W0.heap.size + 2) → (W0.heap.size ≤ p2 ∧ p2 < W0.heap.size + 2) → Row Yw p1 3 (ints [x1, x2]) → Row Yw p2 3 (ints [y1, y2]) → Row Yw (W0.heap.size + 2) 26 [.slice (some ⟨p1, 0, none⟩) 2 2, .slice (some ⟨p2, 0, none⟩) 2 2] →
              w1.ownsRow (cb + 1) 32 3 (.slice (some ⟨gg, 0, none⟩) (j + 1) cap) (j + 1) (ve ++ [.int .i64 (j : Int), .int .i64 (nx : Int), .slice (some ⟨W0.heap.size + 2, 0, none⟩) 2 2]) → Yw.grownBy w1 (Value.slice ea j ec).ownBlock → ((Value.slice ea j ec).ownBlock = some gg ∨ gg = W0.heap.size + 4) → w1.cell? ⟨cb, 1, none⟩ = some (.slice ea j ec) ∧ w1.frozen? ⟨cb, 1, none⟩ = false ∧ BdS w cb (rgN n C) (rgE n C) n (j + 1) (w1.setCell ⟨cb, 1, none⟩ (.slice (some ⟨gg, 0, none⟩) (j + 1) cap)) ∧ (w1.cell? ⟨xb1, xo1 + q1, none⟩ = some (.int .i64 x1) ∧ w1.cell? ⟨xb1, xo1 + q2, none⟩ = some (.int .i64 x2) ∧ w1.cell? ⟨xb1, xo1 + q3, none⟩ = some (.int .i64 y1) ∧ w1.cell? ⟨xb1, xo1 + q4, none⟩ = some (.int .i64 y2)) ∧ ((w1.setCell ⟨cb, 1, none⟩ (.slice (some ⟨gg, 0, none⟩) (j + 1) cap)).cell? ⟨xb1, xo1 + q1, none⟩ = some (.int .i64 x1) ∧ (w1.setCell ⟨cb, 1, none⟩ (.slice (some ⟨gg, 0, none⟩) (j + 1) cap)).cell? ⟨xb1, xo1 + q2, none⟩ = some (.int .i64 x2) ∧ (w1.setCell ⟨cb, 1, none⟩ (.slice (some ⟨gg, 0, none⟩) (j + 1) cap)).cell? ⟨xb1, xo1 + q3, none⟩ = some (.int .i64 y1) ∧ (w1.setCell ⟨cb, 1, none⟩ (.slice (some ⟨gg, 0, none⟩) (j + 1) cap)).cell? ⟨xb1, xo1 + q4, none⟩ = some (.int .i64 y2)) := fun p1 p2 Yw gg cap w1 hYb hYs h1 h2 hr1 hr2 hr3 ho hg hat => by
            have hw1b : w1.heap[xb1]? = W0.heap[xb1]? := (hg.block xb1 (by omega) (fun e => by have := (hub _ e.symm).1; omega)).trans (hYb.block xb1 hxl)
            have hed : w1.cell? ⟨cb, 1, none⟩ = some (.slice ea j ec) ∧ w1.frozen? ⟨cb, 1, none⟩ = false ∧ BdS w cb (rgN n C) (rgE n C) n (j + 1) (w1.setCell ⟨cb, 1, none⟩ (.slice (some ⟨gg, 0, none⟩) (j + 1) cap)) := by
              refine hBd.edge (x := rgX n C j) (m := 2) (ua := some ⟨W0.heap.size + 2, 0, none⟩) (uc := 2) hYb htk (by rw [rgE_length]; exact hj) rfl ?_ (by
                have e1 : (rgX n C j).a = (j : Int) := rfl
                have e2 : (rgX n C j).b = (nx : Int) := by show (((j + 1) % n : Nat) : Int) = _; rw [Hnx.out]
                rw [e1, e2]; exact ho) hg (hat.imp id fun e => by omega)
              have e3 : (rgX n C j).cost = [[x1, x2], [y1, y2]] := hM
              rw [e3]
              refine rows_of_row (p := fun b => W0.heap.size ≤ b ∧ b < Yw.heap.size) (ll := [[x1, x2], [y1, y2]]) hr3 ⟨by omega, by omega⟩ rfl (by show 2 ≤ _; omega) fun q hq1 hq2 => ?_
              match q, hq1 with
              | 0, _ => exact ints_of_row (xs := [x1, x2]) hr1 ⟨by omega, by omega⟩ (by simp)
              | 1, _ => exact ints_of_row (xs := [y1, y2]) hr2 ⟨by omega, by omega⟩ (by simp)
            obtain ⟨u1, u2, u3⟩ := hed
            have hks : ∀ Yk : World, Yk.heap[xb1]? = W0.heap[xb1]? → (Yk.cell? ⟨xb1, xo1 + q1, none⟩ = some (.int .i64 x1) ∧ Yk.cell? ⟨xb1, xo1 + q2, none⟩ = some (.int .i64 x2) ∧ Yk.cell? ⟨xb1, xo1 + q3, none⟩ = some (.int .i64 y1) ∧ Yk.cell? ⟨xb1, xo1 + q4, none⟩ = some (.int .i64 y2)) := fun Yk h => ⟨(World.cell?_of_block (a := ⟨xb1, xo1 + q1, none⟩) h).trans cx1, (World.cell?_of_block (a := ⟨xb1, xo1 + q2, none⟩) h).trans cx2, (World.cell?_of_block (a := ⟨xb1, xo1 + q3, none⟩) h).trans cx3, (World.cell?_of_block (a := ⟨xb1, xo1 + q4, none⟩) h).trans cx4⟩
            exact ⟨u1, u2, u3, hks _ hw1b, hks _ ((Below.heap_setCell _ _ _ _ (show xb1 ≠ cb by omega)).trans hw1b)⟩
          have hTA : ∀ (gg cap : Nat) (w1 : World), w1.ownsRow (cb + 1) 32 3 (.slice (some ⟨gg, 0, none⟩) (j + 1) cap) (j + 1) (ve ++ [.int .i64 (j : Int), .int .i64 (nx : Int), .slice (some ⟨W0.heap.size + 2, 0, none⟩) 2 2]) → (((((W0.alloc (.cells #[.int .i64 x1, .int .i64 x2] 3)).alloc (.cells #[.int .i64 y1, .int .i64 y2] 3)).alloc (.cells #[.slice (some ⟨W0.heap.size, 0, none⟩) 2 2, .slice (some ⟨W0.heap.size + 1, 0, none⟩) 2 2] 26)).alloc (.cells #[.int .i64 (j : Int), .int .i64 (nx : Int), .slice (some ⟨W0.heap.size + 2, 0, none⟩) 2 2] 32)).drew).grownBy w1 (Value.slice ea j ec).ownBlock → ((Value.slice ea j ec).ownBlock = some gg ∨ gg = W0.heap.size + 4) → w1.cell? ⟨cb, 1, none⟩ = some (.slice ea j ec) ∧ w1.frozen? ⟨cb, 1, none⟩ = false ∧ BdS w cb (rgN n C) (rgE n C) n (j + 1) (w1.setCell ⟨cb, 1, none⟩ (.slice (some ⟨gg, 0, none⟩) (j + 1) cap)) ∧ (w1.cell? ⟨xb1, xo1 + q1, none⟩ = some (.int .i64 x1) ∧ w1.cell? ⟨xb1, xo1 + q2, none⟩ = some (.int .i64 x2) ∧ w1.cell? ⟨xb1, xo1 + q3, none⟩ = some (.int .i64 y1) ∧ w1.cell? ⟨xb1, xo1 + q4, none⟩ = some (.int .i64 y2)) ∧ ((w1.setCell ⟨cb, 1, none⟩ (.slice (some ⟨gg, 0, none⟩) (j + 1) cap)).cell? ⟨xb1, xo1 + q1, none⟩ = some (.int .i64 x1) ∧ (w1.setCell ⟨cb, 1, none⟩ (.slice (some ⟨gg, 0, none⟩) (j + 1) cap)).cell? ⟨xb1, xo1 + q2, none⟩ = some (.int .i64 x2) ∧ (w1.setCell ⟨cb, 1, none⟩ (.slice (some ⟨gg, 0, none⟩) (j + 1) cap)).cell? ⟨xb1, xo1 + q3, none⟩ = some (.int .i64 y1) ∧ (w1.setCell ⟨cb, 1, none⟩ (.slice (some ⟨gg, 0, none⟩) (j + 1) cap)).cell? ⟨xb1, xo1 + q4, none⟩ = some (.int .i64 y2)) := fun gg cap w1 ho hg hat =>
            hT (W0.heap.size) (W0.heap.size + 1) (((((W0.alloc (.cells #[.int .i64 x1, .int .i64 x2] 3)).alloc (.cells #[.int .i64 y1, .int .i64 y2] 3)).alloc (.cells #[.slice (some ⟨W0.heap.size, 0, none⟩) 2 2, .slice (some ⟨W0.heap.size + 1, 0, none⟩) 2 2] 26)).alloc (.cells #[.int .i64 (j : Int), .int .i64 (nx : Int), .slice (some ⟨W0.heap.size + 2, 0, none⟩) 2 2] 32)).drew) gg cap w1 (bel_alloc (bel_alloc (bel_alloc (bel_alloc (bel_refl W0) _) _) _) _).drew (by simp) (by omega) (by omega) (heap_alloc_ne _ _ _ _ (heap_alloc_ne _ _ _ _ (heap_alloc_ne _ _ _ _ (heap_alloc_eq W0 _ _ rfl)))) (heap_alloc_ne _ _ _ _ (heap_alloc_ne _ _ _ _ (heap_alloc_eq (W0.alloc (.cells #[.int .i64 x1, .int .i64 x2] 3)) _ _ (by simp)))) (heap_alloc_ne _ _ _ _ (heap_alloc_eq ((W0.alloc (.cells #[.int .i64 x1, .int .i64 x2] 3)).alloc (.cells #[.int .i64 y1, .int .i64 y2] 3)) _ _ (by simp))) ho hg hat
          have hTB : ∀ (gg cap : Nat) (w1 : World), w1.ownsRow (cb + 1) 32 3 (.slice (some ⟨gg, 0, none⟩) (j + 1) cap) (j + 1) (ve ++ [.int .i64 (j : Int), .int .i64 (nx : Int), .slice (some ⟨W0.heap.size + 2, 0, none⟩) 2 2]) → (((((W0.alloc (.cells #[.int .i64 y1, .int .i64 y2] 3)).alloc (.cells #[.int .i64 x1, .int .i64 x2] 3)).alloc (.cells #[.slice (some ⟨W0.heap.size + 1, 0, none⟩) 2 2, .slice (some ⟨W0.heap.size, 0, none⟩) 2 2] 26)).alloc (.cells #[.int .i64 (j : Int), .int .i64 (nx : Int), .slice (some ⟨W0.heap.size + 2, 0, none⟩) 2 2] 32)).drew).grownBy w1 (Value.slice ea j ec).ownBlock → ((Value.slice ea j ec).ownBlock = some gg ∨ gg = W0.heap.size + 4) → w1.cell? ⟨cb, 1, none⟩ = some (.slice ea j ec) ∧ w1.frozen? ⟨cb, 1, none⟩ = false ∧ BdS w cb (rgN n C) (rgE n C) n (j + 1) (w1.setCell ⟨cb, 1, none⟩ (.slice (some ⟨gg, 0, none⟩) (j + 1) cap)) ∧ (w1.cell? ⟨xb1, xo1 + q1, none⟩ = some (.int .i64 x1) ∧ w1.cell? ⟨xb1, xo1 + q2, none⟩ = some (.int .i64 x2) ∧ w1.cell? ⟨xb1, xo1 + q3, none⟩ = some (.int .i64 y1) ∧ w1.cell? ⟨xb1, xo1 + q4, none⟩ = some (.int .i64 y2)) ∧ ((w1.setCell ⟨cb, 1, none⟩ (.slice (some ⟨gg, 0, none⟩) (j + 1) cap)).cell? ⟨xb1, xo1 + q1, none⟩ = some (.int .i64 x1) ∧ (w1.setCell ⟨cb, 1, none⟩ (.slice (some ⟨gg, 0, none⟩) (j + 1) cap)).cell? ⟨xb1, xo1 + q2, none⟩ = some (.int .i64 x2) ∧ (w1.setCell ⟨cb, 1, none⟩ (.slice (some ⟨gg, 0, none⟩) (j + 1) cap)).cell? ⟨xb1, xo1 + q3, none⟩ = some (.int .i64 y1) ∧ (w1.setCell ⟨cb, 1, none⟩ (.slice (some ⟨gg, 0, none⟩) (j + 1) cap)).cell? ⟨xb1, xo1 + q4, none⟩ = some (.int .i64 y2)) := fun gg cap w1 ho hg hat =>
            hT (W0.heap.size + 1) (W0.heap.size) (((((W0.alloc (.cells #[.int .i64 y1, .int .i64 y2] 3)).alloc (.cells #[.int .i64 x1, .int .i64 x2] 3)).alloc (.cells #[.slice (some ⟨W0.heap.size + 1, 0, none⟩) 2 2, .slice (some ⟨W0.heap.size, 0, none⟩) 2 2] 26)).alloc (.cells #[.int .i64 (j : Int), .int .i64 (nx : Int), .slice (some ⟨W0.heap.size + 2, 0, none⟩) 2 2] 32)).drew) gg cap w1 (bel_alloc (bel_alloc (bel_alloc (bel_alloc (bel_refl W0) _) _) _) _).drew (by simp) (by omega) (by omega) (heap_alloc_ne _ _ _ _ (heap_alloc_ne _ _ _ _ (heap_alloc_eq (W0.alloc (.cells #[.int .i64 y1, .int .i64 y2] 3)) _ _ (by simp)))) (heap_alloc_ne _ _ _ _ (heap_alloc_ne _ _ _ _ (heap_alloc_ne _ _ _ _ (heap_alloc_eq W0 _ _ rfl)))) (heap_alloc_ne _ _ _ _ (heap_alloc_eq ((W0.alloc (.cells #[.int .i64 y1, .int .i64 y2] 3)).alloc (.cells #[.int .i64 x1, .int .i64 x2] 3)) _ _ (by simp))) ho hg hat
          obtain ⟨i0, hi0, hz0, hz1, hz2⟩ := info_parts infoEdge
          clear hBd HI hci hpb1 hpb2 hpb3 hpb4 hM htk hT r1 r2 r3 r4
          have hKS : ∀ Yk : World, Below W0.heap.size W0 Yk → (Yk.cell? ⟨xb1, xo1 + q1, none⟩ = some (.int .i64 x1) ∧ Yk.cell? ⟨xb1, xo1 + q2, none⟩ = some (.int .i64 x2) ∧ Yk.cell? ⟨xb1, xo1 + q3, none⟩ = some (.int .i64 y1) ∧ Yk.cell? ⟨xb1, xo1 + q4, none⟩ = some (.int .i64 y2)) := fun Yk h => ⟨(World.cell?_of_block (a := ⟨xb1, xo1 + q1, none⟩) (h.block xb1 hxl)).trans cx1, (World.cell?_of_block (a := ⟨xb1, xo1 + q2, none⟩) (h.block xb1 hxl)).trans cx2, (World.cell?_of_block (a := ⟨xb1, xo1 + q3, none⟩) (h.block xb1 hxl)).trans cx3, (World.cell?_of_block (a := ⟨xb1, xo1 + q4, none⟩) (h.block xb1 hxl)).trans cx4⟩
          have hE0 : BkS W0 W0 := bel_refl W0
          go_upto_region 12 with fail
          have hCL : ∀ Yk : World, Below W0.heap.size W0 Yk → Yk.cell? ⟨cb, 1, none⟩ = some (.slice ea j ec) := fun Yk h => (World.cell?_of_block (a := ⟨cb, 1, none⟩) (h.block cb hcl)).trans c0
          refine wp_region_noPanic ?_
          refine wp_region_held_drew (S := (fun Yk => Yk.cell? ⟨xb1, xo1 + q1, none⟩ = some (.int .i64 x1) ∧ Yk.cell? ⟨xb1, xo1 + q2, none⟩ = some (.int .i64 x2) ∧ Yk.cell? ⟨xb1, xo1 + q3, none⟩ = some (.int .i64 y1) ∧ Yk.cell? ⟨xb1, xo1 + q4, none⟩ = some (.int .i64 y2))) (by kernel_rfl) (by (first | (with_reducible assumption) | (refine hKS _ ?_; repeat (first | exact hE0 | refine bk_drew ?_ | refine bk_alloc ?_ _ | exact bel_drewN hE0 _)))) (fun hHeld => ?_)
          refine wpAnyH_take (i := 0) (v := ?_) rfl (by kernel_rfl) (by kernel_rfl) (by kernel_rfl) (fun _ _ _ h => h) (Or.inl ⟨by rfl, ?_⟩) (by assumption) ?_
          rotate_left
          · intro w hSw; (try dsimp only at hSw); go_simp; all_goals (with_reducible rfl)
          refine wpAnyH_take (i := 2) (v := ?_) rfl (by kernel_rfl) (by kernel_rfl) (by kernel_rfl) (fun _ _ _ h => h) (Or.inl ⟨by rfl, ?_⟩) (by assumption) ?_
          rotate_left
          · intro w hSw; (try dsimp only at hSw); go_simp; all_goals (with_reducible rfl)
          refine wpAnyH_take (i := 3) (v := ?_) rfl (by kernel_rfl) (by kernel_rfl) (by kernel_rfl) (fun _ _ _ h => h) (Or.inl ⟨by rfl, ?_⟩) (by assumption) ?_
          rotate_left
          · intro w hSw; (try dsimp only at hSw); go_simp; all_goals (with_reducible rfl)
          refine wpAnyH_take (i := 4) (v := ?_) rfl (by kernel_rfl) (by kernel_rfl) (by kernel_rfl) (fun _ _ _ h => h) (Or.inl ⟨by rfl, ?_⟩) (by assumption) ?_
          rotate_left
          · intro w hSw; (try dsimp only at hSw); go_simp; all_goals (with_reducible rfl)
          refine wpAnyH_take (i := 5) (v := ?_) rfl (by kernel_rfl) (by kernel_rfl) (by kernel_rfl) (fun _ _ _ h => h) (Or.inl ⟨by rfl, ?_⟩) (by assumption) ?_
          rotate_left
          · intro w hSw; (try dsimp only at hSw); go_simp; all_goals (with_reducible rfl)
          refine wpAnyH_take (i := 6) (v := ?_) rfl (by kernel_rfl) (by kernel_rfl) (by kernel_rfl) (fun _ _ _ h => h) (Or.inl ⟨by rfl, ?_⟩) (by assumption) ?_
          rotate_left
          · intro w hSw; (try dsimp only at hSw); go_simp; all_goals (with_reducible rfl)
          refine wpAnyH_take (i := 7) (v := ?_) rfl (by kernel_rfl) (by kernel_rfl) (by kernel_rfl) (fun _ _ _ h => h) (Or.inl ⟨by rfl, ?_⟩) (by assumption) ?_
          rotate_left
          · intro w hSw; (try dsimp only at hSw); go_simp; all_goals (with_reducible rfl)
          refine wpAnyH_take (i := 8) (v := ?_) rfl (by kernel_rfl) (by kernel_rfl) (by kernel_rfl) (fun _ _ _ h => h) (Or.inl ⟨by rfl, ?_⟩) (by assumption) ?_
          rotate_left
          · intro w hSw; (try dsimp only at hSw); go_simp; all_goals (with_reducible rfl)
          refine wpAnyH_take (i := 9) (v := ?_) rfl (by kernel_rfl) (by kernel_rfl) (by kernel_rfl) (fun _ _ _ h => h) (Or.inl ⟨by rfl, ?_⟩) (by assumption) ?_
          rotate_left
          · intro w hSw; (try dsimp only at hSw); go_simp; all_goals (with_reducible rfl)
          refine wpAnyH_take (i := 10) (v := ?_) rfl (by kernel_rfl) (by kernel_rfl) (by kernel_rfl) (fun _ _ _ h => h) (Or.inl ⟨by rfl, ?_⟩) (by assumption) ?_
          rotate_left
          · intro w hSw; (try dsimp only at hSw); go_simp; all_goals (with_reducible rfl)
          refine wpAnyH_take (i := 11) (v := ?_) rfl (by kernel_rfl) (by kernel_rfl) (by kernel_rfl) (fun _ _ _ h => h) (Or.inl ⟨by rfl, ?_⟩) (by assumption) ?_
          rotate_left
          · intro w hSw; (try dsimp only at hSw); go_simp; all_goals (with_reducible rfl)
          refine wpAnyH_take (i := 12) (v := ?_) rfl (by kernel_rfl) (by kernel_rfl) (by kernel_rfl) (fun _ _ _ h => h) (Or.inl ⟨by rfl, ?_⟩) (by assumption) ?_
          rotate_left
          · intro w hSw; (try dsimp only at hSw); go_simp; all_goals (with_reducible rfl)
          refine wpAnyH_take (i := 13) (v := ?_) rfl (by kernel_rfl) (by kernel_rfl) (by kernel_rfl) (fun _ _ _ h => h) (Or.inl ⟨by rfl, ?_⟩) (by assumption) ?_
          rotate_left
          · intro w hSw; (try dsimp only at hSw); go_simp; all_goals (with_reducible rfl)
          refine wpAnyH_take (i := 14) (v := ?_) rfl (by kernel_rfl) (by kernel_rfl) (by kernel_rfl) (fun _ _ _ h => h) (Or.inl ⟨by rfl, ?_⟩) (by assumption) ?_
          rotate_left
          · intro w hSw; (try dsimp only at hSw); go_simp; all_goals (with_reducible rfl)
          refine wpAnyH_take (i := 15) (v := ?_) rfl (by kernel_rfl) (by kernel_rfl) (by kernel_rfl) (fun _ _ _ h => h) (Or.inl ⟨by rfl, ?_⟩) (by assumption) ?_
          rotate_left
          · intro w hSw; (try dsimp only at hSw); go_simp; all_goals (with_reducible rfl)
          refine wpAnyH_take (i := 16) (v := ?_) rfl (by kernel_rfl) (by kernel_rfl) (by kernel_rfl) (fun _ _ _ h => h) (Or.inl ⟨by rfl, ?_⟩) (by assumption) ?_
          rotate_left
          · intro w hSw; (try dsimp only at hSw); go_simp; all_goals (with_reducible rfl)
          refine wpAnyH_take (i := 17) (v := ?_) rfl (by kernel_rfl) (by kernel_rfl) (by kernel_rfl) (fun _ _ _ h => h) (Or.inl ⟨by rfl, ?_⟩) (by assumption) ?_
          rotate_left
          · intro w hSw; (try dsimp only at hSw); go_simp; all_goals (with_reducible rfl)
          refine wpAnyH_take (i := 18) (v := ?_) rfl (by kernel_rfl) (by kernel_rfl) (by kernel_rfl) (fun _ _ _ h => h) (Or.inl ⟨by rfl, ?_⟩) (by assumption) ?_
          rotate_left
          · intro w hSw; (try dsimp only at hSw); go_simp; all_goals (with_reducible rfl)
          refine wpAnyH_take (i := 19) (v := ?_) rfl (by kernel_rfl) (by kernel_rfl) (by kernel_rfl) (fun _ _ _ h => h) (Or.inl ⟨by rfl, ?_⟩) (by assumption) ?_
          rotate_left
          · intro w hSw; (try dsimp only at hSw); go_simp; all_goals (with_reducible rfl)
          refine wpAnyH_take (i := 20) (v := ?_) rfl (by kernel_rfl) (by kernel_rfl) (by kernel_rfl) (fun _ _ _ h => h) (Or.inl ⟨by rfl, ?_⟩) (by assumption) ?_
          rotate_left
          · intro w hSw; (try dsimp only at hSw); go_simp; all_goals (with_reducible rfl)
          refine wpAnyH_take (i := 21) (v := ?_) rfl (by kernel_rfl) (by kernel_rfl) (by kernel_rfl) (fun _ _ _ h => h) (Or.inl ⟨by rfl, ?_⟩) (by assumption) ?_
          rotate_left
          · intro w hSw; (try dsimp only at hSw); go_simp; all_goals (with_reducible rfl)
          refine wpAnyH_take (i := 22) (v := ?_) rfl (by kernel_rfl) (by kernel_rfl) (by kernel_rfl) (fun _ _ _ h => h) (Or.inl ⟨by rfl, ?_⟩) (by assumption) ?_
          rotate_left
          · intro w hSw; (try dsimp only at hSw); go_simp; all_goals (with_reducible rfl)
          refine wpAnyH_take (i := 23) (v := ?_) rfl (by kernel_rfl) (by kernel_rfl) (by kernel_rfl) (fun _ _ _ h => h) (Or.inl ⟨by rfl, ?_⟩) (by assumption) ?_
          rotate_left
          · intro w hSw; (try dsimp only at hSw); go_simp; all_goals (with_reducible rfl)
          refine wpAnyH_take (i := 25) (v := ?_) rfl (by kernel_rfl) (by kernel_rfl) (by kernel_rfl) (fun _ _ _ h => h) (Or.inl ⟨by rfl, ?_⟩) (by assumption) ?_
          rotate_left
          · intro w hSw; (try dsimp only at hSw); go_simp; all_goals (with_reducible rfl)
          refine wpAnyH_take (i := 26) (v := ?_) rfl (by kernel_rfl) (by kernel_rfl) (by kernel_rfl) (fun _ _ _ h => h) (Or.inl ⟨by rfl, ?_⟩) (by assumption) ?_
          rotate_left
          · intro w hSw; (try dsimp only at hSw); go_simp; all_goals (with_reducible rfl)
          refine wpAnyH_take (i := 27) (v := ?_) rfl (by kernel_rfl) (by kernel_rfl) (by kernel_rfl) (fun _ _ _ h => h) (Or.inl ⟨by rfl, ?_⟩) (by assumption) ?_
          rotate_left
          · intro w hSw; (try dsimp only at hSw); go_simp; all_goals (with_reducible rfl)
          refine wpAnyH_take (i := 28) (v := ?_) rfl (by kernel_rfl) (by kernel_rfl) (by kernel_rfl) (fun _ _ _ h => h) (Or.inl ⟨by rfl, ?_⟩) (by assumption) ?_
          rotate_left
          · intro w hSw; (try dsimp only at hSw); go_simp; all_goals (with_reducible rfl)
          refine wpAnyH_take (i := 29) (v := ?_) rfl (by kernel_rfl) (by kernel_rfl) (by kernel_rfl) (fun _ _ _ h => h) (Or.inl ⟨by rfl, ?_⟩) (by assumption) ?_
          rotate_left
          · intro w hSw; (try dsimp only at hSw); go_simp; all_goals (with_reducible rfl)
          refine wpAnyH_take (i := 30) (v := ?_) rfl (by kernel_rfl) (by kernel_rfl) (by kernel_rfl) (fun _ _ _ h => h) (Or.inl ⟨by rfl, ?_⟩) (by assumption) ?_
          rotate_left
          · intro w hSw; (try dsimp only at hSw); go_simp; all_goals (with_reducible rfl)
          refine wpAnyH_take (i := 31) (v := ?_) rfl (by kernel_rfl) (by kernel_rfl) (by kernel_rfl) (fun _ _ _ h => h) (Or.inl ⟨by rfl, ?_⟩) (by assumption) ?_
          rotate_left
          · intro w hSw; (try dsimp only at hSw); go_simp; all_goals (with_reducible rfl)
          refine wpAnyH_take (i := 32) (v := ?_) rfl (by kernel_rfl) (by kernel_rfl) (by kernel_rfl) (fun _ _ _ h => h) (Or.inl ⟨by rfl, ?_⟩) (by assumption) ?_
          rotate_left
          · intro w hSw; (try dsimp only at hSw); go_simp; all_goals (with_reducible rfl)
          refine wpAnyH_take (i := 33) (v := ?_) rfl (by kernel_rfl) (by kernel_rfl) (by kernel_rfl) (fun _ _ _ h => h) (Or.inl ⟨by rfl, ?_⟩) (by assumption) ?_
          rotate_left
          · intro w hSw; (try dsimp only at hSw); go_simp; all_goals (with_reducible rfl)
          refine wpAnyH_take (i := 34) (v := ?_) rfl (by kernel_rfl) (by kernel_rfl) (by kernel_rfl) (fun _ _ _ h => h) (Or.inl ⟨by rfl, ?_⟩) (by assumption) ?_
          rotate_left
          · intro w hSw; (try dsimp only at hSw); go_simp; all_goals (with_reducible rfl)
          refine wpAnyH_take (i := 35) (v := ?_) rfl (by kernel_rfl) (by kernel_rfl) (by kernel_rfl) (fun _ _ _ h => h) (Or.inl ⟨by rfl, ?_⟩) (by assumption) ?_
          rotate_left
          · intro w hSw; (try dsimp only at hSw); go_simp; all_goals (with_reducible rfl)
          refine wpAnyH_take (i := 36) (v := ?_) rfl (by kernel_rfl) (by kernel_rfl) (by kernel_rfl) (fun _ _ _ h => h) (Or.inl ⟨by rfl, ?_⟩) (by assumption) ?_
          rotate_left
          · intro w hSw; (try dsimp only at hSw); go_simp; all_goals (with_reducible rfl)
          refine wpAnyH_take (i := 37) (v := ?_) rfl (by kernel_rfl) (by kernel_rfl) (by kernel_rfl) (fun _ _ _ h => h) (Or.inl ⟨by rfl, ?_⟩) (by assumption) ?_
          rotate_left
          · intro w hSw; (try dsimp only at hSw); go_simp; all_goals (with_reducible rfl)
          refine wpAnyH_take (i := 38) (v := ?_) rfl (by kernel_rfl) (by kernel_rfl) (by kernel_rfl) (fun _ _ _ h => h) (Or.inl ⟨by rfl, ?_⟩) (by assumption) ?_
          rotate_left
          · intro w hSw; (try dsimp only at hSw); go_simp; all_goals (with_reducible rfl)
          refine wpAnyH_take (i := 39) (v := ?_) rfl (by kernel_rfl) (by kernel_rfl) (by kernel_rfl) (fun _ _ _ h => h) (Or.inl ⟨by rfl, ?_⟩) (by assumption) ?_
          rotate_left
          · intro w hSw; (try dsimp only at hSw); go_simp; all_goals (with_reducible rfl)
          refine wpAnyH_take (i := 40) (v := ?_) rfl (by kernel_rfl) (by kernel_rfl) (by kernel_rfl) (fun _ _ _ h => h) (Or.inl ⟨by rfl, ?_⟩) (by assumption) ?_
          rotate_left
          · intro w hSw; (try dsimp only at hSw); go_simp; all_goals (with_reducible rfl)
          refine wpAnyH_take (i := 41) (v := ?_) rfl (by kernel_rfl) (by kernel_rfl) (by kernel_rfl) (fun _ _ _ h => h) (Or.inl ⟨by rfl, ?_⟩) (by assumption) ?_
          rotate_left
          · intro w hSw; (try dsimp only at hSw); go_simp; all_goals (with_reducible rfl)
          try simp only [Act.put, List.setIfInBounds_toArray]
          refine wpAnyH_ready (rs := [1, 24, 42]) (by kernel_rfl) (by simp) ?_
          refine AllReadyH.cons rfl (fun K hK => ?_) (AllReadyH.cons rfl (fun K hK => ?_) (AllReadyH.cons rfl (fun K hK => ?_) (AllReadyH.nil)))
          · skip
            go_simp
            refine hK.out _ _ (by (first | (with_reducible assumption) | exact u4 | exact u5 | (refine hKS _ ?_; repeat (first | exact hE0 | refine bk_drew ?_ | refine bk_alloc ?_ _ | exact bel_drewN hE0 _)))) (fun hHeld => ?_)
            clear hK K
            try simp only [Act.put, List.setIfInBounds_toArray, List.set_cons_zero, List.set_cons_succ]
            refine wpAnyH_ready (rs := [24, 42]) (by kernel_rfl) (by simp) ?_
            refine AllReadyH.cons rfl (fun K hK => ?_) (AllReadyH.cons rfl (fun K hK => ?_) (AllReadyH.nil))
            · skip
              go_simp
              refine hK.out _ _ (by (first | (with_reducible assumption) | exact u4 | exact u5 | (refine hKS _ ?_; repeat (first | exact hE0 | refine bk_drew ?_ | refine bk_alloc ?_ _ | exact bel_drewN hE0 _)))) (fun hHeld => ?_)
              clear hK K
              try simp only [Act.put, List.setIfInBounds_toArray, List.set_cons_zero, List.set_cons_succ]
              refine wpAnyH_ready (rs := [42]) (by kernel_rfl) (by simp) ?_
              refine AllReadyH.cons rfl (fun K hK => ?_) (AllReadyH.nil)
              go_simp
              refine hK.out _ _ (by (first | (with_reducible assumption) | exact u4 | exact u5 | (refine hKS _ ?_; repeat (first | exact hE0 | refine bk_drew ?_ | refine bk_alloc ?_ _ | exact bel_drewN hE0 _)))) (fun hHeld => ?_)
              clear hK K
              try simp only [Act.put, List.setIfInBounds_toArray, List.set_cons_zero, List.set_cons_succ]
              refine wpAnyH_ready (rs := [43]) (by kernel_rfl) (by simp) ?_
              refine AllReadyH.cons rfl (fun K hK => ?_) (AllReadyH.nil)
              go_simp
              refine hK.out _ _ (by (first | (with_reducible assumption) | exact u4 | exact u5 | (refine hKS _ ?_; repeat (first | exact hE0 | refine bk_drew ?_ | refine bk_alloc ?_ _ | exact bel_drewN hE0 _)))) (fun hHeld => ?_)
              clear hK K
              try simp only [Act.put, List.setIfInBounds_toArray, List.set_cons_zero, List.set_cons_succ]
              refine wpAnyH_take (i := 44) (v := ?_) rfl (by kernel_rfl) (by kernel_rfl) (by kernel_rfl) (fun _ _ _ h => h) (Or.inl ⟨by rfl, ?_⟩) (by assumption) ?_
              rotate_left
              · intro w hSw; (try dsimp only at hSw); go_simp; all_goals (with_reducible rfl)
              refine wpAnyH_ready (rs := [45]) (by kernel_rfl) (by simp) ?_
              refine AllReadyH.cons rfl (fun K hK => ?_) (AllReadyH.nil)
              go_simp
              refine hK.out _ _ (by (first | (with_reducible assumption) | exact u4 | exact u5 | (refine hKS _ ?_; repeat (first | exact hE0 | refine bk_drew ?_ | refine bk_alloc ?_ _ | exact bel_drewN hE0 _)))) (fun hHeld => ?_)
              clear hK K
              try simp only [Act.put, List.setIfInBounds_toArray, List.set_cons_zero, List.set_cons_succ]
              refine wpAnyH_ready (rs := [46]) (by kernel_rfl) (by simp) ?_
              refine AllReadyH.cons rfl (fun K hK => ?_) (AllReadyH.nil)
              first | (refine step_append_lies _ (by rfl) _ _ _ (by rfl) (cb + 1) 32 i0 _ 3 40 Try.underlying23 hi0 hz0 hz1 hz2 rfl (by omega) (.slice ea j ec) j ve (by rfl) (owns_below hon (bel_alloc (bel_alloc (bel_alloc (bel_alloc (bel_refl W0) (.cells #[.int .i64 x1, .int .i64 x2] 3)) (.cells #[.int .i64 y1, .int .i64 y2] 3)) (.cells #[.slice (some ⟨W0.heap.size, 0, none⟩) 2 2, .slice (some ⟨W0.heap.size + 1, 0, none⟩) 2 2] 26)) (.cells #[.int .i64 (j : Int), .int .i64 (nx : Int), .slice (some ⟨W0.heap.size + 2, 0, none⟩) 2 2] 32)).drew) ⟨W0.heap.size + 3, 0, none⟩ 1 1 [.int .i64 (j : Int), .int .i64 (nx : Int), .slice (some ⟨W0.heap.size + 2, 0, none⟩) 2 2] (by rfl) (by rfl) (World.news_of_block (cs := #[.int .i64 (j : Int), .int .i64 (nx : Int), .slice (some ⟨W0.heap.size + 2, 0, none⟩) 2 2]) (t := 32) (fr := (0, 0)) (heap_alloc_eq (((W0.alloc (.cells #[.int .i64 x1, .int .i64 x2] 3)).alloc (.cells #[.int .i64 y1, .int .i64 y2] 3)).alloc (.cells #[.slice (some ⟨W0.heap.size, 0, none⟩) 2 2, .slice (some ⟨W0.heap.size + 1, 0, none⟩) 2 2] 26)) _ _ (by simp))) (by simp [Value.oneCell']) (by omega) (by unfold maxLen; omega) (by omega) (by simp; omega) (W0.heap.size + 4) (by simp) ?_; intro gg cap w1 hown1 hgrow hat hlt1; obtain ⟨u1, u2, u3, u4, u5⟩ := hTA gg cap w1 hown1 hgrow hat) | (refine step_append_lies _ (by rfl) _ _ _ (by rfl) (cb + 1) 32 i0 _ 3 40 Try.underlying23 hi0 hz0 hz1 hz2 rfl (by omega) (.slice ea j ec) j ve (by rfl) (owns_below hon (bel_alloc (bel_alloc (bel_alloc (bel_alloc (bel_refl W0) (.cells #[.int .i64 y1, .int .i64 y2] 3)) (.cells #[.int .i64 x1, .int .i64 x2] 3)) (.cells #[.slice (some ⟨W0.heap.size + 1, 0, none⟩) 2 2, .slice (some ⟨W0.heap.size, 0, none⟩) 2 2] 26)) (.cells #[.int .i64 (j : Int), .int .i64 (nx : Int), .slice (some ⟨W0.heap.size + 2, 0, none⟩) 2 2] 32)).drew) ⟨W0.heap.size + 3, 0, none⟩ 1 1 [.int .i64 (j : Int), .int .i64 (nx : Int), .slice (some ⟨W0.heap.size + 2, 0, none⟩) 2 2] (by rfl) (by rfl) (World.news_of_block (cs := #[.int .i64 (j : Int), .int .i64 (nx : Int), .slice (some ⟨W0.heap.size + 2, 0, none⟩) 2 2]) (t := 32) (fr := (0, 0)) (heap_alloc_eq (((W0.alloc (.cells #[.int .i64 y1, .int .i64 y2] 3)).alloc (.cells #[.int .i64 x1, .int .i64 x2] 3)).alloc (.cells #[.slice (some ⟨W0.heap.size + 1, 0, none⟩) 2 2, .slice (some ⟨W0.heap.size, 0, none⟩) 2 2] 26)) _ _ (by simp))) (by simp [Value.oneCell']) (by omega) (by unfold maxLen; omega) (by omega) (by simp; omega) (W0.heap.size + 4) (by simp) ?_; intro gg cap w1 hown1 hgrow hat hlt1; obtain ⟨u1, u2, u3, u4, u5⟩ := hTB gg cap w1 hown1 hgrow hat)
              refine hK.out _ _ (by (first | (with_reducible assumption) | exact u4 | exact u5 | (refine hKS _ ?_; repeat (first | exact hE0 | refine bk_drew ?_ | refine bk_alloc ?_ _ | exact bel_drewN hE0 _)))) (fun hHeld => ?_)
              clear hK K
              try simp only [Act.put, List.setIfInBounds_toArray]
              refine wpAnyH_take (i := 47) (v := ?_) rfl (by kernel_rfl) (by kernel_rfl) (by kernel_rfl) (fun _ _ _ h => h) (Or.inl ⟨by rfl, ?_⟩) (by assumption) ?_
              rotate_left
              · intro w hSw; (try dsimp only at hSw); go_simp; all_goals (with_reducible rfl)
              refine wpAnyH_ready (rs := [48]) (by kernel_rfl) (by simp) ?_
              refine AllReadyH.cons rfl (fun K hK => ?_) (AllReadyH.nil)
              go_simp
              refine hK.out _ _ (by (first | (with_reducible assumption) | exact u4 | exact u5 | (refine hKS _ ?_; repeat (first | exact hE0 | refine bk_drew ?_ | refine bk_alloc ?_ _ | exact bel_drewN hE0 _)))) (fun hHeld => ?_)
              clear hK K
              try simp only [Act.put, List.setIfInBounds_toArray, List.set_cons_zero, List.set_cons_succ]
              refine wpAnyH_done (by kernel_rfl) ?_ _
              refine NoPanic.normal ?_
              clear hTA hTB hon c0 hcl cx1 cx2 cx3 cx4 hown1 hgrow hat hlt1 u1 u2 u4 u5 hKS hCL
              go_wp2_with fail
              go_roundw
              all_goals first | exact ⟨j + 1, by omega, by go_num, u3⟩ | (simp [intOf]; omega)
            · skip
              go_simp
              refine hK.out _ _ (by (first | (with_reducible assumption) | exact u4 | exact u5 | (refine hKS _ ?_; repeat (first | exact hE0 | refine bk_drew ?_ | refine bk_alloc ?_ _ | exact bel_drewN hE0 _)))) (fun hHeld => ?_)
              clear hK K
              try simp only [Act.put, List.setIfInBounds_toArray, List.set_cons_zero, List.set_cons_succ]
              refine wpAnyH_ready (rs := [24]) (by kernel_rfl) (by simp) ?_
              refine AllReadyH.cons rfl (fun K hK => ?_) (AllReadyH.nil)
              go_simp
              refine hK.out _ _ (by (first | (with_reducible assumption) | exact u4 | exact u5 | (refine hKS _ ?_; repeat (first | exact hE0 | refine bk_drew ?_ | refine bk_alloc ?_ _ | exact bel_drewN hE0 _)))) (fun hHeld => ?_)
              clear hK K
              try simp only [Act.put, List.setIfInBounds_toArray, List.set_cons_zero, List.set_cons_succ]
              refine wpAnyH_ready (rs := [43]) (by kernel_rfl) (by simp) ?_
              refine AllReadyH.cons rfl (fun K hK => ?_) (AllReadyH.nil)
              go_simp
              refine hK.out _ _ (by (first | (with_reducible assumption) | exact u4 | exact u5 | (refine hKS _ ?_; repeat (first | exact hE0 | refine bk_drew ?_ | refine bk_alloc ?_ _ | exact bel_drewN hE0 _)))) (fun hHeld => ?_)
              clear hK K
              try simp only [Act.put, List.setIfInBounds_toArray, List.set_cons_zero, List.set_cons_succ]
              refine wpAnyH_take (i := 44) (v := ?_) rfl (by kernel_rfl) (by kernel_rfl) (by kernel_rfl) (fun _ _ _ h => h) (Or.inl ⟨by rfl, ?_⟩) (by assumption) ?_
              rotate_left
              · intro w hSw; (try dsimp only at hSw); go_simp; all_goals (with_reducible rfl)
              refine wpAnyH_ready (rs := [45]) (by kernel_rfl) (by simp) ?_
              refine AllReadyH.cons rfl (fun K hK => ?_) (AllReadyH.nil)
              go_simp
              refine hK.out _ _ (by (first | (with_reducible assumption) | exact u4 | exact u5 | (refine hKS _ ?_; repeat (first | exact hE0 | refine bk_drew ?_ | refine bk_alloc ?_ _ | exact bel_drewN hE0 _)))) (fun hHeld => ?_)
              clear hK K
              try simp only [Act.put, List.setIfInBounds_toArray, List.set_cons_zero, List.set_cons_succ]
              refine wpAnyH_ready (rs := [46]) (by kernel_rfl) (by simp) ?_
              refine AllReadyH.cons rfl (fun K hK => ?_) (AllReadyH.nil)
              first | (refine step_append_lies _ (by rfl) _ _ _ (by rfl) (cb + 1) 32 i0 _ 3 40 Try.underlying23 hi0 hz0 hz1 hz2 rfl (by omega) (.slice ea j ec) j ve (by rfl) (owns_below hon (bel_alloc (bel_alloc (bel_alloc (bel_alloc (bel_refl W0) (.cells #[.int .i64 x1, .int .i64 x2] 3)) (.cells #[.int .i64 y1, .int .i64 y2] 3)) (.cells #[.slice (some ⟨W0.heap.size, 0, none⟩) 2 2, .slice (some ⟨W0.heap.size + 1, 0, none⟩) 2 2] 26)) (.cells #[.int .i64 (j : Int), .int .i64 (nx : Int), .slice (some ⟨W0.heap.size + 2, 0, none⟩) 2 2] 32)).drew) ⟨W0.heap.size + 3, 0, none⟩ 1 1 [.int .i64 (j : Int), .int .i64 (nx : Int), .slice (some ⟨W0.heap.size + 2, 0, none⟩) 2 2] (by rfl) (by rfl) (World.news_of_block (cs := #[.int .i64 (j : Int), .int .i64 (nx : Int), .slice (some ⟨W0.heap.size + 2, 0, none⟩) 2 2]) (t := 32) (fr := (0, 0)) (heap_alloc_eq (((W0.alloc (.cells #[.int .i64 x1, .int .i64 x2] 3)).alloc (.cells #[.int .i64 y1, .int .i64 y2] 3)).alloc (.cells #[.slice (some ⟨W0.heap.size, 0, none⟩) 2 2, .slice (some ⟨W0.heap.size + 1, 0, none⟩) 2 2] 26)) _ _ (by simp))) (by simp [Value.oneCell']) (by omega) (by unfold maxLen; omega) (by omega) (by simp; omega) (W0.heap.size + 4) (by simp) ?_; intro gg cap w1 hown1 hgrow hat hlt1; obtain ⟨u1, u2, u3, u4, u5⟩ := hTA gg cap w1 hown1 hgrow hat) | (refine step_append_lies _ (by rfl) _ _ _ (by rfl) (cb + 1) 32 i0 _ 3 40 Try.underlying23 hi0 hz0 hz1 hz2 rfl (by omega) (.slice ea j ec) j ve (by rfl) (owns_below hon (bel_alloc (bel_alloc (bel_alloc (bel_alloc (bel_refl W0) (.cells #[.int .i64 y1, .int .i64 y2] 3)) (.cells #[.int .i64 x1, .int .i64 x2] 3)) (.cells #[.slice (some ⟨W0.heap.size + 1, 0, none⟩) 2 2, .slice (some ⟨W0.heap.size, 0, none⟩) 2 2] 26)) (.cells #[.int .i64 (j : Int), .int .i64 (nx : Int), .slice (some ⟨W0.heap.size + 2, 0, none⟩) 2 2] 32)).drew) ⟨W0.heap.size + 3, 0, none⟩ 1 1 [.int .i64 (j : Int), .int .i64 (nx : Int), .slice (some ⟨W0.heap.size + 2, 0, none⟩) 2 2] (by rfl) (by rfl) (World.news_of_block (cs := #[.int .i64 (j : Int), .int .i64 (nx : Int), .slice (some ⟨W0.heap.size + 2, 0, none⟩) 2 2]) (t := 32) (fr := (0, 0)) (heap_alloc_eq (((W0.alloc (.cells #[.int .i64 y1, .int .i64 y2] 3)).alloc (.cells #[.int .i64 x1, .int .i64 x2] 3)).alloc (.cells #[.slice (some ⟨W0.heap.size + 1, 0, none⟩) 2 2, .slice (some ⟨W0.heap.size, 0, none⟩) 2 2] 26)) _ _ (by simp))) (by simp [Value.oneCell']) (by omega) (by unfold maxLen; omega) (by omega) (by simp; omega) (W0.heap.size + 4) (by simp) ?_; intro gg cap w1 hown1 hgrow hat hlt1; obtain ⟨u1, u2, u3, u4, u5⟩ := hTB gg cap w1 hown1 hgrow hat)
              refine hK.out _ _ (by (first | (with_reducible assumption) | exact u4 | exact u5 | (refine hKS _ ?_; repeat (first | exact hE0 | refine bk_drew ?_ | refine bk_alloc ?_ _ | exact bel_drewN hE0 _)))) (fun hHeld => ?_)
              clear hK K
              try simp only [Act.put, List.setIfInBounds_toArray]
              refine wpAnyH_take (i := 47) (v := ?_) rfl (by kernel_rfl) (by kernel_rfl) (by kernel_rfl) (fun _ _ _ h => h) (Or.inl ⟨by rfl, ?_⟩) (by assumption) ?_
              rotate_left
              · intro w hSw; (try dsimp only at hSw); go_simp; all_goals (with_reducible rfl)
              refine wpAnyH_ready (rs := [48]) (by kernel_rfl) (by simp) ?_
              refine AllReadyH.cons rfl (fun K hK => ?_) (AllReadyH.nil)
              go_simp
              refine hK.out _ _ (by (first | (with_reducible assumption) | exact u4 | exact u5 | (refine hKS _ ?_; repeat (first | exact hE0 | refine bk_drew ?_ | refine bk_alloc ?_ _ | exact bel_drewN hE0 _)))) (fun hHeld => ?_)
              clear hK K
              try simp only [Act.put, List.setIfInBounds_toArray, List.set_cons_zero, List.set_cons_succ]
              refine wpAnyH_done (by kernel_rfl) ?_ _
              refine NoPanic.normal ?_
              clear hTA hTB hon c0 hcl cx1 cx2 cx3 cx4 hown1 hgrow hat hlt1 u1 u2 u4 u5 hKS hCL
              go_wp2_with fail
              go_roundw
              all_goals first | exact ⟨j + 1, by omega, by go_num, u3⟩ | (simp [intOf]; omega)
          · skip
            go_simp
            refine hK.out _ _ (by (first | (with_reducible assumption) | exact u4 | exact u5 | (refine hKS _ ?_; repeat (first | exact hE0 | refine bk_drew ?_ | refine bk_alloc ?_ _ | exact bel_drewN hE0 _)))) (fun hHeld => ?_)
            clear hK K
            try simp only [Act.put, List.setIfInBounds_toArray, List.set_cons_zero, List.set_cons_succ]
            refine wpAnyH_ready (rs := [1, 42]) (by kernel_rfl) (by simp) ?_
            refine AllReadyH.cons rfl (fun K hK => ?_) (AllReadyH.cons rfl (fun K hK => ?_) (AllReadyH.nil))
            · skip
              go_simp
              refine hK.out _ _ (by (first | (with_reducible assumption) | exact u4 | exact u5 | (refine hKS _ ?_; repeat (first | exact hE0 | refine bk_drew ?_ | refine bk_alloc ?_ _ | exact bel_drewN hE0 _)))) (fun hHeld => ?_)
              clear hK K
              try simp only [Act.put, List.setIfInBounds_toArray, List.set_cons_zero, List.set_cons_succ]
              refine wpAnyH_ready (rs := [42]) (by kernel_rfl) (by simp) ?_
              refine AllReadyH.cons rfl (fun K hK => ?_) (AllReadyH.nil)
              go_simp
              refine hK.out _ _ (by (first | (with_reducible assumption) | exact u4 | exact u5 | (refine hKS _ ?_; repeat (first | exact hE0 | refine bk_drew ?_ | refine bk_alloc ?_ _ | exact bel_drewN hE0 _)))) (fun hHeld => ?_)
              clear hK K
              try simp only [Act.put, List.setIfInBounds_toArray, List.set_cons_zero, List.set_cons_succ]
              refine wpAnyH_ready (rs := [43]) (by kernel_rfl) (by simp) ?_
              refine AllReadyH.cons rfl (fun K hK => ?_) (AllReadyH.nil)
              go_simp
              refine hK.out _ _ (by (first | (with_reducible assumption) | exact u4 | exact u5 | (refine hKS _ ?_; repeat (first | exact hE0 | refine bk_drew ?_ | refine bk_alloc ?_ _ | exact bel_drewN hE0 _)))) (fun hHeld => ?_)
              clear hK K
              try simp only [Act.put, List.setIfInBounds_toArray, List.set_cons_zero, List.set_cons_succ]
              refine wpAnyH_take (i := 44) (v := ?_) rfl (by kernel_rfl) (by kernel_rfl) (by kernel_rfl) (fun _ _ _ h => h) (Or.inl ⟨by rfl, ?_⟩) (by assumption) ?_
              rotate_left
              · intro w hSw; (try dsimp only at hSw); go_simp; all_goals (with_reducible rfl)
              refine wpAnyH_ready (rs := [45]) (by kernel_rfl) (by simp) ?_
              refine AllReadyH.cons rfl (fun K hK => ?_) (AllReadyH.nil)
              go_simp
              refine hK.out _ _ (by (first | (with_reducible assumption) | exact u4 | exact u5 | (refine hKS _ ?_; repeat (first | exact hE0 | refine bk_drew ?_ | refine bk_alloc ?_ _ | exact bel_drewN hE0 _)))) (fun hHeld => ?_)
              clear hK K
              try simp only [Act.put, List.setIfInBounds_toArray, List.set_cons_zero, List.set_cons_succ]
              refine wpAnyH_ready (rs := [46]) (by kernel_rfl) (by simp) ?_
              refine AllReadyH.cons rfl (fun K hK => ?_) (AllReadyH.nil)
              first | (refine step_append_lies _ (by rfl) _ _ _ (by rfl) (cb + 1) 32 i0 _ 3 40 Try.underlying23 hi0 hz0 hz1 hz2 rfl (by omega) (.slice ea j ec) j ve (by rfl) (owns_below hon (bel_alloc (bel_alloc (bel_alloc (bel_alloc (bel_refl W0) (.cells #[.int .i64 x1, .int .i64 x2] 3)) (.cells #[.int .i64 y1, .int .i64 y2] 3)) (.cells #[.slice (some ⟨W0.heap.size, 0, none⟩) 2 2, .slice (some ⟨W0.heap.size + 1, 0, none⟩) 2 2] 26)) (.cells #[.int .i64 (j : Int), .int .i64 (nx : Int), .slice (some ⟨W0.heap.size + 2, 0, none⟩) 2 2] 32)).drew) ⟨W0.heap.size + 3, 0, none⟩ 1 1 [.int .i64 (j : Int), .int .i64 (nx : Int), .slice (some ⟨W0.heap.size + 2, 0, none⟩) 2 2] (by rfl) (by rfl) (World.news_of_block (cs := #[.int .i64 (j : Int), .int .i64 (nx : Int), .slice (some ⟨W0.heap.size + 2, 0, none⟩) 2 2]) (t := 32) (fr := (0, 0)) (heap_alloc_eq (((W0.alloc (.cells #[.int .i64 x1, .int .i64 x2] 3)).alloc (.cells #[.int .i64 y1, .int .i64 y2] 3)).alloc (.cells #[.slice (some ⟨W0.heap.size, 0, none⟩) 2 2, .slice (some ⟨W0.heap.size + 1, 0, none⟩) 2 2] 26)) _ _ (by simp))) (by simp [Value.oneCell']) (by omega) (by unfold maxLen; omega) (by omega) (by simp; omega) (W0.heap.size + 4) (by simp) ?_; intro gg cap w1 hown1 hgrow hat hlt1; obtain ⟨u1, u2, u3, u4, u5⟩ := hTA gg cap w1 hown1 hgrow hat) | (refine step_append_lies _ (by rfl) _ _ _ (by rfl) (cb + 1) 32 i0 _ 3 40 Try.underlying23 hi0 hz0 hz1 hz2 rfl (by omega) (.slice ea j ec) j ve (by rfl) (owns_below hon (bel_alloc (bel_alloc (bel_alloc (bel_alloc (bel_refl W0) (.cells #[.int .i64 y1, .int .i64 y2] 3)) (.cells #[.int .i64 x1, .int .i64 x2] 3)) (.cells #[.slice (some ⟨W0.heap.size + 1, 0, none⟩) 2 2, .slice (some ⟨W0.heap.size, 0, none⟩) 2 2] 26)) (.cells #[.int .i64 (j : Int), .int .i64 (nx : Int), .slice (some ⟨W0.heap.size + 2, 0, none⟩) 2 2] 32)).drew) ⟨W0.heap.size + 3, 0, none⟩ 1 1 [.int .i64 (j : Int), .int .i64 (nx : Int), .slice (some ⟨W0.heap.size + 2, 0, none⟩) 2 2] (by rfl) (by rfl) (World.news_of_block (cs := #[.int .i64 (j : Int), .int .i64 (nx : Int), .slice (some ⟨W0.heap.size + 2, 0, none⟩) 2 2]) (t := 32) (fr := (0, 0)) (heap_alloc_eq (((W0.alloc (.cells #[.int .i64 y1, .int .i64 y2] 3)).alloc (.cells #[.int .i64 x1, .int .i64 x2] 3)).alloc (.cells #[.slice (some ⟨W0.heap.size + 1, 0, none⟩) 2 2, .slice (some ⟨W0.heap.size, 0, none⟩) 2 2] 26)) _ _ (by simp))) (by simp [Value.oneCell']) (by omega) (by unfold maxLen; omega) (by omega) (by simp; omega) (W0.heap.size + 4) (by simp) ?_; intro gg cap w1 hown1 hgrow hat hlt1; obtain ⟨u1, u2, u3, u4, u5⟩ := hTB gg cap w1 hown1 hgrow hat)
              refine hK.out _ _ (by (first | (with_reducible assumption) | exact u4 | exact u5 | (refine hKS _ ?_; repeat (first | exact hE0 | refine bk_drew ?_ | refine bk_alloc ?_ _ | exact bel_drewN hE0 _)))) (fun hHeld => ?_)
              clear hK K
              try simp only [Act.put, List.setIfInBounds_toArray]
              refine wpAnyH_take (i := 47) (v := ?_) rfl (by kernel_rfl) (by kernel_rfl) (by kernel_rfl) (fun _ _ _ h => h) (Or.inl ⟨by rfl, ?_⟩) (by assumption) ?_
              rotate_left
              · intro w hSw; (try dsimp only at hSw); go_simp; all_goals (with_reducible rfl)
              refine wpAnyH_ready (rs := [48]) (by kernel_rfl) (by simp) ?_
              refine AllReadyH.cons rfl (fun K hK => ?_) (AllReadyH.nil)
              go_simp
              refine hK.out _ _ (by (first | (with_reducible assumption) | exact u4 | exact u5 | (refine hKS _ ?_; repeat (first | exact hE0 | refine bk_drew ?_ | refine bk_alloc ?_ _ | exact bel_drewN hE0 _)))) (fun hHeld => ?_)
              clear hK K
              try simp only [Act.put, List.setIfInBounds_toArray, List.set_cons_zero, List.set_cons_succ]
              refine wpAnyH_done (by kernel_rfl) ?_ _
              refine NoPanic.normal ?_
              clear hTA hTB hon c0 hcl cx1 cx2 cx3 cx4 hown1 hgrow hat hlt1 u1 u2 u4 u5 hKS hCL
              go_wp2_with fail
              go_roundw
              all_goals first | exact ⟨j + 1, by omega, by go_num, u3⟩ | (simp [intOf]; omega)
            · skip
              go_simp
              refine hK.out _ _ (by (first | (with_reducible assumption) | exact u4 | exact u5 | (refine hKS _ ?_; repeat (first | exact hE0 | refine bk_drew ?_ | refine bk_alloc ?_ _ | exact bel_drewN hE0 _)))) (fun hHeld => ?_)
              clear hK K
              try simp only [Act.put, List.setIfInBounds_toArray, List.set_cons_zero, List.set_cons_succ]
              refine wpAnyH_ready (rs := [1, 43]) (by kernel_rfl) (by simp) ?_
              refine AllReadyH.cons rfl (fun K hK => ?_) (AllReadyH.cons rfl (fun K hK => ?_) (AllReadyH.nil))
              · skip
                go_simp
                refine hK.out _ _ (by (first | (with_reducible assumption) | exact u4 | exact u5 | (refine hKS _ ?_; repeat (first | exact hE0 | refine bk_drew ?_ | refine bk_alloc ?_ _ | exact bel_drewN hE0 _)))) (fun hHeld => ?_)
                clear hK K
                try simp only [Act.put, List.setIfInBounds_toArray, List.set_cons_zero, List.set_cons_succ]
                refine wpAnyH_ready (rs := [43]) (by kernel_rfl) (by simp) ?_
                refine AllReadyH.cons rfl (fun K hK => ?_) (AllReadyH.nil)
                go_simp
                refine hK.out _ _ (by (first | (with_reducible assumption) | exact u4 | exact u5 | (refine hKS _ ?_; repeat (first | exact hE0 | refine bk_drew ?_ | refine bk_alloc ?_ _ | exact bel_drewN hE0 _)))) (fun hHeld => ?_)
                clear hK K
                try simp only [Act.put, List.setIfInBounds_toArray, List.set_cons_zero, List.set_cons_succ]
                refine wpAnyH_take (i := 44) (v := ?_) rfl (by kernel_rfl) (by kernel_rfl) (by kernel_rfl) (fun _ _ _ h => h) (Or.inl ⟨by rfl, ?_⟩) (by assumption) ?_
                rotate_left
                · intro w hSw; (try dsimp only at hSw); go_simp; all_goals (with_reducible rfl)
                refine wpAnyH_ready (rs := [45]) (by kernel_rfl) (by simp) ?_
                refine AllReadyH.cons rfl (fun K hK => ?_) (AllReadyH.nil)
                go_simp
                refine hK.out _ _ (by (first | (with_reducible assumption) | exact u4 | exact u5 | (refine hKS _ ?_; repeat (first | exact hE0 | refine bk_drew ?_ | refine bk_alloc ?_ _ | exact bel_drewN hE0 _)))) (fun hHeld => ?_)
                clear hK K
                try simp only [Act.put, List.setIfInBounds_toArray, List.set_cons_zero, List.set_cons_succ]
                refine wpAnyH_ready (rs := [46]) (by kernel_rfl) (by simp) ?_
                refine AllReadyH.cons rfl (fun K hK => ?_) (AllReadyH.nil)
                first | (refine step_append_lies _ (by rfl) _ _ _ (by rfl) (cb + 1) 32 i0 _ 3 40 Try.underlying23 hi0 hz0 hz1 hz2 rfl (by omega) (.slice ea j ec) j ve (by rfl) (owns_below hon (bel_alloc (bel_alloc (bel_alloc (bel_alloc (bel_refl W0) (.cells #[.int .i64 x1, .int .i64 x2] 3)) (.cells #[.int .i64 y1, .int .i64 y2] 3)) (.cells #[.slice (some ⟨W0.heap.size, 0, none⟩) 2 2, .slice (some ⟨W0.heap.size + 1, 0, none⟩) 2 2] 26)) (.cells #[.int .i64 (j : Int), .int .i64 (nx : Int), .slice (some ⟨W0.heap.size + 2, 0, none⟩) 2 2] 32)).drew) ⟨W0.heap.size + 3, 0, none⟩ 1 1 [.int .i64 (j : Int), .int .i64 (nx : Int), .slice (some ⟨W0.heap.size + 2, 0, none⟩) 2 2] (by rfl) (by rfl) (World.news_of_block (cs := #[.int .i64 (j : Int), .int .i64 (nx : Int), .slice (some ⟨W0.heap.size + 2, 0, none⟩) 2 2]) (t := 32) (fr := (0, 0)) (heap_alloc_eq (((W0.alloc (.cells #[.int .i64 x1, .int .i64 x2] 3)).alloc (.cells #[.int .i64 y1, .int .i64 y2] 3)).alloc (.cells #[.slice (some ⟨W0.heap.size, 0, none⟩) 2 2, .slice (some ⟨W0.heap.size + 1, 0, none⟩) 2 2] 26)) _ _ (by simp))) (by simp [Value.oneCell']) (by omega) (by unfold maxLen; omega) (by omega) (by simp; omega) (W0.heap.size + 4) (by simp) ?_; intro gg cap w1 hown1 hgrow hat hlt1; obtain ⟨u1, u2, u3, u4, u5⟩ := hTA gg cap w1 hown1 hgrow hat) | (refine step_append_lies _ (by rfl) _ _ _ (by rfl) (cb + 1) 32 i0 _ 3 40 Try.underlying23 hi0 hz0 hz1 hz2 rfl (by omega) (.slice ea j ec) j ve (by rfl) (owns_below hon (bel_alloc (bel_alloc (bel_alloc (bel_alloc (bel_refl W0) (.cells #[.int .i64 y1, .int .i64 y2] 3)) (.cells #[.int .i64 x1, .int .i64 x2] 3)) (.cells #[.slice (some ⟨W0.heap.size + 1, 0, none⟩) 2 2, .slice (some ⟨W0.heap.size, 0, none⟩) 2 2] 26)) (.cells #[.int .i64 (j : Int), .int .i64 (nx : Int), .slice (some ⟨W0.heap.size + 2, 0, none⟩) 2 2] 32)).drew) ⟨W0.heap.size + 3, 0, none⟩ 1 1 [.int .i64 (j : Int), .int .i64 (nx : Int), .slice (some ⟨W0.heap.size + 2, 0, none⟩) 2 2] (by rfl) (by rfl) (World.news_of_block (cs := #[.int .i64 (j : Int), .int .i64 (nx : Int), .slice (some ⟨W0.heap.size + 2, 0, none⟩) 2 2]) (t := 32) (fr := (0, 0)) (heap_alloc_eq (((W0.alloc (.cells #[.int .i64 y1, .int .i64 y2] 3)).alloc (.cells #[.int .i64 x1, .int .i64 x2] 3)).alloc (.cells #[.slice (some ⟨W0.heap.size + 1, 0, none⟩) 2 2, .slice (some ⟨W0.heap.size, 0, none⟩) 2 2] 26)) _ _ (by simp))) (by simp [Value.oneCell']) (by omega) (by unfold maxLen; omega) (by omega) (by simp; omega) (W0.heap.size + 4) (by simp) ?_; intro gg cap w1 hown1 hgrow hat hlt1; obtain ⟨u1, u2, u3, u4, u5⟩ := hTB gg cap w1 hown1 hgrow hat)
                refine hK.out _ _ (by (first | (with_reducible assumption) | exact u4 | exact u5 | (refine hKS _ ?_; repeat (first | exact hE0 | refine bk_drew ?_ | refine bk_alloc ?_ _ | exact bel_drewN hE0 _)))) (fun hHeld => ?_)
                clear hK K
                try simp only [Act.put, List.setIfInBounds_toArray]
                refine wpAnyH_take (i := 47) (v := ?_) rfl (by kernel_rfl) (by kernel_rfl) (by kernel_rfl) (fun _ _ _ h => h) (Or.inl ⟨by rfl, ?_⟩) (by assumption) ?_
                rotate_left
                · intro w hSw; (try dsimp only at hSw); go_simp; all_goals (with_reducible rfl)
                refine wpAnyH_ready (rs := [48]) (by kernel_rfl) (by simp) ?_
                refine AllReadyH.cons rfl (fun K hK => ?_) (AllReadyH.nil)
                go_simp
                refine hK.out _ _ (by (first | (with_reducible assumption) | exact u4 | exact u5 | (refine hKS _ ?_; repeat (first | exact hE0 | refine bk_drew ?_ | refine bk_alloc ?_ _ | exact bel_drewN hE0 _)))) (fun hHeld => ?_)
                clear hK K
                try simp only [Act.put, List.setIfInBounds_toArray, List.set_cons_zero, List.set_cons_succ]
                refine wpAnyH_done (by kernel_rfl) ?_ _
                refine NoPanic.normal ?_
                clear hTA hTB hon c0 hcl cx1 cx2 cx3 cx4 hown1 hgrow hat hlt1 u1 u2 u4 u5 hKS hCL
                go_wp2_with fail
                go_roundw
                all_goals first | exact ⟨j + 1, by omega, by go_num, u3⟩ | (simp [intOf]; omega)
              · skip
                go_simp
                refine hK.out _ _ (by (first | (with_reducible assumption) | exact u4 | exact u5 | (refine hKS _ ?_; repeat (first | exact hE0 | refine bk_drew ?_ | refine bk_alloc ?_ _ | exact bel_drewN hE0 _)))) (fun hHeld => ?_)
                clear hK K
                try simp only [Act.put, List.setIfInBounds_toArray, List.set_cons_zero, List.set_cons_succ]
                refine wpAnyH_take (i := 44) (v := ?_) rfl (by kernel_rfl) (by kernel_rfl) (by kernel_rfl) (fun _ _ _ h => h) (Or.inl ⟨by rfl, ?_⟩) (by assumption) ?_
                rotate_left
                · intro w hSw; (try dsimp only at hSw); go_simp; all_goals (with_reducible rfl)
                refine wpAnyH_ready (rs := [1, 45]) (by kernel_rfl) (by simp) ?_
                refine AllReadyH.cons rfl (fun K hK => ?_) (AllReadyH.cons rfl (fun K hK => ?_) (AllReadyH.nil))
                · skip
                  have cl3 := hCL (((W0.alloc (.cells #[.int .i64 x1, .int .i64 x2] 3)).alloc (.cells #[.int .i64 y1, .int .i64 y2] 3)).alloc (.cells #[.slice (some ⟨W0.heap.size, 0, none⟩) 2 2, .slice (some ⟨W0.heap.size + 1, 0, none⟩) 2 2] 26)) (bel_alloc (bel_alloc (bel_alloc (bel_refl W0) _) _) _)
                  have cl4 := hCL (((W0.alloc (.cells #[.int .i64 x1, .int .i64 x2] 3)).alloc (.cells #[.int .i64 y1, .int .i64 y2] 3)).alloc (.cells #[.slice (some ⟨W0.heap.size, 0, none⟩) 2 2, .slice (some ⟨W0.heap.size + 1, 0, none⟩) 2 2] 26)).drew (bel_alloc (bel_alloc (bel_alloc (bel_refl W0) _) _) _).drew
                  go_simp
                  clear cl3 cl4
                  refine hK.out _ _ (by (first | (with_reducible assumption) | exact u4 | exact u5 | (refine hKS _ ?_; repeat (first | exact hE0 | refine bk_drew ?_ | refine bk_alloc ?_ _ | exact bel_drewN hE0 _)))) (fun hHeld => ?_)
                  clear hK K
                  try simp only [Act.put, List.setIfInBounds_toArray, List.set_cons_zero, List.set_cons_succ]
                  refine wpAnyH_ready (rs := [45]) (by kernel_rfl) (by simp) ?_
                  refine AllReadyH.cons rfl (fun K hK => ?_) (AllReadyH.nil)
                  go_simp
                  refine hK.out _ _ (by (first | (with_reducible assumption) | exact u4 | exact u5 | (refine hKS _ ?_; repeat (first | exact hE0 | refine bk_drew ?_ | refine bk_alloc ?_ _ | exact bel_drewN hE0 _)))) (fun hHeld => ?_)
                  clear hK K
                  try simp only [Act.put, List.setIfInBounds_toArray, List.set_cons_zero, List.set_cons_succ]
                  refine wpAnyH_ready (rs := [46]) (by kernel_rfl) (by simp) ?_
                  refine AllReadyH.cons rfl (fun K hK => ?_) (AllReadyH.nil)
                  first | (refine step_append_lies _ (by rfl) _ _ _ (by rfl) (cb + 1) 32 i0 _ 3 40 Try.underlying23 hi0 hz0 hz1 hz2 rfl (by omega) (.slice ea j ec) j ve (by rfl) (owns_below hon (bel_alloc (bel_alloc (bel_alloc (bel_alloc (bel_refl W0) (.cells #[.int .i64 x1, .int .i64 x2] 3)) (.cells #[.int .i64 y1, .int .i64 y2] 3)) (.cells #[.slice (some ⟨W0.heap.size, 0, none⟩) 2 2, .slice (some ⟨W0.heap.size + 1, 0, none⟩) 2 2] 26)) (.cells #[.int .i64 (j : Int), .int .i64 (nx : Int), .slice (some ⟨W0.heap.size + 2, 0, none⟩) 2 2] 32)).drew) ⟨W0.heap.size + 3, 0, none⟩ 1 1 [.int .i64 (j : Int), .int .i64 (nx : Int), .slice (some ⟨W0.heap.size + 2, 0, none⟩) 2 2] (by rfl) (by rfl) (World.news_of_block (cs := #[.int .i64 (j : Int), .int .i64 (nx : Int), .slice (some ⟨W0.heap.size + 2, 0, none⟩) 2 2]) (t := 32) (fr := (0, 0)) (heap_alloc_eq (((W0.alloc (.cells #[.int .i64 x1, .int .i64 x2] 3)).alloc (.cells #[.int .i64 y1, .int .i64 y2] 3)).alloc (.cells #[.slice (some ⟨W0.heap.size, 0, none⟩) 2 2, .slice (some ⟨W0.heap.size + 1, 0, none⟩) 2 2] 26)) _ _ (by simp))) (by simp [Value.oneCell']) (by omega) (by unfold maxLen; omega) (by omega) (by simp; omega) (W0.heap.size + 4) (by simp) ?_; intro gg cap w1 hown1 hgrow hat hlt1; obtain ⟨u1, u2, u3, u4, u5⟩ := hTA gg cap w1 hown1 hgrow hat) | (refine step_append_lies _ (by rfl) _ _ _ (by rfl) (cb + 1) 32 i0 _ 3 40 Try.underlying23 hi0 hz0 hz1 hz2 rfl (by omega) (.slice ea j ec) j ve (by rfl) (owns_below hon (bel_alloc (bel_alloc (bel_alloc (bel_alloc (bel_refl W0) (.cells #[.int .i64 y1, .int .i64 y2] 3)) (.cells #[.int .i64 x1, .int .i64 x2] 3)) (.cells #[.slice (some ⟨W0.heap.size + 1, 0, none⟩) 2 2, .slice (some ⟨W0.heap.size, 0, none⟩) 2 2] 26)) (.cells #[.int .i64 (j : Int), .int .i64 (nx : Int), .slice (some ⟨W0.heap.size + 2, 0, none⟩) 2 2] 32)).drew) ⟨W0.heap.size + 3, 0, none⟩ 1 1 [.int .i64 (j : Int), .int .i64 (nx : Int), .slice (some ⟨W0.heap.size + 2, 0, none⟩) 2 2] (by rfl) (by rfl) (World.news_of_block (cs := #[.int .i64 (j : Int), .int .i64 (nx : Int), .slice (some ⟨W0.heap.size + 2, 0, none⟩) 2 2]) (t := 32) (fr := (0, 0)) (heap_alloc_eq (((W0.alloc (.cells #[.int .i64 y1, .int .i64 y2] 3)).alloc (.cells #[.int .i64 x1, .int .i64 x2] 3)).alloc (.cells #[.slice (some ⟨W0.heap.size + 1, 0, none⟩) 2 2, .slice (some ⟨W0.heap.size, 0, none⟩) 2 2] 26)) _ _ (by simp))) (by simp [Value.oneCell']) (by omega) (by unfold maxLen; omega) (by omega) (by simp; omega) (W0.heap.size + 4) (by simp) ?_; intro gg cap w1 hown1 hgrow hat hlt1; obtain ⟨u1, u2, u3, u4, u5⟩ := hTB gg cap w1 hown1 hgrow hat)
                  refine hK.out _ _ (by (first | (with_reducible assumption) | exact u4 | exact u5 | (refine hKS _ ?_; repeat (first | exact hE0 | refine bk_drew ?_ | refine bk_alloc ?_ _ | exact bel_drewN hE0 _)))) (fun hHeld => ?_)
                  clear hK K
                  try simp only [Act.put, List.setIfInBounds_toArray]
                  refine wpAnyH_take (i := 47) (v := ?_) rfl (by kernel_rfl) (by kernel_rfl) (by kernel_rfl) (fun _ _ _ h => h) (Or.inl ⟨by rfl, ?_⟩) (by assumption) ?_
                  rotate_left
                  · intro w hSw; (try dsimp only at hSw); go_simp; all_goals (with_reducible rfl)
                  refine wpAnyH_ready (rs := [48]) (by kernel_rfl) (by simp) ?_
                  refine AllReadyH.cons rfl (fun K hK => ?_) (AllReadyH.nil)
                  go_simp
                  refine hK.out _ _ (by (first | (with_reducible assumption) | exact u4 | exact u5 | (refine hKS _ ?_; repeat (first | exact hE0 | refine bk_drew ?_ | refine bk_alloc ?_ _ | exact bel_drewN hE0 _)))) (fun hHeld => ?_)
                  clear hK K
                  try simp only [Act.put, List.setIfInBounds_toArray, List.set_cons_zero, List.set_cons_succ]
                  refine wpAnyH_done (by kernel_rfl) ?_ _
                  refine NoPanic.normal ?_
                  clear hTA hTB hon c0 hcl cx1 cx2 cx3 cx4 hown1 hgrow hat hlt1 u1 u2 u4 u5 hKS hCL
                  go_wp2_with fail
                  go_roundw
                  all_goals first | exact ⟨j + 1, by omega, by go_num, u3⟩ | (simp [intOf]; omega)
                · skip
                  go_simp
                  refine hK.out _ _ (by (first | (with_reducible assumption) | exact u4 | exact u5 | (refine hKS _ ?_; repeat (first | exact hE0 | refine bk_drew ?_ | refine bk_alloc ?_ _ | exact bel_drewN hE0 _)))) (fun hHeld => ?_)
                  clear hK K
                  try simp only [Act.put, List.setIfInBounds_toArray, List.set_cons_zero, List.set_cons_succ]
                  refine wpAnyH_ready (rs := [1]) (by kernel_rfl) (by simp) ?_
                  refine AllReadyH.cons rfl (fun K hK => ?_) (AllReadyH.nil)
                  have cl3 := hCL ((((W0.alloc (.cells #[.int .i64 x1, .int .i64 x2] 3)).alloc (.cells #[.int .i64 y1, .int .i64 y2] 3)).alloc (.cells #[.slice (some ⟨W0.heap.size, 0, none⟩) 2 2, .slice (some ⟨W0.heap.size + 1, 0, none⟩) 2 2] 26)).alloc (.cells #[.int .i64 (j : Int), .int .i64 (nx : Int), .slice (some ⟨W0.heap.size + 1 + 1, 0, none⟩) 2 2] 32)) (bel_alloc (bel_alloc (bel_alloc (bel_alloc (bel_refl W0) _) _) _) _)
                  have cl4 := hCL ((((W0.alloc (.cells #[.int .i64 x1, .int .i64 x2] 3)).alloc (.cells #[.int .i64 y1, .int .i64 y2] 3)).alloc (.cells #[.slice (some ⟨W0.heap.size, 0, none⟩) 2 2, .slice (some ⟨W0.heap.size + 1, 0, none⟩) 2 2] 26)).alloc (.cells #[.int .i64 (j : Int), .int .i64 (nx : Int), .slice (some ⟨W0.heap.size + 1 + 1, 0, none⟩) 2 2] 32)).drew (bel_alloc (bel_alloc (bel_alloc (bel_alloc (bel_refl W0) _) _) _) _).drew
                  go_simp
                  clear cl3 cl4
                  refine hK.out _ _ (by (first | (with_reducible assumption) | exact u4 | exact u5 | (refine hKS _ ?_; repeat (first | exact hE0 | refine bk_drew ?_ | refine bk_alloc ?_ _ | exact bel_drewN hE0 _)))) (fun hHeld => ?_)
                  clear hK K
                  try simp only [Act.put, List.setIfInBounds_toArray, List.set_cons_zero, List.set_cons_succ]
                  refine wpAnyH_ready (rs := [46]) (by kernel_rfl) (by simp) ?_
                  refine AllReadyH.cons rfl (fun K hK => ?_) (AllReadyH.nil)
                  first | (refine step_append_lies _ (by rfl) _ _ _ (by rfl) (cb + 1) 32 i0 _ 3 40 Try.underlying23 hi0 hz0 hz1 hz2 rfl (by omega) (.slice ea j ec) j ve (by rfl) (owns_below hon (bel_alloc (bel_alloc (bel_alloc (bel_alloc (bel_refl W0) (.cells #[.int .i64 x1, .int .i64 x2] 3)) (.cells #[.int .i64 y1, .int .i64 y2] 3)) (.cells #[.slice (some ⟨W0.heap.size, 0, none⟩) 2 2, .slice (some ⟨W0.heap.size + 1, 0, none⟩) 2 2] 26)) (.cells #[.int .i64 (j : Int), .int .i64 (nx : Int), .slice (some ⟨W0.heap.size + 2, 0, none⟩) 2 2] 32)).drew) ⟨W0.heap.size + 3, 0, none⟩ 1 1 [.int .i64 (j : Int), .int .i64 (nx : Int), .slice (some ⟨W0.heap.size + 2, 0, none⟩) 2 2] (by rfl) (by rfl) (World.news_of_block (cs := #[.int .i64 (j : Int), .int .i64 (nx : Int), .slice (some ⟨W0.heap.size + 2, 0, none⟩) 2 2]) (t := 32) (fr := (0, 0)) (heap_alloc_eq (((W0.alloc (.cells #[.int .i64 x1, .int .i64 x2] 3)).alloc (.cells #[.int .i64 y1, .int .i64 y2] 3)).alloc (.cells #[.slice (some ⟨W0.heap.size, 0, none⟩) 2 2, .slice (some ⟨W0.heap.size + 1, 0, none⟩) 2 2] 26)) _ _ (by simp))) (by simp [Value.oneCell']) (by omega) (by unfold maxLen; omega) (by omega) (by simp; omega) (W0.heap.size + 4) (by simp) ?_; intro gg cap w1 hown1 hgrow hat hlt1; obtain ⟨u1, u2, u3, u4, u5⟩ := hTA gg cap w1 hown1 hgrow hat) | (refine step_append_lies _ (by rfl) _ _ _ (by rfl) (cb + 1) 32 i0 _ 3 40 Try.underlying23 hi0 hz0 hz1 hz2 rfl (by omega) (.slice ea j ec) j ve (by rfl) (owns_below hon (bel_alloc (bel_alloc (bel_alloc (bel_alloc (bel_refl W0) (.cells #[.int .i64 y1, .int .i64 y2] 3)) (.cells #[.int .i64 x1, .int .i64 x2] 3)) (.cells #[.slice (some ⟨W0.heap.size + 1, 0, none⟩) 2 2, .slice (some ⟨W0.heap.size, 0, none⟩) 2 2] 26)) (.cells #[.int .i64 (j : Int), .int .i64 (nx : Int), .slice (some ⟨W0.heap.size + 2, 0, none⟩) 2 2] 32)).drew) ⟨W0.heap.size + 3, 0, none⟩ 1 1 [.int .i64 (j : Int), .int .i64 (nx : Int), .slice (some ⟨W0.heap.size + 2, 0, none⟩) 2 2] (by rfl) (by rfl) (World.news_of_block (cs := #[.int .i64 (j : Int), .int .i64 (nx : Int), .slice (some ⟨W0.heap.size + 2, 0, none⟩) 2 2]) (t := 32) (fr := (0, 0)) (heap_alloc_eq (((W0.alloc (.cells #[.int .i64 y1, .int .i64 y2] 3)).alloc (.cells #[.int .i64 x1, .int .i64 x2] 3)).alloc (.cells #[.slice (some ⟨W0.heap.size + 1, 0, none⟩) 2 2, .slice (some ⟨W0.heap.size, 0, none⟩) 2 2] 26)) _ _ (by simp))) (by simp [Value.oneCell']) (by omega) (by unfold maxLen; omega) (by omega) (by simp; omega) (W0.heap.size + 4) (by simp) ?_; intro gg cap w1 hown1 hgrow hat hlt1; obtain ⟨u1, u2, u3, u4, u5⟩ := hTB gg cap w1 hown1 hgrow hat)
                  refine hK.out _ _ (by (first | (with_reducible assumption) | exact u4 | exact u5 | (refine hKS _ ?_; repeat (first | exact hE0 | refine bk_drew ?_ | refine bk_alloc ?_ _ | exact bel_drewN hE0 _)))) (fun hHeld => ?_)
                  clear hK K
                  try simp only [Act.put, List.setIfInBounds_toArray]
                  refine wpAnyH_take (i := 47) (v := ?_) rfl (by kernel_rfl) (by kernel_rfl) (by kernel_rfl) (fun _ _ _ h => h) (Or.inl ⟨by rfl, ?_⟩) (by assumption) ?_
                  rotate_left
                  · intro w hSw; (try dsimp only at hSw); go_simp; all_goals (with_reducible rfl)
                  refine wpAnyH_ready (rs := [48]) (by kernel_rfl) (by simp) ?_
                  refine AllReadyH.cons rfl (fun K hK => ?_) (AllReadyH.nil)
                  go_simp
                  refine hK.out _ _ (by (first | (with_reducible assumption) | exact u4 | exact u5 | (refine hKS _ ?_; repeat (first | exact hE0 | refine bk_drew ?_ | refine bk_alloc ?_ _ | exact bel_drewN hE0 _)))) (fun hHeld => ?_)
                  clear hK K
                  try simp only [Act.put, List.setIfInBounds_toArray, List.set_cons_zero, List.set_cons_succ]
                  refine wpAnyH_done (by kernel_rfl) ?_ _
                  refine NoPanic.normal ?_
                  clear hTA hTB hon c0 hcl cx1 cx2 cx3 cx4 hown1 hgrow hat hlt1 u1 u2 u4 u5 hKS hCL
                  go_wp2_with fail
                  go_roundw
                  all_goals first | exact ⟨j + 1, by omega, by go_num, u3⟩ | (simp [intOf]; omega)
          · skip
            go_simp
            refine hK.out _ _ (by (first | (with_reducible assumption) | exact u4 | exact u5 | (refine hKS _ ?_; repeat (first | exact hE0 | refine bk_drew ?_ | refine bk_alloc ?_ _ | exact bel_drewN hE0 _)))) (fun hHeld => ?_)
            clear hK K
            try simp only [Act.put, List.setIfInBounds_toArray, List.set_cons_zero, List.set_cons_succ]
            refine wpAnyH_ready (rs := [1, 24]) (by kernel_rfl) (by simp) ?_
            refine AllReadyH.cons rfl (fun K hK => ?_) (AllReadyH.cons rfl (fun K hK => ?_) (AllReadyH.nil))
            · skip
              go_simp
              refine hK.out _ _ (by (first | (with_reducible assumption) | exact u4 | exact u5 | (refine hKS _ ?_; repeat (first | exact hE0 | refine bk_drew ?_ | refine bk_alloc ?_ _ | exact bel_drewN hE0 _)))) (fun hHeld => ?_)
              clear hK K
              try simp only [Act.put, List.setIfInBounds_toArray, List.set_cons_zero, List.set_cons_succ]
              refine wpAnyH_ready (rs := [24]) (by kernel_rfl) (by simp) ?_
              refine AllReadyH.cons rfl (fun K hK => ?_) (AllReadyH.nil)
              go_simp
              refine hK.out _ _ (by (first | (with_reducible assumption) | exact u4 | exact u5 | (refine hKS _ ?_; repeat (first | exact hE0 | refine bk_drew ?_ | refine bk_alloc ?_ _ | exact bel_drewN hE0 _)))) (fun hHeld => ?_)
              clear hK K
              try simp only [Act.put, List.setIfInBounds_toArray, List.set_cons_zero, List.set_cons_succ]
              refine wpAnyH_ready (rs := [43]) (by kernel_rfl) (by simp) ?_
              refine AllReadyH.cons rfl (fun K hK => ?_) (AllReadyH.nil)
              go_simp
              refine hK.out _ _ (by (first | (with_reducible assumption) | exact u4 | exact u5 | (refine hKS _ ?_; repeat (first | exact hE0 | refine bk_drew ?_ | refine bk_alloc ?_ _ | exact bel_drewN hE0 _)))) (fun hHeld => ?_)
              clear hK K
              try simp only [Act.put, List.setIfInBounds_toArray, List.set_cons_zero, List.set_cons_succ]
              refine wpAnyH_take (i := 44) (v := ?_) rfl (by kernel_rfl) (by kernel_rfl) (by kernel_rfl) (fun _ _ _ h => h) (Or.inl ⟨by rfl, ?_⟩) (by assumption) ?_
              rotate_left
              · intro w hSw; (try dsimp only at hSw); go_simp; all_goals (with_reducible rfl)
              refine wpAnyH_ready (rs := [45]) (by kernel_rfl) (by simp) ?_
              refine AllReadyH.cons rfl (fun K hK => ?_) (AllReadyH.nil)
              go_simp
              refine hK.out _ _ (by (first | (with_reducible assumption) | exact u4 | exact u5 | (refine hKS _ ?_; repeat (first | exact hE0 | refine bk_drew ?_ | refine bk_alloc ?_ _ | exact bel_drewN hE0 _)))) (fun hHeld => ?_)
              clear hK K
              try simp only [Act.put, List.setIfInBounds_toArray, List.set_cons_zero, List.set_cons_succ]
              refine wpAnyH_ready (rs := [46]) (by kernel_rfl) (by simp) ?_
              refine AllReadyH.cons rfl (fun K hK => ?_) (AllReadyH.nil)
              first | (refine step_append_lies _ (by rfl) _ _ _ (by rfl) (cb + 1) 32 i0 _ 3 40 Try.underlying23 hi0 hz0 hz1 hz2 rfl (by omega) (.slice ea j ec) j ve (by rfl) (owns_below hon (bel_alloc (bel_alloc (bel_alloc (bel_alloc (bel_refl W0) (.cells #[.int .i64 x1, .int .i64 x2] 3)) (.cells #[.int .i64 y1, .int .i64 y2] 3)) (.cells #[.slice (some ⟨W0.heap.size, 0, none⟩) 2 2, .slice (some ⟨W0.heap.size + 1, 0, none⟩) 2 2] 26)) (.cells #[.int .i64 (j : Int), .int .i64 (nx : Int), .slice (some ⟨W0.heap.size + 2, 0, none⟩) 2 2] 32)).drew) ⟨W0.heap.size + 3, 0, none⟩ 1 1 [.int .i64 (j : Int), .int .i64 (nx : Int), .slice (some ⟨W0.heap.size + 2, 0, none⟩) 2 2] (by rfl) (by rfl) (World.news_of_block (cs := #[.int .i64 (j : Int), .int .i64 (nx : Int), .slice (some ⟨W0.heap.size + 2, 0, none⟩) 2 2]) (t := 32) (fr := (0, 0)) (heap_alloc_eq (((W0.alloc (.cells #[.int .i64 x1, .int .i64 x2] 3)).alloc (.cells #[.int .i64 y1, .int .i64 y2] 3)).alloc (.cells #[.slice (some ⟨W0.heap.size, 0, none⟩) 2 2, .slice (some ⟨W0.heap.size + 1, 0, none⟩) 2 2] 26)) _ _ (by simp))) (by simp [Value.oneCell']) (by omega) (by unfold maxLen; omega) (by omega) (by simp; omega) (W0.heap.size + 4) (by simp) ?_; intro gg cap w1 hown1 hgrow hat hlt1; obtain ⟨u1, u2, u3, u4, u5⟩ := hTA gg cap w1 hown1 hgrow hat) | (refine step_append_lies _ (by rfl) _ _ _ (by rfl) (cb + 1) 32 i0 _ 3 40 Try.underlying23 hi0 hz0 hz1 hz2 rfl (by omega) (.slice ea j ec) j ve (by rfl) (owns_below hon (bel_alloc (bel_alloc (bel_alloc (bel_alloc (bel_refl W0) (.cells #[.int .i64 y1, .int .i64 y2] 3)) (.cells #[.int .i64 x1, .int .i64 x2] 3)) (.cells #[.slice (some ⟨W0.heap.size + 1, 0, none⟩) 2 2, .slice (some ⟨W0.heap.size, 0, none⟩) 2 2] 26)) (.cells #[.int .i64 (j : Int), .int .i64 (nx : Int), .slice (some ⟨W0.heap.size + 2, 0, none⟩) 2 2] 32)).drew) ⟨W0.heap.size + 3, 0, none⟩ 1 1 [.int .i64 (j : Int), .int .i64 (nx : Int), .slice (some ⟨W0.heap.size + 2, 0, none⟩) 2 2] (by rfl) (by rfl) (World.news_of_block (cs := #[.int .i64 (j : Int), .int .i64 (nx : Int), .slice (some ⟨W0.heap.size + 2, 0, none⟩) 2 2]) (t := 32) (fr := (0, 0)) (heap_alloc_eq (((W0.alloc (.cells #[.int .i64 y1, .int .i64 y2] 3)).alloc (.cells #[.int .i64 x1, .int .i64 x2] 3)).alloc (.cells #[.slice (some ⟨W0.heap.size + 1, 0, none⟩) 2 2, .slice (some ⟨W0.heap.size, 0, none⟩) 2 2] 26)) _ _ (by simp))) (by simp [Value.oneCell']) (by omega) (by unfold maxLen; omega) (by omega) (by simp; omega) (W0.heap.size + 4) (by simp) ?_; intro gg cap w1 hown1 hgrow hat hlt1; obtain ⟨u1, u2, u3, u4, u5⟩ := hTB gg cap w1 hown1 hgrow hat)
              refine hK.out _ _ (by (first | (with_reducible assumption) | exact u4 | exact u5 | (refine hKS _ ?_; repeat (first | exact hE0 | refine bk_drew ?_ | refine bk_alloc ?_ _ | exact bel_drewN hE0 _)))) (fun hHeld => ?_)
              clear hK K
              try simp only [Act.put, List.setIfInBounds_toArray]
              refine wpAnyH_take (i := 47) (v := ?_) rfl (by kernel_rfl) (by kernel_rfl) (by kernel_rfl) (fun _ _ _ h => h) (Or.inl ⟨by rfl, ?_⟩) (by assumption) ?_
              rotate_left
              · intro w hSw; (try dsimp only at hSw); go_simp; all_goals (with_reducible rfl)
              refine wpAnyH_ready (rs := [48]) (by kernel_rfl) (by simp) ?_
              refine AllReadyH.cons rfl (fun K hK => ?_) (AllReadyH.nil)
              go_simp
              refine hK.out _ _ (by (first | (with_reducible assumption) | exact u4 | exact u5 | (refine hKS _ ?_; repeat (first | exact hE0 | refine bk_drew ?_ | refine bk_alloc ?_ _ | exact bel_drewN hE0 _)))) (fun hHeld => ?_)
              clear hK K
              try simp only [Act.put, List.setIfInBounds_toArray, List.set_cons_zero, List.set_cons_succ]
              refine wpAnyH_done (by kernel_rfl) ?_ _
              refine NoPanic.normal ?_
              clear hTA hTB hon c0 hcl cx1 cx2 cx3 cx4 hown1 hgrow hat hlt1 u1 u2 u4 u5 hKS hCL
              go_wp2_with fail
              go_roundw
              all_goals first | exact ⟨j + 1, by omega, by go_num, u3⟩ | (simp [intOf]; omega)
            · skip
              go_simp
              refine hK.out _ _ (by (first | (with_reducible assumption) | exact u4 | exact u5 | (refine hKS _ ?_; repeat (first | exact hE0 | refine bk_drew ?_ | refine bk_alloc ?_ _ | exact bel_drewN hE0 _)))) (fun hHeld => ?_)
              clear hK K
              try simp only [Act.put, List.setIfInBounds_toArray, List.set_cons_zero, List.set_cons_succ]
              refine wpAnyH_ready (rs := [1, 43]) (by kernel_rfl) (by simp) ?_
              refine AllReadyH.cons rfl (fun K hK => ?_) (AllReadyH.cons rfl (fun K hK => ?_) (AllReadyH.nil))
              · skip
                go_simp
                refine hK.out _ _ (by (first | (with_reducible assumption) | exact u4 | exact u5 | (refine hKS _ ?_; repeat (first | exact hE0 | refine bk_drew ?_ | refine bk_alloc ?_ _ | exact bel_drewN hE0 _)))) (fun hHeld => ?_)
                clear hK K
                try simp only [Act.put, List.setIfInBounds_toArray, List.set_cons_zero, List.set_cons_succ]
                refine wpAnyH_ready (rs := [43]) (by kernel_rfl) (by simp) ?_
                refine AllReadyH.cons rfl (fun K hK => ?_) (AllReadyH.nil)
                go_simp
                refine hK.out _ _ (by (first | (with_reducible assumption) | exact u4 | exact u5 | (refine hKS _ ?_; repeat (first | exact hE0 | refine bk_drew ?_ | refine bk_alloc ?_ _ | exact bel_drewN hE0 _)))) (fun hHeld => ?_)
                clear hK K
                try simp only [Act.put, List.setIfInBounds_toArray, List.set_cons_zero, List.set_cons_succ]
                refine wpAnyH_take (i := 44) (v := ?_) rfl (by kernel_rfl) (by kernel_rfl) (by kernel_rfl) (fun _ _ _ h => h) (Or.inl ⟨by rfl, ?_⟩) (by assumption) ?_
                rotate_left
                · intro w hSw; (try dsimp only at hSw); go_simp; all_goals (with_reducible rfl)
                refine wpAnyH_ready (rs := [45]) (by kernel_rfl) (by simp) ?_
                refine AllReadyH.cons rfl (fun K hK => ?_) (AllReadyH.nil)
                go_simp
                refine hK.out _ _ (by (first | (with_reducible assumption) | exact u4 | exact u5 | (refine hKS _ ?_; repeat (first | exact hE0 | refine bk_drew ?_ | refine bk_alloc ?_ _ | exact bel_drewN hE0 _)))) (fun hHeld => ?_)
                clear hK K
                try simp only [Act.put, List.setIfInBounds_toArray, List.set_cons_zero, List.set_cons_succ]
                refine wpAnyH_ready (rs := [46]) (by kernel_rfl) (by simp) ?_
                refine AllReadyH.cons rfl (fun K hK => ?_) (AllReadyH.nil)
                first | (refine step_append_lies _ (by rfl) _ _ _ (by rfl) (cb + 1) 32 i0 _ 3 40 Try.underlying23 hi0 hz0 hz1 hz2 rfl (by omega) (.slice ea j ec) j ve (by rfl) (owns_below hon (bel_alloc (bel_alloc (bel_alloc (bel_alloc (bel_refl W0) (.cells #[.int .i64 x1, .int .i64 x2] 3)) (.cells #[.int .i64 y1, .int .i64 y2] 3)) (.cells #[.slice (some ⟨W0.heap.size, 0, none⟩) 2 2, .slice (some ⟨W0.heap.size + 1, 0, none⟩) 2 2] 26)) (.cells #[.int .i64 (j : Int), .int .i64 (nx : Int), .slice (some ⟨W0.heap.size + 2, 0, none⟩) 2 2] 32)).drew) ⟨W0.heap.size + 3, 0, none⟩ 1 1 [.int .i64 (j : Int), .int .i64 (nx : Int), .slice (some ⟨W0.heap.size + 2, 0, none⟩) 2 2] (by rfl) (by rfl) (World.news_of_block (cs := #[.int .i64 (j : Int), .int .i64 (nx : Int), .slice (some ⟨W0.heap.size + 2, 0, none⟩) 2 2]) (t := 32) (fr := (0, 0)) (heap_alloc_eq (((W0.alloc (.cells #[.int .i64 x1, .int .i64 x2] 3)).alloc (.cells #[.int .i64 y1, .int .i64 y2] 3)).alloc (.cells #[.slice (some ⟨W0.heap.size, 0, none⟩) 2 2, .slice (some ⟨W0.heap.size + 1, 0, none⟩) 2 2] 26)) _ _ (by simp))) (by simp [Value.oneCell']) (by omega) (by unfold maxLen; omega) (by omega) (by simp; omega) (W0.heap.size + 4) (by simp) ?_; intro gg cap w1 hown1 hgrow hat hlt1; obtain ⟨u1, u2, u3, u4, u5⟩ := hTA gg cap w1 hown1 hgrow hat) | (refine step_append_lies _ (by rfl) _ _ _ (by rfl) (cb + 1) 32 i0 _ 3 40 Try.underlying23 hi0 hz0 hz1 hz2 rfl (by omega) (.slice ea j ec) j ve (by rfl) (owns_below hon (bel_alloc (bel_alloc (bel_alloc (bel_alloc (bel_refl W0) (.cells #[.int .i64 y1, .int .i64 y2] 3)) (.cells #[.int .i64 x1, .int .i64 x2] 3)) (.cells #[.slice (some ⟨W0.heap.size + 1, 0, none⟩) 2 2, .slice (some ⟨W0.heap.size, 0, none⟩) 2 2] 26)) (.cells #[.int .i64 (j : Int), .int .i64 (nx : Int), .slice (some ⟨W0.heap.size + 2, 0, none⟩) 2 2] 32)).drew) ⟨W0.heap.size + 3, 0, none⟩ 1 1 [.int .i64 (j : Int), .int .i64 (nx : Int), .slice (some ⟨W0.heap.size + 2, 0, none⟩) 2 2] (by rfl) (by rfl) (World.news_of_block (cs := #[.int .i64 (j : Int), .int .i64 (nx : Int), .slice (some ⟨W0.heap.size + 2, 0, none⟩) 2 2]) (t := 32) (fr := (0, 0)) (heap_alloc_eq (((W0.alloc (.cells #[.int .i64 y1, .int .i64 y2] 3)).alloc (.cells #[.int .i64 x1, .int .i64 x2] 3)).alloc (.cells #[.slice (some ⟨W0.heap.size + 1, 0, none⟩) 2 2, .slice (some ⟨W0.heap.size, 0, none⟩) 2 2] 26)) _ _ (by simp))) (by simp [Value.oneCell']) (by omega) (by unfold maxLen; omega) (by omega) (by simp; omega) (W0.heap.size + 4) (by simp) ?_; intro gg cap w1 hown1 hgrow hat hlt1; obtain ⟨u1, u2, u3, u4, u5⟩ := hTB gg cap w1 hown1 hgrow hat)
                refine hK.out _ _ (by (first | (with_reducible assumption) | exact u4 | exact u5 | (refine hKS _ ?_; repeat (first | exact hE0 | refine bk_drew ?_ | refine bk_alloc ?_ _ | exact bel_drewN hE0 _)))) (fun hHeld => ?_)
                clear hK K
                try simp only [Act.put, List.setIfInBounds_toArray]
                refine wpAnyH_take (i := 47) (v := ?_) rfl (by kernel_rfl) (by kernel_rfl) (by kernel_rfl) (fun _ _ _ h => h) (Or.inl ⟨by rfl, ?_⟩) (by assumption) ?_
                rotate_left
                · intro w hSw; (try dsimp only at hSw); go_simp; all_goals (with_reducible rfl)
                refine wpAnyH_ready (rs := [48]) (by kernel_rfl) (by simp) ?_
                refine AllReadyH.cons rfl (fun K hK => ?_) (AllReadyH.nil)
                go_simp
                refine hK.out _ _ (by (first | (with_reducible assumption) | exact u4 | exact u5 | (refine hKS _ ?_; repeat (first | exact hE0 | refine bk_drew ?_ | refine bk_alloc ?_ _ | exact bel_drewN hE0 _)))) (fun hHeld => ?_)
                clear hK K
                try simp only [Act.put, List.setIfInBounds_toArray, List.set_cons_zero, List.set_cons_succ]
                refine wpAnyH_done (by kernel_rfl) ?_ _
                refine NoPanic.normal ?_
                clear hTA hTB hon c0 hcl cx1 cx2 cx3 cx4 hown1 hgrow hat hlt1 u1 u2 u4 u5 hKS hCL
                go_wp2_with fail
                go_roundw
                all_goals first | exact ⟨j + 1, by omega, by go_num, u3⟩ | (simp [intOf]; omega)
              · skip
                go_simp
                refine hK.out _ _ (by (first | (with_reducible assumption) | exact u4 | exact u5 | (refine hKS _ ?_; repeat (first | exact hE0 | refine bk_drew ?_ | refine bk_alloc ?_ _ | exact bel_drewN hE0 _)))) (fun hHeld => ?_)
                clear hK K
                try simp only [Act.put, List.setIfInBounds_toArray, List.set_cons_zero, List.set_cons_succ]
                refine wpAnyH_take (i := 44) (v := ?_) rfl (by kernel_rfl) (by kernel_rfl) (by kernel_rfl) (fun _ _ _ h => h) (Or.inl ⟨by rfl, ?_⟩) (by assumption) ?_
                rotate_left
                · intro w hSw; (try dsimp only at hSw); go_simp; all_goals (with_reducible rfl)
                refine wpAnyH_ready (rs := [1, 45]) (by kernel_rfl) (by simp) ?_
                refine AllReadyH.cons rfl (fun K hK => ?_) (AllReadyH.cons rfl (fun K hK => ?_) (AllReadyH.nil))
                · skip
                  have cl3 := hCL (((W0.alloc (.cells #[.int .i64 y1, .int .i64 y2] 3)).alloc (.cells #[.int .i64 x1, .int .i64 x2] 3)).alloc (.cells #[.slice (some ⟨W0.heap.size + 1, 0, none⟩) 2 2, .slice (some ⟨W0.heap.size, 0, none⟩) 2 2] 26)) (bel_alloc (bel_alloc (bel_alloc (bel_refl W0) _) _) _)
                  have cl4 := hCL (((W0.alloc (.cells #[.int .i64 y1, .int .i64 y2] 3)).alloc (.cells #[.int .i64 x1, .int .i64 x2] 3)).alloc (.cells #[.slice (some ⟨W0.heap.size + 1, 0, none⟩) 2 2, .slice (some ⟨W0.heap.size, 0, none⟩) 2 2] 26)).drew (bel_alloc (bel_alloc (bel_alloc (bel_refl W0) _) _) _).drew
                  go_simp
                  clear cl3 cl4
                  refine hK.out _ _ (by (first | (with_reducible assumption) | exact u4 | exact u5 | (refine hKS _ ?_; repeat (first | exact hE0 | refine bk_drew ?_ | refine bk_alloc ?_ _ | exact bel_drewN hE0 _)))) (fun hHeld => ?_)
                  clear hK K
                  try simp only [Act.put, List.setIfInBounds_toArray, List.set_cons_zero, List.set_cons_succ]
                  refine wpAnyH_ready (rs := [45]) (by kernel_rfl) (by simp) ?_
                  refine AllReadyH.cons rfl (fun K hK => ?_) (AllReadyH.nil)
                  go_simp
                  refine hK.out _ _ (by (first | (with_reducible assumption) | exact u4 | exact u5 | (refine hKS _ ?_; repeat (first | exact hE0 | refine bk_drew ?_ | refine bk_alloc ?_ _ | exact bel_drewN hE0 _)))) (fun hHeld => ?_)
                  clear hK K
                  try simp only [Act.put, List.setIfInBounds_toArray, List.set_cons_zero, List.set_cons_succ]
                  refine wpAnyH_ready (rs := [46]) (by kernel_rfl) (by simp) ?_
                  refine AllReadyH.cons rfl (fun K hK => ?_) (AllReadyH.nil)
                  first | (refine step_append_lies _ (by rfl) _ _ _ (by rfl) (cb + 1) 32 i0 _ 3 40 Try.underlying23 hi0 hz0 hz1 hz2 rfl (by omega) (.slice ea j ec) j ve (by rfl) (owns_below hon (bel_alloc (bel_alloc (bel_alloc (bel_alloc (bel_refl W0) (.cells #[.int .i64 x1, .int .i64 x2] 3)) (.cells #[.int .i64 y1, .int .i64 y2] 3)) (.cells #[.slice (some ⟨W0.heap.size, 0, none⟩) 2 2, .slice (some ⟨W0.heap.size + 1, 0, none⟩) 2 2] 26)) (.cells #[.int .i64 (j : Int), .int .i64 (nx : Int), .slice (some ⟨W0.heap.size + 2, 0, none⟩) 2 2] 32)).drew) ⟨W0.heap.size + 3, 0, none⟩ 1 1 [.int .i64 (j : Int), .int .i64 (nx : Int), .slice (some ⟨W0.heap.size + 2, 0, none⟩) 2 2] (by rfl) (by rfl) (World.news_of_block (cs := #[.int .i64 (j : Int), .int .i64 (nx : Int), .slice (some ⟨W0.heap.size + 2, 0, none⟩) 2 2]) (t := 32) (fr := (0, 0)) (heap_alloc_eq (((W0.alloc (.cells #[.int .i64 x1, .int .i64 x2] 3)).alloc (.cells #[.int .i64 y1, .int .i64 y2] 3)).alloc (.cells #[.slice (some ⟨W0.heap.size, 0, none⟩) 2 2, .slice (some ⟨W0.heap.size + 1, 0, none⟩) 2 2] 26)) _ _ (by simp))) (by simp [Value.oneCell']) (by omega) (by unfold maxLen; omega) (by omega) (by simp; omega) (W0.heap.size + 4) (by simp) ?_; intro gg cap w1 hown1 hgrow hat hlt1; obtain ⟨u1, u2, u3, u4, u5⟩ := hTA gg cap w1 hown1 hgrow hat) | (refine step_append_lies _ (by rfl) _ _ _ (by rfl) (cb + 1) 32 i0 _ 3 40 Try.underlying23 hi0 hz0 hz1 hz2 rfl (by omega) (.slice ea j ec) j ve (by rfl) (owns_below hon (bel_alloc (bel_alloc (bel_alloc (bel_alloc (bel_refl W0) (.cells #[.int .i64 y1, .int .i64 y2] 3)) (.cells #[.int .i64 x1, .int .i64 x2] 3)) (.cells #[.slice (some ⟨W0.heap.size + 1, 0, none⟩) 2 2, .slice (some ⟨W0.heap.size, 0, none⟩) 2 2] 26)) (.cells #[.int .i64 (j : Int), .int .i64 (nx : Int), .slice (some ⟨W0.heap.size + 2, 0, none⟩) 2 2] 32)).drew) ⟨W0.heap.size + 3, 0, none⟩ 1 1 [.int .i64 (j : Int), .int .i64 (nx : Int), .slice (some ⟨W0.heap.size + 2, 0, none⟩) 2 2] (by rfl) (by rfl) (World.news_of_block (cs := #[.int .i64 (j : Int), .int .i64 (nx : Int), .slice (some ⟨W0.heap.size + 2, 0, none⟩) 2 2]) (t := 32) (fr := (0, 0)) (heap_alloc_eq (((W0.alloc (.cells #[.int .i64 y1, .int .i64 y2] 3)).alloc (.cells #[.int .i64 x1, .int .i64 x2] 3)).alloc (.cells #[.slice (some ⟨W0.heap.size + 1, 0, none⟩) 2 2, .slice (some ⟨W0.heap.size, 0, none⟩) 2 2] 26)) _ _ (by simp))) (by simp [Value.oneCell']) (by omega) (by unfold maxLen; omega) (by omega) (by simp; omega) (W0.heap.size + 4) (by simp) ?_; intro gg cap w1 hown1 hgrow hat hlt1; obtain ⟨u1, u2, u3, u4, u5⟩ := hTB gg cap w1 hown1 hgrow hat)
                  refine hK.out _ _ (by (first | (with_reducible assumption) | exact u4 | exact u5 | (refine hKS _ ?_; repeat (first | exact hE0 | refine bk_drew ?_ | refine bk_alloc ?_ _ | exact bel_drewN hE0 _)))) (fun hHeld => ?_)
                  clear hK K
                  try simp only [Act.put, List.setIfInBounds_toArray]
                  refine wpAnyH_take (i := 47) (v := ?_) rfl (by kernel_rfl) (by kernel_rfl) (by kernel_rfl) (fun _ _ _ h => h) (Or.inl ⟨by rfl, ?_⟩) (by assumption) ?_
                  rotate_left
                  · intro w hSw; (try dsimp only at hSw); go_simp; all_goals (with_reducible rfl)
                  refine wpAnyH_ready (rs := [48]) (by kernel_rfl) (by simp) ?_
                  refine AllReadyH.cons rfl (fun K hK => ?_) (AllReadyH.nil)
                  go_simp
                  refine hK.out _ _ (by (first | (with_reducible assumption) | exact u4 | exact u5 | (refine hKS _ ?_; repeat (first | exact hE0 | refine bk_drew ?_ | refine bk_alloc ?_ _ | exact bel_drewN hE0 _)))) (fun hHeld => ?_)
                  clear hK K
                  try simp only [Act.put, List.setIfInBounds_toArray, List.set_cons_zero, List.set_cons_succ]
                  refine wpAnyH_done (by kernel_rfl) ?_ _
                  refine NoPanic.normal ?_
                  clear hTA hTB hon c0 hcl cx1 cx2 cx3 cx4 hown1 hgrow hat hlt1 u1 u2 u4 u5 hKS hCL
                  go_wp2_with fail
                  go_roundw
                  all_goals first | exact ⟨j + 1, by omega, by go_num, u3⟩ | (simp [intOf]; omega)
                · skip
                  go_simp
                  refine hK.out _ _ (by (first | (with_reducible assumption) | exact u4 | exact u5 | (refine hKS _ ?_; repeat (first | exact hE0 | refine bk_drew ?_ | refine bk_alloc ?_ _ | exact bel_drewN hE0 _)))) (fun hHeld => ?_)
                  clear hK K
                  try simp only [Act.put, List.setIfInBounds_toArray, List.set_cons_zero, List.set_cons_succ]
                  refine wpAnyH_ready (rs := [1]) (by kernel_rfl) (by simp) ?_
                  refine AllReadyH.cons rfl (fun K hK => ?_) (AllReadyH.nil)
                  have cl3 := hCL ((((W0.alloc (.cells #[.int .i64 y1, .int .i64 y2] 3)).alloc (.cells #[.int .i64 x1, .int .i64 x2] 3)).alloc (.cells #[.slice (some ⟨W0.heap.size + 1, 0, none⟩) 2 2, .slice (some ⟨W0.heap.size, 0, none⟩) 2 2] 26)).alloc (.cells #[.int .i64 (j : Int), .int .i64 (nx : Int), .slice (some ⟨W0.heap.size + 1 + 1, 0, none⟩) 2 2] 32)) (bel_alloc (bel_alloc (bel_alloc (bel_alloc (bel_refl W0) _) _) _) _)
                  have cl4 := hCL ((((W0.alloc (.cells #[.int .i64 y1, .int .i64 y2] 3)).alloc (.cells #[.int .i64 x1, .int .i64 x2] 3)).alloc (.cells #[.slice (some ⟨W0.heap.size + 1, 0, none⟩) 2 2, .slice (some ⟨W0.heap.size, 0, none⟩) 2 2] 26)).alloc (.cells #[.int .i64 (j : Int), .int .i64 (nx : Int), .slice (some ⟨W0.heap.size + 1 + 1, 0, none⟩) 2 2] 32)).drew (bel_alloc (bel_alloc (bel_alloc (bel_alloc (bel_refl W0) _) _) _) _).drew
                  go_simp
                  clear cl3 cl4
                  refine hK.out _ _ (by (first | (with_reducible assumption) | exact u4 | exact u5 | (refine hKS _ ?_; repeat (first | exact hE0 | refine bk_drew ?_ | refine bk_alloc ?_ _ | exact bel_drewN hE0 _)))) (fun hHeld => ?_)
                  clear hK K
                  try simp only [Act.put, List.setIfInBounds_toArray, List.set_cons_zero, List.set_cons_succ]
                  refine wpAnyH_ready (rs := [46]) (by kernel_rfl) (by simp) ?_
                  refine AllReadyH.cons rfl (fun K hK => ?_) (AllReadyH.nil)
                  first | (refine step_append_lies _ (by rfl) _ _ _ (by rfl) (cb + 1) 32 i0 _ 3 40 Try.underlying23 hi0 hz0 hz1 hz2 rfl (by omega) (.slice ea j ec) j ve (by rfl) (owns_below hon (bel_alloc (bel_alloc (bel_alloc (bel_alloc (bel_refl W0) (.cells #[.int .i64 x1, .int .i64 x2] 3)) (.cells #[.int .i64 y1, .int .i64 y2] 3)) (.cells #[.slice (some ⟨W0.heap.size, 0, none⟩) 2 2, .slice (some ⟨W0.heap.size + 1, 0, none⟩) 2 2] 26)) (.cells #[.int .i64 (j : Int), .int .i64 (nx : Int), .slice (some ⟨W0.heap.size + 2, 0, none⟩) 2 2] 32)).drew) ⟨W0.heap.size + 3, 0, none⟩ 1 1 [.int .i64 (j : Int), .int .i64 (nx : Int), .slice (some ⟨W0.heap.size + 2, 0, none⟩) 2 2] (by rfl) (by rfl) (World.news_of_block (cs := #[.int .i64 (j : Int), .int .i64 (nx : Int), .slice (some ⟨W0.heap.size + 2, 0, none⟩) 2 2]) (t := 32) (fr := (0, 0)) (heap_alloc_eq (((W0.alloc (.cells #[.int .i64 x1, .int .i64 x2] 3)).alloc (.cells #[.int .i64 y1, .int .i64 y2] 3)).alloc (.cells #[.slice (some ⟨W0.heap.size, 0, none⟩) 2 2, .slice (some ⟨W0.heap.size + 1, 0, none⟩) 2 2] 26)) _ _ (by simp))) (by simp [Value.oneCell']) (by omega) (by unfold maxLen; omega) (by omega) (by simp; omega) (W0.heap.size + 4) (by simp) ?_; intro gg cap w1 hown1 hgrow hat hlt1; obtain ⟨u1, u2, u3, u4, u5⟩ := hTA gg cap w1 hown1 hgrow hat) | (refine step_append_lies _ (by rfl) _ _ _ (by rfl) (cb + 1) 32 i0 _ 3 40 Try.underlying23 hi0 hz0 hz1 hz2 rfl (by omega) (.slice ea j ec) j ve (by rfl) (owns_below hon (bel_alloc (bel_alloc (bel_alloc (bel_alloc (bel_refl W0) (.cells #[.int .i64 y1, .int .i64 y2] 3)) (.cells #[.int .i64 x1, .int .i64 x2] 3)) (.cells #[.slice (some ⟨W0.heap.size + 1, 0, none⟩) 2 2, .slice (some ⟨W0.heap.size, 0, none⟩) 2 2] 26)) (.cells #[.int .i64 (j : Int), .int .i64 (nx : Int), .slice (some ⟨W0.heap.size + 2, 0, none⟩) 2 2] 32)).drew) ⟨W0.heap.size + 3, 0, none⟩ 1 1 [.int .i64 (j : Int), .int .i64 (nx : Int), .slice (some ⟨W0.heap.size + 2, 0, none⟩) 2 2] (by rfl) (by rfl) (World.news_of_block (cs := #[.int .i64 (j : Int), .int .i64 (nx : Int), .slice (some ⟨W0.heap.size + 2, 0, none⟩) 2 2]) (t := 32) (fr := (0, 0)) (heap_alloc_eq (((W0.alloc (.cells #[.int .i64 y1, .int .i64 y2] 3)).alloc (.cells #[.int .i64 x1, .int .i64 x2] 3)).alloc (.cells #[.slice (some ⟨W0.heap.size + 1, 0, none⟩) 2 2, .slice (some ⟨W0.heap.size, 0, none⟩) 2 2] 26)) _ _ (by simp))) (by simp [Value.oneCell']) (by omega) (by unfold maxLen; omega) (by omega) (by simp; omega) (W0.heap.size + 4) (by simp) ?_; intro gg cap w1 hown1 hgrow hat hlt1; obtain ⟨u1, u2, u3, u4, u5⟩ := hTB gg cap w1 hown1 hgrow hat)
                  refine hK.out _ _ (by (first | (with_reducible assumption) | exact u4 | exact u5 | (refine hKS _ ?_; repeat (first | exact hE0 | refine bk_drew ?_ | refine bk_alloc ?_ _ | exact bel_drewN hE0 _)))) (fun hHeld => ?_)
                  clear hK K
                  try simp only [Act.put, List.setIfInBounds_toArray]
                  refine wpAnyH_take (i := 47) (v := ?_) rfl (by kernel_rfl) (by kernel_rfl) (by kernel_rfl) (fun _ _ _ h => h) (Or.inl ⟨by rfl, ?_⟩) (by assumption) ?_
                  rotate_left
                  · intro w hSw; (try dsimp only at hSw); go_simp; all_goals (with_reducible rfl)
                  refine wpAnyH_ready (rs := [48]) (by kernel_rfl) (by simp) ?_
                  refine AllReadyH.cons rfl (fun K hK => ?_) (AllReadyH.nil)
                  go_simp
                  refine hK.out _ _ (by (first | (with_reducible assumption) | exact u4 | exact u5 | (refine hKS _ ?_; repeat (first | exact hE0 | refine bk_drew ?_ | refine bk_alloc ?_ _ | exact bel_drewN hE0 _)))) (fun hHeld => ?_)
                  clear hK K
                  try simp only [Act.put, List.setIfInBounds_toArray, List.set_cons_zero, List.set_cons_succ]
                  refine wpAnyH_done (by kernel_rfl) ?_ _
                  refine NoPanic.normal ?_
                  clear hTA hTB hon c0 hcl cx1 cx2 cx3 cx4 hown1 hgrow hat hlt1 u1 u2 u4 u5 hKS hCL
                  go_wp2_with fail
                  go_roundw
                  all_goals first | exact ⟨j + 1, by omega, by go_num, u3⟩ | (simp [intOf]; omega)
        · obtain rfl : j = n := by omega
          obtain ⟨Zn, Z, na, nc, vn, ea, ec, ve, hBd⟩ := HI.out
          have hpq := hBd.pq (by rw [rgN_length]) (by rw [rgE_length]) (by omega) (by omega)
          obtain ⟨W1, rfl⟩ : ∃ W1, W1 = wr := ⟨wr, rfl⟩
          have HBW := hid_of hBd.bel
          have HPX : Hid (∀ X, Below W1.heap.size W1 X → Row X cb 25 [.slice na j nc, .slice ea j ec] ∧ IsPq (· < W1.heap.size) X na j nc ea j ec (rgN j C) (rgE j C)) := fun X hX => ⟨hBd.r.keep (hX.block cb hBd.r.lt), hpq.keep (fun b hb _ => ⟨hb, hX.block b hb⟩)⟩
          have HCK := hid_of (checkR_c (p := (· < W1.heap.size)) W1 (fun _ h => h) hpq)
          have a0 := hBd.r.cell (k := 0) rfl
          have a1 := hBd.r.cell (k := 1) rfl
          clear hBd hpq HI HCC
          by_cases hc : chkS (rgN j C) (rgE j C) = 0
          · rw [hc] at HCK
            have HC := hid_of hc
            clear hc
            go_wp2_with fail
            refine HCK.out.mono ?_
            rintro e W2 ⟨rfl, hb2⟩
            obtain ⟨hr2, hp2⟩ := HPX.out W2 hb2
            have hSo := solve_ok (p := (· < W1.heap.size)) W2 (fun b hb => by have := hb2.size; omega) hp2 HC.out
            have a0 := hr2.cell (k := 0) rfl
            have a1 := hr2.cell (k := 1) rfl
            have HSO := hid_of hSo
            have HB2 := hid_of hb2
            clear HCK hb2 hr2 hp2 hSo
            go_wp2_with fail
            refine HSO.out.mono ?_
            rintro e W3 ⟨lb, l, rfl, hlb, hrl, hsr, hb3⟩
            have HSR := hid_of hsr
            have HB3 := hid_of (bel_call HB2.out hb3)
            obtain ⟨D, HD⟩ : ∃ D, Hid (costP (rgN j C) (rgE j C) l = D) := ⟨_, (rfl : costP (rgN j C) (rgE j C) l = _)⟩
            rw [HD.out]
            have HNU := hid_of (num_c W3 0)
            clear HSO hlb hrl hsr hb3 a0 a1
            go_wp2_with fail
            refine HNU.out.mono ?_
            rintro e W4 ⟨rfl, rfl⟩
            obtain ⟨hr3, hp3⟩ := HPX.out W4 HB3.out
            have a0 := hr3.cell (k := 0) rfl
            have a1 := hr3.cell (k := 1) rfl
            have HEA := hid_of (easy_c (p := (· < W1.heap.size)) W4 (fun b hb => by have := HB3.out.size; omega) hp3 HC.out)
            clear HNU hr3 hp3
            go_wp2_with fail
            refine HEA.out.mono ?_
            rintro e W5 ⟨b1, rfl, HE1, hb5⟩
            have HRD : Hid (RedP j (edE (rgE j C)) (fun _ => false)) := ring_red hn1 HC.out
            have HBT : Hid (b1 = true) := HE1.out.2 HRD.out
            obtain rfl := HBT.out
            have HB5 := hid_of (bel_call HB3.out hb5)
            obtain ⟨hr5, hp5⟩ := HPX.out W5 HB5.out
            have HBE := hid_of (best_c (p := (· < W1.heap.size)) W5 (fun b hb => by have := HB5.out.size; omega) hp5 HC.out)
            have a0 := hr5.cell (k := 0) rfl
            have a1 := hr5.cell (k := 1) rfl
            have hjj : ((j : Int) == (j : Int)) = true := by simp
            clear HEA HE1 hb5 hr5 hp5
            go_wp2_with fail
            refine HBE.out.mono ?_
            rintro e W6 ⟨B, rfl, HB6, hb6⟩
            have HDB : Hid (D = B) := by
              show D = B
              rw [← HD.out]
              exact best_eq HC.out HSR.out (by rw [rgN_length]; exact HRD.out) HB6.out
            obtain rfl := HDB.out
            have hdd : (D == D) = true := by simp
            have HBF := hid_of (bel_call HBW.out (bel_call HB5.out hb6))
            clear HBE HB6 hb6
            go_wp2_with fail
            go_ret
            exact ⟨rfl, HBF.out⟩
          · obtain ⟨x, Hx⟩ : ∃ x, Hid (chkS (rgN j C) (rgE j C) = x) := ⟨_, (rfl : chkS (rgN j C) (rgE j C) = _)⟩
            rw [Hx.out] at HCK hc
            have hxz : (x != 0) = true := by simpa using hc
            clear hc
            go_wp2_with fail
            refine HCK.out.mono ?_
            rintro e W2 ⟨rfl, hb2⟩
            have HBF := hid_of (bel_call HBW.out hb2)
            clear HCK hb2
            go_wp2_with fail
            go_ret
            exact ⟨rfl, HBF.out⟩
theorem pbqpRings_c (w : World) (n : Int) {ca : Option Addr} {cl cc : Nat} {C : List Int} (hC : IsInts (· < w.heap.size) w (.slice ca cl cc) C) :
    Calls Try.prog 8 #[.int .i64 n, .slice ca cl cc] w fun e w' => e = .returned (.bool true) ∧ Below w.heap.size w w' := by
  by_cases hb : 3 ≤ n ∧ n ≤ 9 ∧ 1 ≤ cl ∧ cl ≤ 100
  · obtain ⟨nN, rfl⟩ : ∃ nN : Nat, n = nN := ⟨n.toNat, by omega⟩
    exact rings_c w nN hC (by omega) (by omega) hb.2.2.1 hb.2.2.2
  · exact rings_out w n (by omega)
end Go.Proofs.Ytdomnbgjafdnjaa
