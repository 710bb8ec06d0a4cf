/- 'LiveUses': the walk. -/
import Derived.Test.YtcihobmjohpnkaaLv17
namespace Go.Proofs.Ytcihobmjohpnkaa
open Go.RowKit Go.Sort

set_option maxRecDepth 100000 in
set_option maxHeartbeats 8000000 in
theorem liveUses_c (w : World) (i : InsD) (a : Option Addr) (len cap : Nat) (h : IsInts (· < w.heap.size) w (.slice a len cap) i.args) :
    Calls Try.prog 6 #[insV i (.slice a len cap)] w fun e w' => e = .returned (.bool true) ∧ Below w.heap.size w w' := by
  obtain ⟨_, _, hv, -, -⟩ := id h
  simp only [Value.slice.injEq] at hv
  obtain ⟨rfl, hlen, rfl⟩ := hv
  have hU := fun W (hh : IsInts (· < W.heap.size) W (.slice a len cap) i.args) (hl : i.args.length ≤ 1000000) => uses_c W i a len cap hh hl
  have hR := fun W (hh : IsInts (· < W.heap.size) W (.slice a len cap) i.args) (hl : i.args.length ≤ 1000000) => regs_c W i (.slice a len cap) hh hl
  have hD := fun W => def_c W i a len cap
  have hE := fun W => refDef_c W i a len cap
  have hul := usesS_length i
  unfold insV at hU hR hD hE ⊢
  obtain ⟨k, d, ia, b, nn, name, args, t, f⟩ := i
  dsimp only at hU hR hD hE hul h hlen ⊢
  obtain ⟨U, HU⟩ : ∃ U, Hid (usesS ⟨k, d, ia, b, nn, name, args, t, f⟩ = U) := ⟨_, (rfl : usesS ⟨k, d, ia, b, nn, name, args, t, f⟩ = _)⟩
  obtain ⟨D, HD⟩ : ∃ D, Hid (defS ⟨k, d, ia, b, nn, name, args, t, f⟩ = D) := ⟨_, (rfl : defS ⟨k, d, ia, b, nn, name, args, t, f⟩ = _)⟩
  rw [HU.out] at hU hR hul
  rw [HD.out] at hD hE
  have HHU := hid_of hU
  have HHR := hid_of hR
  have HHD := hid_of hD
  have HHE := hid_of hE
  have HL := hid_of hlen
  clear hU hR hD hE hlen
  have hal := alive17_c (w.alloc (.cells #[.int .i64 k, .int .i64 d, .int .i64 ia, .int .i64 b, .int .i64 nn, .string name, .slice a len cap, .int .i64 t, .int .i64 f] 36))
  have HAL := hid_of hal
  have hB0 := bel_alloc (bel_refl w) (.cells #[.int .i64 k, .int .i64 d, .int .i64 ia, .int .i64 b, .int .i64 nn, .string name, .slice a len cap, .int .i64 t, .int .i64 f] 36)
  clear hal
  by_cases hbig : (len : Int) > 1000
  · have hd : decide ((len : Int) > 1000) = true := by simpa using hbig
    have hd' : decide (1000 < len) = true := by simp; omega
    go_enter Try.func6, Try.ntmps6
    go_wp2_with fail
    refine HAL.out.mono ?_
    rintro e W ⟨rfl, hb⟩
    have r1 : Row W w.heap.size 36 _ := Row.keep (W := w.alloc _) (heap_alloc_eq w (.cells #[.int .i64 k, .int .i64 d, .int .i64 ia, .int .i64 b, .int .i64 nn, .string name, .slice a len cap, .int .i64 t, .int .i64 f] 36) _ rfl : Row (w.alloc _) w.heap.size 36 [.int .i64 k, .int .i64 d, .int .i64 ia, .int .i64 b, .int .i64 nn, .string name, .slice a len cap, .int .i64 t, .int .i64 f]) (hb.block _ (by simp))
    have c6 := r1.cell (k := 6) rfl
    have hB1 := bel_call hB0 hb
    clear r1 hb hB0
    go_wp2_with fail
    go_ret
    exact ⟨rfl, hB1⟩
  · have hd : decide ((len : Int) > 1000) = false := by simpa using hbig
    have hd' : decide (1000 < len) = false := by simp; omega
    have hlr : args.length ≤ 1000000 := by have := HL.out; omega
    go_enter Try.func6, Try.ntmps6
    go_wp2_with fail
    refine HAL.out.mono ?_
    rintro e W ⟨rfl, hb⟩
    have r1 : Row W w.heap.size 36 [.int .i64 k, .int .i64 d, .int .i64 ia, .int .i64 b, .int .i64 nn, .string name, .slice a len cap, .int .i64 t, .int .i64 f] := Row.keep (W := w.alloc _) (heap_alloc_eq w (.cells #[.int .i64 k, .int .i64 d, .int .i64 ia, .int .i64 b, .int .i64 nn, .string name, .slice a len cap, .int .i64 t, .int .i64 f] 36) _ rfl) (hb.block _ (by simp))
    have c6 := r1.cell (k := 6) rfl
    have hB1 := bel_call hB0 hb
    clear hb hB0
    go_wp2_with fail
    have hS : ∀ X, BkS W X → (X.cell? ⟨w.heap.size, 0, none⟩ = some (.int .i64 k) ∧ X.cell? ⟨w.heap.size, 1, none⟩ = some (.int .i64 d) ∧ X.cell? ⟨w.heap.size, 2, none⟩ = some (.int .i64 ia) ∧ X.cell? ⟨w.heap.size, 3, none⟩ = some (.int .i64 b) ∧ X.cell? ⟨w.heap.size, 4, none⟩ = some (.int .i64 nn) ∧ X.cell? ⟨w.heap.size, 5, none⟩ = some (.string name) ∧ X.cell? ⟨w.heap.size, 6, none⟩ = some (.slice a len cap) ∧ X.cell? ⟨w.heap.size, 7, none⟩ = some (.int .i64 t) ∧ X.cell? ⟨w.heap.size, 8, none⟩ = some (.int .i64 f)) := fun X hX => by
      have r := r1.keep (hX.block _ r1.lt)
      exact ⟨r.cell rfl, r.cell rfl, r.cell rfl, r.cell rfl, r.cell rfl, r.cell rfl, r.cell rfl, r.cell rfl, r.cell rfl⟩
    have hin : ∀ X, BkS W X → IsInts (· < X.heap.size) X (.slice a len cap) args := fun X hX => h.keep (fun b hb hlt => ⟨by have := hX.size; have := hB1.size; show b < X.heap.size; omega, (hX.block b (by have := hB1.size; omega)).trans (hB1.block b hlt)⟩)
    have hUs : ∀ X, BkS W X → Calls Try.prog 36 _ X fun e X' => ∃ z, e = .returned z ∧ IsInts (fun _ => True) X' z U ∧ BkS W X' ∧ Below X.heap.size X X' := fun X hX =>
      (HHU.out X (hin X hX) hlr).mono (by rintro e X' ⟨z, rfl, hz, hb⟩; exact ⟨z, rfl, ints_of_owns hz (by omega) (fun _ _ _ _ => trivial), bel_call hX hb, hb⟩)
    have hRs : ∀ X, BkS W X → Calls Try.prog 37 _ X fun e X' => ∃ z, e = .returned z ∧ IsInts (fun _ => True) X' z U ∧ BkS W X' ∧ Below X.heap.size X X' := fun X hX =>
      (HHR.out X (hin X hX) hlr).mono (by rintro e X' ⟨z, rfl, hz, hb⟩; exact ⟨z, rfl, hz.keep (Keep.refl _ fun _ _ _ => trivial), bel_call hX hb, hb⟩)
    have hSm : ∀ X z1 z2, BkS W X → IsInts (fun _ => True) X z1 U → IsInts (fun _ => True) X z2 U → Calls Try.prog 26 #[z1, z2] X fun e X' => e = .returned (.bool true) ∧ BkS W X' := fun X z1 z2 hX h1 h2 =>
      (sameInts_c X h1 h2).mono (by rintro e X' ⟨rfl, n, rfl⟩; rw [sameS_self]; exact ⟨rfl, bel_drewN hX n⟩)
    have hDs : ∀ X, BkS W X → Calls Try.prog 38 _ X fun e X' => e = .returned (.int .i64 D) ∧ BkS W X' := fun X hX => (HHD.out X).mono (by rintro e X' ⟨rfl, hb⟩; exact ⟨rfl, bel_call hX hb⟩)
    have hEs : ∀ X, BkS W X → Calls Try.prog 39 _ X fun e X' => e = .returned (.int .i64 D) ∧ BkS W X' := fun X hX => (HHE.out X).mono (by rintro e X' ⟨rfl, hb⟩; exact ⟨rfl, bel_call hX hb⟩)
    have hE0 : BkS W W := bel_refl W
    have hE1 : BkS W W.drew := (bel_refl W).drew
    have hDD : (D == D) = true := by simp
    clear c6 r1 hin HHU HHR HHD HHE
    go_region_held3 (fun X => X.cell? ⟨w.heap.size, 0, none⟩ = some (.int .i64 k) ∧ X.cell? ⟨w.heap.size, 1, none⟩ = some (.int .i64 d) ∧ X.cell? ⟨w.heap.size, 2, none⟩ = some (.int .i64 ia) ∧ X.cell? ⟨w.heap.size, 3, none⟩ = some (.int .i64 b) ∧ X.cell? ⟨w.heap.size, 4, none⟩ = some (.int .i64 nn) ∧ X.cell? ⟨w.heap.size, 5, none⟩ = some (.string name) ∧ X.cell? ⟨w.heap.size, 6, none⟩ = some (.slice a len cap) ∧ X.cell? ⟨w.heap.size, 7, none⟩ = some (.int .i64 t) ∧ X.cell? ⟨w.heap.size, 8, none⟩ = some (.int .i64 f))
      ((refine hS _ ?_; with_reducible assumption))
      (first
        | (go_at_call 36; (with_reducible refine (hUs _ ?_).mono ?_); (with_reducible assumption); rintro e Yu ⟨zu, rfl, hzu, hEu, hbu⟩)
        | (go_at_call 37; (with_reducible refine (hRs _ ?_).mono ?_); (with_reducible assumption); rintro e Yr ⟨zr, rfl, hzr, hEr, hbr⟩)
        | (go_at_call 26; (with_reducible refine (hSm _ zu zr ?_ ?_ ?_).mono ?_); (with_reducible assumption); (first | exact hzu.keep (Keep.below hbr) | exact hzu); (first | exact hzr.keep (Keep.below hbu) | exact hzr); rintro e Ys ⟨rfl, hEs2⟩)
        | (go_at_call 38; (with_reducible refine (hDs _ ?_).mono ?_); (with_reducible assumption); rintro e Yd ⟨rfl, hEd⟩)
        | (go_at_call 39; (with_reducible refine (hEs _ ?_).mono ?_); (with_reducible assumption); rintro e Yf ⟨rfl, hEf⟩))
    all_goals
      try go_wp2_with fail
      go_ret
      refine ⟨rfl, bel_call hB1 ?_⟩
      first | exact hEd | exact hEf
end Go.Proofs.Ytcihobmjohpnkaa
