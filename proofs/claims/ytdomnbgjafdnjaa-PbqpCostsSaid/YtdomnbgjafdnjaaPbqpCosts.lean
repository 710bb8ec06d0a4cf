/- 'PbqpCosts': the walk. -/
import Derived.Test.YtdomnbgjafdnjaaPqX
namespace Go.Proofs.Ytdomnbgjafdnjaa
open Go.RowKit

set_option maxRecDepth 100000 in
set_option maxHeartbeats 8000000 in
theorem pbqpCosts_c (w : World) {na : Option Addr} {nl nc : Nat} {ea : Option Addr} {el ec : Nat} {N : List (List Int)} {E : List EdgeD} {la : Option Addr} {ln lc : Nat} {l : List Int}
    (h : IsPq (· < w.heap.size) w na nl nc ea el ec N E) (hl : IsInts (· < w.heap.size) w (.slice la ln lc) l) :
    Calls Try.prog 3 #[costsV na nl nc ea el ec, .slice la ln lc] w fun e w' => e = .returned (.bool true) ∧ Below w.heap.size w w' := by
  have HP : Hid (∀ X, Below w.heap.size w X → IsPq (· < w.heap.size) X na nl nc ea el ec N E) := fun X hX => h.keep (fun b hb hlt => ⟨hb, hX.block b hb⟩)
  have HL : Hid (∀ X, Below w.heap.size w X → IsInts (· < w.heap.size) X (.slice la ln lc) l) := fun X hX => hl.keep (fun b hb hlt => ⟨hb, hX.block b hb⟩)
  have HAL := hid_of (alive25_c (w.alloc (.cells #[.slice na nl nc, .slice ea el ec] 25)))
  have HB0 := hid_of (bel_alloc (bel_refl w) (.cells #[.slice na nl nc, .slice ea el ec] 25))
  obtain ⟨D, HD⟩ : ∃ D, Hid (costP N E l = D) := ⟨_, (rfl : costP N E l = _)⟩
  clear h hl
  go_enter Try.func3, Try.ntmps3
  go_wp2_with fail
  refine HAL.out.mono ?_
  rintro e W ⟨rfl, hb⟩
  have r1 : Row W w.heap.size 25 [.slice na nl nc, .slice ea el ec] := Row.keep (W := w.alloc (.cells #[.slice na nl nc, .slice ea el ec] 25)) (heap_alloc_eq _ _ _ rfl) (hb.block _ (by simp))
  have hB := bel_call HB0.out hb
  have HBG := hid_of (big25_c (p := (· < w.heap.size)) W (fun b hb => by have := hB.size; omega) (HP.out W hB))
  have a0 := r1.cell (k := 0) rfl
  have a1 := r1.cell (k := 1) rfl
  have HR := hid_of r1
  have HB := hid_of hB
  clear HAL HB0 hb r1 hB
  go_wp2_with fail
  refine HBG.out.mono ?_
  rintro e W1 ⟨⟨bg, rfl⟩, hb⟩
  have r1 := HR.out.keep (hb.block _ HR.out.lt)
  have hB := bel_call HB.out hb
  clear HBG a0 a1 HR HB hb
  cases bg with
  | true =>
    go_wp2_with fail
    go_ret
    exact ⟨rfl, hB⟩
  | false =>
    by_cases h1 : (ln : Int) > 100
    · have d1 : decide ((ln : Int) > 100) = true := by simpa using h1
      have d1' : decide (100 < ln) = true := by simp; omega
      clear h1
      go_wp2_with fail
      go_ret
      exact ⟨rfl, hB⟩
    have d1 : decide ((ln : Int) > 100) = false := by simpa using h1
    have d1' : decide (100 < ln) = false := by simp; omega
    have e0 := r1.cell (k := 0) rfl
    have e1 := r1.cell (k := 1) rfl
    have hl0 := r1.lt
    have hE0 : BkS W1 W1 := bel_refl W1
    have hE1 : BkS W1 W1.drew := bk_drew hE0
    have hKS : ∀ Y, BkS W1 Y → Y.cell? ⟨w.heap.size, 0, none⟩ = some (.slice na nl nc) ∧ Y.cell? ⟨w.heap.size, 1, none⟩ = some (.slice ea el ec) := fun Y hY =>
      ⟨(World.cell?_of_block (a := ⟨w.heap.size, 0, none⟩) (hY.block _ hl0)).trans e0, (World.cell?_of_block (a := ⟨w.heap.size, 1, none⟩) (hY.block _ hl0)).trans e1⟩
    have hCP : ∀ Y, BkS W1 Y → Calls Try.prog 11 #[costsV na nl nc ea el ec, .slice la ln lc] Y fun e w' => e = .returned (.int .i64 D) ∧ BkS W1 w' := fun Y hY => by
      have hBY := bel_call hB hY
      have := costP_c (p := (· < w.heap.size)) Y (fun b hb => by have := hBY.size; omega) (HP.out Y hBY) (HL.out Y hBY)
      rw [HD.out] at this
      exact this.mono (by rintro e w' ⟨rfl, hb⟩; exact ⟨rfl, bel_call hY hb⟩)
    have hCR : ∀ Y, BkS W1 Y → Calls Try.prog 12 #[costsV na nl nc ea el ec, .slice la ln lc] Y fun e w' => e = .returned (.int .i64 D) ∧ BkS W1 w' := fun Y hY => by
      have hBY := bel_call hB hY
      have := costR_c (p := (· < w.heap.size)) Y (fun b hb => by have := hBY.size; omega) (HP.out Y hBY) (HL.out Y hBY)
      rw [HD.out] at this
      exact this.mono (by rintro e w' ⟨rfl, hb⟩; exact ⟨rfl, bel_call hY hb⟩)
    have hDD : (D == D) = true := by simp
    clear h1 e0 e1 r1
    go_wp2_with fail
    go_region_held3 (fun Y => Y.cell? ⟨w.heap.size, 0, none⟩ = some (.slice na nl nc) ∧ Y.cell? ⟨w.heap.size, 1, none⟩ = some (.slice ea el ec))
      ((refine hKS _ ?_; (first | with_reducible assumption | exact hE0 | exact hE1)))
      (first
        | (go_at_call 11; refine (hCP _ ?_).mono ?_; (first | with_reducible assumption | exact hE0 | exact hE1); rintro e5 Y5 ⟨rfl, hE5⟩)
        | (go_at_call 12; refine (hCR _ ?_).mono ?_; (first | with_reducible assumption | exact hE0 | exact hE1); rintro e6 Y6 ⟨rfl, hE6⟩))
    all_goals
      try go_wp2_with fail
      go_ret
      refine ⟨rfl, bel_call hB ?_⟩
      first | exact hE6 | exact hE5
end Go.Proofs.Ytdomnbgjafdnjaa
