/- The document's example of chapter 19. -/
import Derived.Test.YtcihobmjohpnkaaCostW
namespace Go.Proofs.Ytcihobmjohpnkaa
open Go.RowKit Go.Sort

def alive19L : List (List InsD) := [[⟨8, 0, 0, 0, 0, ⟨#[]⟩, [], 1, 0⟩], [⟨5, 0, 0, 0, 0, ⟨#[]⟩, [], 0, 0⟩, ⟨8, 0, 0, 0, 0, ⟨#[]⟩, [], 1, 0⟩]]
theorem alive19_S : costS 1 alive19L = [20] := by decide +kernel
theorem wt_two : wtS 2 = 100 := by decide

set_option maxRecDepth 100000 in
set_option maxHeartbeats 4000000 in
theorem alive19_c (w : World) : Calls Try.prog 63 #[] w fun e w' => e = .returned (.bool true) ∧ Below w.heap.size w w' := by
  go_enter Try.func63, Try.ntmps63
  go_wp2_with fail
  generalize hW : World.alloc _ _ = W
  have hB : Below w.heap.size w W := by rw [← hW]; exact bel_alloc (bel_alloc (bel_alloc (bel_alloc (bel_alloc (bel_refl w) _) _) _) _) _
  have hs : W.heap.size = w.heap.size + 5 := by rw [← hW]; simp
  have hk1 : Row W (w.heap.size + 1) 36 [.int .i64 8, .int .i64 0, .int .i64 0, .int .i64 0, .int .i64 0, .string ⟨#[]⟩, .slice none 0 0, .int .i64 1, .int .i64 0] := by
    rw [← hW]; exact heap_alloc_ne _ _ _ _ (heap_alloc_ne _ _ _ _ (heap_alloc_ne _ _ _ _ (heap_alloc_eq _ _ _ (by simp))))
  have hk2 : Row W (w.heap.size + 1 + 1) 36 [.int .i64 5, .int .i64 0, .int .i64 0, .int .i64 0, .int .i64 0, .string ⟨#[]⟩, .slice none 0 0, .int .i64 0, .int .i64 0, .int .i64 8, .int .i64 0, .int .i64 0, .int .i64 0, .int .i64 0, .string ⟨#[]⟩, .slice none 0 0, .int .i64 1, .int .i64 0] := by
    rw [← hW]; exact heap_alloc_ne _ _ _ _ (heap_alloc_ne _ _ _ _ (heap_alloc_eq _ _ _ (by simp)))
  have hk3 : Row W (w.heap.size + 1 + 1 + 1) 40 [.slice (some ⟨w.heap.size + 1, 0, none⟩) 1 1, .slice (some ⟨w.heap.size + 1 + 1, 0, none⟩) 2 2] := by
    rw [← hW]; exact heap_alloc_ne _ _ _ _ (heap_alloc_eq _ _ _ (by simp))
  clear hW
  have hbl : IsBlocks (· < W.heap.size) W (.slice (some ⟨w.heap.size + 1 + 1 + 1, 0, none⟩) 2 2) alive19L := by
    refine ⟨_, 2, rfl, ⟨by simp [alive19L], by simp [alive19L]⟩, .inr ⟨w.heap.size + 1 + 1 + 1, 0, rfl, by show w.heap.size + 1 + 1 + 1 < W.heap.size; omega, fun j hj => ?_⟩⟩
    have : j = 0 ∨ j = 1 := by simp [alive19L] at hj; omega
    rcases this with rfl | rfl
    · refine ⟨_, hk3.cell (k := 0) rfl, _, 1, rfl, ⟨by simp [alive19L], by simp [alive19L]⟩, .inr ⟨w.heap.size + 1, 0, rfl, by show w.heap.size + 1 < W.heap.size; omega, fun j hj => ?_⟩⟩
      have : j = 0 := by simp [alive19L] at hj; omega
      subst this
      exact ⟨hk1.cell (k := 0) rfl, hk1.cell (k := 1) rfl, hk1.cell (k := 2) rfl, hk1.cell (k := 3) rfl, hk1.cell (k := 4) rfl, hk1.cell (k := 5) rfl, ⟨_, hk1.cell (k := 6) rfl, ints_nil _ _⟩, hk1.cell (k := 7) rfl, hk1.cell (k := 8) rfl⟩
    · refine ⟨_, hk3.cell (k := 1) rfl, _, 2, rfl, ⟨by simp [alive19L], by simp [alive19L]⟩, .inr ⟨w.heap.size + 1 + 1, 0, rfl, by show w.heap.size + 1 + 1 < W.heap.size; omega, fun j hj => ?_⟩⟩
      have : j = 0 ∨ j = 1 := by simp [alive19L] at hj; omega
      rcases this with rfl | rfl
      · exact ⟨hk2.cell (k := 0) rfl, hk2.cell (k := 1) rfl, hk2.cell (k := 2) rfl, hk2.cell (k := 3) rfl, hk2.cell (k := 4) rfl, hk2.cell (k := 5) rfl, ⟨_, hk2.cell (k := 6) rfl, ints_nil _ _⟩, hk2.cell (k := 7) rfl, hk2.cell (k := 8) rfl⟩
      · exact ⟨hk2.cell (k := 9) rfl, hk2.cell (k := 10) rfl, hk2.cell (k := 11) rfl, hk2.cell (k := 12) rfl, hk2.cell (k := 13) rfl, hk2.cell (k := 14) rfl, ⟨_, hk2.cell (k := 15) rfl, ints_nil _ _⟩, hk2.cell (k := 16) rfl, hk2.cell (k := 17) rfl⟩
  have hbd : ∀ l ∈ alive19L, l.length ≤ 100000 ∧ ∀ i ∈ l, (usesS i).length ≤ 1000002 := by
    intro l hl
    simp only [alive19L, List.mem_cons, List.not_mem_nil, or_false] at hl
    rcases hl with rfl | rfl
    · exact ⟨by simp, fun i hi => by simp at hi; subst hi; decide⟩
    · exact ⟨by simp, fun i hi => by simp at hi; rcases hi with rfl | rfl <;> decide⟩
  have hC := costs_c W ⟨#[]⟩ (some ⟨w.heap.size, 0, none⟩) 1 1 none 0 0 ⟨#[]⟩ (some ⟨w.heap.size + 1 + 1 + 1, 0, none⟩) 2 2 hbl (by omega) (by omega) hbd
  rw [alive19_S] at hC
  unfold funcV at hC
  clear hbl hbd hk1 hk2 hk3 hs
  refine hC.mono ?_
  rintro e W1 ⟨g, rfl, hg, hr, hb1⟩
  have HB1 := hid_of (bel_call hB hb1)
  have HI : Hid (IsInts (fun _ => True) W1 (.slice (some ⟨g, 0, none⟩) 1 1) [20]) := ints_of_row (xs := [20]) hr trivial (by simp)
  have HWt := hid_of (fun X => weight_c X 2)
  rw [wt_two] at HWt
  clear hC hr hb1 hB hg
  go_wp2_with fail
  refine (sameInts_c (ys := [20]) _ (HI.out.keep (Keep.below (bel_alloc (bel_refl W1) _))) (ints_of_row (p := fun _ => True) (xs := [20]) (e := 3) (heap_alloc_eq _ _ _ rfl) trivial (by decide))).mono ?_
  rintro e w3 ⟨rfl, n, rfl⟩
  rw [sameS_self]
  have HB3 := hid_of (bel_drewN (bel_alloc HB1.out (.cells #[.int .i64 20] 3)) n)
  clear HI
  go_wp2_with fail
  refine (HWt.out _).mono ?_
  rintro e w4 ⟨rfl, rfl⟩
  go_wp2_with fail
  go_ret
  exact ⟨rfl, HB3.out⟩
end Go.Proofs.Ytcihobmjohpnkaa
