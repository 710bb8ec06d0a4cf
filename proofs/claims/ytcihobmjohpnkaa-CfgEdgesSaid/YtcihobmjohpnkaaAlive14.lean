/- The document's example of chapter 14. -/
import Derived.Test.YtcihobmjohpnkaaFlow
import Derived.Test.YtcihobmjohpnkaaMore
import Derived.Test.YtcihobmjohpnkaaOrderR
import Derived.Test.YtcihobmjohpnkaaOrderW
namespace Go.Proofs.Ytcihobmjohpnkaa
open Go.RowKit Go.Sort

theorem alive14_S : sameS (orderS (flowS [[1, 2], [3], [3], []])) [0, 2, 1, 3] = true := by decide
set_option maxRecDepth 100000 in
theorem alive14_c (w : World) : Calls Try.prog 23 #[] w fun e w' => e = .returned (.bool true) ∧ Below w.heap.size w w' := by
  go_enter Try.func23, Try.ntmps23
  go_wp2_with fail
  generalize hW0 : (((w.alloc _).alloc _).alloc _).alloc _ = W0
  have hB0 : Below w.heap.size w W0 := by subst hW0; exact bel_alloc (bel_alloc (bel_alloc (bel_alloc (bel_refl w) _) _) _) _
  have hr : IsRows (w.heap.size ≤ ·) W0 (.slice (some ⟨w.heap.size + 1 + 1 + 1, 0, none⟩) 4 4) [[1, 2], [3], [3], []] := by
    subst hW0
    refine rows_of_row (ll := [[1, 2], [3], [3], []]) (vs := [Value.slice (some { block := w.heap.size, off := 0 }) 2 2, Value.slice (some { block := w.heap.size + 1, off := 0 }) 1 1, Value.slice (some { block := w.heap.size + 1 + 1, off := 0 }) 1 1, Value.slice none 0 0]) (e := 25) (heap_alloc_eq _ _ _ (by simp)) (by omega) rfl (by decide) fun j h1 h2 => ?_
    have h3 : Row ((((w.alloc (Obj.cells #[Value.int IntKind.i64 1, Value.int IntKind.i64 2] 3)).alloc (Obj.cells #[Value.int IntKind.i64 3] 3)).alloc (Obj.cells #[Value.int IntKind.i64 3] 3)).alloc
      (Obj.cells #[Value.slice (some { block := w.heap.size, off := 0 }) 2 2, Value.slice (some { block := w.heap.size + 1, off := 0 }) 1 1, Value.slice (some { block := w.heap.size + 1 + 1, off := 0 }) 1 1, Value.slice none 0 0] 25)) (w.heap.size) 3 (([1, 2] : List Int).map (Value.int .i64)) :=
      heap_alloc_ne _ _ _ _ (heap_alloc_ne _ _ _ _ (heap_alloc_ne _ _ _ _ (heap_alloc_eq _ _ _ (by simp))))
    match j, h1 with
    | 0, _ => exact ints_of_row h3 (Nat.le_refl _) (by decide)
    | 1, _ => exact ints_of_row (xs := [3]) (e := 3) (heap_alloc_ne _ _ _ _ (heap_alloc_ne _ _ _ _ (heap_alloc_eq _ _ _ (by simp)))) (by omega) (by decide)
    | 2, _ => exact ints_of_row (xs := [3]) (e := 3) (heap_alloc_ne _ _ _ _ (heap_alloc_eq _ _ _ (by simp))) (by omega) (by decide)
    | 3, _ => exact ints_nil _ _
  clear hW0
  refine (flow_c W0 hr (by decide)).mono ?_
  rintro e w1 ⟨u, rfl, hbl, hb1⟩
  go_wp2_with fail
  refine (order_c w1 hbl (by simp [flowS])).mono ?_
  rintro e w2 ⟨u2, rfl, ho, hb2⟩
  go_wp2_with fail
  have hi := ints_of_own ho (Nat.le_trans (orderS_length _) (by simp [flowS]))
  have hi2 := hi.keep (Keep.below (bel_alloc (bel_refl w2) (Obj.cells #[Value.int IntKind.i64 0, Value.int IntKind.i64 2, Value.int IntKind.i64 1, Value.int IntKind.i64 3] 3)))
  refine (sameInts_c (ys := [0, 2, 1, 3]) _ hi2 (ints_of_row (p := fun _ => True) (xs := [0, 2, 1, 3]) (e := 3) (heap_alloc_eq _ _ _ rfl) trivial (by decide))).mono ?_
  rintro e w3 ⟨rfl, n, rfl⟩
  rw [alive14_S]
  have hb := bel_drewN (bel_alloc (bel_call (bel_call hB0 hb1) hb2) (Obj.cells #[Value.int IntKind.i64 0, Value.int IntKind.i64 2, Value.int IntKind.i64 1, Value.int IntKind.i64 3] 3)) n
  go_wp2
  go_ret
  exact ⟨rfl, hb⟩
end Go.Proofs.Ytcihobmjohpnkaa
