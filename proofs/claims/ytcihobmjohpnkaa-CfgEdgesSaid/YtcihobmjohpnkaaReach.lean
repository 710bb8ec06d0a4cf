/- 'cfg.Reached'. -/
import Derived.Test.YtcihobmjohpnkaaMore
import Derived.Test.YtcihobmjohpnkaaOrderW
namespace Go.Proofs.Ytcihobmjohpnkaa
open Go.RowKit Go.Sort

theorem contains_c {p : Nat → Prop} {v : Value} {xs : List Int} (w : World) (x : Int) (h : IsInts p w v xs) :
    Calls Try.prog 72 #[v, .int .i64 x] w fun e w' => e = .returned (.bool (inS xs x)) ∧ w' = w := by
  obtain ⟨a, cap, rfl, hl, hx⟩ := h
  rcases hx with rfl | ⟨b, off, rfl, hpb, hx⟩
  · exact (Try.slices_Contains_int_empty a cap x w).mono fun e w' h => by rw [inS_nil]; exact h
  · refine (Try.slices_Contains_int b off xs.length cap xs x w (Nat.le_refl _) (by omega) (fun j hj => ?_)).mono fun e w' h => ?_
    · have := hx j hj
      unfold CInt at this
      rw [Nat.mul_one] at this
      rw [this]
      simp [List.getD, hj]
    · rw [List.take_length] at h
      have e : xs.contains x = inS xs x := by unfold inS; rw [Bool.eq_iff_iff]; simp
      rw [e] at h
      exact h

set_option maxRecDepth 100000 in
theorem reached_c {p : Nat → Prop} {v : Value} {l : List (List InsD)} (w : World) (b : Int) (h : IsBlocks p w v l) (hl : l.length ≤ 1000) :
    Calls Try.prog 29 #[v, .int .i64 b] w fun e w' => e = .returned (.bool (inS (orderS l) b)) ∧ Below w.heap.size w w' := by
  have h0 := h
  obtain ⟨a, cap, hv, _, _⟩ := id h
  subst hv
  have hol := orderS_length l
  generalize hO : orderS l = O at hol ⊢
  have HO : Hid (orderS l = O) := hO
  clear hO
  go_enter Try.func29, Try.ntmps29
  go_wp2_with fail
  refine (order_c w h0 hl).mono ?_
  rintro e w2 ⟨u, rfl, ho, hb2⟩
  rw [HO.out] at ho
  go_wp2_with fail
  refine (contains_c w2 b (ints_of_own ho (by omega))).mono ?_
  rintro e w3 ⟨rfl, rfl⟩
  go_wp2
  go_ret
  exact ⟨rfl, hb2⟩
end Go.Proofs.Ytcihobmjohpnkaa
