/- The reference's step back: the walk. -/
import Derived.Test.YtcihobmjohpnkaaRfP
namespace Go.Proofs.Ytcihobmjohpnkaa
open Go.RowKit Go.Sort

theorem putS_length (l : List Int) (n : Int) : (putS l n).length ≤ l.length + 1 := by
  unfold putS
  split
  · rw [List.length_append]
    have : (l.takeWhile fun x => decide (x < n)).length + (l.dropWhile fun x => decide (x < n)).length = l.length := by
      rw [← List.length_append, List.takeWhile_append_dropWhile]
    cases hd : l.dropWhile fun x => decide (x < n) with
    | nil => rw [hd] at this; simp at this ⊢; omega
    | cons x r =>
      rw [hd] at this
      dsimp only
      split <;> simp at this ⊢ <;> omega
  · omega
theorem fold_put_length (us : List Int) : ∀ l, (us.foldl putS l).length ≤ l.length + us.length := by
  induction us with
  | nil => intro l; simp
  | cons n us ih => intro l; rw [List.foldl_cons]; have := ih (putS l n); have := putS_length l n; simp; omega
theorem fold_put_snoc (us : List Int) (n : Int) (l : List Int) : (us ++ [n]).foldl putS l = putS (us.foldl putS l) n := by rw [List.foldl_append]; rfl

set_option maxRecDepth 100000 in
set_option maxHeartbeats 4000000 in
theorem backR_c {va : Value} {xs : List Int} (w : World) (i : InsD) (a : Option Addr) (len cap : Nat) (h : IsInts (· < w.heap.size) w (.slice a len cap) i.args) (hla : i.args.length ≤ 400000) (hx : IsInts (· < w.heap.size) w va xs) (hl : xs.length ≤ 400000) :
    Calls Try.prog 83 #[insV i (.slice a len cap), va] w fun e w' => ∃ z, e = .returned z ∧ IsInts (w.heap.size ≤ ·) w' z (backI xs i) ∧ Below w.heap.size w w' := by
  have hD := fun W => refDef_c W i a len cap
  have hR := fun W (hh : IsInts (· < w.heap.size) W (.slice a len cap) i.args) => regs_c W i (.slice a len cap) hh (by omega)
  have hul := usesS_length i
  unfold backI
  unfold insV at hD hR ⊢
  obtain ⟨k, d, ia, b, nn, name, args, t, f⟩ := i
  dsimp only at hD hR hla h ⊢
  generalize defS _ = D at hD ⊢
  generalize usesS _ = U at hR hul ⊢
  dsimp only at hul
  have hUl : U.length ≤ 400002 := by omega
  have HD := hid_of hD
  have HR := hid_of hR
  obtain ⟨xa, xc, rfl, -, -⟩ := id hx
  clear hD hR hul
  go_enter Try.func83, Try.ntmps83
  go_wp2_with fail
  generalize hW : (w.alloc _) = W
  have hB : Below w.heap.size w W := by rw [← hW]; exact bel_alloc (bel_refl w) _
  have hs : W.heap.size = w.heap.size + 1 := by rw [← hW]; simp
  have hk1 : Row W w.heap.size 36 [.int .i64 k, .int .i64 d, .int .i64 ia, .int .i64 b, .int .i64 nn, .string name, .slice a len cap, .int .i64 t, .int .i64 f] := by rw [← hW]; exact heap_alloc_eq _ _ _ rfl
  clear hW
  refine (HD.out W).mono ?_
  rintro e W1 ⟨rfl, hb1⟩
  have hB1 := bel_call hB hb1
  have hk2 := hk1.keep (hb1.block _ hk1.lt)
  have hs1 := hb1.size
  clear hk1 hB hb1 HD
  go_wp2_with fail
  generalize hW2 : (W1.alloc _) = W2
  have hb2 : Below W1.heap.size W1 W2 := by rw [← hW2]; exact bel_alloc (bel_refl W1) _
  have hs2 : W2.heap.size = W1.heap.size + 1 := by rw [← hW2]; simp
  have hr2 : Row W2 W1.heap.size 3 [.int .i64 D] := by rw [← hW2]; exact heap_alloc_eq _ _ _ rfl
  have hB2 := bel_call hB1 hb2
  have hk3 := hk2.keep (hb2.block _ hk2.lt)
  have hd2 : IsInts (· < W2.heap.size) W2 (.slice (some ⟨W1.heap.size, 0, none⟩) 1 1) [D] := ints_of_row (xs := [D]) hr2 hr2.lt (by simp)
  have hx2 := hx.keep (p' := (· < W2.heap.size)) (fun b hb hlt => ⟨by have := hB2.size; show b < W2.heap.size; omega, hB2.block b hb⟩)
  clear hW2 hr2 hk2 hB1 hb2
  refine (filter_c W2 false hx2 hd2 (by omega)).mono ?_
  rintro e W3 ⟨z, rfl, hz, hb3⟩
  have hB3 := bel_call hB2 hb3
  have hk4 := hk3.keep (hb3.block _ hk3.lt)
  have hfl := filterS_length xs [D] false
  have hi3 : IsInts (w.heap.size ≤ ·) W3 z (filterS xs [D] false) := ints_of_owns hz (by omega) (fun _ _ h1 _ => by omega)
  have hs3 := hb3.size
  obtain ⟨za, zc, rfl, -⟩ := owns_slice hz
  obtain ⟨F, HF⟩ : ∃ F, Hid (filterS xs [D] false = F) := ⟨_, (rfl : filterS xs [D] false = _)⟩
  rw [HF.out] at hi3 hfl hz ⊢
  clear hk3 hB2 hb3 hz hx2 hd2 hx
  have d0 := hk4.cell (k := 0) rfl
  have d1 := hk4.cell (k := 1) rfl
  have d2 := hk4.cell (k := 2) rfl
  have d3 := hk4.cell (k := 3) rfl
  have d4 := hk4.cell (k := 4) rfl
  have d5 := hk4.cell (k := 5) rfl
  have d6 := hk4.cell (k := 6) rfl
  have d7 := hk4.cell (k := 7) rfl
  have d8 := hk4.cell (k := 8) rfl
  have hc3 := h.keep (Keep.belowB hB3)
  go_wp2_with fail
  refine (HR.out W3 hc3).mono ?_
  rintro e W4 ⟨u, rfl, hu, hb4⟩
  obtain ⟨ua, uc, rfl, -, hux⟩ := id hu
  have hB4 := bel_call hB3 hb4
  have hi4 := hi3.keep (p' := (w.heap.size ≤ ·)) (Keep.below hb4)
  have hs4 := hb4.size
  clear HR hc3 hk4 d0 d1 d2 d3 d4 d5 d6 d7 d8 hb4 hi3 hB3
  go_wp2_with fail
  go_loopw [6, 8] (fun s6 s8 wr => ∃ j : Nat, j ≤ U.length ∧ s8 = .int .i64 j ∧ IsInts (w.heap.size ≤ ·) wr s6 ((U.take j).foldl putS F) ∧ Below W4.heap.size W4 wr) (fun _ s8 _ => U.length - (intOf s8).toNat)
  case atStart => exact ⟨0, by omega, rfl, hi4, bel_refl _⟩
  case round =>
    obtain ⟨j, hj, rfl, hi5, hB5⟩ := hrel
    obtain ⟨sa, sc, rfl, -, -⟩ := id hi5
    by_cases hlt : j < U.length
    · rcases hux with hux | ⟨g, off, rfl, hpg, hux⟩
      · rw [hux] at hlt; simp at hlt
      have c1 := hux j hlt
      unfold CInt at c1
      rw [Nat.mul_one] at c1
      have hgl := lt_of_cell c1
      replace c1 := (hB5.cell (p := ⟨g, off + j, none⟩) hgl).trans c1
      have hgl2 := lt_of_cell c1
      have HE : Hid ((U.take (j + 1)).foldl putS F = putS ((U.take j).foldl putS F) U[j]) := by
        rw [List.take_succ_eq_append_getElem hlt]; exact fold_put_snoc _ _ _
      have hfl2 := fold_put_length (U.take j) F
      have htl : (U.take j).length ≤ U.length := by simp; omega
      have HP := hid_of (put_c wr U[j] hi5 (by omega))
      obtain ⟨x, hx⟩ : ∃ x, U[j] = x := ⟨_, rfl⟩
      rw [hx] at c1 HE HP
      clear hux hx hfl2 htl hi5
      go_wp2_with fail
      refine HP.out.mono ?_
      rintro e W6 ⟨z, rfl, hz, hb6⟩
      rw [← HE.out] at hz
      have hsz := hB5.size
      have hz2 := hz.keep (p' := (w.heap.size ≤ ·)) (Keep.refl W6 fun b hb _ => by rcases hb with hb | hb <;> omega)
      have hB6 := bel_call hB5 hb6
      clear HP hz hb6 hB5 HE c1
      go_wp2_with fail
      go_roundw
      case rel => exact ⟨j + 1, by omega, by go_num, hz2, hB6⟩
      case measure => simp [intOf]; omega
    · obtain rfl : j = U.length := by omega
      rw [List.take_length] at hi5 ⊢
      have hB6 := bel_call hB4 hB5
      have hi6 := hi5
      rw [← HF.out] at hi6
      have HI6 := hid_of hi6
      clear hi5 hi6
      go_wp2_with fail
      go_ret
      exact ⟨_, rfl, by rw [← HF.out]; exact HI6.out, hB6⟩
end Go.Proofs.Ytcihobmjohpnkaa
