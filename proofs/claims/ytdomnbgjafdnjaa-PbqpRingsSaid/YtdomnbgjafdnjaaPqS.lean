/- The solver's small parts: the least number's place, a copy, the neighbours. -/
import Derived.Test.YtdomnbgjafdnjaaPqB
import Derived.Shelf.AbstractIn
namespace Go.Proofs.Ytdomnbgjafdnjaa
open Go.RowKit Go.Maps Go.Sort Go.Shelf

/-- The place of the least number, the first of them. -/
def leastK (v : List Int) : Nat → Nat
  | 0 => 0
  | i + 1 => if v.getD i 0 < v.getD (leastK v i) 0 then i else leastK v i
def leastS (v : List Int) : Nat := leastK v v.length
theorem leastK_le (v : List Int) (i : Nat) : leastK v i ≤ i := by
  induction i with
  | zero => exact Nat.le_refl _
  | succ i ih => unfold leastK; split <;> omega
theorem leastK_lt {v : List Int} {i : Nat} (hi : i ≤ v.length) (h0 : 0 < v.length) : leastK v i < v.length := by
  induction i with
  | zero => exact h0
  | succ i ih =>
    unfold leastK
    split
    · omega
    · exact ih (by omega)
theorem leastS_lt {v : List Int} (h0 : 0 < v.length) : leastS v < v.length := leastK_lt (Nat.le_refl _) h0

set_option maxRecDepth 100000 in
theorem least_c {p : Nat → Prop} {a : Option Addr} {n cap : Nat} {xs : List Int} (w : World) (h : IsInts p w (.slice a n cap) xs) :
    Calls Try.prog 41 #[.slice a n cap] w fun e w' => e = .returned (.int .i64 (leastS xs : Nat)) ∧ ∃ q, w' = w.drewN q := by
  have HN := hid_of (sl_len h).1
  have hnb := (sl_len h).2.2
  have HX := hid_of h
  obtain ⟨B, HB⟩ : ∃ B, Hid (leastS xs = B) := ⟨_, (rfl : leastS xs = _)⟩
  rw [HB.out]
  clear h
  go_enter Try.func41, Try.ntmps41
  go_wp2_with fail
  go_loopw [3, 7] (fun s3 s7 wx => ∃ k m q : Nat, k ≤ n ∧ s7 = .int .i64 k ∧ s3 = .int .i64 m ∧ Hid (leastK xs k = m) ∧ wx = w.drewN q) (fun _ s7 _ => n - (intOf s7).toNat)
  case atStart => exact ⟨0, 0, 0, by omega, rfl, rfl, by show _ = _; rfl, rfl⟩
  case round =>
    obtain ⟨k, m, q, hk, rfl, rfl, HM, rfl⟩ := hrel
    by_cases hlt : k < n
    · have hkx : k < xs.length := by have := HN.out; omega
      have hmx : m < xs.length := by rw [← HM.out]; exact leastK_lt (by omega) (by omega)
      obtain ⟨b, off, rfl, -, c1⟩ := ints_at HX.out hkx
      obtain ⟨b', off', ha, -, c2⟩ := ints_at HX.out hmx
      simp only [Option.some.injEq, Addr.mk.injEq, and_true] at ha
      obtain ⟨rfl, rfl⟩ := ha
      have hls : leastK xs (k + 1) = if xs.getD k 0 < xs.getD m 0 then k else m := by rw [← HM.out]; rfl
      obtain ⟨x, Hx⟩ : ∃ x, Hid (xs.getD k 0 = x) := ⟨_, (rfl : xs.getD k 0 = _)⟩
      obtain ⟨y, Hy⟩ : ∃ y, Hid (xs.getD m 0 = y) := ⟨_, (rfl : xs.getD m 0 = _)⟩
      rw [Hx.out] at c1 hls
      rw [Hy.out] at c2 hls
      have HLS := hid_of hls
      have hkz : (k : Int) < (n : Int) := by omega
      have hmz : (m : Int) < (n : Int) := by have := HN.out; omega
      clear hls hmx hkx
      by_cases h0 : x < y
      · have d0 : decide (x < y) = true := by simpa using h0
        have HO : Hid (leastK xs (k + 1) = k) := by show _ = _; rw [HLS.out, if_pos h0]
        clear h0
        go_wp2_with fail
        go_quiet (fail)
        go_wp2_with fail
        go_roundw
        case rel => exact ⟨k + 1, k, _, by omega, by go_num, rfl, HO, rfl⟩
        case measure => simp [intOf]; omega
      · have d0 : decide (x < y) = false := by simpa using h0
        have HO : Hid (leastK xs (k + 1) = m) := by show _ = _; rw [HLS.out, if_neg h0]
        clear h0
        go_wp2_with fail
        go_quiet (fail)
        go_wp2_with fail
        go_roundw
        case rel => exact ⟨k + 1, m, _, by omega, by go_num, rfl, HO, rfl⟩
        case measure => simp [intOf]; omega
    · obtain rfl : k = n := by omega
      have HF : Hid (B = m) := by show _ = _; rw [← HB.out, ← HM.out]; unfold leastS; rw [HN.out]
      go_wp2_with fail
      go_ret
      exact ⟨by rw [HF.out]; rfl, _, rfl⟩
theorem zeroSz (w : World) : (Go.sizeOf 3).run Try.prog w = .ok 1 w := by kernel_rfl
theorem cloneI_c {p : Nat → Prop} {a : Option Addr} {n cap : Nat} {xs : List Int} (w : World) (h : IsInts p w (.slice a n cap) xs) (hne : 0 < xs.length) (hm : xs.length ≤ 1000000) :
    Calls Try.prog 34 #[.slice a n cap] w fun e w' => ∃ v', e = .returned v' ∧ w'.ownsRow w.heap.size 3 1 v' xs.length (ints xs) ∧ Below w.heap.size w w' := by
  obtain ⟨i0, hi, hz0, hz1, hz2⟩ := info_parts infoInt
  have hn := (sl_len h).1
  obtain ⟨b, off, rfl, -, hc⟩ := sl_at h hne
  subst hn
  refine (AnyE.slices_Clone Try.laysCloneI i0 (.int .i64 0) 1 8 hi hz0 hz1 hz2 rfl (by decide) zeroSz b off xs.length cap (ints xs) w (by simp) (by unfold maxLen; omega) (by omega) ?_ ?_).mono ?_
  · intro j u hj
    have hjx : j < xs.length := by
      have := List.getElem?_eq_some_iff.1 hj
      obtain ⟨h1, -⟩ := this
      simpa using h1
    have := hc j hjx
    unfold CInt at this
    rw [Nat.mul_one] at this
    simp [ints, hjx] at hj
    rw [this, hj]
  · intro u hu
    obtain ⟨x, -, rfl⟩ := List.mem_map.1 hu
    rfl
  · rintro e w' ⟨v', rfl, ho, -, hb⟩
    exact ⟨v', rfl, ho, hb⟩
theorem cloneV_c {p : Nat → Prop} {a : Option Addr} {n cap : Nat} {xs : List Int} (w : World) (h : IsInts p w (.slice a n cap) xs) (hne : 0 < xs.length) (hm : xs.length ≤ 1000000) :
    Calls Try.prog 38 #[.slice a n cap] w fun e w' => ∃ v', e = .returned v' ∧ w'.ownsRow w.heap.size 3 1 v' xs.length (ints xs) ∧ Below w.heap.size w w' := by
  obtain ⟨i0, hi, hz0, hz1, hz2⟩ := info_parts infoInt
  have hn := (sl_len h).1
  obtain ⟨b, off, rfl, -, hc⟩ := sl_at h hne
  subst hn
  refine (AnyE.slices_Clone Try.laysCloneV i0 (.int .i64 0) 1 8 hi hz0 hz1 hz2 rfl (by decide) zeroSz b off xs.length cap (ints xs) w (by simp) (by unfold maxLen; omega) (by omega) ?_ ?_).mono ?_
  · intro j u hj
    have hjx : j < xs.length := by
      have := List.getElem?_eq_some_iff.1 hj
      obtain ⟨h1, -⟩ := this
      simpa using h1
    have := hc j hjx
    unfold CInt at this
    rw [Nat.mul_one] at this
    simp [ints, hjx] at hj
    rw [this, hj]
  · intro u hu
    obtain ⟨x, -, rfl⟩ := List.mem_map.1 hu
    rfl
  · rintro e w' ⟨v', rfl, ho, -, hb⟩
    exact ⟨v', rfl, ho, hb⟩

theorem sortsA (m : Nat) : AnyZI.SortsIn Try.prog Try.laysSorted_ren Fence.wide m :=
  ⟨fun blk off cap ss W hH hblk hsz => callsIn_wide.2 (AnyM.slices_Sort_int Try.laysSort blk off cap ss W hH hblk hsz),
   fun p cap W => callsIn_wide.2 (AnyM.slices_Sort_int_none Try.laysSort p cap W)⟩

set_option maxRecDepth 100000 in
set_option maxHeartbeats 2000000 in
/-- A node's neighbours, rising. -/
theorem around_c {H : Type} (b nn : Nat) (D0 : DataW H) (R : Value → Option (DataW H × List MemPlace)) (w : World) (hown : w.ownsMap Try.prog 3 R b nn D0) (hmax : Maps.size D0 ≤ maxLen) (hbytes : Maps.size D0 * 8 ≤ 140737488355328)
    (sb mb mo mn mc j : Nat) (q1 : w.cell? ⟨sb, 1, none⟩ = some (.slice (some ⟨mb, mo, none⟩) mn mc)) (hj : j < mn) (q2 : w.cell? ⟨mb, mo + j, none⟩ = some (.map (some b))) :
    Calls Try.prog 36 #[.pointer (some ⟨sb, 0, none⟩), .int .i64 (j : Int)] w fun e w' => ∃ (v : Value) (ss : List Int), e = .returned v ∧ ss.Perm (intKeys D0) ∧
      w'.ownsRow w.heap.size 3 1 v ss.length ((ss.mergeSort (fun x y => decide (x ≤ y))).map encZ) ∧ (v = .slice none 0 0 ↔ ss = []) ∧ Below w.heap.size w w' := by
  refine (callsIn_wide (n := 6)).1 ?_
  have hbl := hown.lt
  have hseq : SeqGives Fence.wide 2 Try.prog 53 #[.pointer (some ⟨w.heap.size, 0, none⟩)] encZ (fun ss => ss.Perm (intKeys D0)) (Maps.size D0) (w.alloc (.cells #[.map (some b)] 67)) :=
    AnyZI.keys_gives (ρ := Try.laysKeysM_ren) { Try.laysKeysM with } Fence.wide _ trivial rfl (by omega) w.heap.size b nn D0 _ (by simp) (by simp) (by
      obtain ⟨es, clock, hb, Ft, hs, hD⟩ := hown
      exact ⟨es, clock, (Below.heap_alloc _ _ b hbl).trans hb, Ft, hs, hD⟩)
  have cK : ∀ mb W, CallsIn Fence.wide 5 Try.prog 49 #[.map mb] W fun e w' => e = .returned (.func (.func 53) #[] #[.pointer (some ⟨W.heap.size, 0, none⟩)]) ∧ w' = W.alloc (.cells #[.map mb] 67) := fun mb W => AnyZI.keys_in Try.laysKeysM Fence.wide 5 trivial rfl mb W
  have cS := AnyZI.sorted_in Try.laysSorted Fence.wide 5 trivial trivial trivial trivial rfl (by omega) (sortsA _) (enters_of Try.func46 (by kernel_rfl) rfl) 53 #[.pointer (some ⟨w.heap.size, 0, none⟩)] trivial (enters_of Try.func53 (by kernel_rfl) rfl) _ _ hmax hbytes _ hseq
  change CallsIn _ _ Try.prog 32 _ _ _ at cS
  have hfK : Fence.wide.fn 49 := trivial
  have hfS : Fence.wide.fn 32 := trivial
  have hjz : (j : Int) < (mn : Int) := by omega
  refine callsIn_of_wp Try.func36 rfl trivial ?_ rfl
  simp only [Try.ntmps36, List.size_toArray, List.length_cons, List.length_nil, Nat.reduceAdd, Nat.reduceSub, Array.replicate_succ, Array.replicate_zero, List.push_toArray, List.append_toArray, List.nil_append, List.cons_append]
  gi_wp2_with (first
    | (gi_at_call 49; refine (cK _ _).mono ?_; rintro e w' ⟨rfl, rfl⟩)
    | (gi_at_call 32; refine cS.mono ?_; rintro e w' ⟨v, ss, rfl, hS, hrow, hnil, hb⟩))
  go_ret
  exact ⟨v, ss, rfl, hS, ownsRow_base_a hrow (by simp), hnil, ((Below.refl _ w).alloc (Nat.le_refl _) _).trans (hb.mono (by simp))⟩
end Go.Proofs.Ytdomnbgjafdnjaa
