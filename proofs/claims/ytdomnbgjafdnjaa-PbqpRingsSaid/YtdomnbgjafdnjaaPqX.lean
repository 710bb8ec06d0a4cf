/- What the laws of chapter 25 call: the document's example, 'Big', 'num'; what is chosen costs the least. -/
import Derived.Test.YtdomnbgjafdnjaaPqW
namespace Go.Proofs.Ytdomnbgjafdnjaa
open Go.RowKit

theorem num_c (w : World) (x : Int) : Calls Try.prog 15 #[.int .i64 x] w fun e w' => e = .returned (.int .i64 x) ∧ w' = w := by
  go_enter Try.func15, Try.ntmps15
  go_wp2_with fail
  go_ret
  exact ⟨rfl, rfl⟩

section
variable {N : List (List Int)}
theorem chosen_length : (chosen N).length = N.length := ldone_length N 0
theorem chosen_get {k : Nat} (h : k < N.length) : (chosen N).getD k 0 = ((leastS (N.getD k []) : Nat) : Int) := by
  unfold chosen ldone
  simp [List.getD, h]
theorem chosen_nT {k : Nat} (h : k < N.length) : nT N (chosen N) k = (N.getD k []).getD (leastS (N.getD k [])) 0 := by
  unfold nT; rw [chosen_get h, Int.toNat_natCast]
theorem chosen_in (hc : chkS N [] = 0) : allIn N (chosen N) N.length = true := by
  unfold allIn
  rw [List.all_eq_true]
  intro k hk
  have hk := List.mem_range.1 hk
  have h1 := leastS_lt (v := N.getD k []) (by have := ((chk_ok hc).2.2.1 _ (mem_getD (d := []) hk)).2.1; omega)
  unfold inB
  rw [chosen_get hk, Bool.and_eq_true, decide_eq_true_eq, decide_eq_true_eq]
  omega
theorem costP_chosen (hc : chkS N [] = 0) : costP N [] (chosen N) = min (nSum N (chosen N) N.length) infC := by
  unfold costP
  rw [if_neg (by rw [hc, chosen_length]; simp), chosen_length, if_pos (chosen_in hc)]
  simp [eSum]
end

def alive25N : List (List Int) := [[5, 3]]
theorem alive25_chk : chkS alive25N [] = 0 := by decide
theorem alive25_ch : chosen alive25N = [1] := by decide
theorem alive25_cost : costP alive25N [] (chosen alive25N) = 3 := by decide

set_option maxRecDepth 100000 in
set_option maxHeartbeats 4000000 in
theorem alive25_c (w : World) : Calls Try.prog 9 #[] w fun e w' => e = .returned (.bool true) ∧ Below w.heap.size w w' := by
  have HNU := hid_of num_c
  go_enter Try.func9, Try.ntmps9
  go_wp2_with fail
  generalize hW : World.alloc _ _ = W
  have hB : Below w.heap.size w W := by rw [← hW]; exact bel_alloc (bel_alloc (bel_refl w) _) _
  have hk1 : Row W w.heap.size 3 (ints [5, 3]) := by rw [← hW]; exact heap_alloc_ne _ _ _ _ (heap_alloc_eq _ _ _ rfl)
  have hk2 : Row W (w.heap.size + 1) 26 [.slice (some ⟨w.heap.size, 0, none⟩) 2 2] := by rw [← hW]; exact heap_alloc_eq _ _ _ (by simp)
  clear hW
  have hpq : IsPq (· < W.heap.size) W (some ⟨w.heap.size + 1, 0, none⟩) 1 1 none 0 0 alive25N [] := by
    refine ⟨⟨_, 1, rfl, ⟨by simp [alive25N], by simp [alive25N]⟩, .inr ⟨w.heap.size + 1, 0, rfl, hk2.lt, fun j hj => ?_⟩⟩, ⟨none, 0, rfl, ⟨by simp, by simp⟩, .inl rfl⟩⟩
    have : j = 0 := by simp [alive25N] at hj; omega
    subst this
    exact ⟨_, hk2.cell (k := 0) rfl, ints_of_row (xs := [5, 3]) hk1 hk1.lt (by simp)⟩
  have hS := solve_c (p := (· < W.heap.size)) W (fun b hb => hb) hpq alive25_chk
  rw [alive25_cost, alive25_ch] at hS
  clear hpq hk1 hk2
  refine hS.mono ?_
  rintro e W1 ⟨lb, rfl, hlo, hr, hb1⟩
  have HB1 := hid_of (bel_call hB hb1)
  have c0 := hr.cell (k := 0) rfl
  clear hS hb1 hB hr hlo
  go_wp2_with fail
  refine (HNU.out _ _).mono ?_
  rintro e W2 ⟨rfl, rfl⟩
  go_wp2_with fail
  go_ret
  exact ⟨rfl, HB1.out⟩

def SomeB (e : Ending) : Prop := ∃ b, e = .returned (.bool b)
set_option maxRecDepth 100000 in
set_option maxHeartbeats 8000000 in
theorem big25_c {p : Nat → Prop} (w : World) {na : Option Addr} {nl nc : Nat} {ea : Option Addr} {el ec : Nat} {N : List (List Int)} {E : List EdgeD} (hp : ∀ b, p b → b < w.heap.size) (h : IsPq p w na nl nc ea el ec N E) :
    Calls Try.prog 10 #[costsV na nl nc ea el ec] w fun e w' => SomeB e ∧ Below w.heap.size w w' := by
  have HNL := hid_of (sl_len h.nd).1
  have HEL := hid_of (sl_len h.ed).1
  have hnm := (sl_len h.nd).2.2
  have hem := (sl_len h.ed).2.2
  have HP : Hid (∀ X, Below w.heap.size w X → IsPq p X na nl nc ea el ec N E) := fun X hX => h.keep (fun b hb hlt => ⟨hb, hX.block b (hp b hb)⟩)
  clear h
  go_enter Try.func10, Try.ntmps10
  go_upto_region 1 with fail
  refine wp_at (fun X => Row X w.heap.size 25 [.slice na nl nc, .slice ea el ec] ∧ Below w.heap.size w X) ⟨heap_alloc_eq _ _ _ rfl, bel_alloc (bel_refl w) _⟩ ?_
  rintro W ⟨r1, hB⟩
  have a0 := r1.cell (k := 0) rfl
  have a1 := r1.cell (k := 1) rfl
  have HB := hid_of hB
  clear r1 hB
  by_cases h1 : (nl : Int) > 60
  · have d1 : decide ((nl : Int) > 60) = true := by simpa using h1
    have d1' : decide (60 < nl) = true := by simp; omega
    clear h1
    go_wp2_with fail
    go_ret
    exact ⟨⟨_, rfl⟩, HB.out⟩
  have d1 : decide ((nl : Int) > 60) = false := by simpa using h1
  have d1' : decide (60 < nl) = false := by simp; omega
  by_cases h2 : (el : Int) > 200
  · have d2 : decide ((el : Int) > 200) = true := by simpa using h2
    have d2' : decide (200 < el) = true := by simp; omega
    clear h1 h2
    go_wp2_with fail
    go_ret
    exact ⟨⟨_, rfl⟩, HB.out⟩
  have d2 : decide ((el : Int) > 200) = false := by simpa using h2
  have d2' : decide (200 < el) = false := by simp; omega
  have hn60 : nl ≤ 60 := by omega
  have he200 : el ≤ 200 := by omega
  clear h1 h2
  go_wp2_with fail
  clear d1 d1' d2 d2'
  go_loop [3, 4] (fun s3 s4 => ∃ k s : Nat, k ≤ nl ∧ s4 = .int .i64 k ∧ s3 = .int .i64 s ∧ s ≤ k * 140737488351232) (fun _ s4 => nl - (intOf s4).toNat)
  case atStart => exact ⟨0, 0, by omega, rfl, rfl, by omega⟩
  case round =>
    obtain ⟨k, s, hk, rfl, rfl, hs⟩ := hrel
    have hsm : s ≤ 9000000000000000 := by omega
    by_cases hlt : k < nl
    · obtain ⟨nb, no, a3, n3, c3, rfl, -, ck, -, -, hn3m⟩ := rows_at (HP.out W HB.out).nd (show k < N.length by have := HNL.out; omega)
      have hkz : (k : Int) < (nl : Int) := by omega
      have hsz : (s : Int) ≤ 9000000000000000 := by omega
      have hs0 : (0 : Int) ≤ (s : Int) := by omega
      have hnz : (n3 : Int) ≤ 140737488351232 := by omega
      have HS : Hid (s + n3 ≤ (k + 1) * 140737488351232) := by show _ ≤ _; omega
      clear hs
      go_wp2_with fail
      go_round
      case rel => exact ⟨k + 1, s + n3, by omega, by go_num, by go_num, HS.out⟩
      case measure => simp [intOf]; omega
    · obtain rfl : k = nl := by omega
      clear hs
      go_wp2_with fail
      go_loop [3, 5] (fun s3 s5 => ∃ i s : Nat, i ≤ el ∧ s5 = .int .i64 i ∧ s3 = .int .i64 s ∧ s ≤ 9000000000000000) (fun _ s5 => el - (intOf s5).toNat)
      case atStart => exact ⟨0, s, by omega, rfl, rfl, hsm⟩
      case round =>
        obtain ⟨i, s, hi, rfl, rfl, hsm⟩ := hrel
        by_cases hit : i < el
        · have hix : i < E.length := by have := HEL.out; omega
          obtain ⟨eb, eo, rfl, -, hc⟩ := sl_at (HP.out W HB.out).ed (by omega)
          obtain ⟨-, -, v2, c2, hM⟩ := hc i hix
          obtain ⟨M, HM⟩ : ∃ M, Hid (E[i].cost = M) := ⟨_, (rfl : E[i].cost = _)⟩
          rw [HM.out] at hM
          obtain ⟨ma, mc, rfl, -, -⟩ := id hM
          obtain ⟨ml, Hml⟩ : ∃ ml, Hid (M.length = ml) := ⟨_, (rfl : M.length = _)⟩
          rw [Hml.out] at c2 hM
          have hmm := (sl_len hM).2.2
          have HMM := hid_of hM
          have hiz : (i : Int) < (el : Int) := by omega
          clear hc hM
          go_wp2_with fail
          go_loop [3, 6] (fun s3 s6 => ∃ j s : Nat, j ≤ ml ∧ s6 = .int .i64 j ∧ s3 = .int .i64 s ∧ s ≤ 9000000000000000) (fun _ s6 => ml - (intOf s6).toNat)
          case atStart => exact ⟨0, s, by omega, rfl, rfl, hsm⟩
          case round =>
            obtain ⟨j, s, hj, rfl, rfl, hsm⟩ := hrel
            have hs0 : (0 : Int) ≤ (s : Int) := by omega
            have hsz : (s : Int) ≤ 9000000000000000 := by omega
            by_cases hjt : j < ml
            · by_cases hs2 : s < 20000
              · have d3 : decide ((s : Int) < 20000) = true := by simp; omega
                have d3' : decide (s < 20000) = true := by simpa using hs2
                have d4 : decide (j < ml) = true := by simpa using hjt
                obtain ⟨mb, mo, a3, n3, c3, rfl, -, ck, -, -, hn3m⟩ := rows_at HMM.out (show j < M.length by have := Hml.out; omega)
                have hjz : (j : Int) < (ml : Int) := by omega
                have hnz : (n3 : Int) ≤ 140737488351232 := by omega
                have HS : Hid (s + n3 ≤ 9000000000000000) := by show _ ≤ _; omega
                clear hs2
                go_wp2_with fail
                go_round
                case rel => exact ⟨j + 1, s + n3, by omega, by go_num, by go_num, HS.out⟩
                case measure => simp [intOf]; omega
              · have d3 : decide ((s : Int) < 20000) = false := by simp; omega
                have d3' : decide (s < 20000) = false := by simpa using hs2
                have d4 : decide (j < ml) = true := by simpa using hjt
                have hjz : (j : Int) < (ml : Int) := by omega
                clear hs2
                go_wp2_with fail
                go_round
                case rel => exact ⟨i + 1, s, by omega, by go_num, rfl, hsm⟩
                case measure => simp [intOf]; omega
            · obtain rfl : j = ml := by omega
              go_wp2_with fail
              go_round
              case rel => exact ⟨i + 1, s, by omega, by go_num, rfl, hsm⟩
              case measure => simp [intOf]; omega
        · obtain rfl : i = el := by omega
          go_wp2_with fail
          go_ret
          exact ⟨⟨_, rfl⟩, HB.out⟩
end Go.Proofs.Ytdomnbgjafdnjaa
