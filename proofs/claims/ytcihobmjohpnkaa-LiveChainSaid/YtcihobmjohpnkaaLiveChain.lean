/- 'LiveChain': the walk. -/
import Derived.Test.YtcihobmjohpnkaaLvC
import Derived.Test.YtcihobmjohpnkaaLiveUses
namespace Go.Proofs.Ytcihobmjohpnkaa
open Go.RowKit Go.Sort

set_option maxRecDepth 100000 in
set_option maxHeartbeats 16000000 in
theorem liveChain_c (w : World) (n : Int) : Calls Try.prog 10 #[.int .i64 n] w fun e w' => e = .returned (.bool true) ∧ Below w.heap.size w w' := by
  have HAL := hid_of (alive17_c w)
  by_cases h1 : n < 1
  · have d1 : decide (n < 1) = true := by simpa using h1
    go_enter Try.func10, Try.ntmps10
    go_wp2_with fail
    refine HAL.out.mono ?_
    rintro e W ⟨rfl, hb⟩
    go_wp2_with fail
    go_ret
    exact ⟨rfl, hb⟩
  have d1 : decide (n < 1) = false := by simpa using h1
  by_cases h2 : n > 100
  · have d2 : decide (n > 100) = true := by simpa using h2
    have d2' : decide (100 < n) = true := by simpa using h2
    go_enter Try.func10, Try.ntmps10
    go_wp2_with fail
    refine HAL.out.mono ?_
    rintro e W ⟨rfl, hb⟩
    go_wp2_with fail
    go_ret
    exact ⟨rfl, hb⟩
  obtain ⟨nn, rfl⟩ : ∃ nn : Nat, n = nn := ⟨n.toNat, by omega⟩
  have d2 : decide ((nn : Int) > 100) = false := by simpa using h2
  have d2' : decide (100 < (nn : Int)) = false := by simpa using h2
  have d2'' : decide (100 < nn) = false := by simp; omega
  have d1' : decide (nn < 1) = false := by simp; omega
  have hn1 : 1 ≤ nn := by omega
  have hn2 : nn ≤ 100 := by omega
  clear h1 h2
  go_enter Try.func10, Try.ntmps10
  go_wp2_with fail
  refine HAL.out.mono ?_
  rintro e W0 ⟨rfl, hb0⟩
  clear HAL
  go_wp2_with fail
  go_loopw [4, 5] (fun s4 s5 wx => ∃ k : Nat, k ≤ nn ∧ s5 = .int .i64 k ∧ wx.ownsRow w.heap.size 36 9 s4 (copies k).length (insCs (copies k)) ∧ Below w.heap.size w wx) (fun _ s5 _ => nn - (intOf s5).toNat)
  case atStart => exact ⟨0, by omega, rfl, World.ownsRow_nil _ _ _ _, hb0⟩
  case round =>
    obtain ⟨k, hk, rfl, ho, hB⟩ := hrel
    clear hb0
    have hsz := hB.size
    by_cases hlt : k < nn
    · have hlt' : (k : Int) < (nn : Int) := by omega
      go_wp2_with (at_builtin; refine stop_here ?_)
      refine stop_go (app_ins rfl _ _ rfl w.heap.size u4 (copies k) rfl (ho.alloc _) _ ⟨2, (k : Int) + 1, (k : Int), 0, 0, ⟨#[]⟩, [], 0, 0⟩ rfl (heap_alloc_eq _ _ _ rfl) (by rw [copies_length]; omega) (by simp <;> omega) ?_)
      intro v' w' ho2 hg hv
      rw [← copies_succ] at ho2
      have hB2 := bel_grown (bel_alloc hB _) hg (fun k hk => (ho.lt k hk).1)
      clear ho hg hv hB
      go_wp2_with fail
      go_roundw
      case rel => exact ⟨k + 1, by omega, by go_num, ho2, hB2⟩
      case measure => simp [intOf]; omega
    · obtain rfl : k = nn := by omega
      go_wp2_with (at_builtin; refine stop_here ?_)
      refine stop_go (app_ins rfl _ _ rfl w.heap.size u4 (copies k) rfl (ho.alloc _) _ ⟨9, 0, (k : Int), 0, 0, ⟨#[]⟩, [], 0, 0⟩ rfl (heap_alloc_eq _ _ _ rfl) (by rw [copies_length]; omega) (by simp <;> omega) ?_)
      intro v' w1 ho2 hg hv
      have hB1 := bel_grown (bel_alloc hB _) hg (fun k hk => (ho.lt k hk).1)
      have hl : IsInsL (· < w1.heap.size) w1 v' (chainL k) := insL_of_owns ho2 (chain_args k) (by rw [chain_length]; omega) (fun _ _ _ h => h)
      obtain ⟨la, lc, rfl, hla⟩ := owns_slice ho2
      have hll : (copies k ++ [(⟨9, 0, (k : Int), 0, 0, ⟨#[]⟩, [], 0, 0⟩ : InsD)]).length = k + 1 := chain_length k
      rw [hll] at hl
      have HL := hid_of hl
      clear ho ho2 hg hv hB hlt hk hl hla
      go_wp2_with fail
      refine wp_at (fun W => IsBlocks (· < W.heap.size) W (.slice (some ⟨w1.heap.size, 0, none⟩) 1 1) [chainL k] ∧ Row W (w1.heap.size + 1) 44 [.string ⟨#[]⟩, .slice none 0 0, .slice none 0 0, .string ⟨#[]⟩, .slice (some ⟨w1.heap.size, 0, none⟩) 1 1] ∧ Below w.heap.size w W) ?_ ?_
      · have hbb := bel_alloc (bel_alloc (bel_refl w1) (.cells #[.slice la (k + 1) lc] 40)) (.cells #[.string ⟨#[]⟩, .slice none 0 0, .slice none 0 0, .string ⟨#[]⟩, .slice (some ⟨w1.heap.size, 0, none⟩) 1 1] 44)
        refine ⟨⟨_, 1, rfl, ⟨by simp, by simp⟩,   .inr ⟨w1.heap.size, 0, rfl, by show w1.heap.size < _; simp; omega, fun j hj => ?_⟩⟩, heap_alloc_eq _ _ _ (by simp), bel_call hB1 hbb⟩
        have : j = 0 := by simpa using hj
        subst this
        refine ⟨_, Row.cell (e := 40) (vs := [.slice la (k + 1) lc]) (heap_alloc_ne _ _ _ _ (heap_alloc_eq _ _ _ rfl)) rfl, ?_⟩
        exact HL.out.keep (fun b hb hlt => ⟨by simp; omega, hbb.block b hb⟩)
      · rintro W2 ⟨hbl, hf, hB2⟩
        have hbd : ∀ l ∈ [chainL k], l.length ≤ 100000 ∧ ∀ i ∈ l, i.args.length ≤ 400000 := by
          intro l hl
          simp only [List.mem_singleton] at hl
          subst hl
          exact ⟨by rw [chain_length]; omega, fun i hi => by rw [chain_args k i hi]; simp⟩
        have hbd2 : ∀ l ∈ [chainL k], l.length ≤ 100000 ∧ ∀ i ∈ l, i.args.length ≤ 1000000 := fun l hl => ⟨(hbd l hl).1, fun i hi => by have := (hbd l hl).2 i hi; omega⟩
        have hbX : ∀ X, Below W2.heap.size W2 X → IsBlocks (· < X.heap.size) X (.slice (some ⟨w1.heap.size, 0, none⟩) 1 1) [chainL k] := fun X hX => hbl.keep (fun b hb hlt => ⟨by have := hX.size; show b < X.heap.size; omega, hX.block b hlt⟩)
        have hAf : ∀ X (i : Nat), Below W2.heap.size W2 X → i ≤ k → Calls Try.prog 48 #[.agg #[.string ⟨#[]⟩, .slice none 0 0, .slice none 0 0, .string ⟨#[]⟩, .slice (some ⟨w1.heap.size, 0, none⟩) 1 1], .int .i64 0, .int .i64 (i : Int)] X fun e w' => ∃ z, e = .returned z ∧
            w'.ownsRow X.heap.size 3 1 z (listI (aftW (chainL k) i [])).length (ints (listI (aftW (chainL k) i []))) ∧ Below X.heap.size X w' := fun X i hX hi => by
          refine (after_in X ⟨#[]⟩ none 0 0 none 0 0 ⟨#[]⟩ (some ⟨w1.heap.size, 0, none⟩) 1 1 (L := [chainL k]) 0 i (hbX X hX) (by omega) hbd (by simp) (by show i < (chainL k).length; rw [chain_length]; omega)).mono ?_
          rintro e X' ⟨I, O, z, rfl, hL, hz, hb⟩
          obtain ⟨rfl, rfl⟩ := live_one (chain_succ k) hL
          exact ⟨z, rfl, hz, hb⟩
        have hIn : ∀ X, Below W2.heap.size W2 X → Calls Try.prog 40 #[.agg #[.string ⟨#[]⟩, .slice none 0 0, .slice none 0 0, .string ⟨#[]⟩, .slice (some ⟨w1.heap.size, 0, none⟩) 1 1]] X fun e w' => ∃ ug uc va vc, e = .returned (.slice (some ⟨ug, 0, none⟩) 1 uc) ∧ w'.cell? ⟨ug, 0, none⟩ = some (.slice va 1 vc) ∧ ug < w'.heap.size ∧ IsInts (· < w'.heap.size) w' (.slice va 1 vc) [0] ∧ Below X.heap.size X w' := fun X hX => by
          refine (liveIn_c X ⟨#[]⟩ none 0 0 none 0 0 ⟨#[]⟩ _ 1 1 (hbX X hX) (by omega) hbd2).mono ?_
          rintro e X' ⟨u, own, vals, I, O, rfl, hL, hr, hb⟩
          obtain ⟨rfl, rfl⟩ := live_one (chain_succ k) hL
          have hm : ([genW (chainL k)] : List (List Nat)).map listI = [[0]] := by rw [List.map_singleton, chain_gen (by omega)]
          rw [hm] at hr
          have hlen := hr.len
          match vals, hlen, hr with
          | [v0], _, hr =>
            have hrow := hr.row
            have hel := hr.el 0 (by simp)
            have hv0 : IsInts (· < X'.heap.size) X' v0 [0] := ints_of_owns hel (by simp) (fun _ _ _ h => h)
            obtain ⟨ua, uc, rfl, hua⟩ := owns_slice hrow
            obtain ⟨ug, rfl⟩ := hua (by simp)
            obtain ⟨va, vc, rfl, -⟩ := owns_slice hel
            have c0 := hrow.cellAt 0 (by simp)
            simp only [List.getElem?_cons_zero] at c0
            exact ⟨ug, uc, va, vc, rfl, c0, (hrow.lt ug rfl).2, hv0, hb⟩
        have hOut : ∀ X, Below W2.heap.size W2 X → Calls Try.prog 47 #[.agg #[.string ⟨#[]⟩, .slice none 0 0, .slice none 0 0, .string ⟨#[]⟩, .slice (some ⟨w1.heap.size, 0, none⟩) 1 1]] X fun e w' => ∃ ug uc va vc, e = .returned (.slice (some ⟨ug, 0, none⟩) 1 uc) ∧ w'.cell? ⟨ug, 0, none⟩ = some (.slice va 0 vc) ∧ ug < w'.heap.size ∧ Below X.heap.size X w' := fun X hX => by
          refine (liveOut_c X ⟨#[]⟩ none 0 0 none 0 0 ⟨#[]⟩ _ 1 1 (hbX X hX) (by omega) hbd2).mono ?_
          rintro e X' ⟨u, own, vals, I, O, rfl, hL, hr, hb⟩
          obtain ⟨rfl, rfl⟩ := live_one (chain_succ k) hL
          have hm : ([[]] : List (List Nat)).map listI = [[]] := rfl
          rw [hm] at hr
          have hlen := hr.len
          match vals, hlen, hr with
          | [v0], _, hr =>
            have hrow := hr.row
            have hel := hr.el 0 (by simp)
            obtain ⟨ua, uc, rfl, hua⟩ := owns_slice hrow
            obtain ⟨ug, rfl⟩ := hua (by simp)
            obtain ⟨va, vc, rfl, -⟩ := owns_slice hel
            have c0 := hrow.cellAt 0 (by simp)
            simp only [List.getElem?_cons_zero] at c0
            exact ⟨ug, uc, va, vc, rfl, c0, (hrow.lt ug rfl).2, hb⟩
        have HAF := hid_of hAf
        have HIN := hid_of hIn
        have HOUT := hid_of hOut
        have hfl := hf.lt
        clear hbl hbd hbd2 hbX hAf hIn hOut hB1 HL
        go_loopw [7] (fun s7 wx => ∃ i : Nat, i ≤ k ∧ s7 = .int .i64 i ∧ Below W2.heap.size W2 wx) (fun s7 _ => k - (intOf s7).toNat)
        case atStart => exact ⟨0, by omega, rfl, bel_refl _⟩
        case round =>
          obtain ⟨i, hi, rfl, hB3⟩ := hrel
          have hf3 := hf.keep (hB3.block _ hfl)
          have q0 := hf3.cell (k := 0) rfl
          have q1 := hf3.cell (k := 1) rfl
          have q2 := hf3.cell (k := 2) rfl
          have q3 := hf3.cell (k := 3) rfl
          have q4 := hf3.cell (k := 4) rfl
          by_cases hit : i < k
          · have hit' : (i : Int) < (k : Int) := by omega
            go_wp2_with fail
            refine (HAF.out _ i hB3 (by omega)).mono ?_
            rintro e W3 ⟨z, rfl, hz, hb3⟩
            rw [chain_after (by omega) hit] at hz
            have hz1 : IsInts (· < W3.heap.size) W3 z [(i : Int) + 1] := ints_of_owns hz (by simp) (fun _ _ _ h => h)
            obtain ⟨za, zc, rfl, -⟩ := owns_slice hz
            have hz2 : IsInts (· < W3.heap.size) W3 (.slice za 1 zc) [(i : Int) + 1] := hz1
            have hB4 := bel_call hB3 hb3
            clear hz hz1 q0 q1 q2 q3 q4 hf3 hb3 hB3
            go_wp2_with fail
            refine (sameInts_c _ (hz2.keep (p' := (· < W3.heap.size)) (Keep.below (bel_alloc (bel_refl W3) _))) (ints_of_row (xs := [(i : Int) + 1]) (p := fun _ => True) (e := 3) (heap_alloc_eq _ _ _ rfl) trivial (by simp))).mono ?_
            rintro e W4 ⟨rfl, nd, rfl⟩
            rw [sameS_self]
            have hB5 := bel_drewN (bel_alloc hB4 (.cells #[.int .i64 ((i : Int) + 1)] 3)) nd
            clear hz2 hB4
            go_wp2_with fail
            go_roundw
            case rel => exact ⟨i + 1, by omega, by go_num, hB5⟩
            case measure => simp [intOf]; omega
          · obtain rfl : i = k := by omega
            go_wp2_with fail
            refine (HIN.out _ hB3).mono ?_
            rintro e W3 ⟨ug, uc, va, vc, rfl, c0, hug, hv0, hb3⟩
            have hB4 := bel_call hB3 hb3
            clear hf3 q0 q1 q2 q3 q4 hb3 hB3
            go_wp2_with fail
            refine (sameInts_c _ (hv0.keep (p' := (· < W3.heap.size)) (Keep.below (bel_alloc (bel_refl W3) _))) (ints_of_row (xs := [0]) (p := fun _ => True) (e := 3) (heap_alloc_eq _ _ _ rfl) trivial (by simp))).mono ?_
            rintro e W4 ⟨rfl, nd, rfl⟩
            rw [sameS_self]
            have hB5 : Below W2.heap.size W2 ((W3.alloc (.cells #[.int .i64 0] 3)).drewN nd) := bel_drewN (bel_alloc hB4 (.cells #[.int .i64 0] 3)) nd
            have hf5 := hf.keep (hB5.block _ hfl)
            have q0 := hf5.cell (k := 0) rfl
            have q1 := hf5.cell (k := 1) rfl
            have q2 := hf5.cell (k := 2) rfl
            have q3 := hf5.cell (k := 3) rfl
            have q4 := hf5.cell (k := 4) rfl
            clear hv0 hB4 c0
            go_wp2_with fail
            refine (HOUT.out _ hB5).mono ?_
            rintro e W5 ⟨ug2, uc2, va2, vc2, rfl, c1, hug2, hb5⟩
            have hB6 := bel_call hB5 hb5
            have hf6 := hf.keep (hB6.block _ hfl)
            clear q0 q1 q2 q3 q4 hf5 hb5 hB5
            have q0 := hf6.cell (k := 0) rfl
            have q1 := hf6.cell (k := 1) rfl
            have q2 := hf6.cell (k := 2) rfl
            have q3 := hf6.cell (k := 3) rfl
            have q4 := hf6.cell (k := 4) rfl
            go_wp2_with fail
            refine (HAF.out _ i hB6 (Nat.le_refl _)).mono ?_
            rintro e W6 ⟨z, rfl, hz, hb6⟩
            rw [chain_end] at hz
            obtain ⟨za, zc, rfl, -⟩ := owns_slice hz
            have hB7 := bel_call hB2 (bel_call hB6 hb6)
            clear hz hb6 hB6 q0 q1 q2 q3 q4 hf6 c1
            have hz0 : ([] : List Int).length = 0 := rfl
            go_wp2_with fail
            go_ret
            exact ⟨rfl, hB7⟩
end Go.Proofs.Ytcihobmjohpnkaa
