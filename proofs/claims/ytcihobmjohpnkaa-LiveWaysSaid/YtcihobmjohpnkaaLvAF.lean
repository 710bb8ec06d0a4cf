/- 'live.After': the walk. -/
import Derived.Test.YtcihobmjohpnkaaLvAE
import Derived.Deep.QuietTactic
import Derived.BigQuiet
import Derived.Deep.RegionHeld3
namespace Go.Proofs.Ytcihobmjohpnkaa
open Go.RowKit Go.Sort

set_option maxRecDepth 100000 in
set_option maxHeartbeats 4000000 in
theorem after_out (w : World) (nm : ByteArray) (va : Option Addr) (vn vc : Nat) (pa : Option Addr) (pn pc : Nat) (re : ByteArray) (ba : Option Addr) (n bc : Nat) {L : List (List InsD)} (b i : Int)
    (h : IsBlocks (· < w.heap.size) w (.slice ba n bc) L) (hout : ¬ (0 ≤ b ∧ b < L.length ∧ 0 ≤ i ∧ i < (L.getD b.toNat []).length)) :
    Calls Try.prog 48 #[funcV nm va vn vc pa pn pc re ba n bc, .int .i64 b, .int .i64 i] w fun e w' => e = .returned (.slice none 0 0) ∧ Below w.heap.size w w' := by
  obtain ⟨_, _, hv0, hl0, hx⟩ := id h
  simp only [Value.slice.injEq] at hv0
  obtain ⟨rfl, hnL, rfl⟩ := hv0
  have hB := bel_alloc (bel_alloc (bel_refl w) (.cells #[.string nm, .slice va vn vc, .slice pa pn pc, .string re, .slice ba n bc] 44)) (.cells #[.int .i64 i] 3)
  unfold funcV
  by_cases h1 : b < 0
  · have d1 : decide (b < 0) = true := by simpa using h1
    clear hx hout h1 hnL
    go_enter Try.func48, Try.ntmps48
    go_wp2_with fail
    go_quiet (fail)
    go_wp2_with fail
    go_ret
    exact ⟨rfl, bel_drewN hB _⟩
  · have d1 : decide (b < 0) = false := by simpa using h1
    obtain ⟨bn, rfl⟩ : ∃ bn : Nat, b = bn := ⟨b.toNat, by omega⟩
    by_cases h2 : (n : Int) ≤ (bn : Int)
    · have d2 : decide ((bn : Int) ≥ (n : Int)) = true := by simpa using h2
      have d2' : decide (n ≤ bn) = true := by simp; omega
      clear hx hout h1 hnL h2
      go_enter Try.func48, Try.ntmps48
      go_wp2_with fail
      go_quiet (fail)
      go_wp2_with fail
      go_ret
      exact ⟨rfl, bel_drewN hB _⟩
    · have d2 : decide ((bn : Int) ≥ (n : Int)) = false := by simpa using h2
      have d2' : decide (n ≤ bn) = false := by simp; omega
      have hbL : bn < L.length := by omega
      by_cases h3 : i < 0
      · have d3 : decide (i < 0) = true := by simpa using h3
        clear hx hout h1 hnL h2 hbL h3
        go_enter Try.func48, Try.ntmps48
        go_wp2_with fail
        go_quiet (fail)
        go_wp2_with fail
        go_ret
        exact ⟨rfl, bel_drewN hB _⟩
      · have d3 : decide (i < 0) = false := by simpa using h3
        obtain ⟨iN, rfl⟩ : ∃ iN : Nat, i = iN := ⟨i.toNat, by omega⟩
        rcases hx with hx | ⟨bb, off, rfl, hpb, hx⟩
        · rw [hx] at hbL; simp at hbL
        obtain ⟨vi, c1, ai, capi, rfl, ⟨hli0, hli⟩, hxi⟩ := hx bn hbL
        rw [Nat.mul_one] at c1
        have hLk : L.getD bn [] = L[bn] := by simp [List.getD, hbL]
        have hge : L[bn].length ≤ iN := by
          rw [Int.toNat_natCast, hLk] at hout
          omega
        generalize L[bn] = l at c1 hge hli hli0
        have d4 : decide ((iN : Int) ≥ (l.length : Int)) = true := by simp; omega
        have d4' : decide (l.length ≤ iN) = true := by simp; omega
        have hlb := lt_of_cell c1
        have hb1 : (bn : Int) < (n : Int) := by omega
        have hb0 : (0 : Int) ≤ (bn : Int) := by omega
        have hlb1 : bb < w.heap.size + 1 := by omega
        clear hx hout h1 hnL h2 hbL h3 hxi hge hLk
        go_enter Try.func48, Try.ntmps48
        go_wp2_with fail
        go_quiet (fail)
        go_wp2_with fail
        go_ret
        exact ⟨rfl, bel_drewN hB _⟩

set_option maxRecDepth 100000 in
set_option maxHeartbeats 8000000 in
theorem after_in (w : World) (nm : ByteArray) (va : Option Addr) (vn vc : Nat) (pa : Option Addr) (pn pc : Nat) (re : ByteArray) (ba : Option Addr) (n bc : Nat) {L : List (List InsD)} (bn iN : Nat)
    (h : IsBlocks (· < w.heap.size) w (.slice ba n bc) L) (hl : n ≤ 1000) (hbd : ∀ l ∈ L, l.length ≤ 100000 ∧ ∀ i ∈ l, i.args.length ≤ 400000) (hbL : bn < L.length) (hi : iN < (L.getD bn []).length) :
    Calls Try.prog 48 #[funcV nm va vn vc pa pn pc re ba n bc, .int .i64 (bn : Int), .int .i64 (iN : Int)] w fun e w' => ∃ I O z, e = .returned z ∧ IsLive L I O ∧
      w'.ownsRow w.heap.size 3 1 z (listI (aftW (L.getD bn []) iN (O.getD bn []))).length (ints (listI (aftW (L.getD bn []) iN (O.getD bn [])))) ∧ Below w.heap.size w w' := by
  obtain ⟨_, _, hv0, hl0, hx⟩ := id h
  simp only [Value.slice.injEq] at hv0
  obtain ⟨rfl, hnL, rfl⟩ := hv0
  rcases hx with hx | ⟨bb, off, rfl, hpb, hx⟩
  · rw [hx] at hbL; simp at hbL
  obtain ⟨vi, c1, ai, capi, rfl, ⟨hli0, hli⟩, hxi⟩ := hx bn hbL
  rw [Nat.mul_one] at c1
  have hLk : L.getD bn [] = L[bn] := by simp [List.getD, hbL]
  have HLN := hid_of (And.intro hnL (And.intro hbL hi))
  have HBD := hid_of hbd
  have hiL : iN < L[bn].length := by rw [← hLk]; exact hi
  obtain ⟨ll, hll⟩ : ∃ ll, L[bn].length = ll := ⟨_, rfl⟩
  rw [hll] at c1 hiL hli hli0
  have d1 : decide ((bn : Int) < 0) = false := by simp
  have d2 : decide ((bn : Int) ≥ (n : Int)) = false := by simp; omega
  have d2' : decide (n ≤ bn) = false := by simp; omega
  have d3 : decide ((iN : Int) < 0) = false := by simp
  have d4 : decide ((iN : Int) ≥ (ll : Int)) = false := by simp; omega
  have d4' : decide (ll ≤ iN) = false := by simp; omega
  have hlb := lt_of_cell c1
  have hb1 : (bn : Int) < (n : Int) := by omega
  have hb0 : (0 : Int) ≤ (bn : Int) := by omega
  have hlb1 : bb < w.heap.size + 1 := by omega
  have HH := hid_of h
  unfold funcV
  clear hx hnL hbL hi hxi hLk hbd hll hl0 h
  go_enter Try.func48, Try.ntmps48
  go_wp2_with fail
  go_quiet (fail)
  go_wp2_with fail
  generalize hW : World.alloc _ (.cells #[Value.slice none 0 0] 25) = W
  have hB : Below w.heap.size w W := by rw [← hW]; exact bel_alloc (bel_drewN (bel_alloc (bel_alloc (bel_refl w) _) _) nq) _
  have hs : W.heap.size = w.heap.size + 3 := by rw [← hW]; simp
  have hk0 : Row W w.heap.size 44 [.string nm, .slice va vn vc, .slice pa pn pc, .string re, .slice (some ⟨bb, off, none⟩) n bc] := by
    rw [← hW]; exact heap_alloc_ne _ _ _ _ (show (World.heap _)[_]? = _ from heap_alloc_ne _ _ _ _ (heap_alloc_eq _ _ _ rfl))
  have hk1 : W.heap[w.heap.size + 1]? = some (.cells #[.int .i64 (iN : Int)] 3) := by
    rw [← hW]; exact heap_alloc_ne _ _ _ _ (show (World.heap _)[_]? = _ from heap_alloc_eq _ _ _ (by simp))
  have hk2 : W.heap[w.heap.size + 1 + 1]? = some (.cells #[.slice none 0 0] 25) := by rw [← hW]; exact heap_alloc_eq _ _ _ (by simp)
  clear hW
  have hS : ∀ X : World, X.heap[w.heap.size]? = W.heap[w.heap.size]? → (X.cell? ⟨w.heap.size, 0, none⟩ = some (.string nm) ∧ X.cell? ⟨w.heap.size, 1, none⟩ = some (.slice va vn vc) ∧ X.cell? ⟨w.heap.size, 2, none⟩ = some (.slice pa pn pc) ∧ X.cell? ⟨w.heap.size, 3, none⟩ = some (.string re) ∧ X.cell? ⟨w.heap.size, 4, none⟩ = some (.slice (some ⟨bb, off, none⟩) n bc)) := fun X hX => by
    have r := hk0.keep hX
    exact ⟨r.cell rfl, r.cell rfl, r.cell rfl, r.cell rfl, r.cell rfl⟩
  have hOf : ∀ X, Below W.heap.size W X → Calls Try.prog 81 #[.agg #[.string nm, .slice va vn vc, .slice pa pn pc, .string re, .slice (some ⟨bb, off, none⟩) n bc]] X fun e X' => ∃ I O ia iN ic oa oN oc, e = .returned (.agg #[.slice ia iN ic, .slice oa oN oc]) ∧ IsLive L I O ∧ IsSets (W.heap.size ≤ ·) X' (.slice oa oN oc) O ∧ Below W.heap.size W X' ∧ X'.heap[w.heap.size]? = W.heap[w.heap.size]? := fun X hX => by
    refine (of_live X nm va vn vc pa pn pc re (some ⟨bb, off, none⟩) n bc (HH.out.keep (fun b hb hlt => ⟨by have := hX.size; show b < X.heap.size; omega, (hX.block b (by omega)).trans (hB.block b hlt)⟩)) hl (fun l hl => ⟨(HBD.out l hl).1, fun i hi => by have := (HBD.out l hl).2 i hi; omega⟩)).mono ?_
    rintro e X' ⟨I, O, vi, vo, rfl, hL, hvi, hvo, hb⟩
    obtain ⟨ia, iN, ic, rfl⟩ := sets_slice hvi
    obtain ⟨oa, oN, oc, rfl⟩ := sets_slice hvo
    exact ⟨I, O, _, _, _, _, _, _, rfl, hL, hvo.keep (Keep.refl _ fun b hb _ => Nat.le_trans hX.size hb), bel_call hX hb, (bel_call hX hb).block _ (by omega)⟩
  have hEa : ∀ X I O ia jN ic oa oN oc, Below W.heap.size W X → IsLive L I O → IsSets (W.heap.size ≤ ·) X (.slice oa oN oc) O → Calls Try.prog 84 #[.agg #[.slice ia jN ic, .slice oa oN oc], .agg #[.string nm, .slice va vn vc, .slice pa pn pc, .string re, .slice (some ⟨bb, off, none⟩) n bc], .int .i64 (bn : Int), .func (.func 85) #[] #[.pointer (some ⟨w.heap.size + 1, 0, none⟩), .pointer (some ⟨w.heap.size + 1 + 1, 0, none⟩)]] X
      fun e X' => e = .returned (.tuple #[]) ∧ OutSt X.heap.size (w.heap.size + 1 + 1) (L.getD bn []) (O.getD bn []) iN 0 X' ∧ X.grownBy X' (some (w.heap.size + 1 + 1)) ∧ X'.heap[w.heap.size]? = W.heap[w.heap.size]? := fun X I O ia jN ic oa oN oc hX hL hvo => by
    have hsX := hX.size
    refine (each_live X nm va vn vc pa pn pc re (some ⟨bb, off, none⟩) n bc ia jN ic oa oN oc (w.heap.size + 1) (w.heap.size + 1 + 1) bn iN (HH.out.keep (fun b hb hlt => ⟨⟨by omega, by omega⟩, (hX.block b (by omega)).trans (hB.block b hlt)⟩)) (hvo.keep (Keep.refl X fun b hb hlt => ⟨hlt, by omega⟩)) (by rw [hL.lO]) hL.gO HBD.out HLN.out.2.1
      (cell_of_one ((hX.block _ (by omega)).trans hk1)) (by omega) ((hX.block _ (by omega)).trans hk2) HLN.out.2.2).mono ?_
    rintro e X' ⟨rfl, h1, h2⟩
    exact ⟨rfl, h1, h2, (h2.block _ (by omega) (by simp; omega)).trans (hX.block _ (by omega))⟩
  have hE0 : Below W.heap.size W W := bel_refl W
  have hE1 : Below W.heap.size W W.drew := hE0.drew
  have h0 : W.heap[w.heap.size]? = W.heap[w.heap.size]? := rfl
  have HK := hid_of (And.intro hk1 hk2)
  clear hk1 hk2
  go_region_held3 (fun X => X.cell? ⟨w.heap.size, 0, none⟩ = some (.string nm) ∧ X.cell? ⟨w.heap.size, 1, none⟩ = some (.slice va vn vc) ∧ X.cell? ⟨w.heap.size, 2, none⟩ = some (.slice pa pn pc) ∧ X.cell? ⟨w.heap.size, 3, none⟩ = some (.string re) ∧ X.cell? ⟨w.heap.size, 4, none⟩ = some (.slice (some ⟨bb, off, none⟩) n bc)) (first | exact hS _ h0 | exact hS _ hx2 | exact hS _ hx3)
    (first
      | (go_at_call 81; (with_reducible refine (hOf _ hE1).mono ?_); rintro e X2 ⟨I, O, ia, jN, ic, oa, oN, oc, rfl, hL, hvo, hb2, hx2⟩)
      | (go_at_call 84; (with_reducible refine (hEa _ I O _ _ _ _ _ _ hb2 hL hvo).mono ?_); rintro e X3 ⟨rfl, hO3, hg3, hx3⟩))
  all_goals
    obtain ⟨la, lc, hla, hown⟩ := hO3.1 (Nat.zero_le _)
    have c9 := cell_of_one hla
    have hs2 := hb2.size
    have HR := hid_of (owns_mono hown (base' := w.heap.size) (by omega))
    have hB3 := hid_of (bel_grown (bel_call hB hb2) hg3 (fun k hk => by simp at hk; omega))
    have HL := hid_of hL
    clear hO3 hla hown hg3 hb2 hvo hL
    go_wp2_with fail
    go_ret
    exact ⟨I, O, _, rfl, HL.out, HR.out, hB3.out⟩
end Go.Proofs.Ytcihobmjohpnkaa
