/- 'pigeonholelaw17.alive': the walk. -/
import Derived.Test.YtcihobmjohpnkaaLvA
import Derived.Test.YtcihobmjohpnkaaRef1
namespace Go.Proofs.Ytcihobmjohpnkaa
open Go.RowKit Go.Sort

/-- One block that goes nowhere. -/
theorem live_one {l : List InsD} (hs : succS [l] 0 = []) {I O : List (List Nat)} (h : IsLive [l] I O) : I = [genW l] ∧ O = [[]] := by
  have hI : I.length = 1 := h.lI
  have hO : O.length = 1 := h.lO
  match I, hI, O, hO with
  | [a], _, [b], _ =>
    have e1 := h.eqI 0 (by simp)
    have e2 := h.eqO 0 (by simp)
    have eo : outW [l] [a] 0 = [] := by unfold outW; rw [show ((0 : Nat) : Int) = 0 from rfl, hs]; rfl
    have ei : inW [l] [a] 0 = genW l := by
      unfold inW
      rw [eo]
      have e : Bit.orW (genW ([l].getD 0 [])) (Bit.subW [] (killW ([l].getD 0 []))) = genW l := by
        have g := gen_can l
        refine Bit.can_ext (Bit.or_can g.1.1 (Bit.sub_can Bit.can_nil.1 (kill_can _).1.1).1) g.1 fun m => ?_
        rw [Bit.has_or, Bit.has_sub (kill_can _).1.1, has_nil]
        simp
      exact e
    rw [ei] at e1
    rw [eo] at e2
    exact ⟨by simpa using e1, by simpa using e2⟩

def aliveL : List (List InsD) := [[⟨2, 1, 0, 0, 0, ⟨#[]⟩, [], 0, 0⟩, ⟨9, 0, 1, 0, 0, ⟨#[]⟩, [], 0, 0⟩]]
theorem alive_in : listI (genW [⟨2, 1, 0, 0, 0, ⟨#[]⟩, [], 0, 0⟩, ⟨9, 0, 1, 0, 0, ⟨#[]⟩, [], 0, 0⟩]) = [0] := by decide +kernel
theorem alive_after : listI (aftW [⟨2, 1, 0, 0, 0, ⟨#[]⟩, [], 0, 0⟩, ⟨9, 0, 1, 0, 0, ⟨#[]⟩, [], 0, 0⟩] 0 []) = [1] := by decide +kernel

set_option maxRecDepth 100000 in
set_option maxHeartbeats 4000000 in
theorem alive17_c (w : World) : Calls Try.prog 35 #[] w fun e w' => e = .returned (.bool true) ∧ Below w.heap.size w w' := by
  go_enter Try.func35, Try.ntmps35
  go_wp2_with fail
  generalize hW : World.alloc _ _ = W
  have hB : Below w.heap.size w W := by rw [← hW]; exact bel_alloc (bel_alloc (bel_alloc (bel_refl w) _) _) _
  have hs : W.heap.size = w.heap.size + 3 := by rw [← hW]; simp
  have hk0 : Row W w.heap.size 36 [.int .i64 2, .int .i64 1, .int .i64 0, .int .i64 0, .int .i64 0, .string ⟨#[]⟩, .slice none 0 0, .int .i64 0, .int .i64 0, .int .i64 9, .int .i64 0, .int .i64 1, .int .i64 0, .int .i64 0, .string ⟨#[]⟩, .slice none 0 0, .int .i64 0, .int .i64 0] := by
    rw [← hW]; exact heap_alloc_ne _ _ _ _ (heap_alloc_ne _ _ _ _ (heap_alloc_eq _ _ _ rfl))
  have hk1 : Row W (w.heap.size + 1) 40 [.slice (some ⟨w.heap.size, 0, none⟩) 2 2] := by rw [← hW]; exact heap_alloc_ne _ _ _ _ (heap_alloc_eq _ _ _ (by simp))
  have hk2 : Row W (w.heap.size + 1 + 1) 44 [.string ⟨#[]⟩, .slice none 0 0, .slice none 0 0, .string ⟨#[]⟩, .slice (some ⟨w.heap.size + 1, 0, none⟩) 1 1] := by rw [← hW]; exact heap_alloc_eq _ _ _ (by simp)
  clear hW
  have hbl : IsBlocks (· < W.heap.size) W (.slice (some ⟨w.heap.size + 1, 0, none⟩) 1 1) aliveL := by
    refine ⟨_, 1, rfl, ⟨by simp [aliveL], by simp [aliveL]⟩, .inr ⟨w.heap.size + 1, 0, rfl, by show w.heap.size + 1 < W.heap.size; omega, fun j hj => ?_⟩⟩
    have : j = 0 := by simp [aliveL] at hj; omega
    subst this
    refine ⟨_, hk1.cell (k := 0) rfl, _, 2, rfl, ⟨by simp [aliveL], by simp [aliveL]⟩, .inr ⟨w.heap.size, 0, rfl, by show w.heap.size < W.heap.size; omega, fun j hj => ?_⟩⟩
    have : j = 0 ∨ j = 1 := by simp [aliveL] at hj; omega
    rcases this with rfl | rfl
    · exact ⟨hk0.cell (k := 0) rfl, hk0.cell (k := 1) rfl, hk0.cell (k := 2) rfl, hk0.cell (k := 3) rfl, hk0.cell (k := 4) rfl, hk0.cell (k := 5) rfl, ⟨_, hk0.cell (k := 6) rfl, ints_nil _ _⟩, hk0.cell (k := 7) rfl, hk0.cell (k := 8) rfl⟩
    · exact ⟨hk0.cell (k := 9) rfl, hk0.cell (k := 10) rfl, hk0.cell (k := 11) rfl, hk0.cell (k := 12) rfl, hk0.cell (k := 13) rfl, hk0.cell (k := 14) rfl, ⟨_, hk0.cell (k := 15) rfl, ints_nil _ _⟩, hk0.cell (k := 16) rfl, hk0.cell (k := 17) rfl⟩
  have hbd : ∀ l ∈ aliveL, l.length ≤ 100000 ∧ ∀ i ∈ l, i.args.length ≤ 400000 := by
    intro l hl
    simp only [aliveL, List.mem_singleton] at hl
    subst hl
    exact ⟨by simp, fun i hi => by simp at hi; rcases hi with rfl | rfl <;> simp⟩
  have hbd2 : ∀ l ∈ aliveL, l.length ≤ 100000 ∧ ∀ i ∈ l, i.args.length ≤ 1000000 := fun l hl => ⟨(hbd l hl).1, fun i hi => by have := (hbd l hl).2 i hi; omega⟩
  have hs1 : succS aliveL 0 = [] := by decide +kernel
  have hIn := liveIn_c W ⟨#[]⟩ none 0 0 none 0 0 ⟨#[]⟩ _ 1 1 hbl (by omega) hbd2
  have hAf : ∀ X, Below W.heap.size W X → Calls Try.prog 48 #[funcV ⟨#[]⟩ none 0 0 none 0 0 ⟨#[]⟩ (some ⟨w.heap.size + 1, 0, none⟩) 1 1, .int .i64 0, .int .i64 0] X fun e w' => ∃ I O z, e = .returned z ∧ IsLive aliveL I O ∧
      w'.ownsRow X.heap.size 3 1 z (listI (aftW (aliveL.getD 0 []) 0 (O.getD 0 []))).length (ints (listI (aftW (aliveL.getD 0 []) 0 (O.getD 0 [])))) ∧ Below X.heap.size X w' := fun X (hX : Below W.heap.size W X) => after_in X ⟨#[]⟩ none 0 0 none 0 0 ⟨#[]⟩ (some ⟨w.heap.size + 1, 0, none⟩) 1 1 (L := aliveL) 0 0 (hbl.keep (fun b hb hlt => ⟨by have := hX.size; show b < X.heap.size; omega, hX.block b hlt⟩)) (by omega) hbd (by decide) (by decide)
  unfold funcV at hIn hAf
  have HAF := hid_of hAf
  clear hbl hbd hbd2 hk0 hk1 hAf
  refine hIn.mono ?_
  rintro e W1 ⟨u, own, vals, I, O, rfl, hL, hr, hb1⟩
  obtain ⟨rfl, rfl⟩ := live_one (by decide +kernel) (show IsLive [_] I O from hL)
  have hm : ([genW [⟨2, 1, 0, 0, 0, ⟨#[]⟩, [], 0, 0⟩, ⟨9, 0, 1, 0, 0, ⟨#[]⟩, [], 0, 0⟩]] : List (List Nat)).map listI = [[0]] := by rw [List.map_singleton, alive_in]
  rw [hm] at hr
  have hlen := hr.len
  match vals, hlen, hr with
  | [v0], _, hr =>
    have hrow := hr.row
    have hel := hr.el 0 (by simp)
    have hv0 : IsInts (· < W1.heap.size) W1 v0 [0] := ints_of_owns hel (by simp) (fun _ _ _ h => h)
    obtain ⟨ua, uc, rfl, hua⟩ := owns_slice hrow
    obtain ⟨ug, rfl⟩ := hua (by simp)
    obtain ⟨va, vc, rfl, -⟩ := owns_slice hel
    have c0 := hrow.cellAt 0 (by simp)
    simp only [List.getElem?_cons_zero] at c0
    have hlu := (hrow.lt ug rfl).2
    have hk3 := hk2.keep (hb1.block _ hk2.lt)
    have hs1' := hb1.size
    have hd1 : (([[0]] : List (List Int)).length == 1) = true := rfl
    have hlv : vals.length = vals.length := rfl
    clear hr hrow hel hL hm hIn hk2
    have hW1 : w.heap.size + 1 + 1 < W1.heap.size := by omega
    have hv1 : IsInts (· < W1.heap.size) W1 (.slice va 1 vc) [0] := hv0
    clear hv0 hlen hd1
    go_wp2_with fail
    refine (sameInts_c _ (hv1.keep (p' := (· < W1.heap.size)) (Keep.below (bel_alloc (bel_refl W1) _))) (ints_of_row (xs := [0]) (p := fun _ => True) (e := 3) (heap_alloc_eq _ _ _ rfl) trivial (by simp))).mono ?_
    rintro e W2 ⟨rfl, nd, rfl⟩
    rw [sameS_self]
    have hB2 : Below W.heap.size W ((W1.alloc (.cells #[.int .i64 0] 3)).drewN nd) := bel_drewN (bel_alloc hb1 _) nd
    have hk4 : Row ((W1.alloc (.cells #[.int .i64 0] 3)).drewN nd) (w.heap.size + 1 + 1) 44 _ := hk3.keep (Below.heap_alloc _ _ _ hk3.lt)
    clear hk3 hv1 hb1 c0
    have q0 := hk4.cell (k := 0) rfl
    have q1 := hk4.cell (k := 1) rfl
    have q2 := hk4.cell (k := 2) rfl
    have q3 := hk4.cell (k := 3) rfl
    have q4 := hk4.cell (k := 4) rfl
    go_wp2_with fail
    refine (HAF.out _ hB2).mono ?_
    rintro e W3 ⟨I, O, z, rfl, hL, hz, hb3⟩
    obtain ⟨rfl, rfl⟩ := live_one (by decide +kernel) (show IsLive [_] I O from hL)
    have ha : listI (aftW (aliveL.getD 0 []) 0 (([[]] : List (List Nat)).getD 0 [])) = [1] := alive_after
    rw [ha] at hz
    have hz1 : IsInts (· < W3.heap.size) W3 z [1] := ints_of_owns hz (by simp) (fun _ _ _ h => h)
    obtain ⟨za, zc, rfl, -⟩ := owns_slice hz
    have hz2 : IsInts (· < W3.heap.size) W3 (.slice za 1 zc) [1] := hz1
    have hB3 := bel_call hB2 hb3
    clear hz hz1 ha hL hb3 hk4 q0 q1 q2 q3 q4 hB2
    go_wp2_with fail
    refine (sameInts_c _ (hz2.keep (p' := (· < W3.heap.size)) (Keep.below (bel_alloc (bel_refl W3) _))) (ints_of_row (xs := [1]) (p := fun _ => True) (e := 3) (heap_alloc_eq _ _ _ rfl) trivial (by simp))).mono ?_
    rintro e W4 ⟨rfl, nd2, rfl⟩
    rw [sameS_self]
    have hB4 := bel_drewN (bel_alloc (bel_call hB hB3) (.cells #[.int .i64 1] 3)) nd2
    go_wp2_with fail
    go_ret
    exact ⟨rfl, hB4⟩
end Go.Proofs.Ytcihobmjohpnkaa
