/- The law CfgOrder. -/
import Derived.Test.YtcihobmjohpnkaaAlive14
import Derived.Test.YtcihobmjohpnkaaOpen
namespace Go.Proofs.Ytcihobmjohpnkaa
open Go.RowKit Go.Sort

set_option maxRecDepth 100000 in
theorem cfgOrder_c {p : Nat → Prop} {v : Value} {l : List (List InsD)} (w : World) (h0 : IsBlocks p w v l) :
    Calls Try.prog 3 #[v] w fun e w' => e = .returned (.bool true) ∧ Below w.heap.size w w' := by
  have h : IsBlocks (· < w.heap.size) w v l := h0.keep (Keep.refl w fun _ _ hb => hb)
  clear h0
  obtain ⟨a, cap, hv, _, _⟩ := id h
  subst hv
  go_enter Try.func3, Try.ntmps3
  go_wp2_with fail
  refine (alive14_c w).mono ?_
  rintro e w1 ⟨rfl, hB1⟩
  have hk1 := h.keep (Keep.belowB hB1)
  go_wp2_with fail
  refine (big_c w1 hk1).mono ?_
  rintro e w1' ⟨r, rfl, rfl, hr⟩
  cases r with
  | true =>
    go_wp2
    go_ret
    exact ⟨rfl, hB1⟩
  | false =>
    have hl := hr rfl
    clear hr
    have hol := orderS_length l
    generalize hO : orderS l = O at hol
    have HO : Hid (orderS l = O) := hO
    clear hO
    go_wp2_with fail
    refine (order_c w1' hk1 (by omega)).mono ?_
    rintro e w2 ⟨u, rfl, ho, hb2⟩
    rw [HO.out] at ho
    have hB2 := bel_call hB1 hb2
    have hk2 := h.keep (Keep.belowB hB2)
    clear hk1
    go_wp2_with fail
    refine (orderR_c w2 hk2 (by omega)).mono ?_
    rintro e w3 ⟨u3, rfl, ho3, hb3⟩
    rw [HO.out] at ho3
    have hi2 := (ints_of_own ho (by omega)).keep (Keep.below hb3)
    go_wp2_with fail
    refine (sameInts_c _ hi2 (ints_of_own ho3 (by omega))).mono ?_
    rintro e w4 ⟨rfl, n, rfl⟩
    rw [sameS_self]
    have hb4 := bel_drewN (bel_call (bel_refl w2) hb3) n
    have hB4 := bel_call hB2 hb4
    have ho4 := owns_mono (owns_below ho hb4) hB1.size
    generalize w3.drewN n = W4 at hB4 ho4
    clear ho ho3 hb2 hb3 hb4 hi2 hk2 hB2
    obtain ⟨oa, oc, rfl, hoa⟩ := owns_slice ho4
    go_wp2_with fail
    go_loopw [7] (fun i wr => ∃ (k : Nat) (zs : List Int), k ≤ O.length ∧ zs.length = O.length ∧ i = .int .i64 k ∧ wr.ownsRow w.heap.size 3 1 (.slice oa O.length oc) O.length (ints zs) ∧ Below w.heap.size w wr) (fun i _ => O.length - (intOf i).toNat)
    case atStart => exact ⟨0, O, by omega, rfl, rfl, ho4, hB4⟩
    case round =>
      obtain ⟨k, zs, hk, hz, rfl, hI, hB⟩ := hrel
      clear ho4 hB4
      by_cases hlt : k < O.length
      · obtain ⟨g, rfl⟩ := hoa (by omega)
        have c1 : wr.cell? ⟨g, k, none⟩ = _ := hI.cellAt k (by omega)
        have hf := hI.frozenAt k
        have hI1 := (hI.stored k (.int .i64 (-1))).1
        rw [ints_set] at hI1
        have hg := (hI.lt g rfl)
        have hB1 := bel_setCell (a := ⟨g, k, none⟩) (u := .int .i64 (-1)) hB hg.1
        have hzk : (ints zs)[k]? = some (.int .i64 zs[k]) := by simp [ints, hz, hlt]
        clear hI hB
        go_wp2_with fail
        go_roundw
        case rel => exact ⟨k + 1, zs.set k (-1), by omega, by simpa using hz, by go_num, hI1, hB1⟩
        case measure => simp [intOf]; omega
      · have hz' : k = O.length := by omega
        have hkb := h.keep (Keep.belowB hB)
        subst hz'
        go_wp2_with fail
        refine (order_c wr hkb (by omega)).mono ?_
        rintro e w2 ⟨u, rfl, ho, hb2⟩
        rw [HO.out] at ho
        have hB2 := bel_call hB hb2
        have hk2 := h.keep (Keep.belowB hB2)
        clear hkb hI hB
        go_wp2_with fail
        refine (orderR_c w2 hk2 (by omega)).mono ?_
        rintro e w3 ⟨u3, rfl, ho3, hb3⟩
        rw [HO.out] at ho3
        have hi2 := (ints_of_own ho (by omega)).keep (Keep.below hb3)
        go_wp2_with fail
        refine (sameInts_c _ hi2 (ints_of_own ho3 (by omega))).mono ?_
        rintro e w4 ⟨rfl, n, rfl⟩
        rw [sameS_self]
        have hb4 := bel_drewN (bel_call hB2 hb3) n
        go_wp2
        go_ret
        exact ⟨rfl, hb4⟩
end Go.Proofs.Ytcihobmjohpnkaa
