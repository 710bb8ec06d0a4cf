/- The law MovesCycles. -/
import Derived.Test.YtjgnailkfmgikaaMvAlive
import Derived.Test.YtjgnailkfmgikaaMvCycR
import Derived.Test.YtjgnailkfmgikaaMvOpen
namespace Go.Proofs.Ytjgnailkfmgikaa
open Go.RowKit Go.Maps

set_option maxRecDepth 100000 in
set_option maxHeartbeats 1000000 in
theorem movesCycles_c {p : Nat → Prop} {v : Value} {l : List (Int × Int)} (w : World) (h0 : IsPairs p w v l ∧ ∀ m ∈ l, In64 m.1 ∧ In64 m.2) :
    Calls Try.prog 4 #[v] w fun e w' => e = .returned (.bool true) ∧ Below w.heap.size w w' := by
  obtain ⟨h0, h64⟩ := h0
  have h : IsPairs (· < w.heap.size) w v l := h0.keep (Keep.refl w fun _ _ hb => hb)
  clear h0
  obtain ⟨a, cap, hv, hlen, _⟩ := id h
  subst hv
  go_enter Try.func4, Try.ntmps4
  go_wp2_with fail
  refine (alive20_c w).mono ?_
  rintro e w1 ⟨rfl, hB1⟩
  by_cases h60 : 60 < l.length
  · have hd : decide ((l.length : Int) > 60) = true := by simpa using (by omega : (60 : Int) < l.length)
    go_wp2_with fail
    go_ret
    exact ⟨rfl, hB1⟩
  · have hd : decide ((l.length : Int) > 60) = false := by simpa using (by omega : (l.length : Int) ≤ 60)
    have h1 := h.keep (Keep.belowB hB1)
    go_wp2_with fail
    refine (cycles_c w1 h1 (by omega) h64).mono ?_
    rintro e w2 ⟨hb2, n, rfl, hn0, hn1⟩
    have hB2 := bel_call hB1 hb2
    have h2 := h.keep (Keep.belowB hB2)
    by_cases ho : Mv.Once l
    · obtain ⟨G, out, hfd, hc⟩ := hn1 ho
      have HO : Hid (Mv.Once l ∧ Mv.Cnt G (Mv.ordS l) n) := ⟨ho, hc⟩
      clear hn0 hn1 hc ho hb2 h1
      go_wp2_with fail
      refine (cyclesR_c w2 h2 (by omega) (fun _ => hfd)).mono ?_
      rintro e w3 ⟨hb3, n', rfl, -, hc'⟩
      have hnn : n' = n := (hc' HO.out.1).uniq HO.out.2
      subst hnn
      have hB3 := bel_call hB2 hb3
      clear hc' hb3
      go_wp2_with fail
      go_ret
      exact ⟨rfl, hB3⟩
    · have hn := hn0 ho
      subst hn
      have HO : Hid (¬ Mv.Once l) := ho
      clear hn0 hn1 ho hb2 h1
      go_wp2_with fail
      refine (cyclesR_c (G := fun _ => none) (out := []) w2 h2 (by omega) (fun h => absurd h HO.out)).mono ?_
      rintro e w3 ⟨hb3, n', rfl, hn', -⟩
      have hnn := hn' HO.out
      subst hnn
      have hB3 := bel_call hB2 hb3
      clear hn' hb3
      go_wp2_with fail
      go_ret
      exact ⟨rfl, hB3⟩
end Go.Proofs.Ytjgnailkfmgikaa
