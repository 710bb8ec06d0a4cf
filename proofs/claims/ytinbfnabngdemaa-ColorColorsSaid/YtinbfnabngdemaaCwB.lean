/- 'Big': is a graph too much? -/
import Derived.Test.YtinbfnabngdemaaCnD
import Derived.Test.YtinbfnabngdemaaCkA
namespace Go.Proofs.Ytinbfnabngdemaa
open Go.RowKit

def BigP (G : GD) (e : Ending) : Prop := ∃ b, e = .returned (.bool b) ∧ (b = false → Few G)
set_option maxRecDepth 100000 in
set_option maxHeartbeats 8000000 in
theorem big_c (w : World) {ea ma aa la : Option Addr} {en ec mn mc an ac ln lc : Nat} {G : GD} (h : IsGr (· < w.heap.size) w ⟨ea, en, ec, ma, mn, mc, aa, an, ac, la, ln, lc⟩ G) :
    Calls Try.prog 11 #[.agg #[.slice ea en ec, .slice ma mn mc, .slice aa an ac, .slice la ln lc]] w fun e w' => BigP G e ∧ Below w.heap.size w w' := by
  obtain ⟨he, hm, ha, hl⟩ := h.lens
  dsimp only at he hm ha hl
  have hac := (sl_len h.a).2.1
  have hlc := (sl_len h.l).2.1
  have hee := (sl_len h.e).2.2
  have hmm := (sl_len h.m).2.2
  have haa := (sl_len h.a).2.2
  have hll := (sl_len h.l).2.2
  have hec := (sl_len h.e).2.1
  have hmc := (sl_len h.m).2.1
  dsimp only at hac hlc hee hmm haa hll hec hmc
  have HH := hid_of h
  have HL := hid_of (And.intro he (And.intro hm (And.intro ha hl)))
  clear he hm ha hl h
  go_enter Try.func11, Try.ntmps11
  go_upto_region 1 with fail
  refine wp_at (fun X => Row X w.heap.size 25 [.slice ea en ec, .slice ma mn mc, .slice aa an ac, .slice la ln lc] ∧ Below w.heap.size w X) ⟨heap_alloc_eq _ _ _ rfl, bel_alloc (bel_refl w) _⟩ ?_
  rintro X ⟨r0, hX⟩
  have q0 := r0.cell (k := 0) rfl
  have q1 := r0.cell (k := 1) rfl
  have q2 := r0.cell (k := 2) rfl
  have q3 := r0.cell (k := 3) rfl
  obtain ⟨N, HN⟩ : ∃ N, Hid (en + mn = N) := ⟨_, (rfl : en + mn = _)⟩
  have hcast : (en : Int) + (mn : Int) = (N : Int) := by have := HN.out; omega
  have hwr : IntKind.i64.wrap ((en : Int) + (mn : Int)) = (N : Int) := by rw [IntKind.wrap_i64]; omega
  have HB := hid_of hX
  have hwr' : IntKind.i64.wrap (N : Int) = (N : Int) := by rw [IntKind.wrap_i64]; have := HN.out; omega
  by_cases h1 : N > 1500
  · have e1 : decide ((N : Int) > 1500) = true := by simp; omega
    have e1' : decide (1500 < (N : Int)) = true := by simp; omega
    clear h1
    go_wp2_with fail
    go_ret
    exact ⟨⟨true, rfl, fun h => by cases h⟩, HB.out⟩
  have e1 : decide ((N : Int) > 1500) = false := by simp; omega
  have e1' : decide (1500 < (N : Int)) = false := by simp; omega
  by_cases h2 : an > 100
  · have e2 : decide ((an : Int) > 100) = true := by simp; omega
    have e2' : decide (100 < (an : Int)) = true := by simp; omega
    clear h1 h2
    go_wp2_with fail
    go_ret
    exact ⟨⟨true, rfl, fun h => by cases h⟩, HB.out⟩
  have e2 : decide ((an : Int) > 100) = false := by simp; omega
  have e2' : decide (100 < (an : Int)) = false := by simp; omega
  by_cases h3 : ln > 60
  · have e3 : decide ((ln : Int) > 60) = true := by simp; omega
    have e3' : decide (60 < (ln : Int)) = true := by simp; omega
    clear h1 h2 h3
    go_wp2_with fail
    go_ret
    exact ⟨⟨true, rfl, fun h => by cases h⟩, HB.out⟩
  have e3 : decide ((ln : Int) > 60) = false := by simp; omega
  have e3' : decide (60 < (ln : Int)) = false := by simp; omega
  have HA0 : Hid (∀ j (_ : j < G.A.length), j < 0 → (G.A.getD j []).length ≤ N) := fun j _ h => by omega
  have hNs : N ≤ 1500 + 0 * 140737488351232 := by omega
  go_wp2_with fail
  go_loopw [3, 4] (fun s3 s4 wx => ∃ (i N : Nat), i ≤ an ∧ s4 = .int .i64 i ∧ s3 = .int .i64 N ∧ N ≤ 1500 + i * 140737488351232 ∧ wx = X ∧ Hid (∀ j (_ : j < G.A.length), j < i → (G.A.getD j []).length ≤ N)) (fun _ s4 _ => an - (intOf s4).toNat)
  case atStart => exact ⟨0, N, by omega, rfl, rfl, hNs, rfl, HA0⟩
  case round =>
    obtain ⟨i, S, hi, rfl, rfl, hS, rfl, HA⟩ := hrel
    clear HA0 hNs hwr hwr' hcast
    by_cases hlt : i < an
    · have hiA : i < G.A.length := by rw [← HL.out.2.2.1]; exact hlt
      obtain ⟨ab, ao, rfl, hab, hcc⟩ := sl_at HH.out.a (by omega)
      obtain ⟨u, c1, hu⟩ := hcc i hiA
      rw [Nat.mul_one] at c1
      have c1 := (HB.out.cell (p := ⟨ab, ao + i, none⟩) hab).trans c1
      obtain ⟨ra, rc, rfl, -⟩ := id hu
      have hrl := (sl_len hu).2.2
      have hrc := (sl_len hu).2.1
      obtain ⟨m, Hm⟩ : ∃ m, Hid (G.A[i].length = m) := ⟨_, (rfl : G.A[i].length = _)⟩
      rw [Hm.out] at c1 hrl hrc
      have HA2 : Hid (∀ j (_ : j < G.A.length), j < i + 1 → (G.A.getD j []).length ≤ S + m) := fun j hj hji => by
        by_cases e : j = i
        · subst e
          rw [show (G.A.getD j []) = G.A[j] by simp [List.getD, hj], Hm.out]; omega
        · have := HA.out j hj (by omega); omega
      have hiz : (i : Int) < (an : Int) := by omega
      have hwr : IntKind.i64.wrap ((S : Int) + (m : Int)) = ((S + m : Nat) : Int) := by rw [IntKind.wrap_i64]; omega
      clear hu hcc hab HA
      go_wp2_with fail
      try rw [hwr]
      go_roundw
      case rel => exact ⟨i + 1, S + m, by omega, by go_num, by go_num, by omega, trivial, HA2⟩
      case measure => simp [intOf]; omega
    · obtain rfl : an = i := by omega
      have HLp0 : Hid (∀ j (_ : j < G.Lp.length), j < 0 → (G.Lp.getD j []).length ≤ S) := fun j _ h => by omega
      have hS0 : S ≤ 1500 + (an + 0) * 140737488351232 := by omega
      go_wp2_with fail
      go_loopw [3, 5] (fun s3 s5 wx => ∃ (i N : Nat), i ≤ ln ∧ s5 = .int .i64 i ∧ s3 = .int .i64 N ∧ N ≤ 1500 + (an + i) * 140737488351232 ∧ S ≤ N ∧ wx = wr ∧ Hid (∀ j (_ : j < G.Lp.length), j < i → (G.Lp.getD j []).length ≤ N)) (fun _ s5 _ => ln - (intOf s5).toNat)
      case atStart => exact ⟨0, S, by omega, rfl, rfl, hS0, by omega, rfl, HLp0⟩
      case round =>
        obtain ⟨i, T, hi, rfl, rfl, hT, hST, rfl, HP⟩ := hrel
        clear HLp0 hS0
        by_cases hlt : i < ln
        · have hiA : i < G.Lp.length := by rw [← HL.out.2.2.2]; exact hlt
          obtain ⟨ab, ao, rfl, hab, hcc⟩ := sl_at HH.out.l (by omega)
          obtain ⟨u, c1, hu⟩ := hcc i hiA
          rw [Nat.mul_one] at c1
          have c1 := (HB.out.cell (p := ⟨ab, ao + i, none⟩) hab).trans c1
          obtain ⟨ra, rc, rfl, -⟩ := id hu
          have hrl := (sl_len hu).2.2
          have hrc := (sl_len hu).2.1
          obtain ⟨m, Hm⟩ : ∃ m, Hid (G.Lp[i].length = m) := ⟨_, (rfl : G.Lp[i].length = _)⟩
          rw [Hm.out] at c1 hrl hrc
          have HA2 : Hid (∀ j (_ : j < G.Lp.length), j < i + 1 → (G.Lp.getD j []).length ≤ T + m) := fun j hj hji => by
            by_cases e : j = i
            · subst e
              rw [show (G.Lp.getD j []) = G.Lp[j] by simp [List.getD, hj], Hm.out]; omega
            · have := HP.out j hj (by omega); omega
          have hiz : (i : Int) < (ln : Int) := by omega
          have hwr : IntKind.i64.wrap ((T : Int) + (m : Int)) = ((T + m : Nat) : Int) := by rw [IntKind.wrap_i64]; omega
          clear hu hcc hab HP
          go_wp2_with fail
          try rw [hwr]
          go_roundw
          case rel => exact ⟨i + 1, T + m, by omega, by go_num, by go_num, by omega, by omega, trivial, HA2⟩
          case measure => simp [intOf]; omega
        · obtain rfl : ln = i := by omega
          have HF : Hid (T ≤ 5000 → Few G) := fun hT => by
            have hn := HN.out
            obtain ⟨l1, l2, l3, l4⟩ := HL.out
            refine ⟨by omega, by omega, by omega, by omega, fun l hl => ?_, fun l hl => ?_⟩
            · obtain ⟨j, hj, rfl⟩ := List.getElem_of_mem hl
              have := HA.out j hj (by omega)
              rw [show (G.A.getD j []) = G.A[j] by simp [List.getD, hj]] at this
              omega
            · obtain ⟨j, hj, rfl⟩ := List.getElem_of_mem hl
              have := HP.out j hj (by omega)
              rw [show (G.Lp.getD j []) = G.Lp[j] by simp [List.getD, hj]] at this
              omega
          by_cases h5 : T > 5000
          · have e5 : decide ((T : Int) > 5000) = true := by simp; omega
            have e5' : decide (5000 < (T : Int)) = true := by simp; omega
            go_wp2_with fail
            go_ret
            exact ⟨⟨true, rfl, fun h => by cases h⟩, HB.out⟩
          · have e5 : decide ((T : Int) > 5000) = false := by simp; omega
            have e5' : decide (5000 < (T : Int)) = false := by simp; omega
            have HFw := hid_of (HF.out (by omega))
            go_wp2_with fail
            go_ret
            exact ⟨⟨false, rfl, fun _ => HFw.out⟩, HB.out⟩
end Go.Proofs.Ytinbfnabngdemaa
