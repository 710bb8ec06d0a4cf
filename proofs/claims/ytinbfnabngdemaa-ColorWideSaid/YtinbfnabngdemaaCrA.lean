/- The reference's small parts: numbers that rise, with how many a colour laps, the neighbours. -/
import Derived.Test.YtinbfnabngdemaaCnC
import Derived.Test.YtinbfnabngdemaaKPut
import Derived.Deep.QuietTactic
import Derived.BigQuiet
namespace Go.Proofs.Ytinbfnabngdemaa
open Go.RowKit

theorem lastD_take {l : List Int} {k : Nat} (hk : 0 < k) (h : k ≤ l.length) : lastD (l.take k) = l[k - 1]'(by omega) := by
  obtain ⟨j, rfl⟩ : ∃ j, k = j + 1 := ⟨k - 1, by omega⟩
  rw [List.take_succ_eq_append_getElem (by omega), lastD_snoc]
  rfl
set_option maxRecDepth 100000 in
set_option maxHeartbeats 4000000 in
theorem risingR_c {p : Nat → Prop} {a : Option Addr} {m cap : Nat} {l : List Int} (w : World) (n : Nat) (h : IsInts p w (.slice a m cap) l) :
    Calls Try.prog 27 #[.slice a m cap, .int .i64 (n : Int)] w fun e w' => e = .returned (.bool (decide (RisP l n))) ∧ ∃ q, w' = w.drewN q := by
  have HN := hid_of (sl_len h).1
  have HH := hid_of h
  have H0 : Hid (RisP (l.take 0) n) := ⟨by simp, by simp⟩
  have hmx := (sl_len h).2.2
  have hmc := (sl_len h).2.1
  obtain ⟨R, HR⟩ : ∃ R, Hid (decide (RisP l n) = R) := ⟨_, (rfl : decide (RisP l n) = _)⟩
  rw [HR.out]
  clear h
  go_enter Try.func27, Try.ntmps27
  go_wp2_with fail
  go_loopw [5] (fun s5 wx => ∃ k : Nat, k ≤ m ∧ s5 = .int .i64 k ∧ (∃ q, wx = w.drewN q) ∧ Hid (RisP (l.take k) n)) (fun s5 _ => m - (intOf s5).toNat)
  case atStart => exact ⟨0, by omega, rfl, ⟨0, rfl⟩, H0⟩
  case round =>
    obtain ⟨k, hk, rfl, ⟨q, rfl⟩, HK⟩ := hrel
    clear H0
    by_cases hlt : k < m
    · have hkl : k < l.length := by rw [← HN.out]; exact hlt
      obtain ⟨b, off, rfl, -, c1⟩ := ints_cell HH.out hkl
      have hts := take_snoc hkl
      have hsn := fun x : Int => (RisP.snoc (xs := l.take k) (n := n) (x := x))
      obtain ⟨x, Hx⟩ : ∃ x, Hid (l[k] = x) := ⟨_, (rfl : l[k] = _)⟩
      rw [Hx.out] at c1 hts
      have HNo : Hid (¬ (lastD (l.take k) < x ∧ x < (n : Int)) → R = false) := fun hno => by
        rw [← HR.out, decide_eq_false_iff_not]
        intro hR
        have := hR.take (k + 1)
        rw [hts, hsn] at this
        exact hno this.2
      have HYe : Hid (lastD (l.take k) < x ∧ x < (n : Int) → RisP (l.take (k + 1)) n) := fun h => by rw [hts, hsn]; exact ⟨HK.out, h⟩
      have hl0 := HK.out.le_last.1
      have hkz : (k : Int) < (m : Int) := by omega
      clear hts hsn
      by_cases h1 : x < 0
      · have d1 : decide (x < 0) = true := by simpa using h1
        have HF := hid_of (HNo.out (by omega))
        clear h1
        go_wp2_with fail
        go_quiet (fail)
        all_goals
          go_wp2_with fail
          go_ret
          exact ⟨ret_bool HF.out.symm, _, by first | rfl | exact World.drewN_drewN _ _ _⟩
      have d1 : decide (x < 0) = false := by simpa using h1
      by_cases h2 : x < (n : Int)
      · have d2 : decide (x ≥ (n : Int)) = false := by simp; omega
        have d2' : decide ((n : Int) ≤ x) = false := by simp; omega
        by_cases h3 : k = 0
        · subst h3
          rw [Nat.add_zero] at c1
          have HY := hid_of (HYe.out ⟨by simp [lastD]; omega, h2⟩)
          clear h1 h2
          go_wp2_with fail
          go_quiet (fail)
          all_goals
            go_wp2_with fail
            go_roundw
          case rel => exact ⟨0 + 1, by omega, by go_num, ⟨_, by first | rfl | exact World.drewN_drewN _ _ _⟩, HY⟩
          case measure => simp [intOf]; omega
        · obtain ⟨j, rfl⟩ : ∃ j, k = j + 1 := ⟨k - 1, by omega⟩
          have hjl : j < l.length := by omega
          obtain ⟨b', off', e', -, c2⟩ := ints_cell HH.out hjl
          simp only [Option.some.injEq, Addr.mk.injEq, and_true] at e'
          obtain ⟨rfl, rfl⟩ := e'
          have hla := lastD_take (l := l) (k := j + 1) (by omega) (by omega)
          obtain ⟨y, Hy⟩ : ∃ y, Hid (l[j] = y) := ⟨_, (rfl : l[j] = _)⟩
          have hla2 : lastD (l.take (j + 1)) = y := hla.trans Hy.out
          rw [Hy.out] at c2
          have hj0 : decide (((j + 1 : Nat) : Int) > 0) = true := by simp
          have hj0' : decide (0 < j + 1) = true := by simp
          have hjm : (j : Int) < (m : Int) := by omega
          by_cases h4 : x ≤ y
          · have d3 : decide (x ≤ y) = true := by simpa using h4
            have HF := hid_of (HNo.out (by omega))
            clear h1 h2 h4 hla hla2
            go_wp2_with fail
            go_quiet (fail)
            all_goals
              go_wp2_with fail
              go_ret
              exact ⟨ret_bool HF.out.symm, _, by first | rfl | exact World.drewN_drewN _ _ _⟩
          · have d3 : decide (x ≤ y) = false := by simpa using h4
            have HY := hid_of (HYe.out ⟨by omega, h2⟩)
            clear h1 h2 h4 hla hla2
            go_wp2_with fail
            go_quiet (fail)
            all_goals
              go_wp2_with fail
              go_roundw
            case rel => exact ⟨j + 1 + 1, by omega, by go_num, ⟨_, by first | rfl | exact World.drewN_drewN _ _ _⟩, HY⟩
            case measure => simp [intOf]; omega
      · have d2 : decide (x ≥ (n : Int)) = true := by simp; omega
        have d2' : decide ((n : Int) ≤ x) = true := by simp; omega
        have HF := hid_of (HNo.out (by omega))
        clear h1 h2
        go_wp2_with fail
        go_quiet (fail)
        all_goals
          go_wp2_with fail
          go_ret
          exact ⟨ret_bool HF.out.symm, _, by first | rfl | exact World.drewN_drewN _ _ _⟩
    · obtain rfl : m = k := by omega
      have HF : Hid (R = true) := by
        show _ = _
        rw [← HR.out, decide_eq_true_iff]
        have := HK.out
        rwa [HN.out, List.take_length] at this
      go_wp2_with fail
      go_ret
      exact ⟨ret_bool HF.out.symm, _, rfl⟩
theorem inS_dec (xs : List Int) (n : Int) : inS xs n = decide (n ∈ xs) := by
  rfl
theorem cntS_take {G : GD} {l : List Int} {c : Int} {k : Nat} (hk : k < l.length) : cntS G (l.take (k + 1)) c = cntS G (l.take k) c + if l[k] ∈ lpS G c then 1 else 0 := by
  unfold cntS
  rw [List.take_succ_eq_append_getElem hk, List.filter_append, List.length_append]
  congr 1
  by_cases h : l[k] ∈ lpS G c <;> simp [h]

set_option maxRecDepth 100000 in
set_option maxHeartbeats 4000000 in
theorem lapsR_c (w : World) {ea ma aa la : Option Addr} {en ec mn mc n ac ln lc : Nat} {G : GD} (h : IsGr (· < w.heap.size) w ⟨ea, en, ec, ma, mn, mc, aa, n, ac, la, ln, lc⟩ G) {a : Option Addr} {m cap : Nat} {l : List Int} (hl : IsInts (· < w.heap.size) w (.slice a m cap) l) {c : Nat} (hc : c < G.Lp.length) (hm : m ≤ 100000) :
    Calls Try.prog 34 #[.agg #[.slice ea en ec, .slice ma mn mc, .slice aa n ac, .slice la ln lc], .slice a m cap, .int .i64 (c : Int)] w fun e w' => e = .returned (.int .i64 (cntS G l (c : Int) : Nat)) ∧ Below w.heap.size w w' := by
  obtain ⟨-, -, -, hll⟩ := h.lens
  dsimp only at hll
  have hlc := (sl_len h.l).2.1
  have hmc := (sl_len hl).2.1
  have hml := (sl_len hl).1
  dsimp only at hlc
  obtain ⟨lb, lo, hla, hlb, hcc⟩ := sl_at h.l (by omega)
  dsimp only at hla
  subst hla
  obtain ⟨u, c1, hu⟩ := hcc c hc
  rw [Nat.mul_one] at c1
  obtain ⟨ra, rc, rfl, -⟩ := id hu
  rw [← lpS_nat G hc] at hu c1
  have hb0 := bel_alloc (bel_refl w) (.cells #[.slice ea en ec, .slice ma mn mc, .slice aa n ac, .slice (some ⟨lb, lo, none⟩) ln lc] 25)
  have hr0 : Row (w.alloc (.cells #[.slice ea en ec, .slice ma mn mc, .slice aa n ac, .slice (some ⟨lb, lo, none⟩) ln lc] 25)) w.heap.size 25 [.slice ea en ec, .slice ma mn mc, .slice aa n ac, .slice (some ⟨lb, lo, none⟩) ln lc] := heap_alloc_eq _ _ _ rfl
  have c1 := (cell_of_block (hb0.block _ (lt_of_cell c1)) (lo + c)).trans c1
  have hu := hu.keep (p' := fun _ => True) (fun b _ hlt => ⟨trivial, hb0.block b hlt⟩)
  have hl := hl.keep (p' := fun _ => True) (fun b _ hlt => ⟨trivial, hb0.block b hlt⟩)
  have hcz : (c : Int) < (ln : Int) := by omega
  have HML := hid_of hml
  have hcl' : c < ln := by omega
  clear hll hml hcc
  go_enter Try.func34, Try.ntmps34
  go_wp2_with fail
  generalize w.alloc (.cells #[.slice ea en ec, .slice ma mn mc, .slice aa n ac, .slice (some ⟨lb, lo, none⟩) ln lc] 25) = W at *
  have q3 := hr0.cell (k := 3) rfl
  have HU := hid_of hu
  have HLL := hid_of hl
  have HB := hid_of hb0
  obtain ⟨rl, Hrl⟩ : ∃ m, Hid ((lpS G (c : Int)).length = m) := ⟨_, (rfl : (lpS G (c : Int)).length = _)⟩
  rw [Hrl.out] at HU c1
  clear hu hl hb0 hr0
  go_loopw [7, 8] (fun s7 s8 wx => ∃ k : Nat, k ≤ m ∧ s8 = .int .i64 k ∧ s7 = .int .i64 (cntS G (l.take k) (c : Int) : Nat) ∧ ∃ q, wx = W.drewN q) (fun _ s8 _ => m - (intOf s8).toNat)
  case atStart => exact ⟨0, by omega, rfl, by simp [cntS], 0, rfl⟩
  case round =>
    obtain ⟨k, hk, rfl, rfl, hq⟩ := hrel
    have hwr : ∀ a, wr.cell? a = W.cell? a := by obtain ⟨q, rfl⟩ := hq; exact fun _ => rfl
    have hwh : wr.heap = W.heap := by obtain ⟨q, rfl⟩ := hq; rfl
    have HQ := hid_of hq
    have q3' := (hwr _).trans q3
    have c1' := (hwr _).trans c1
    clear hq
    by_cases hlt : k < m
    · have hkl : k < l.length := by have := HML.out; omega
      obtain ⟨b, off, rfl, -, t1⟩ := ints_cell HLL.out hkl
      have hct := cntS_take (G := G) (c := (c : Int)) hkl
      obtain ⟨x, Hx⟩ : ∃ x, Hid (l[k] = x) := ⟨_, (rfl : l[k] = _)⟩
      rw [Hx.out] at t1 hct
      have t1 := (hwr _).trans t1
      have hin : ∀ j, Calls Try.prog 19 #[.slice ra rl rc, .int .i64 x] (wr.drewN j) fun e w' => e = .returned (.bool (decide (x ∈ lpS G (c : Int)))) ∧ ∃ m, w' = (wr.drewN j).drewN m := by
        intro j
        have := in_c (n := x) (wr.drewN j) (HU.out.keep (w' := wr.drewN j) (p' := fun _ => True) (fun b _ _ => ⟨trivial, by show wr.heap[b]? = _; rw [hwh]⟩))
        rw [inS_dec] at this
        exact this.mono (by rintro e w' ⟨rfl, rfl⟩; exact ⟨rfl, 0, rfl⟩)
      have hkz : (k : Int) < (m : Int) := by omega
      obtain ⟨cn, Hcn⟩ : ∃ x, Hid (cntS G (l.take k) (c : Int) = x) := ⟨_, (rfl : cntS G (l.take k) (c : Int) = _)⟩
      have hcl : cn ≤ 100000 := by rw [← Hcn.out]; exact Nat.le_trans (cntS_le G _ _) (by rw [List.length_take]; omega)
      rw [Hcn.out] at hct
      rw [Hcn.out]
      obtain ⟨bb, Hbb⟩ : ∃ b, Hid (decide (x ∈ lpS G (c : Int)) = b) := ⟨_, (rfl : decide (x ∈ lpS G (c : Int)) = _)⟩
      rw [Hbb.out] at hin
      have HC : Hid (cntS G (l.take (k + 1)) (c : Int) = if bb = true then cn + 1 else cn) := by
        show _ = _
        rw [hct]
        cases bb with
        | true => rw [if_pos (of_decide_eq_true Hbb.out), if_pos rfl]
        | false => rw [if_neg (of_decide_eq_false Hbb.out), if_neg (by simp), Nat.add_zero]
      clear hct hwr hwh
      go_wp2_with fail
      go_quiet ((go_at_call 19; exact Calls.quiet_of (hin _)))
      all_goals
        cases bb
        all_goals
          go_wp2_with fail
          go_roundw
      all_goals first | exact ⟨k + 1, by omega, by go_num, by rw [HC.out]; rfl, by obtain ⟨q, rfl⟩ := HQ.out; exact ⟨_, World.drewN_drewN _ _ _⟩⟩ | (simp [intOf]; omega)
    · obtain rfl : m = k := by omega
      have HE : Hid (cntS G (l.take m) (c : Int) = cntS G l (c : Int)) := by show _ = _; rw [HML.out, List.take_length]
      rw [HE.out]
      go_wp2_with fail
      go_ret
      obtain ⟨q, rfl⟩ := HQ.out
      exact ⟨rfl, bel_drewN HB.out _⟩
end Go.Proofs.Ytinbfnabngdemaa
