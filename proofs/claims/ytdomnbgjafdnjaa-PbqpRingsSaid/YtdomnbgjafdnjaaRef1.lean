/- The contracts of the references' small functions on lists of ints. -/
import Derived.Test.YtdomnbgjafdnjaaProg
import Derived.Test.YtdomnbgjafdnjaaBase
import Derived.Deep.QuietTactic
import Derived.BigQuiet
namespace Go.Proofs.Ytdomnbgjafdnjaa
open Go.RowKit

set_option maxRecDepth 100000 in
theorem sameInts_c {p p' : Nat → Prop} {v u : Value} {xs ys : List Int} (w : World) (h1 : IsInts p w v xs) (h2 : IsInts p' w u ys) :
    Calls Try.prog 16 #[v, u] w fun e w' => e = .returned (.bool (sameS xs ys)) ∧ ∃ n, w' = w.drewN n := by
  obtain ⟨a, cap, rfl, hl, hx⟩ := h1
  obtain ⟨a', cap', rfl, hl', hy⟩ := h2
  by_cases hlen : xs.length = ys.length
  · have HL : Hid (xs.length = ys.length) := hlen
    rw [hlen]
    clear hlen
    go_enter Try.func16, Try.ntmps16
    go_wp2
    go_loopw [5] (fun i wr => ∃ k n : Nat, k ≤ ys.length ∧ i = .int .i64 k ∧ wr = w.drewN n ∧ xs.take k = ys.take k) (fun i _ => ys.length - (intOf i).toNat)
    case atStart => exact ⟨0, 0, by omega, rfl, rfl, rfl⟩
    case round =>
      obtain ⟨k, n, hk, rfl, rfl, ht⟩ := hrel
      by_cases hlt : k < ys.length
      · have hlt' : k < xs.length := by rw [HL.out]; exact hlt
        rcases hx with rfl | ⟨b, off, rfl, _, hx⟩
        · simp at hlt'
        rcases hy with rfl | ⟨b', off', rfl, _, hy⟩
        · simp at hlt
        have c1 := hx k hlt'
        have c2 := hy k hlt
        simp only [CInt, Nat.mul_one] at c1 c2
        clear hx hy
        go_wp2
        go_quiet (fail)
        go_wp2
        · have hne : (xs[k] != ys[k]) = true := by assumption
          go_ret
          refine ⟨ret_bool ?_, _, World.drewN_drewN _ _ _⟩
          have : xs ≠ ys := by rintro rfl; simp at hne
          simp [sameS, this]
        · have hne : (xs[k] != ys[k]) = false := by assumption
          go_roundw
          case rel => exact ⟨k + 1, _, by omega, by go_num, rfl, take_succ_eq hlt' hlt ht (by simpa using hne)⟩
          case measure => simp [intOf]; omega
      · go_wp2
        go_ret
        refine ⟨ret_bool ?_, _, rfl⟩
        have h0 := HL.out
        rw [List.take_of_length_le (by omega), List.take_of_length_le (by omega)] at ht
        simp [sameS, ht]
  · have hne : ((xs.length : Int) != (ys.length : Int)) = true := by simp; omega
    go_enter Try.func16, Try.ntmps16
    go_wp2
    go_ret
    refine ⟨ret_bool ?_, 0, rfl⟩
    have : xs ≠ ys := by rintro rfl; exact hlen rfl
    simp [sameS, this]

/-- 'In': does a list have a number? -/
theorem in_c {p : Nat → Prop} {v : Value} {xs : List Int} {n : Int} (w : World) (h1 : IsInts p w v xs) :
    Calls Try.prog 44 #[v, .int .i64 n] w fun e w' => e = .returned (.bool (inS xs n)) ∧ w' = w := by
  obtain ⟨a, cap, rfl, hl, hx⟩ := h1
  go_enter Try.func44, Try.ntmps44
  go_wp2
  go_loop [5] (fun i => ∃ k : Nat, k ≤ xs.length ∧ i = .int .i64 k ∧ inS (xs.take k) n = false) (fun i => xs.length - (intOf i).toNat)
  case atStart => exact ⟨0, by omega, rfl, by simp [inS]⟩
  case round =>
    obtain ⟨k, hk, rfl, hn⟩ := hrel
    by_cases hlt : k < xs.length
    · rcases hx with rfl | ⟨b, off, rfl, _, hx⟩
      · simp at hlt
      have c1 := hx k hlt
      simp only [CInt, Nat.mul_one] at c1
      clear hx
      have HN : Hid (inS (xs.take k) n = false) := hn
      clear hn
      go_wp2
      · have he : (xs[k] == n) = true := by assumption
        go_ret
        exact ⟨ret_bool (inS_of_get hlt (by simpa using he)).symm, rfl⟩
      · have he : (xs[k] == n) = false := by assumption
        go_round
        case rel => exact ⟨k + 1, by omega, by go_num, by rw [List.take_succ_eq_append_getElem hlt, inS_snoc, HN.out, he]; rfl⟩
        case measure => simp [intOf]; omega
    · have HN : Hid (inS (xs.take k) n = false) := hn
      clear hn
      go_wp2
      go_ret
      have h2 := HN.out
      rw [List.take_of_length_le (by omega)] at h2
      exact ⟨ret_bool h2.symm, rfl⟩
end Go.Proofs.Ytdomnbgjafdnjaa
