/- 'Equal'. -/
import Derived.Test.YtcihobmjohpnkaaRef1
import Derived.Test.YtcihobmjohpnkaaBitW
namespace Go.Proofs.Ytcihobmjohpnkaa
open Go.RowKit

theorem takeN_succ_eq {α : Type} {xs ys : List α} {k : Nat} (h1 : k < xs.length) (h2 : k < ys.length) (ht : xs.take k = ys.take k) (he : xs[k] = ys[k]) : xs.take (k + 1) = ys.take (k + 1) := by
  rw [List.take_succ_eq_append_getElem h1, List.take_succ_eq_append_getElem h2, ht, he]

set_option maxRecDepth 100000 in
theorem sameWords_c {p p' : Nat → Prop} {v u : Value} {xs ys : List Nat} (w : World) (h1 : IsWords p w v xs) (h2 : IsWords p' w u ys) :
    Calls Try.prog 124 #[v, u] w fun e w' => e = .returned (.bool (decide (xs = ys))) ∧ ∃ n, w' = w.drewN n := by
  obtain ⟨a, cap, rfl, hl, hx⟩ := h1
  obtain ⟨a', cap', rfl, hl', hy⟩ := h2
  by_cases hlen : xs.length = ys.length
  · have HL : Hid (xs.length = ys.length) := hlen
    rw [hlen]
    clear hlen
    go_enter Try.func124, Try.ntmps124
    go_wp2
    go_loopw [13] (fun i wr => ∃ k n : Nat, k ≤ ys.length ∧ i = .int .i64 k ∧ wr = w.drewN n ∧ xs.take k = ys.take k) (fun i _ => ys.length - (intOf i).toNat)
    case atStart => exact ⟨0, 0, by omega, rfl, rfl, rfl⟩
    case round =>
      obtain ⟨k, n, hk, rfl, rfl, ht⟩ := hrel
      by_cases hlt : k < ys.length
      · have hlt' : k < xs.length := by rw [HL.out]; exact hlt
        rcases hx with rfl | ⟨b, off, rfl, _, hx⟩
        · simp at hlt'
        rcases hy with rfl | ⟨b', off', rfl, _, hy⟩
        · simp at hlt
        have c1 := hx k hlt'
        have c2 := hy k hlt
        simp only [CWord, Nat.mul_one] at c1 c2
        clear hx hy
        go_wp2_with fail
        go_quiet (fail)
        go_wp2
        · have hne : (((xs[k] : Nat) : Int) != ((ys[k] : Nat) : Int)) = true := by assumption
          go_ret
          refine ⟨ret_bool ?_, _, World.drewN_drewN _ _ _⟩
          have : xs ≠ ys := by rintro rfl; simp at hne
          simp [this]
        · have hne : (((xs[k] : Nat) : Int) != ((ys[k] : Nat) : Int)) = false := by assumption
          go_roundw
          case rel => exact ⟨k + 1, _, by omega, by go_num, rfl, takeN_succ_eq hlt' hlt ht (by have h := hne; simp at h; omega)⟩
          case measure => simp [intOf]; omega
      · go_wp2
        go_ret
        refine ⟨ret_bool ?_, _, rfl⟩
        have h0 := HL.out
        rw [List.take_of_length_le (by omega), List.take_of_length_le (by omega)] at ht
        simp [ht]
  · have hne : ((xs.length : Int) != (ys.length : Int)) = true := by simp; omega
    go_enter Try.func124, Try.ntmps124
    go_wp2
    go_ret
    refine ⟨ret_bool ?_, 0, rfl⟩
    have : xs ≠ ys := by rintro rfl; exact hlen rfl
    simp [this]


set_option maxRecDepth 100000 in
theorem equal_c {p q : Nat → Prop} {u v : Value} {a b : List Nat} (w : World) (ha : IsWords p w u a) (hb : IsWords q w v b) :
    Calls Try.prog 109 #[.agg #[u], .agg #[v]] w fun e w' => e = .returned (.bool (decide (a = b))) ∧ Below w.heap.size w w' := by
  go_enter Try.func109, Try.ntmps109
  go_wp2_with fail
  refine (sameWords_c _ (ha.keep (p' := p) (fun b h hb => ⟨h, (bel_alloc (bel_alloc (bel_refl w) _) _).block b hb⟩)) (hb.keep (p' := q) (fun b h hb => ⟨h, (bel_alloc (bel_alloc (bel_refl w) _) _).block b hb⟩))).mono ?_
  rintro e w1 ⟨rfl, n, rfl⟩
  have hbb := bel_drewN (bel_alloc (bel_alloc (bel_refl w) (.cells #[u] 96)) (.cells #[v] 96)) n
  go_wp2_with fail
  go_ret
  exact ⟨rfl, hbb⟩
end Go.Proofs.Ytcihobmjohpnkaa
