/- 'Has'. -/
import Derived.Test.YtcihobmjohpnkaaBitW
namespace Go.Proofs.Ytcihobmjohpnkaa
open Go.RowKit

theorem word_bit {x j : Nat} (hx : x < 2 ^ 64) : (bits .and .u64 ((x : Int) / 2 ^ j) 1 != 0) = x.testBit j := by
  have e : (x : Int) / 2 ^ j = ((x / 2 ^ j : Nat) : Int) := by simp
  have hd : x / 2 ^ j ≤ x := Nat.div_le_self _ _
  have := u64_and_nat (x / 2 ^ j) 1 (by omega) (by omega)
  rw [e, show (1 : Int) = ((1 : Nat) : Int) from rfl, this, nat_mask1, Nat.testBit_eq_decide_div_mod_eq]
  by_cases h : x / 2 ^ j % 2 = 1
  · rw [h]; rfl
  · have h0 : x / 2 ^ j % 2 = 0 := by omega
    rw [h0]; rfl

/-- Is a whole number in words? -/
def hasI (ws : List Nat) (n : Int) : Bool := decide (0 ≤ n) && Bit.has ws n.toNat

set_option maxRecDepth 100000 in
theorem has_c {p : Nat → Prop} {v : Value} {ws : List Nat} (w : World) (n : Int) (h : IsWords p w v ws) (hok : Bit.Ok ws) (hn : n ≤ 9223372036854775807) :
    Calls Try.prog 115 #[.agg #[v], .int .i64 n] w fun e w' => e = .returned (.bool (hasI ws n)) ∧ Below w.heap.size w w' := by
  obtain ⟨a, cap, rfl, hl, hx⟩ := h
  by_cases h0 : 0 ≤ n
  · obtain ⟨k, hq⟩ : ∃ k : Nat, n / 64 = (k : Int) := ⟨(n / 64).toNat, by omega⟩
    obtain ⟨j, hr⟩ : ∃ j : Nat, n % 64 = (j : Int) := ⟨(n % 64).toNat, by omega⟩
    have hj : j < 64 := by omega
    have hH : hasI ws n = (ws.getD k 0).testBit j := by
      unfold hasI Bit.has
      have e1 : n.toNat / 64 = k := by omega
      have e2 : n.toNat % 64 = j := by omega
      rw [e1, e2]; simp [h0]
    rw [hH]
    clear hH
    by_cases hlt : k < ws.length
    · rcases hx with rfl | ⟨b, off, rfl, hpb, hx⟩
      · simp at hlt
      have hc := hx k hlt
      simp only [CWord, Nat.mul_one] at hc
      have hbl : b < w.heap.size := lt_of_cell hc
      have hg : ws.getD k 0 = ws[k] := by simp [List.getD, hlt]
      have hx64 := Bit.getD_lt hok k
      rw [hg] at hx64
      rw [hg]
      generalize ws[k] = x at hc hx64
      clear hx hg
      go_enter Try.func115, Try.ntmps115
      go_wp2_with fail
      rw [word_bit hx64]
      go_ret
      exact ⟨rfl, bel_alloc (bel_refl w) _⟩
    · have hg : ws.getD k 0 = 0 := by simp [List.getD, List.getElem?_eq_none (show ws.length ≤ k by omega)]
      rw [hg]
      clear hx hg
      simp only [Nat.zero_testBit]
      have hd : ws.length ≤ k := by omega
      clear hlt
      go_enter Try.func115, Try.ntmps115
      go_wp2_with fail
      go_ret
      exact ⟨rfl, bel_alloc (bel_refl w) _⟩
  · have hH : hasI ws n = false := by unfold hasI; simp [h0]
    rw [hH]
    have hd : decide (0 ≤ n) = false := by simpa using h0
    clear hx h0
    go_enter Try.func115, Try.ntmps115
    go_wp2_with fail
    go_ret
    exact ⟨rfl, bel_alloc (bel_refl w) _⟩
end Go.Proofs.Ytcihobmjohpnkaa
