/- The reference's 'Def' and 'Regs'. -/
import Derived.Test.YtcihobmjohpnkaaLvD
import Derived.Test.YtcihobmjohpnkaaOwn
namespace Go.Proofs.Ytcihobmjohpnkaa
open Go.RowKit Go.Sort

set_option maxRecDepth 100000 in
theorem refDef_c (w : World) (i : InsD) (a : Option Addr) (len cap : Nat) :
    Calls Try.prog 39 #[insV i (.slice a len cap)] w fun e w' => e = .returned (.int .i64 (defS i)) ∧ Below w.heap.size w w' := by
  obtain ⟨k, d, ia, b, n, name, args, t, f⟩ := i
  unfold insV defS
  dsimp only
  have hd0 := bel_alloc (bel_refl w) (.cells #[.int .i64 k, .int .i64 d, .int .i64 ia, .int .i64 b, .int .i64 n, .string name, .slice a len cap, .int .i64 t, .int .i64 f] 36)
  by_cases h1 : k = 1
  · subst h1; rw [if_pos (by simp)]
    go_enter Try.func39, Try.ntmps39
    go_wp2_with fail
    go_ret
    exact ⟨rfl, hd0⟩
  by_cases h2 : k = 2
  · subst h2; rw [if_pos (by simp)]
    go_enter Try.func39, Try.ntmps39
    go_wp2_with fail
    go_ret
    exact ⟨rfl, hd0⟩
  by_cases h3 : k = 3
  · subst h3; rw [if_pos (by simp)]
    go_enter Try.func39, Try.ntmps39
    go_wp2_with fail
    go_ret
    exact ⟨rfl, hd0⟩
  by_cases h4 : k = 4
  · subst h4; rw [if_pos (by simp)]
    go_enter Try.func39, Try.ntmps39
    go_wp2_with fail
    go_ret
    exact ⟨rfl, hd0⟩
  by_cases h6 : k = 6
  · subst h6; rw [if_pos (by simp)]
    go_enter Try.func39, Try.ntmps39
    go_wp2_with fail
    go_ret
    exact ⟨rfl, hd0⟩
  rw [if_neg (by omega)]
  have e1 : (k == 1) = false := by simpa using h1
  have e2 : (k == 2) = false := by simpa using h2
  have e3 : (k == 3) = false := by simpa using h3
  have e4 : (k == 4) = false := by simpa using h4
  have e6 : (k == 6) = false := by simpa using h6
  clear h1 h2 h3 h4 h6
  go_enter Try.func39, Try.ntmps39
  go_wp2_with fail
  go_ret
  exact ⟨rfl, hd0⟩
end Go.Proofs.Ytcihobmjohpnkaa
