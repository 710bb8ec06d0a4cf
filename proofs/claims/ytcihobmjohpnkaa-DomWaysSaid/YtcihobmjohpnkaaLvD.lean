/- 'virok.Writes', 'live.Def'. -/
import Derived.Test.YtcihobmjohpnkaaMore
namespace Go.Proofs.Ytcihobmjohpnkaa
open Go.RowKit

/-- An instruction by value. -/
def insV (i : InsD) (va : Value) : Value := .agg #[.int .i64 i.k, .int .i64 i.d, .int .i64 i.a, .int .i64 i.b, .int .i64 i.n, .string i.name, va, .int .i64 i.t, .int .i64 i.f]
/-- What an instruction writes, else -1. -/
def defS (i : InsD) : Int := if i.k = 1 ∨ i.k = 2 ∨ i.k = 3 ∨ i.k = 4 ∨ i.k = 6 then i.d else -1
/-- What an instruction reads. -/
def usesS (i : InsD) : List Int := if i.k = 2 ∨ i.k = 4 ∨ i.k = 7 ∨ i.k = 9 then [i.a] else if i.k = 5 then [i.a, i.b] else if i.k = 3 ∨ i.k = 6 then i.args else []

def writesS (i : InsD) : Value := if i.k = 1 ∨ i.k = 2 ∨ i.k = 3 ∨ i.k = 4 then .tuple #[.int .i64 i.d, .bool true] else if i.k = 6 then .tuple #[.int .i64 i.d, .bool (i.d != -1)] else .tuple #[.int .i64 0, .bool false]

set_option maxRecDepth 100000 in
theorem writes_c (w : World) (i : InsD) (a : Option Addr) (len cap : Nat) :
    Calls Try.prog 79 #[insV i (.slice a len cap)] w fun e w' => e = .returned (writesS i) ∧ Below w.heap.size w w' := by
  obtain ⟨k, d, ia, b, n, name, args, t, f⟩ := i
  unfold insV writesS
  dsimp only
  have hd := bel_drewN (bel_alloc (bel_refl w) (.cells #[.int .i64 k, .int .i64 d, .int .i64 ia, .int .i64 b, .int .i64 n, .string name, .slice a len cap, .int .i64 t, .int .i64 f] 36))
  have hd0 := hd 0
  by_cases h1 : k = 1
  · subst h1; rw [if_pos (by simp)]
    go_enter Try.func79, Try.ntmps79
    go_wp2_with fail
    go_ret2
    exact ⟨rfl, hd0⟩
  by_cases h2 : k = 2
  · subst h2; rw [if_pos (by simp)]
    go_enter Try.func79, Try.ntmps79
    go_wp2_with fail
    go_ret2
    exact ⟨rfl, hd0⟩
  by_cases h3 : k = 3
  · subst h3; rw [if_pos (by simp)]
    go_enter Try.func79, Try.ntmps79
    go_wp2_with fail
    go_ret2
    exact ⟨rfl, hd0⟩
  by_cases h4 : k = 4
  · subst h4; rw [if_pos (by simp)]
    go_enter Try.func79, Try.ntmps79
    go_wp2_with fail
    go_ret2
    exact ⟨rfl, hd0⟩
  rw [if_neg (by omega)]
  by_cases h6 : k = 6
  · subst h6; rw [if_pos rfl]
    clear h1 h2 h3 h4
    go_enter Try.func79, Try.ntmps79
    go_wp2_with fail
    go_quiet (fail)
    go_wp2_with fail
    go_ret2
    exact ⟨rfl, hd _⟩
  · rw [if_neg h6]
    have e1 : (k == 1) = false := by simpa using h1
    have e2 : (k == 2) = false := by simpa using h2
    have e3 : (k == 3) = false := by simpa using h3
    have e4 : (k == 4) = false := by simpa using h4
    have e6 : (k == 6) = false := by simpa using h6
    clear h1 h2 h3 h4 h6
    go_enter Try.func79, Try.ntmps79
    go_wp2_with fail
    go_ret2
    exact ⟨rfl, hd0⟩

set_option maxRecDepth 100000 in
theorem def_c (w : World) (i : InsD) (a : Option Addr) (len cap : Nat) :
    Calls Try.prog 38 #[insV i (.slice a len cap)] w fun e w' => e = .returned (.int .i64 (defS i)) ∧ Below w.heap.size w w' := by
  obtain ⟨x, y, hw, hxy⟩ : ∃ (x : Int) (y : Bool), writesS i = .tuple #[.int .i64 x, .bool y] ∧ defS i = if y = true then x else -1 := by
    unfold writesS defS
    by_cases h : i.k = 1 ∨ i.k = 2 ∨ i.k = 3 ∨ i.k = 4
    · exact ⟨_, _, by rw [if_pos h], by rw [if_pos (by omega)]; rfl⟩
    · by_cases h6 : i.k = 6
      · refine ⟨i.d, i.d != -1, by rw [if_neg h, if_pos h6], ?_⟩
        rw [if_pos (by omega)]
        by_cases e : i.d = -1 <;> simp [e]
      · exact ⟨0, false, by rw [if_neg h, if_neg h6], by rw [if_neg (by omega)]; rfl⟩
  rw [hxy]
  have hc := fun W => writes_c W i a len cap
  rw [hw] at hc
  unfold insV at hc ⊢
  clear hw hxy
  have hB0 := bel_alloc (bel_refl w) (.cells #[.int .i64 i.k, .int .i64 i.d, .int .i64 i.a, .int .i64 i.b, .int .i64 i.n, .string i.name, .slice a len cap, .int .i64 i.t, .int .i64 i.f] 36)
  cases y
  all_goals
    go_enter Try.func38, Try.ntmps38
    go_wp2_with fail
    refine (hc _).mono ?_
    rintro e w1 ⟨rfl, hb1⟩
    have hb2 := bel_call hB0 hb1
    go_wp2_with fail
    go_ret
    exact ⟨rfl, hb2⟩
end Go.Proofs.Ytcihobmjohpnkaa
