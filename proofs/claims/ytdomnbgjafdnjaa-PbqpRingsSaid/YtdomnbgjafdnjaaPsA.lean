/- Solve, of whatever it is handed; what is least. -/
import Derived.Test.YtdomnbgjafdnjaaPgSv
import Derived.Test.YtdomnbgjafdnjaaPqX
import Derived.Test.YtdomnbgjafdnjaaPeM
import Derived.Test.YtdomnbgjafdnjaaPeR
import Derived.Test.YtdomnbgjafdnjaaPeW
namespace Go.Proofs.Ytdomnbgjafdnjaa
open Go.RowKit

/-- Where it is easy: what is chosen costs what 'Best' tells. -/
theorem best_eq {N : List (List Int)} {Es : List EdgeD} {l : List Int} {B : Int} (hc : chkS N Es = 0) (hS : SolR N Es l) (hr : RedP N.length (edE Es) (fun _ => false)) (hB : BestI N Es B (wtZ N N.length)) : costP N Es l = B := by
  obtain ⟨h1, h2⟩ := hB.all
  have ho := hS.ez (by rw [begin_edE]; exact hr)
  have hl := (rg_allIn hS.len).2 hS.ok
  have h3 := h1 l hS.len hl
  have h4 := (costP_rg hc hS.len hl).2
  rcases h2 with h2 | ⟨g, g1, g2, g3⟩
  · omega
  · have := opt_best hc hS.len hS.ok ho g1 ((rg_allIn g1).1 g2)
    omega

set_option maxRecDepth 100000 in
set_option maxHeartbeats 8000000 in
theorem solve_bad {p : Nat → Prop} (w : World) {na : Option Addr} {nl nc : Nat} {ea : Option Addr} {el ec : Nat} {N : List (List Int)} {Es : List EdgeD} (hp : ∀ b, p b → b < w.heap.size) (h : IsPq p w na nl nc ea el ec N Es) (hc : chkS N Es ≠ 0) :
    Calls Try.prog 14 #[costsV na nl nc ea el ec] w fun e w' => e = .returned (.tuple #[.slice none 0 0, .int .i64 0, .int .i64 (chkS N Es)]) ∧ Below w.heap.size w w' := by
  have hB0 := bel_alloc (bel_refl w) (.cells #[.slice na nl nc, .slice ea el ec] 25)
  have HCK := hid_of (check_c (p := p) (w.alloc (.cells #[.slice na nl nc, .slice ea el ec] 25)) (fun b hb => by have := hp b hb; simp; omega) (h.keep (fun b hb hlt => ⟨hb, hB0.block b (hp b hb)⟩)))
  obtain ⟨x, Hx⟩ : ∃ x, Hid (chkS N Es = x) := ⟨_, (rfl : chkS N Es = _)⟩
  rw [Hx.out] at HCK ⊢
  have hx : (x != 0) = true := by rw [Hx.out] at hc; simpa using hc
  have HB0 := hid_of hB0
  clear h hB0 hc
  go_enter Try.func14, Try.ntmps14
  go_wp2_with fail
  refine HCK.out.mono ?_
  rintro e W1 ⟨rfl, hb1⟩
  have HB1 := hid_of (bel_call HB0.out hb1)
  clear hb1 HCK
  go_wp2_with fail
  go_ret3
  exact ⟨rfl, HB1.out⟩
theorem solve_ok {p : Nat → Prop} (w : World) {na : Option Addr} {nl nc : Nat} {ea : Option Addr} {el ec : Nat} {N : List (List Int)} {Es : List EdgeD} (hp : ∀ b, p b → b < w.heap.size) (h : IsPq p w na nl nc ea el ec N Es) (hc : chkS N Es = 0) :
    Calls Try.prog 14 #[costsV na nl nc ea el ec] w fun e w' => ∃ lb l, e = .returned (.tuple #[.slice (some ⟨lb, 0, none⟩) nl nl, .int .i64 (costP N Es l), .int .i64 0]) ∧ w.heap.size ≤ lb ∧ Row w' lb 3 (ints l) ∧ SolR N Es l ∧ Below w.heap.size w w' := by
  by_cases h0 : 0 < nl
  · exact solve_g w hp h hc h0
  · have hNL := (sl_len h.nd).1
    have hN : N = [] := List.length_eq_zero_iff.1 (by omega)
    subst hN
    have hE : Es = [] := by
      cases Es with
      | nil => rfl
      | cons e r =>
        obtain ⟨-, -, -, hE⟩ := chk_ok hc
        obtain ⟨⟨a0, a1⟩, -⟩ := edge_ok (hE e (by simp))
        simp at a1
        omega
    subst hE
    have hel := (sl_len h.ed).1
    have hel0 : el = 0 := hel
    subst hel0
    refine (solve_c w hp h hc).mono ?_
    rintro e w' ⟨lb, rfl, h1, h2, h3⟩
    refine ⟨lb, chosen [], rfl, h1, h2, ⟨rfl, rfl, fun _ => OptS.all fun j hj => ?_⟩, h3⟩
    simp at hj
/-- The law's variable: the problem. -/
structure BoxC (w : World) (na : Option Addr) (nl nc : Nat) (ea : Option Addr) (el ec : Nat) (X : World) : Prop where
  r : Row X w.heap.size 25 [.slice na nl nc, .slice ea el ec]
  b : Below w.heap.size w X
section
variable {w X Y : World} {na : Option Addr} {nl nc : Nat} {ea : Option Addr} {el ec : Nat}
theorem BoxC.next (h : BoxC w na nl nc ea el ec X) (hb : Below X.heap.size X Y) : BoxC w na nl nc ea el ec Y := ⟨h.r.keep (hb.block _ h.r.lt), bel_call h.b hb⟩
theorem BoxC.lt (h : BoxC w na nl nc ea el ec X) : ∀ b, b < w.heap.size → b < X.heap.size := fun b hb => by have := h.b.size; omega
theorem BoxC.pq (h : BoxC w na nl nc ea el ec X) {N : List (List Int)} {E : List EdgeD} (hP : IsPq (· < w.heap.size) w na nl nc ea el ec N E) : IsPq (· < w.heap.size) X na nl nc ea el ec N E := hP.keep (fun b hb _ => ⟨hb, h.b.block b hb⟩)
end
end Go.Proofs.Ytdomnbgjafdnjaa
