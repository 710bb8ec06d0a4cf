/- Law ColorWide: whatever three numbers it is handed, the law returns true, and the input reads as it did. No condition. -/
import Derived.Test.YtinbfnabngdemaaColorWide
import Derived.Test.YtinbfnabngdemaaOpen
import Derived.Test.YtinbfnabngdemaaLift
import Derived.Test.YtinbfnabngdemaaChecked
import Derived.Test.YtinbfnabngdemaaRows
import Derived.Test.YtinbfnabngdemaaEnter
import Derived.JoinedOf
namespace Go.Proofs.Ytinbfnabngdemaa
open Go.RowKit Go.ChangeShapes Go.WideShapes

set_option maxRecDepth 100000 in
theorem colorWide_closed : joinedFacts Try.checked.prog 8 Try.f8 Rows.colorWideSpec Rows.colorWideRow = true := by
  show joinedFacts Try.prog 8 Try.f8 Rows.colorWideSpec Rows.colorWideRow = true
  unfold joinedFacts
  rw [may_enter, lifts_final, make_cut]
  kernel_rfl

set_option maxRecDepth 100000 in
theorem colorWide_lifted (os : Os) (started : os.Started) (H : Type) (enc : TypeId × Value → H) :
    ReturnsInHanded {} Try.checked os 8 .any (Rows.colorWideSpec.pre6 enc Try.prog Try.f8 Rows.colorWideRow.domain false) (Rows.colorWideSpec.post enc Try.prog Try.f8 false true false false) := by
  refine law_lifted (C := Try.checked) (fn := Try.f8) (s := Rows.colorWideSpec) (tb := 4) (by kernel_rfl : ownKnob Try.prog.godebug = none) started (by kernel_rfl) Try.func8
    (ChangeSpec.witness6 (enc := enc) (C := Try.checked) false ⟨#[], #[.int .i64 0, .int .i64 0, .int .i64 0], []⟩ 8 (by kernel_rfl) (by kernel_rfl) (by kernel_rfl) (by kernel_rfl)) (by kernel_rfl) Try.underlying4 rfl rfl ?_ (by kernel_rfl) ?_
  · intro H ds hd
    match ds, hd with
    | [_, _, _], _ => rfl
  · intro W args ⟨base, ds, ps, hval, hA, hsz⟩
    rw [Try.params8] at hval hA hsz
    have hA' : DataW.TrodAll enc Try.prog W 0 (fun _ => true) true [3, 3, 3] args.toList ds ps := hA
    obtain ⟨v0, v1, v2, d0, d1, d2, p0, p1, p2, rfl, rfl, rfl, ⟨fuel0, h0⟩, ⟨fuel1, h1⟩, ⟨fuel2, h2⟩⟩ := trodAll_three hA'
    obtain ⟨n0, rfl, -, -, hn0⟩ := open_int Try.underlying3 (hval 0 3 v0 rfl rfl) ⟨fuel0, h0⟩
    obtain ⟨n1, rfl, -, -, hn1⟩ := open_int Try.underlying3 (hval 1 3 v1 rfl rfl) ⟨fuel1, h1⟩
    obtain ⟨n2, rfl, -, -, hn2⟩ := open_int Try.underlying3 (hval 2 3 v2 rfl rfl) ⟨fuel2, h2⟩
    exact colorWide_c W n0 n1 n2

theorem colorWide_holds : Rows.ColorWideSaid :=
  OpenClaim.holds_of_wide 8 Try.f8 rfl rfl rfl rfl rfl rfl rfl ⟨rfl, rfl, rfl, rfl, rfl⟩ rfl rfl rfl rfl rfl (by kernel_rfl) Try.func8 colorWide_closed
    (of_decide_eq_true (by kernel_rfl)) (by unfold Func.isWrapper; rw [if_neg (of_decide_eq_false (by kernel_rfl))]; exact ⟨rfl, rfl⟩)
    (fun os started H enc _ => colorWide_lifted os started H enc)
end Go.Proofs.Ytinbfnabngdemaa
