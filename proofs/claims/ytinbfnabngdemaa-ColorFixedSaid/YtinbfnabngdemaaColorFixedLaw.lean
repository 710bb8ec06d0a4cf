/- Law ColorFixed: whatever n and k, the law returns true, and the input reads as it did. No condition. -/
import Derived.Test.YtinbfnabngdemaaColorFixed
import Derived.Test.YtinbfnabngdemaaOpen
import Derived.Test.YtinbfnabngdemaaLift
import Derived.Test.YtinbfnabngdemaaChecked
import Derived.Test.YtinbfnabngdemaaRows
import Derived.Test.YtinbfnabngdemaaEnter
import Derived.JoinedOf
namespace Go.Proofs.Ytinbfnabngdemaa
open Go.RowKit Go.ChangeShapes Go.WideShapes

set_option maxRecDepth 100000 in
theorem colorFixed_closed : joinedFacts Try.checked.prog 9 Try.f9 Rows.colorFixedSpec Rows.colorFixedRow = true := by
  show joinedFacts Try.prog 9 Try.f9 Rows.colorFixedSpec Rows.colorFixedRow = true
  unfold joinedFacts
  rw [may_enter, lifts_final, make_cut]
  kernel_rfl

set_option maxRecDepth 100000 in
theorem colorFixed_lifted (os : Os) (started : os.Started) (H : Type) (enc : TypeId × Value → H) :
    ReturnsInHanded {} Try.checked os 9 .any (Rows.colorFixedSpec.pre6 enc Try.prog Try.f9 Rows.colorFixedRow.domain false) (Rows.colorFixedSpec.post enc Try.prog Try.f9 false true false false) := by
  refine law_lifted (C := Try.checked) (fn := Try.f9) (s := Rows.colorFixedSpec) (tb := 4) (by kernel_rfl : ownKnob Try.prog.godebug = none) started (by kernel_rfl) Try.func9
    (ChangeSpec.witness6 (enc := enc) (C := Try.checked) false ⟨#[], #[.int .i64 0, .int .i64 0], []⟩ 8 (by kernel_rfl) (by kernel_rfl) (by kernel_rfl) (by kernel_rfl)) (by kernel_rfl) Try.underlying4 rfl rfl ?_ (by kernel_rfl) ?_
  · intro H ds hd
    match ds, hd with
    | [_, _], _ => rfl
  · intro W args ⟨base, ds, ps, hval, hA, hsz⟩
    rw [Try.params9] at hval hA hsz
    have hA' : DataW.TrodAll enc Try.prog W 0 (fun _ => true) true [3, 3] args.toList ds ps := hA
    obtain ⟨v0, v1, d0, d1, p0, p1, rfl, rfl, rfl, ⟨fuel0, h0⟩, ⟨fuel1, h1⟩⟩ := trodAll_two hA'
    obtain ⟨n0, rfl, -, -, hn0⟩ := open_int Try.underlying3 (hval 0 3 v0 rfl rfl) ⟨fuel0, h0⟩
    obtain ⟨n1, rfl, -, -, hn1⟩ := open_int Try.underlying3 (hval 1 3 v1 rfl rfl) ⟨fuel1, h1⟩
    exact colorFixed_c W n0 n1

theorem colorFixed_holds : Rows.ColorFixedSaid :=
  OpenClaim.holds_of_wide 9 Try.f9 rfl rfl rfl rfl rfl rfl rfl ⟨rfl, rfl, rfl, rfl, rfl⟩ rfl rfl rfl rfl rfl (by kernel_rfl) Try.func9 colorFixed_closed
    (of_decide_eq_true (by kernel_rfl)) (by unfold Func.isWrapper; rw [if_neg (of_decide_eq_false (by kernel_rfl))]; exact ⟨rfl, rfl⟩)
    (fun os started H enc _ => colorFixed_lifted os started H enc)
end Go.Proofs.Ytinbfnabngdemaa
