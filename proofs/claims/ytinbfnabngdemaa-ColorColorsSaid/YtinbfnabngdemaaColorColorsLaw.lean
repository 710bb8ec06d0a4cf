/- Law ColorColors: whatever graph it is handed, the law returns true, and the input reads as it did. No condition. -/
import Derived.Test.YtinbfnabngdemaaColorColors
import Derived.Test.YtinbfnabngdemaaCoO
import Derived.Test.YtinbfnabngdemaaLift
import Derived.Test.YtinbfnabngdemaaChecked
import Derived.Test.YtinbfnabngdemaaRows
import Derived.Test.YtinbfnabngdemaaEnter
import Derived.JoinedOf
namespace Go.Proofs.Ytinbfnabngdemaa
open Go.RowKit Go.ChangeShapes Go.WideShapes

set_option maxRecDepth 100000 in
theorem colorColors_closed : joinedFacts Try.checked.prog 3 Try.f3 Rows.colorColorsSpec Rows.colorColorsRow = true := by
  show joinedFacts Try.prog 3 Try.f3 Rows.colorColorsSpec Rows.colorColorsRow = true
  unfold joinedFacts
  rw [may_enter, lifts_final, make_cut]
  kernel_rfl

set_option maxRecDepth 100000 in
theorem colorColors_lifted (os : Os) (started : os.Started) (H : Type) (enc : TypeId × Value → H) :
    ReturnsInHanded {} Try.checked os 3 .any (Rows.colorColorsSpec.pre6 enc Try.prog Try.f3 Rows.colorColorsRow.domain false) (Rows.colorColorsSpec.post enc Try.prog Try.f3 false true false false) := by
  refine law_lifted (C := Try.checked) (fn := Try.f3) (s := Rows.colorColorsSpec) (tb := 4) (by kernel_rfl : ownKnob Try.prog.godebug = none) started (by kernel_rfl) Try.func3
    (ChangeSpec.witness6 (enc := enc) (C := Try.checked) false ⟨#[], #[.agg #[.slice none 0 0, .slice none 0 0, .slice none 0 0, .slice none 0 0]], []⟩ 8 (by kernel_rfl) (by kernel_rfl) (by kernel_rfl) (by kernel_rfl)) (by kernel_rfl) Try.underlying4 rfl rfl ?_ (by kernel_rfl) ?_
  · intro H ds hd
    match ds, hd with
    | [_], _ => rfl
  · intro W args ⟨base, ds, ps, hval, hA, hsz⟩
    rw [Try.params3] at hval hA hsz
    have hA' : DataW.TrodAll enc Try.prog W 0 (fun _ => true) true [25] args.toList ds ps := hA
    obtain ⟨v0, d0, rfl, rfl, fuel0, h0⟩ := trodAll_one hA'
    obtain ⟨⟨_, _, _, _, _, _, _, _, _, _, _, _⟩, G0, rfl, hx0⟩ := open_graphv (hval 0 25 v0 rfl rfl) h0 (fun n hn => hsz n (List.mem_append.2 (.inl hn)))
    exact colorColors_c W hx0

theorem colorColors_holds : Rows.ColorColorsSaid :=
  OpenClaim.holds_of_wide 3 Try.f3 rfl rfl rfl rfl rfl rfl rfl ⟨rfl, rfl, rfl, rfl, rfl⟩ rfl rfl rfl rfl rfl (by kernel_rfl) Try.func3 colorColors_closed
    (of_decide_eq_true (by kernel_rfl)) (by unfold Func.isWrapper; rw [if_neg (of_decide_eq_false (by kernel_rfl))]; exact ⟨rfl, rfl⟩)
    (fun os started H enc _ => colorColors_lifted os started H enc)
end Go.Proofs.Ytinbfnabngdemaa
