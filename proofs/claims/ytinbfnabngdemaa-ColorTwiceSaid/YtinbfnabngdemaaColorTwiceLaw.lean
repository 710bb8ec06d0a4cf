/- Law ColorTwice: whatever two graphs it is handed, the law returns true, and the input reads as it did. No condition. -/
import Derived.Test.YtinbfnabngdemaaColorTwice
import Derived.Test.YtinbfnabngdemaaCoO
import Derived.Test.YtinbfnabngdemaaLift
import Derived.Test.YtinbfnabngdemaaChecked
import Derived.Test.YtinbfnabngdemaaRows
import Derived.Test.YtinbfnabngdemaaEnter
import Derived.JoinedOf
namespace Go.Proofs.Ytinbfnabngdemaa
open Go.RowKit Go.ChangeShapes Go.WideShapes

set_option maxRecDepth 100000 in
theorem colorTwice_closed : joinedFacts Try.checked.prog 4 Try.f4 Rows.colorTwiceSpec Rows.colorTwiceRow = true := by
  show joinedFacts Try.prog 4 Try.f4 Rows.colorTwiceSpec Rows.colorTwiceRow = true
  unfold joinedFacts
  rw [may_enter, lifts_final, make_cut]
  kernel_rfl

set_option maxRecDepth 100000 in
theorem colorTwice_lifted (os : Os) (started : os.Started) (H : Type) (enc : TypeId × Value → H) :
    ReturnsInHanded {} Try.checked os 4 .any (Rows.colorTwiceSpec.pre6 enc Try.prog Try.f4 Rows.colorTwiceRow.domain false) (Rows.colorTwiceSpec.post enc Try.prog Try.f4 false true false false) := by
  refine law_lifted (C := Try.checked) (fn := Try.f4) (s := Rows.colorTwiceSpec) (tb := 4) (by kernel_rfl : ownKnob Try.prog.godebug = none) started (by kernel_rfl) Try.func4
    (ChangeSpec.witness6 (enc := enc) (C := Try.checked) false ⟨#[], #[.agg #[.slice none 0 0, .slice none 0 0, .slice none 0 0, .slice none 0 0], .agg #[.slice none 0 0, .slice none 0 0, .slice none 0 0, .slice none 0 0]], []⟩ 8 (by kernel_rfl) (by kernel_rfl) (by kernel_rfl) (by kernel_rfl)) (by kernel_rfl) Try.underlying4 rfl rfl ?_ (by kernel_rfl) ?_
  · intro H ds hd
    match ds, hd with
    | [_, _], _ => rfl
  · intro W args ⟨base, ds, ps, hval, hA, hsz⟩
    rw [Try.params4] at hval hA hsz
    have hA' : DataW.TrodAll enc Try.prog W 0 (fun _ => true) true [25, 25] args.toList ds ps := hA
    obtain ⟨v0, v1, d0, d1, p0, p1, rfl, rfl, rfl, ⟨fuel0, h0⟩, ⟨fuel1, h1⟩⟩ := trodAll_two hA'
    obtain ⟨⟨_, _, _, _, _, _, _, _, _, _, _, _⟩, G0, rfl, hx0⟩ := open_graphv (hval 0 25 v0 rfl rfl) h0 (fun n hn => hsz n (List.mem_append.2 (.inl hn)))
    obtain ⟨⟨_, _, _, _, _, _, _, _, _, _, _, _⟩, G1, rfl, hx1⟩ := open_graphv (hval 1 25 v1 rfl rfl) h1 (fun n hn => hsz n (List.mem_append.2 (.inr (List.mem_append.2 (.inl hn)))))
    exact colorTwice_c W hx0 hx1

theorem colorTwice_holds : Rows.ColorTwiceSaid :=
  OpenClaim.holds_of_wide 4 Try.f4 rfl rfl rfl rfl rfl rfl rfl ⟨rfl, rfl, rfl, rfl, rfl⟩ rfl rfl rfl rfl rfl (by kernel_rfl) Try.func4 colorTwice_closed
    (of_decide_eq_true (by kernel_rfl)) (by unfold Func.isWrapper; rw [if_neg (of_decide_eq_false (by kernel_rfl))]; exact ⟨rfl, rfl⟩)
    (fun os started H enc _ => colorTwice_lifted os started H enc)
end Go.Proofs.Ytinbfnabngdemaa
