/- Law ColorTrees: whatever list it is handed, the law returns true, and the input reads as it did. No condition. -/
import Derived.Test.YtinbfnabngdemaaColorTrees
import Derived.Test.YtinbfnabngdemaaOpen
import Derived.Test.YtinbfnabngdemaaLift
import Derived.Test.YtinbfnabngdemaaChecked
import Derived.Test.YtinbfnabngdemaaRows
import Derived.Test.YtinbfnabngdemaaEnter
import Derived.JoinedOf
namespace Go.Proofs.Ytinbfnabngdemaa
open Go.RowKit Go.ChangeShapes Go.WideShapes

set_option maxRecDepth 100000 in
theorem colorTrees_closed : joinedFacts Try.checked.prog 6 Try.f6 Rows.colorTreesSpec Rows.colorTreesRow = true := by
  show joinedFacts Try.prog 6 Try.f6 Rows.colorTreesSpec Rows.colorTreesRow = true
  unfold joinedFacts
  rw [may_enter, lifts_final, make_cut]
  kernel_rfl

set_option maxRecDepth 100000 in
theorem colorTrees_lifted (os : Os) (started : os.Started) (H : Type) (enc : TypeId × Value → H) :
    ReturnsInHanded {} Try.checked os 6 .any (Rows.colorTreesSpec.pre6 enc Try.prog Try.f6 Rows.colorTreesRow.domain false) (Rows.colorTreesSpec.post enc Try.prog Try.f6 false true false false) := by
  refine law_lifted (C := Try.checked) (fn := Try.f6) (s := Rows.colorTreesSpec) (tb := 4) (by kernel_rfl : ownKnob Try.prog.godebug = none) started (by kernel_rfl) Try.func6
    (ChangeSpec.witness6 (enc := enc) (C := Try.checked) false ⟨#[], #[.slice none 0 0], []⟩ 8 (by kernel_rfl) (by kernel_rfl) (by kernel_rfl) (by kernel_rfl)) (by kernel_rfl) Try.underlying4 rfl rfl ?_ (by kernel_rfl) ?_
  · intro H ds hd
    match ds, hd with
    | [_], _ => rfl
  · intro W args ⟨base, ds, ps, hval, hA, hsz⟩
    rw [Try.params6] at hval hA hsz
    have hA' : DataW.TrodAll enc Try.prog W 0 (fun _ => true) true [31] args.toList ds ps := hA
    obtain ⟨v0, d0, rfl, rfl, fuel0, h0⟩ := trodAll_one hA'
    obtain ⟨a0, len0, cap0, rfl⟩ := okWide_slice Try.underlying31 (hval 0 31 v0 rfl rfl)
    obtain ⟨x0, hx0⟩ := open_ints h0 (fun n hn => hsz n (List.mem_append.2 (.inl hn)))
    exact colorTrees_c W hx0

theorem colorTrees_holds : Rows.ColorTreesSaid :=
  OpenClaim.holds_of_wide 6 Try.f6 rfl rfl rfl rfl rfl rfl rfl ⟨rfl, rfl, rfl, rfl, rfl⟩ rfl rfl rfl rfl rfl (by kernel_rfl) Try.func6 colorTrees_closed
    (of_decide_eq_true (by kernel_rfl)) (by unfold Func.isWrapper; rw [if_neg (of_decide_eq_false (by kernel_rfl))]; exact ⟨rfl, rfl⟩)
    (fun os started H enc _ => colorTrees_lifted os started H enc)
end Go.Proofs.Ytinbfnabngdemaa
