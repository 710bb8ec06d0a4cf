/- Law PbqpApart: whatever costs it is handed, the law returns true, and the input reads as it did. No condition. -/
import Derived.Test.YtdomnbgjafdnjaaPbqpApart
import Derived.Test.YtdomnbgjafdnjaaLift
import Derived.Test.YtdomnbgjafdnjaaChecked
import Derived.Test.YtdomnbgjafdnjaaRows
import Derived.Test.YtdomnbgjafdnjaaEnter
import Derived.JoinedOf
namespace Go.Proofs.Ytdomnbgjafdnjaa
open Go.RowKit Go.ChangeShapes Go.WideShapes

set_option maxRecDepth 100000 in
theorem pbqpApart_closed : joinedFacts Try.checked.prog 5 Try.f5 Rows.pbqpApartSpec Rows.pbqpApartRow = true := by
  show joinedFacts Try.prog 5 Try.f5 Rows.pbqpApartSpec Rows.pbqpApartRow = true
  unfold joinedFacts
  rw [may_enter, lifts_final, make_cut]
  kernel_rfl

set_option maxRecDepth 100000 in
theorem pbqpApart_lifted (os : Os) (started : os.Started) (H : Type) (enc : TypeId × Value → H) :
    ReturnsInHanded {} Try.checked os 5 .any (Rows.pbqpApartSpec.pre6 enc Try.prog Try.f5 Rows.pbqpApartRow.domain false) (Rows.pbqpApartSpec.post enc Try.prog Try.f5 false true false false) := by
  refine law_lifted (C := Try.checked) (fn := Try.f5) (s := Rows.pbqpApartSpec) (tb := 4) (by kernel_rfl : ownKnob Try.prog.godebug = none) started (by kernel_rfl) Try.func5
    (ChangeSpec.witness6 (enc := enc) (C := Try.checked) false ⟨#[], #[.slice none 0 0], []⟩ 8 (by kernel_rfl) (by kernel_rfl) (by kernel_rfl) (by kernel_rfl)) (by kernel_rfl) Try.underlying4 rfl rfl ?_ (by kernel_rfl) ?_
  · intro H ds hd
    match ds, hd with
    | [_], _ => rfl
  · intro W args ⟨base, ds, ps, hval, hA, hsz⟩
    rw [Try.params5] at hval hA hsz
    have hA' : DataW.TrodAll enc Try.prog W 0 (fun _ => true) true [22] args.toList ds ps := hA
    obtain ⟨v0, d0, rfl, rfl, fuel0, h0⟩ := trodAll_one hA'
    obtain ⟨a0, len0, cap0, rfl⟩ := okWide_slice Try.underlying22 (hval 0 22 v0 rfl rfl)
    obtain ⟨x0, hx0⟩ := open_rows h0 (fun n hn => hsz n (List.mem_append.2 (.inl hn)))
    exact pbqpApart_c W hx0

theorem pbqpApart_holds : Rows.PbqpApartSaid :=
  OpenClaim.holds_of_wide 5 Try.f5 rfl rfl rfl rfl rfl rfl rfl ⟨rfl, rfl, rfl, rfl, rfl⟩ rfl rfl rfl rfl rfl (by kernel_rfl) Try.func5 pbqpApart_closed
    (of_decide_eq_true (by kernel_rfl)) (by unfold Func.isWrapper; rw [if_neg (of_decide_eq_false (by kernel_rfl))]; exact ⟨rfl, rfl⟩)
    (fun os started H enc _ => pbqpApart_lifted os started H enc)
end Go.Proofs.Ytdomnbgjafdnjaa
