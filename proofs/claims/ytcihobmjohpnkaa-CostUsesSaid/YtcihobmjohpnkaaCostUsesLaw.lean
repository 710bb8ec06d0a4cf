/- Law CostUses: whatever instructions and number it is handed, the law returns true, and the input reads as it did. No condition. -/
import Derived.Test.YtcihobmjohpnkaaCostUses
import Derived.Test.YtcihobmjohpnkaaOpenF
import Derived.Test.YtcihobmjohpnkaaLift
import Derived.Test.YtcihobmjohpnkaaChecked
import Derived.Test.YtcihobmjohpnkaaRows
import Derived.Test.YtcihobmjohpnkaaEnter
import Derived.JoinedOf
namespace Go.Proofs.Ytcihobmjohpnkaa
open Go.RowKit Go.ChangeShapes Go.WideShapes

set_option maxRecDepth 100000 in
theorem costUses_closed : joinedFacts Try.checked.prog 19 Try.f19 Rows.costUsesSpec Rows.costUsesRow = true := by
  show joinedFacts Try.prog 19 Try.f19 Rows.costUsesSpec Rows.costUsesRow = true
  unfold joinedFacts
  rw [may_enter, lifts_final, make_cut]
  kernel_rfl

set_option maxRecDepth 100000 in
theorem costUses_lifted (os : Os) (started : os.Started) (H : Type) (enc : TypeId × Value → H) :
    ReturnsInHanded {} Try.checked os 19 .any (Rows.costUsesSpec.pre6 enc Try.prog Try.f19 Rows.costUsesRow.domain false) (Rows.costUsesSpec.post enc Try.prog Try.f19 false true false false) := by
  refine law_lifted (C := Try.checked) (fn := Try.f19) (s := Rows.costUsesSpec) (tb := 4) (by kernel_rfl : ownKnob Try.prog.godebug = none) started (by kernel_rfl) Try.func19
    (ChangeSpec.witness6 (enc := enc) (C := Try.checked) false ⟨#[], #[.slice none 0 0, .int .i64 0], []⟩ 8 (by kernel_rfl) (by kernel_rfl) (by kernel_rfl) (by kernel_rfl)) (by kernel_rfl) Try.underlying4 rfl rfl ?_ (by kernel_rfl) ?_
  · intro H ds hd
    match ds, hd with
    | [_, _], _ => rfl
  · intro W args ⟨base, ds, ps, hval, hA, hsz⟩
    rw [Try.params19] at hval hA hsz
    have hA' : DataW.TrodAll enc Try.prog W 0 (fun _ => true) true [40, 3] args.toList ds ps := hA
    obtain ⟨v0, v1, d0, d1, p0, p1, rfl, rfl, rfl, ⟨fuel0, h0⟩, ⟨fuel1, h1⟩⟩ := trodAll_two hA'
    obtain ⟨a0, len0, cap0, rfl⟩ := okWide_slice Try.underlying40 (hval 0 40 v0 rfl rfl)
    obtain ⟨x0, hx0, hN0⟩ := open_inslN h0 (fun n hn => hsz n (List.mem_append.2 (.inl hn)))
    obtain ⟨n1, rfl, -, -, hn1⟩ := open_int Try.underlying3 (hval 1 3 v1 rfl rfl) ⟨fuel1, h1⟩
    exact costUses_d W hx0 hN0 n1

theorem costUses_holds : Rows.CostUsesSaid :=
  OpenClaim.holds_of_wide 19 Try.f19 rfl rfl rfl rfl rfl rfl rfl ⟨rfl, rfl, rfl, rfl, rfl⟩ rfl rfl rfl rfl rfl (by kernel_rfl) Try.func19 costUses_closed
    (of_decide_eq_true (by kernel_rfl)) (by unfold Func.isWrapper; rw [if_neg (of_decide_eq_false (by kernel_rfl))]; exact ⟨rfl, rfl⟩)
    (fun os started H enc _ => costUses_lifted os started H enc)
end Go.Proofs.Ytcihobmjohpnkaa
