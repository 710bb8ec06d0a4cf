/- Law CostDeep: whatever number it is handed, the law returns true, and the input reads as it did. No condition. -/
import Derived.Test.YtcihobmjohpnkaaCostDeep
import Derived.Test.YtcihobmjohpnkaaLift
import Derived.Test.YtcihobmjohpnkaaChecked
import Derived.Test.YtcihobmjohpnkaaRows
import Derived.Test.YtcihobmjohpnkaaEnter
import Derived.JoinedOf
namespace Go.Proofs.Ytcihobmjohpnkaa
open Go.RowKit Go.ChangeShapes Go.WideShapes

set_option maxRecDepth 100000 in
theorem costDeep_closed : joinedFacts Try.checked.prog 20 Try.f20 Rows.costDeepSpec Rows.costDeepRow = true := by
  show joinedFacts Try.prog 20 Try.f20 Rows.costDeepSpec Rows.costDeepRow = true
  unfold joinedFacts
  rw [may_enter, lifts_final, make_cut]
  kernel_rfl

set_option maxRecDepth 100000 in
theorem costDeep_lifted (os : Os) (started : os.Started) (H : Type) (enc : TypeId × Value → H) :
    ReturnsInHanded {} Try.checked os 20 .any (Rows.costDeepSpec.pre6 enc Try.prog Try.f20 Rows.costDeepRow.domain false) (Rows.costDeepSpec.post enc Try.prog Try.f20 false true false false) := by
  refine law_lifted (C := Try.checked) (fn := Try.f20) (s := Rows.costDeepSpec) (tb := 4) (by kernel_rfl : ownKnob Try.prog.godebug = none) started (by kernel_rfl) Try.func20
    (ChangeSpec.witness6 (enc := enc) (C := Try.checked) false ⟨#[], #[.int .i64 0], []⟩ 8 (by kernel_rfl) (by kernel_rfl) (by kernel_rfl) (by kernel_rfl)) (by kernel_rfl) Try.underlying4 rfl rfl ?_ (by kernel_rfl) ?_
  · intro H ds hd
    match ds, hd with
    | [_], _ => rfl
  · intro W args ⟨base, ds, ps, hval, hA, hsz⟩
    rw [Try.params20] at hval hA hsz
    have hA' : DataW.TrodAll enc Try.prog W 0 (fun _ => true) true [3] args.toList ds ps := hA
    obtain ⟨v0, d0, rfl, rfl, fuel0, h0⟩ := trodAll_one hA'
    obtain ⟨n0, rfl, -, -, hn0⟩ := open_int Try.underlying3 (hval 0 3 v0 rfl rfl) ⟨fuel0, h0⟩
    exact costDeep_c W n0

theorem costDeep_holds : Rows.CostDeepSaid :=
  OpenClaim.holds_of_wide 20 Try.f20 rfl rfl rfl rfl rfl rfl rfl ⟨rfl, rfl, rfl, rfl, rfl⟩ rfl rfl rfl rfl rfl (by kernel_rfl) Try.func20 costDeep_closed
    (of_decide_eq_true (by kernel_rfl)) (by unfold Func.isWrapper; rw [if_neg (of_decide_eq_false (by kernel_rfl))]; exact ⟨rfl, rfl⟩)
    (fun os started H enc _ => costDeep_lifted os started H enc)
end Go.Proofs.Ytcihobmjohpnkaa
