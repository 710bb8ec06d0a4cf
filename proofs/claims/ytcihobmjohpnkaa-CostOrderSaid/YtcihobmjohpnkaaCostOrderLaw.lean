/- Law CostOrder: whatever function it is handed, the law returns true, and the input reads as it did. No condition. -/
import Derived.Test.YtcihobmjohpnkaaCostOrder
import Derived.Test.YtcihobmjohpnkaaOpenF
import Derived.Test.YtcihobmjohpnkaaLift
import Derived.Test.YtcihobmjohpnkaaChecked
import Derived.Test.YtcihobmjohpnkaaRows
import Derived.Test.YtcihobmjohpnkaaEnter
import Derived.JoinedOf
namespace Go.Proofs.Ytcihobmjohpnkaa
open Go.RowKit Go.ChangeShapes Go.WideShapes

set_option maxRecDepth 100000 in
theorem costOrder_closed : joinedFacts Try.checked.prog 22 Try.f22 Rows.costOrderSpec Rows.costOrderRow = true := by
  show joinedFacts Try.prog 22 Try.f22 Rows.costOrderSpec Rows.costOrderRow = true
  unfold joinedFacts
  rw [may_enter, lifts_final, make_cut]
  kernel_rfl

set_option maxRecDepth 100000 in
theorem costOrder_lifted (os : Os) (started : os.Started) (H : Type) (enc : TypeId × Value → H) :
    ReturnsInHanded {} Try.checked os 22 .any (Rows.costOrderSpec.pre6 enc Try.prog Try.f22 Rows.costOrderRow.domain false) (Rows.costOrderSpec.post enc Try.prog Try.f22 false true false false) := by
  refine law_lifted (C := Try.checked) (fn := Try.f22) (s := Rows.costOrderSpec) (tb := 4) (by kernel_rfl : ownKnob Try.prog.godebug = none) started (by kernel_rfl) Try.func22
    (ChangeSpec.witness6 (enc := enc) (C := Try.checked) false ⟨#[], #[.agg #[.string ⟨#[]⟩, .slice none 0 0, .slice none 0 0, .string ⟨#[]⟩, .slice none 0 0]], []⟩ 8 (by kernel_rfl) (by kernel_rfl) (by kernel_rfl) (by kernel_rfl)) (by kernel_rfl) Try.underlying4 rfl rfl ?_ (by kernel_rfl) ?_
  · intro H ds hd
    match ds, hd with
    | [_], _ => rfl
  · intro W args ⟨base, ds, ps, hval, hA, hsz⟩
    rw [Try.params22] at hval hA hsz
    have hA' : DataW.TrodAll enc Try.prog W 0 (fun _ => true) true [44] args.toList ds ps := hA
    obtain ⟨v0, d0, rfl, rfl, fuel0, h0⟩ := trodAll_one hA'
    obtain ⟨nm0, va0, vn0, vc0, pa0, pn0, pc0, re0, ba0, bn0, bc0, vs0, ps0, L0, rfl, hv0, hp0, hL0, hN0, hm0, hr0⟩ := open_funcv (hval 0 44 v0 rfl rfl) h0 (fun n hn => hsz n (List.mem_append.2 (.inl hn)))
    exact costOrder_c W nm0 va0 vn0 vc0 pa0 pn0 pc0 re0 ba0 bn0 bc0 hv0 hp0 hL0 hN0 hm0 hr0

theorem costOrder_holds : Rows.CostOrderSaid :=
  OpenClaim.holds_of_wide 22 Try.f22 rfl rfl rfl rfl rfl rfl rfl ⟨rfl, rfl, rfl, rfl, rfl⟩ rfl rfl rfl rfl rfl (by kernel_rfl) Try.func22 costOrder_closed
    (of_decide_eq_true (by kernel_rfl)) (by unfold Func.isWrapper; rw [if_neg (of_decide_eq_false (by kernel_rfl))]; exact ⟨rfl, rfl⟩)
    (fun os started H enc _ => costOrder_lifted os started H enc)
end Go.Proofs.Ytcihobmjohpnkaa
