/- Law CostTells: what each register costs, and which is the cheaper, of any function, is what the document's answer tells. No condition. -/
import Derived.Test.YtcihobmjohpnkaaCostTells
import Derived.Test.YtcihobmjohpnkaaOpenF
import Derived.Test.YtcihobmjohpnkaaLift
import Derived.Test.YtcihobmjohpnkaaChecked
import Derived.Test.YtcihobmjohpnkaaRows
import Derived.Test.YtcihobmjohpnkaaEnter
import Derived.JoinedOf
namespace Go.Proofs.Ytcihobmjohpnkaa
open Go.RowKit Go.ChangeShapes Go.WideShapes

set_option maxRecDepth 100000 in
theorem costTells_closed : joinedFacts Try.checked.prog 21 Try.f21 Rows.costTellsSpec Rows.costTellsRow = true := by
  show joinedFacts Try.prog 21 Try.f21 Rows.costTellsSpec Rows.costTellsRow = true
  unfold joinedFacts
  rw [may_enter, lifts_final, make_cut]
  kernel_rfl

set_option maxRecDepth 100000 in
theorem costTells_lifted (os : Os) (started : os.Started) (H : Type) (enc : TypeId × Value → H) :
    ReturnsInHanded {} Try.checked os 21 .any (Rows.costTellsSpec.pre6 enc Try.prog Try.f21 Rows.costTellsRow.domain false) (Rows.costTellsSpec.post enc Try.prog Try.f21 false true false false) := by
  refine law_lifted (C := Try.checked) (fn := Try.f21) (s := Rows.costTellsSpec) (tb := 4) (by kernel_rfl : ownKnob Try.prog.godebug = none) started (by kernel_rfl) Try.func21
    (ChangeSpec.witness6 (enc := enc) (C := Try.checked) false ⟨#[], #[.agg #[.string ⟨#[]⟩, .slice none 0 0, .slice none 0 0, .string ⟨#[]⟩, .slice none 0 0], .int .i64 0], []⟩ 8 (by kernel_rfl) (by kernel_rfl) (by kernel_rfl) (by kernel_rfl)) (by kernel_rfl) Try.underlying4 rfl rfl ?_ (by kernel_rfl) ?_
  · intro H ds hd
    match ds, hd with
    | [_, _], _ => rfl
  · intro W args ⟨base, ds, ps, hval, hA, hsz⟩
    rw [Try.params21] at hval hA hsz
    have hA' : DataW.TrodAll enc Try.prog W 0 (fun _ => true) true [44, 3] args.toList ds ps := hA
    obtain ⟨v0, v1, d0, d1, p0, p1, rfl, rfl, rfl, ⟨fuel0, h0⟩, ⟨fuel1, h1⟩⟩ := trodAll_two hA'
    obtain ⟨nm0, va0, vn0, vc0, pa0, pn0, pc0, re0, ba0, bn0, bc0, vs0, ps0, L0, rfl, hv0, hp0, hL0, hN0, hm0, hr0⟩ := open_funcv (hval 0 44 v0 rfl rfl) h0 (fun n hn => hsz n (List.mem_append.2 (.inl hn)))
    obtain ⟨n1, rfl, -, -, hn1⟩ := open_int Try.underlying3 (hval 1 3 v1 rfl rfl) ⟨fuel1, h1⟩
    exact costTells_c W nm0 va0 vn0 vc0 pa0 pn0 pc0 re0 ba0 bn0 bc0 hv0 hp0 hL0 hN0 hm0 hr0 n1

theorem costTells_holds : Rows.CostTellsSaid :=
  OpenClaim.holds_of_wide 21 Try.f21 rfl rfl rfl rfl rfl rfl rfl ⟨rfl, rfl, rfl, rfl, rfl⟩ rfl rfl rfl rfl rfl (by kernel_rfl) Try.func21 costTells_closed
    (of_decide_eq_true (by kernel_rfl)) (by unfold Func.isWrapper; rw [if_neg (of_decide_eq_false (by kernel_rfl))]; exact ⟨rfl, rfl⟩)
    (fun os started H enc _ => costTells_lifted os started H enc)
end Go.Proofs.Ytcihobmjohpnkaa
