/- Law LoopsNest: whatever number it is handed, the law returns true. No condition. -/
import Derived.Test.YtcihobmjohpnkaaLoopsNest
import Derived.Test.YtcihobmjohpnkaaOpen
import Derived.Test.YtcihobmjohpnkaaLift
import Derived.Test.YtcihobmjohpnkaaChecked
import Derived.Test.YtcihobmjohpnkaaRows
import Derived.Test.YtcihobmjohpnkaaEnter
import Derived.JoinedOf
namespace Go.Proofs.Ytcihobmjohpnkaa
open Go.RowKit Go.ChangeShapes Go.WideShapes

set_option maxRecDepth 100000 in
theorem loopsNest_closed : joinedFacts Try.checked.prog 17 Try.f17 Rows.loopsNestSpec Rows.loopsNestRow = true := by
  show joinedFacts Try.prog 17 Try.f17 Rows.loopsNestSpec Rows.loopsNestRow = true
  unfold joinedFacts
  rw [may_enter, lifts_final, make_cut]
  kernel_rfl

set_option maxRecDepth 100000 in
theorem loopsNest_lifted (os : Os) (started : os.Started) (H : Type) (enc : TypeId × Value → H) :
    ReturnsInHanded {} Try.checked os 17 .any (Rows.loopsNestSpec.pre6 enc Try.prog Try.f17 Rows.loopsNestRow.domain false) (Rows.loopsNestSpec.post enc Try.prog Try.f17 false true false false) := by
  refine law_lifted (C := Try.checked) (fn := Try.f17) (s := Rows.loopsNestSpec) (tb := 4) (by kernel_rfl : ownKnob Try.prog.godebug = none) started (by kernel_rfl) Try.func17
    (ChangeSpec.witness6 (enc := enc) (C := Try.checked) false ⟨#[], #[.int .i64 0], []⟩ 8 (by kernel_rfl) (by kernel_rfl) (by kernel_rfl) (by kernel_rfl)) (by kernel_rfl) Try.underlying4 rfl rfl ?_ (by kernel_rfl) ?_
  · intro H ds hd
    match ds, hd with
    | [_], _ => rfl
  · intro W args ⟨base, ds, ps, hval, hA, hsz⟩
    rw [Try.params17] at hval hA hsz
    have hA' : DataW.TrodAll enc Try.prog W 0 (fun _ => true) true [3] args.toList ds ps := hA
    obtain ⟨v0, d0, rfl, rfl, fuel0, h0⟩ := trodAll_one hA'
    obtain ⟨n0, rfl, -, -, hn0⟩ := open_int Try.underlying3 (hval 0 3 v0 rfl rfl) ⟨fuel0, h0⟩
    exact loopsNest_c W n0

theorem loopsNest_holds : Rows.LoopsNestSaid :=
  OpenClaim.holds_of_wide 17 Try.f17 rfl rfl rfl rfl rfl rfl rfl ⟨rfl, rfl, rfl, rfl, rfl⟩ rfl rfl rfl rfl rfl (by kernel_rfl) Try.func17 loopsNest_closed
    (of_decide_eq_true (by kernel_rfl)) (by unfold Func.isWrapper; rw [if_neg (of_decide_eq_false (by kernel_rfl))]; exact ⟨rfl, rfl⟩)
    (fun os started H enc _ => loopsNest_lifted os started H enc)
end Go.Proofs.Ytcihobmjohpnkaa
