/- Law LoopsNone: whatever rows it is handed, the law returns true, and the input reads as it did. No condition. -/
import Derived.Test.YtcihobmjohpnkaaLoopsNone
import Derived.Test.YtcihobmjohpnkaaOpen
import Derived.Test.YtcihobmjohpnkaaLift
import Derived.Test.YtcihobmjohpnkaaChecked
import Derived.Test.YtcihobmjohpnkaaRows
import Derived.Test.YtcihobmjohpnkaaEnter
import Derived.JoinedOf
namespace Go.Proofs.Ytcihobmjohpnkaa
open Go.RowKit Go.ChangeShapes Go.WideShapes

set_option maxRecDepth 100000 in
theorem loopsNone_closed : joinedFacts Try.checked.prog 18 Try.f18 Rows.loopsNoneSpec Rows.loopsNoneRow = true := by
  show joinedFacts Try.prog 18 Try.f18 Rows.loopsNoneSpec Rows.loopsNoneRow = true
  unfold joinedFacts
  rw [may_enter, lifts_final, make_cut]
  kernel_rfl

set_option maxRecDepth 100000 in
theorem loopsNone_lifted (os : Os) (started : os.Started) (H : Type) (enc : TypeId × Value → H) :
    ReturnsInHanded {} Try.checked os 18 .any (Rows.loopsNoneSpec.pre6 enc Try.prog Try.f18 Rows.loopsNoneRow.domain false) (Rows.loopsNoneSpec.post enc Try.prog Try.f18 false true false false) := by
  refine law_lifted (C := Try.checked) (fn := Try.f18) (s := Rows.loopsNoneSpec) (tb := 4) (by kernel_rfl : ownKnob Try.prog.godebug = none) started (by kernel_rfl) Try.func18
    (ChangeSpec.witness6 (enc := enc) (C := Try.checked) false ⟨#[], #[.slice none 0 0], []⟩ 8 (by kernel_rfl) (by kernel_rfl) (by kernel_rfl) (by kernel_rfl)) (by kernel_rfl) Try.underlying4 rfl rfl ?_ (by kernel_rfl) ?_
  · intro H ds hd
    match ds, hd with
    | [_], _ => rfl
  · intro W args ⟨base, ds, ps, hval, hA, hsz⟩
    rw [Try.params18] at hval hA hsz
    have hA' : DataW.TrodAll enc Try.prog W 0 (fun _ => true) true [28] args.toList ds ps := hA
    obtain ⟨v0, d0, rfl, rfl, fuel0, h0⟩ := trodAll_one hA'
    obtain ⟨a0, len0, cap0, rfl⟩ := okWide_slice Try.underlying28 (hval 0 28 v0 rfl rfl)
    obtain ⟨x0, hx0⟩ := open_rows h0 (fun n hn => hsz n (List.mem_append.2 (.inl hn)))
    exact loopsNone_c W hx0

theorem loopsNone_holds : Rows.LoopsNoneSaid :=
  OpenClaim.holds_of_wide 18 Try.f18 rfl rfl rfl rfl rfl rfl rfl ⟨rfl, rfl, rfl, rfl, rfl⟩ rfl rfl rfl rfl rfl (by kernel_rfl) Try.func18 loopsNone_closed
    (of_decide_eq_true (by kernel_rfl)) (by unfold Func.isWrapper; rw [if_neg (of_decide_eq_false (by kernel_rfl))]; exact ⟨rfl, rfl⟩)
    (fun os started H enc _ => loopsNone_lifted os started H enc)
end Go.Proofs.Ytcihobmjohpnkaa
