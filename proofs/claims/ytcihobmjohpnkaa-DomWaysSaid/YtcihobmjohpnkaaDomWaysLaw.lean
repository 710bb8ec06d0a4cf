/- Law DomWays: whatever blocks and numbers it is handed, the law returns true, and the input reads as it did. No condition. -/
import Derived.Test.YtcihobmjohpnkaaDomWays
import Derived.Test.YtcihobmjohpnkaaOpen
import Derived.Test.YtcihobmjohpnkaaLift
import Derived.Test.YtcihobmjohpnkaaChecked
import Derived.Test.YtcihobmjohpnkaaRows
import Derived.Test.YtcihobmjohpnkaaEnter
import Derived.JoinedOf
namespace Go.Proofs.Ytcihobmjohpnkaa
open Go.RowKit Go.ChangeShapes Go.WideShapes

set_option maxRecDepth 100000 in
theorem domWays_closed : joinedFacts Try.checked.prog 13 Try.f13 Rows.domWaysSpec Rows.domWaysRow = true := by
  show joinedFacts Try.prog 13 Try.f13 Rows.domWaysSpec Rows.domWaysRow = true
  unfold joinedFacts
  rw [may_enter, lifts_final, make_cut]
  kernel_rfl

set_option maxRecDepth 100000 in
theorem domWays_lifted (os : Os) (started : os.Started) (H : Type) (enc : TypeId × Value → H) :
    ReturnsInHanded {} Try.checked os 13 .any (Rows.domWaysSpec.pre6 enc Try.prog Try.f13 Rows.domWaysRow.domain false) (Rows.domWaysSpec.post enc Try.prog Try.f13 false true false false) := by
  refine law_lifted (C := Try.checked) (fn := Try.f13) (s := Rows.domWaysSpec) (tb := 4) (by kernel_rfl : ownKnob Try.prog.godebug = none) started (by kernel_rfl) Try.func13
    (ChangeSpec.witness6 (enc := enc) (C := Try.checked) false ⟨#[], #[.slice none 0 0, .slice none 0 0], []⟩ 8 (by kernel_rfl) (by kernel_rfl) (by kernel_rfl) (by kernel_rfl)) (by kernel_rfl) Try.underlying4 rfl rfl ?_ (by kernel_rfl) ?_
  · intro H ds hd
    match ds, hd with
    | [_, _], _ => rfl
  · intro W args ⟨base, ds, ps, hval, hA, hsz⟩
    rw [Try.params13] at hval hA hsz
    have hA' : DataW.TrodAll enc Try.prog W 0 (fun _ => true) true [22, 25] args.toList ds ps := hA
    obtain ⟨v0, v1, d0, d1, p0, p1, rfl, rfl, rfl, ⟨fuel0, h0⟩, ⟨fuel1, h1⟩⟩ := trodAll_two hA'
    obtain ⟨a0, len0, cap0, rfl⟩ := okWide_slice Try.underlying22 (hval 0 22 v0 rfl rfl)
    obtain ⟨x0, hx0⟩ := open_blocks h0 (fun n hn => hsz n (List.mem_append.2 (.inl hn)))
    obtain ⟨a1, len1, cap1, rfl⟩ := okWide_slice Try.underlying25 (hval 1 25 v1 rfl rfl)
    obtain ⟨x1, hx1⟩ := open_ints h1 (fun n hn => hsz n (List.mem_append.2 (.inr (List.mem_append.2 (.inl hn)))))
    exact domWays_c W hx0 hx1

theorem domWays_holds : Rows.DomWaysSaid :=
  OpenClaim.holds_of_wide 13 Try.f13 rfl rfl rfl rfl rfl rfl rfl ⟨rfl, rfl, rfl, rfl, rfl⟩ rfl rfl rfl rfl rfl (by kernel_rfl) Try.func13 domWays_closed
    (of_decide_eq_true (by kernel_rfl)) (by unfold Func.isWrapper; rw [if_neg (of_decide_eq_false (by kernel_rfl))]; exact ⟨rfl, rfl⟩)
    (fun os started H enc _ => domWays_lifted os started H enc)
end Go.Proofs.Ytcihobmjohpnkaa
