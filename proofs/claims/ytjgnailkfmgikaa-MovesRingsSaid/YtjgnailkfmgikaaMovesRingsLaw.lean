/- Law MovesRings: whatever rings and chain it is handed, the law returns true, and the input reads as it did. No condition. -/
import Derived.Test.YtjgnailkfmgikaaMovesRings
import Derived.Test.YtjgnailkfmgikaaMvOpen
import Derived.Test.YtjgnailkfmgikaaLift
import Derived.Test.YtjgnailkfmgikaaChecked
import Derived.Test.YtjgnailkfmgikaaRows
import Derived.Test.YtjgnailkfmgikaaEnter
import Derived.JoinedOf
namespace Go.Proofs.Ytjgnailkfmgikaa
open Go.RowKit Go.ChangeShapes Go.WideShapes

set_option maxRecDepth 100000 in
theorem movesRings_closed : joinedFacts Try.checked.prog 5 Try.f5 Rows.movesRingsSpec Rows.movesRingsRow = true := by
  show joinedFacts Try.prog 5 Try.f5 Rows.movesRingsSpec Rows.movesRingsRow = true
  unfold joinedFacts
  rw [may_enter, lifts_final, make_cut]
  kernel_rfl

set_option maxRecDepth 100000 in
theorem movesRings_lifted (os : Os) (started : os.Started) (H : Type) (enc : TypeId × Value → H) :
    ReturnsInHanded {} Try.checked os 5 .any (Rows.movesRingsSpec.pre6 enc Try.prog Try.f5 Rows.movesRingsRow.domain false) (Rows.movesRingsSpec.post enc Try.prog Try.f5 false true false false) := by
  refine law_lifted (C := Try.checked) (fn := Try.f5) (s := Rows.movesRingsSpec) (tb := 4) (by kernel_rfl : ownKnob Try.prog.godebug = none) started (by kernel_rfl) Try.func5
    (ChangeSpec.witness6 (enc := enc) (C := Try.checked) false ⟨#[], #[.slice none 0 0, .int .i64 0], []⟩ 8 (by kernel_rfl) (by kernel_rfl) (by kernel_rfl) (by kernel_rfl)) (by kernel_rfl) Try.underlying4 rfl rfl ?_ (by kernel_rfl) ?_
  · intro H ds hd
    match ds, hd with
    | [_, _], _ => rfl
  · intro W args ⟨base, ds, ps, hval, hA, hsz⟩
    rw [Try.params5] at hval hA hsz
    have hA' : DataW.TrodAll enc Try.prog W 0 (fun _ => true) true [33, 3] args.toList ds ps := hA
    obtain ⟨v0, v1, d0, d1, p0, p1, rfl, rfl, rfl, ⟨fuel0, h0⟩, ⟨fuel1, h1⟩⟩ := trodAll_two hA'
    obtain ⟨a0, len0, cap0, rfl⟩ := okWide_slice Try.underlying33 (hval 0 33 v0 rfl rfl)
    obtain ⟨x0, hx0⟩ := open_ints h0 (fun n hn => hsz n (List.mem_append.2 (.inl hn)))
    obtain ⟨n1, rfl, -, -, hn1⟩ := open_int Try.underlying3 (hval 1 3 v1 rfl rfl) ⟨fuel1, h1⟩
    exact movesRings_c W hx0 n1

theorem movesRings_holds : Rows.MovesRingsSaid :=
  OpenClaim.holds_of_wide 5 Try.f5 rfl rfl rfl rfl rfl rfl rfl ⟨rfl, rfl, rfl, rfl, rfl⟩ rfl rfl rfl rfl rfl (by kernel_rfl) Try.func5 movesRings_closed
    (of_decide_eq_true (by kernel_rfl)) (by unfold Func.isWrapper; rw [if_neg (of_decide_eq_false (by kernel_rfl))]; exact ⟨rfl, rfl⟩)
    (fun os started H enc _ => movesRings_lifted os started H enc)
end Go.Proofs.Ytjgnailkfmgikaa
