/- Law PbqpRings: whatever length and costs it is handed, the law returns true, and the input reads as it did. No condition. -/
import Derived.Test.YtdomnbgjafdnjaaPbqpRings
import Derived.Test.YtdomnbgjafdnjaaLift
import Derived.Test.YtdomnbgjafdnjaaChecked
import Derived.Test.YtdomnbgjafdnjaaRows
import Derived.Test.YtdomnbgjafdnjaaEnter
import Derived.JoinedOf
namespace Go.Proofs.Ytdomnbgjafdnjaa
open Go.RowKit Go.ChangeShapes Go.WideShapes

set_option maxRecDepth 100000 in
theorem pbqpRings_closed : joinedFacts Try.checked.prog 8 Try.f8 Rows.pbqpRingsSpec Rows.pbqpRingsRow = true := by
  show joinedFacts Try.prog 8 Try.f8 Rows.pbqpRingsSpec Rows.pbqpRingsRow = true
  unfold joinedFacts
  rw [may_enter, lifts_final, make_cut]
  kernel_rfl

set_option maxRecDepth 100000 in
theorem pbqpRings_lifted (os : Os) (started : os.Started) (H : Type) (enc : TypeId × Value → H) :
    ReturnsInHanded {} Try.checked os 8 .any (Rows.pbqpRingsSpec.pre6 enc Try.prog Try.f8 Rows.pbqpRingsRow.domain false) (Rows.pbqpRingsSpec.post enc Try.prog Try.f8 false true false false) := by
  refine law_lifted (C := Try.checked) (fn := Try.f8) (s := Rows.pbqpRingsSpec) (tb := 4) (by kernel_rfl : ownKnob Try.prog.godebug = none) started (by kernel_rfl) Try.func8
    (ChangeSpec.witness6 (enc := enc) (C := Try.checked) false ⟨#[], #[.int .i64 0, .slice none 0 0], []⟩ 8 (by kernel_rfl) (by kernel_rfl) (by kernel_rfl) (by kernel_rfl)) (by kernel_rfl) Try.underlying4 rfl rfl ?_ (by kernel_rfl) ?_
  · intro H ds hd
    match ds, hd with
    | [_, _], _ => rfl
  · intro W args ⟨base, ds, ps, hval, hA, hsz⟩
    rw [Try.params8] at hval hA hsz
    have hA' : DataW.TrodAll enc Try.prog W 0 (fun _ => true) true [3, 26] args.toList ds ps := hA
    obtain ⟨v0, v1, d0, d1, p0, p1, rfl, rfl, rfl, ⟨fuel0, h0⟩, ⟨fuel1, h1⟩⟩ := trodAll_two hA'
    obtain ⟨n0, rfl, -, -, hn0⟩ := open_int Try.underlying3 (hval 0 3 v0 rfl rfl) ⟨fuel0, h0⟩
    obtain ⟨a1, len1, cap1, rfl⟩ := okWide_slice Try.underlying26 (hval 1 26 v1 rfl rfl)
    obtain ⟨x1, hx1⟩ := open_ints h1 (fun n hn => hsz n (List.mem_append.2 (.inr (List.mem_append.2 (.inl hn)))))
    exact pbqpRings_c W n0 hx1

theorem pbqpRings_holds : Rows.PbqpRingsSaid :=
  OpenClaim.holds_of_wide 8 Try.f8 rfl rfl rfl rfl rfl rfl rfl ⟨rfl, rfl, rfl, rfl, rfl⟩ rfl rfl rfl rfl rfl (by kernel_rfl) Try.func8 pbqpRings_closed
    (of_decide_eq_true (by kernel_rfl)) (by unfold Func.isWrapper; rw [if_neg (of_decide_eq_false (by kernel_rfl))]; exact ⟨rfl, rfl⟩)
    (fun os started H enc _ => pbqpRings_lifted os started H enc)
end Go.Proofs.Ytdomnbgjafdnjaa
