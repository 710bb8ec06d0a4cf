/- Law PbqpCosts: whatever problem and choices it is handed, the law returns true, and the input reads as it did. No condition. -/
import Derived.Test.YtdomnbgjafdnjaaPbqpCosts
import Derived.Test.YtdomnbgjafdnjaaLift
import Derived.Test.YtdomnbgjafdnjaaChecked
import Derived.Test.YtdomnbgjafdnjaaRows
import Derived.Test.YtdomnbgjafdnjaaEnter
import Derived.JoinedOf
namespace Go.Proofs.Ytdomnbgjafdnjaa
open Go.RowKit Go.ChangeShapes Go.WideShapes

set_option maxRecDepth 100000 in
theorem pbqpCosts_closed : joinedFacts Try.checked.prog 3 Try.f3 Rows.pbqpCostsSpec Rows.pbqpCostsRow = true := by
  show joinedFacts Try.prog 3 Try.f3 Rows.pbqpCostsSpec Rows.pbqpCostsRow = true
  unfold joinedFacts
  rw [may_enter, lifts_final, make_cut]
  kernel_rfl

set_option maxRecDepth 100000 in
theorem pbqpCosts_lifted (os : Os) (started : os.Started) (H : Type) (enc : TypeId × Value → H) :
    ReturnsInHanded {} Try.checked os 3 .any (Rows.pbqpCostsSpec.pre6 enc Try.prog Try.f3 Rows.pbqpCostsRow.domain false) (Rows.pbqpCostsSpec.post enc Try.prog Try.f3 false true false false) := by
  refine law_lifted (C := Try.checked) (fn := Try.f3) (s := Rows.pbqpCostsSpec) (tb := 4) (by kernel_rfl : ownKnob Try.prog.godebug = none) started (by kernel_rfl) Try.func3
    (ChangeSpec.witness6 (enc := enc) (C := Try.checked) false ⟨#[], #[.agg #[.slice none 0 0, .slice none 0 0], .slice none 0 0], []⟩ 8 (by kernel_rfl) (by kernel_rfl) (by kernel_rfl) (by kernel_rfl)) (by kernel_rfl) Try.underlying4 rfl rfl ?_ (by kernel_rfl) ?_
  · intro H ds hd
    match ds, hd with
    | [_, _], _ => rfl
  · intro W args ⟨base, ds, ps, hval, hA, hsz⟩
    rw [Try.params3] at hval hA hsz
    have hA' : DataW.TrodAll enc Try.prog W 0 (fun _ => true) true [25, 26] args.toList ds ps := hA
    obtain ⟨v0, v1, d0, d1, p0, p1, rfl, rfl, rfl, ⟨fuel0, h0⟩, ⟨fuel1, h1⟩⟩ := trodAll_two hA'
    obtain ⟨na0, nl0, nc0, ea0, el0, ec0, N0, E0, rfl, hx0⟩ := open_costsv (hval 0 25 v0 rfl rfl) h0 (fun n hn => hsz n (List.mem_append.2 (.inl hn)))
    obtain ⟨a1, len1, cap1, rfl⟩ := okWide_slice Try.underlying26 (hval 1 26 v1 rfl rfl)
    obtain ⟨x1, hx1⟩ := open_ints h1 (fun n hn => hsz n (List.mem_append.2 (.inr (List.mem_append.2 (.inl hn)))))
    exact pbqpCosts_c W hx0 hx1

theorem pbqpCosts_holds : Rows.PbqpCostsSaid :=
  OpenClaim.holds_of_wide 3 Try.f3 rfl rfl rfl rfl rfl rfl rfl ⟨rfl, rfl, rfl, rfl, rfl⟩ rfl rfl rfl rfl rfl (by kernel_rfl) Try.func3 pbqpCosts_closed
    (of_decide_eq_true (by kernel_rfl)) (by unfold Func.isWrapper; rw [if_neg (of_decide_eq_false (by kernel_rfl))]; exact ⟨rfl, rfl⟩)
    (fun os started H enc _ => pbqpCosts_lifted os started H enc)
end Go.Proofs.Ytdomnbgjafdnjaa
