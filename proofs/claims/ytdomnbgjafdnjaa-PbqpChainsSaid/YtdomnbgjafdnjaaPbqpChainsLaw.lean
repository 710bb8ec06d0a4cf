/- Law PbqpChains: whatever nodes and costs it is handed, the law returns true, and the input reads as it did. No condition. -/
import Derived.Test.YtdomnbgjafdnjaaPbqpChains
import Derived.Test.YtdomnbgjafdnjaaLift
import Derived.Test.YtdomnbgjafdnjaaChecked
import Derived.Test.YtdomnbgjafdnjaaRows
import Derived.Test.YtdomnbgjafdnjaaEnter
import Derived.JoinedOf
namespace Go.Proofs.Ytdomnbgjafdnjaa
open Go.RowKit Go.ChangeShapes Go.WideShapes

set_option maxRecDepth 100000 in
theorem pbqpChains_closed : joinedFacts Try.checked.prog 4 Try.f4 Rows.pbqpChainsSpec Rows.pbqpChainsRow = true := by
  show joinedFacts Try.prog 4 Try.f4 Rows.pbqpChainsSpec Rows.pbqpChainsRow = true
  unfold joinedFacts
  rw [may_enter, lifts_final, make_cut]
  kernel_rfl

set_option maxRecDepth 100000 in
theorem pbqpChains_lifted (os : Os) (started : os.Started) (H : Type) (enc : TypeId × Value → H) :
    ReturnsInHanded {} Try.checked os 4 .any (Rows.pbqpChainsSpec.pre6 enc Try.prog Try.f4 Rows.pbqpChainsRow.domain false) (Rows.pbqpChainsSpec.post enc Try.prog Try.f4 false true false false) := by
  refine law_lifted (C := Try.checked) (fn := Try.f4) (s := Rows.pbqpChainsSpec) (tb := 4) (by kernel_rfl : ownKnob Try.prog.godebug = none) started (by kernel_rfl) Try.func4
    (ChangeSpec.witness6 (enc := enc) (C := Try.checked) false ⟨#[], #[.slice none 0 0, .slice none 0 0], []⟩ 8 (by kernel_rfl) (by kernel_rfl) (by kernel_rfl) (by kernel_rfl)) (by kernel_rfl) Try.underlying4 rfl rfl ?_ (by kernel_rfl) ?_
  · intro H ds hd
    match ds, hd with
    | [_, _], _ => rfl
  · intro W args ⟨base, ds, ps, hval, hA, hsz⟩
    rw [Try.params4] at hval hA hsz
    have hA' : DataW.TrodAll enc Try.prog W 0 (fun _ => true) true [22, 26] args.toList ds ps := hA
    obtain ⟨v0, v1, d0, d1, p0, p1, rfl, rfl, rfl, ⟨fuel0, h0⟩, ⟨fuel1, h1⟩⟩ := trodAll_two hA'
    obtain ⟨a0, len0, cap0, rfl⟩ := okWide_slice Try.underlying22 (hval 0 22 v0 rfl rfl)
    obtain ⟨x0, hx0⟩ := open_rows h0 (fun n hn => hsz n (List.mem_append.2 (.inl hn)))
    obtain ⟨a1, len1, cap1, rfl⟩ := okWide_slice Try.underlying26 (hval 1 26 v1 rfl rfl)
    obtain ⟨x1, hx1⟩ := open_ints h1 (fun n hn => hsz n (List.mem_append.2 (.inr (List.mem_append.2 (.inl hn)))))
    exact pbqpChains_c W hx0 hx1

theorem pbqpChains_holds : Rows.PbqpChainsSaid :=
  OpenClaim.holds_of_wide 4 Try.f4 rfl rfl rfl rfl rfl rfl rfl ⟨rfl, rfl, rfl, rfl, rfl⟩ rfl rfl rfl rfl rfl (by kernel_rfl) Try.func4 pbqpChains_closed
    (of_decide_eq_true (by kernel_rfl)) (by unfold Func.isWrapper; rw [if_neg (of_decide_eq_false (by kernel_rfl))]; exact ⟨rfl, rfl⟩)
    (fun os started H enc _ => pbqpChains_lifted os started H enc)
end Go.Proofs.Ytdomnbgjafdnjaa
