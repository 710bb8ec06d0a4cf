/- Law LiveUses: whatever instruction it is handed, the law returns true, and the input reads as it did. No condition. -/
import Derived.Test.YtcihobmjohpnkaaLiveUses
import Derived.Test.YtcihobmjohpnkaaOpenF
import Derived.Test.YtcihobmjohpnkaaLift
import Derived.Test.YtcihobmjohpnkaaChecked
import Derived.Test.YtcihobmjohpnkaaRows
import Derived.Test.YtcihobmjohpnkaaEnter
import Derived.JoinedOf
namespace Go.Proofs.Ytcihobmjohpnkaa
open Go.RowKit Go.ChangeShapes Go.WideShapes

set_option maxRecDepth 100000 in
theorem liveUses_closed : joinedFacts Try.checked.prog 6 Try.f6 Rows.liveUsesSpec Rows.liveUsesRow = true := by
  show joinedFacts Try.prog 6 Try.f6 Rows.liveUsesSpec Rows.liveUsesRow = true
  unfold joinedFacts
  rw [may_enter, lifts_final, make_cut]
  kernel_rfl

set_option maxRecDepth 100000 in
theorem liveUses_lifted (os : Os) (started : os.Started) (H : Type) (enc : TypeId × Value → H) :
    ReturnsInHanded {} Try.checked os 6 .any (Rows.liveUsesSpec.pre6 enc Try.prog Try.f6 Rows.liveUsesRow.domain false) (Rows.liveUsesSpec.post enc Try.prog Try.f6 false true false false) := by
  refine law_lifted (C := Try.checked) (fn := Try.f6) (s := Rows.liveUsesSpec) (tb := 4) (by kernel_rfl : ownKnob Try.prog.godebug = none) started (by kernel_rfl) Try.func6
    (ChangeSpec.witness6 (enc := enc) (C := Try.checked) false ⟨#[], #[.agg #[.int .i64 0, .int .i64 0, .int .i64 0, .int .i64 0, .int .i64 0, .string ⟨#[]⟩, .slice none 0 0, .int .i64 0, .int .i64 0]], []⟩ 8 (by kernel_rfl) (by kernel_rfl) (by kernel_rfl) (by kernel_rfl)) (by kernel_rfl) Try.underlying4 rfl rfl ?_ (by kernel_rfl) ?_
  · intro H ds hd
    match ds, hd with
    | [_], _ => rfl
  · intro W args ⟨base, ds, ps, hval, hA, hsz⟩
    rw [Try.params6] at hval hA hsz
    have hA' : DataW.TrodAll enc Try.prog W 0 (fun _ => true) true [36] args.toList ds ps := hA
    obtain ⟨v0, d0, rfl, rfl, fuel, h0⟩ := trodAll_one hA'
    obtain ⟨i0, a0, len0, cap0, rfl, hx0⟩ := open_insv (hval 0 36 v0 rfl rfl) h0 (fun n hn => hsz n (List.mem_append.2 (.inl hn)))
    exact liveUses_c W i0 a0 len0 cap0 hx0

theorem liveUses_holds : Rows.LiveUsesSaid :=
  OpenClaim.holds_of_wide 6 Try.f6 rfl rfl rfl rfl rfl rfl rfl ⟨rfl, rfl, rfl, rfl, rfl⟩ rfl rfl rfl rfl rfl (by kernel_rfl) Try.func6 liveUses_closed
    (of_decide_eq_true (by kernel_rfl)) (by unfold Func.isWrapper; rw [if_neg (of_decide_eq_false (by kernel_rfl))]; exact ⟨rfl, rfl⟩)
    (fun os started H enc _ => liveUses_lifted os started H enc)
end Go.Proofs.Ytcihobmjohpnkaa
