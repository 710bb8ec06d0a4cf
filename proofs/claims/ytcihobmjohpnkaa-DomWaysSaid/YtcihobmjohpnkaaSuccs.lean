/- 'cfg.Succs': where a block goes on. -/
import Derived.Test.YtcihobmjohpnkaaOwn
import Derived.Deep.QuietTactic
import Derived.BigQuiet
namespace Go.Proofs.Ytcihobmjohpnkaa
open Go.RowKit Go.Sort

theorem del_gives (a : Option Addr) (len cap bl : Nat) (n : Int) (w : World) (hc : w.cell? ⟨bl, 0, none⟩ = some (.slice a len cap)) :
    FnGives Try.prog 75 #[.pointer (some ⟨bl, 0, none⟩)] #[.int .i64 n] (.bool (!(inR len n))) w := by
  show Calls Try.prog 75 #[.int .i64 n, .pointer (some ⟨bl, 0, none⟩)] w _
  go_enter Try.func75, Try.ntmps75
  go_wp2
  · have h0 : (0 : Int) ≤ n := by assumption
    go_ret
    refine ⟨ret_bool ?_, 0, rfl⟩
    unfold inR
    by_cases h1 : n < (len : Int) <;> simp [h0, h1] <;> omega
  · have h0 : n < (0 : Int) := by assumption
    go_ret
    refine ⟨ret_bool ?_, 0, rfl⟩
    unfold inR
    simp; omega

/-- 'slices.DeleteFunc' there. -/
theorem delete_c {base e : Nat} {v : Value} {zs : List Int} (a : Option Addr) (len cap' bl : Nat) (w : World) (hc : w.cell? ⟨bl, 0, none⟩ = some (.slice a len cap')) (hbl : ∀ b, v.ownBlock = some b → bl ≠ b)
    (h : w.ownsRow base e 1 v zs.length (ints zs)) (hs : zs.length ≤ 140737488351232) :
    Calls Try.prog 74 #[v, .func (.func 75) #[] #[.pointer (some ⟨bl, 0, none⟩)]] w fun e' w' =>
      ∃ v', e' = .returned v' ∧ w'.ownsRow base e 1 v' (zs.filter (inR len)).length (ints (zs.filter (inR len))) ∧ w.grownBy w' v.ownBlock := by
  have hbs := lt_of_cell hc
  rcases owns_nilcase h with ⟨rfl, h0, hx⟩ | ⟨g, cap, rfl⟩
  · have hz : zs = [] := List.length_eq_zero_iff.1 h0
    subst hz
    go_enter Try.func74, Try.ntmps74
    go_wp2_with (go_at_call 102; refine (Try.slices_IndexFunc_empty (α := Int) none 0 _ _).mono ?_; rintro e' w' ⟨rfl, rfl⟩)
    go_ret
    exact ⟨_, rfl, World.ownsRow_nil _ _ _ _, World.grownBy.refl _ _⟩
  · obtain ⟨_, _, _, hcap, _⟩ := owns_block h
    have hne : bl ≠ g := hbl g rfl
    have eg : ∀ args w, (callFunc 75 args).run Try.prog w = .ok (.enter 75 args) w := enters_of Try.func75 (by kernel_rfl) rfl
    have hcon := Try.slices_DeleteFunc (Value.int .i64) (fun _ => rfl) (fun x => !(inR len x)) 75 #[.pointer (some ⟨bl, 0, none⟩)] eg 0 Try.zeroValue3 g 0 cap zs.toArray w
      (fun W x hb => del_gives a len cap' bl x W ((hb.cell (p := ⟨bl, 0, none⟩) hbs).trans hc))
      (fun n os dk x _ => del_gives a len cap' bl x _ (by
        unfold sortWorld
        rw [cell?_grow _ _ _ (by show bl < (putRow _ _ _ _ _).heap.size; rw [size_putRow]; exact hbs), cell?_putRow_other _ _ g 0 _ _ (Or.inl hne)]
        exact hc)) (owns_holds h) (by simp; omega) (by simpa using hcap)
    simp only [List.size_toArray] at hcon
    refine hcon.mono ?_
    rintro e' w' ⟨rfl, q, rfl⟩
    have hf : (zs.filter fun x => !!(inR len x)) = zs.filter (inR len) := by simp
    rw [hf]
    have hle : (zs.filter (inR len)).length ≤ zs.length := List.length_filter_le _ _
    obtain ⟨o, hg⟩ := owns_put (ys := zs.filter (inR len) ++ List.replicate (zs.length - (zs.filter (inR len)).length) 0) h (by simp; omega) q
    have := owns_shrink o (zs.filter (inR len)).length (by simp)
    refine ⟨_, rfl, ?_, hg⟩
    simpa [ints] using this
end Go.Proofs.Ytcihobmjohpnkaa
