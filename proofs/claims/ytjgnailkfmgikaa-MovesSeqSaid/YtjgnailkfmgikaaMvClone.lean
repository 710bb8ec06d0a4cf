/- 'append([][2]int(nil), l...)': a copy. -/
import Derived.Test.YtjgnailkfmgikaaMvW
import Derived.Deep.Upon
namespace Go.Proofs.Ytjgnailkfmgikaa
open Go.RowKit Go.Maps

theorem pairs_at {l : List (Int × Int)} {j : Nat} {u : Value} (h : (pairs l)[j]? = some u) : ∃ (k : Nat) (hk : k < l.length), (j = k * 2 ∧ u = .int .i64 l[k].1) ∨ (j = k * 2 + 1 ∧ u = .int .i64 l[k].2) := by
  have hj : j < l.length * 2 := by
    rw [← pairs_length]
    by_cases hh : j < (pairs l).length
    · exact hh
    · rw [List.getElem?_eq_none (by omega)] at h; simp at h
  have hk : j / 2 < l.length := by omega
  obtain ⟨g1, g2⟩ := pairs_get hk
  refine ⟨j / 2, hk, ?_⟩
  rcases Nat.mod_two_eq_zero_or_one j with hm | hm
  · have e : j = j / 2 * 2 := by omega
    rw [e, g1] at h
    exact .inl ⟨e, by simpa using h.symm⟩
  · have e : j = j / 2 * 2 + 1 := by omega
    rw [e, g2] at h
    exact .inr ⟨e, by simpa using h.symm⟩

theorem wp_clone {ops : Array Oper} {rest : List Oper} {o : Oper} {a : Act} {Q : Exit → Act → World → Prop} {W : World} {p : Nat → Prop}
    (hgd : o.guard = none) (s x : Operand) (hop : o.op = .call { callee := .builtin .append, args := #[s, x], argTypes := #[22, 22] })
    (hs : a.eval s = .slice none 0 0) {sa : Option Addr} {cap : Nat} {l : List (Int × Int)} (hx : a.eval x = .slice sa l.length cap) (hp : IsPairs p W (.slice sa l.length cap) l) (hl : l.length ≤ 1000)
    (h : ∀ v' w', w'.ownsRow W.heap.size 30 2 v' l.length (pairs l) → Below W.heap.size W w' → wpList Try.prog ops Q rest (a.put o.dst v') w') :
    wpList Try.prog ops Q (o :: rest) a W := by
  obtain ⟨i0, hi, hz0, hz1, hz2⟩ := info_parts infoPair
  obtain ⟨sa', c', hv, hl', hx'⟩ := hp
  simp at hv
  obtain ⟨rfl, rfl⟩ := hv
  rcases hx' with rfl | ⟨b, off, rfl, _, hc⟩
  · refine wpList_plain hgd fun K hK => ?_
    have hsrc : Src Try.prog i0.size 22 (.slice sa 0 cap) 0 [] W := by
      cases sa with
      | none => exact Src.ofNil W Try.underlying22 cap
      | some ad => exact Src.ofSlice W Try.underlying22 ad 0 cap [] (by simp) (fun j u hj => by simp at hj) (fun u hu => by simp at hu)
    have hr := run_append_nothing (P := Try.prog) W 22 22 o.type 30 i0 Try.underlying22 hi none 0 0 (Nat.le_refl _) _ hsrc
    unfold Oper.wp execOp
    simp only [List.length_nil] at hx
    simp only [hop, resolve, invoke, builtin, Sem.run_bind, Sem.run_pure, Result.andThen_ok, List.map_toArray, List.map_cons, List.map_nil, hs, hx, hr]
    exact hK _ _ (h _ _ (World.ownsRow_nil _ _ _ _) (Below.refl _ _))
  · refine wp_app _ hgd s x 22 hop W.heap.size 30 i0 _ 2 16 Try.underlying22 hi hz0 hz1 hz2 rfl (by decide) (.slice none 0 0) 0 [] hs (World.ownsRow_nil _ _ _ _)
      ⟨b, off, none⟩ l.length cap (pairs l) hx (pairs_length l) ?_ ?_ ?_ ?_ (Nat.le_refl _) ?_
    · intro j u hj
      obtain ⟨k, hk, h1 | h1⟩ := pairs_at hj
      · obtain ⟨rfl, rfl⟩ := h1
        have e : (⟨b, off, none⟩ : Addr).add (k * 2) = ⟨b, off + k * 2, none⟩ := by simp [Addr.add]
        rw [e]; exact (hc k hk).1
      · obtain ⟨rfl, rfl⟩ := h1
        have e : (⟨b, off, none⟩ : Addr).add (k * 2 + 1) = ⟨b, off + k * 2 + 1, none⟩ := by simp [Addr.add, Nat.add_assoc]
        rw [e]; exact (hc k hk).2
    · intro u hu
      obtain ⟨j, hj⟩ := List.getElem?_of_mem hu
      obtain ⟨k, hk, h1 | h1⟩ := pairs_at hj
      · rw [h1.2]; rfl
      · rw [h1.2]; rfl
    · unfold maxLen; omega
    · omega
    · intro v' w' ho hg _
      refine h v' w' ?_ ((Below.refl _ W).grown hg (Nat.le_refl _) fun k hk => by simp [Value.ownBlock] at hk)
      simpa using ho
end Go.Proofs.Ytjgnailkfmgikaa
