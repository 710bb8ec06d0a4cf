/- Rows of ints that are being made by appends. -/
import Derived.Test.YtcihobmjohpnkaaFlow
namespace Go.Proofs.Ytcihobmjohpnkaa
open Go.RowKit Go.Sort

theorem infoRowI : (Try.prog.info? 25).map (fun i => (i.zero, i.size, i.bytes)) = some (some (.slice none 0 0), 1, 24) := by kernel_rfl

/-- Rows of ints that are being made, each apart from the row that names them. -/
structure RowOwn (B : Nat) (Ls : List (List Int)) (vo : Value) (W : World) : Prop where
  ex : ∃ vals : List Value, vals.length = Ls.length ∧ W.ownsRow B 25 1 vo Ls.length vals ∧ ∀ j (_ : j < vals.length), IsInts (pFl B vo) W vals[j] (Ls.getD j [])
theorem RowOwn.nil (B : Nat) (W : World) : RowOwn B [] (.slice none 0 0) W := ⟨[], rfl, World.ownsRow_nil _ _ _ _, fun j hj => by simp at hj⟩
theorem RowOwn.slice {B : Nat} {Ls : List (List Int)} {vo : Value} {W : World} (h : RowOwn B Ls vo W) : ∃ a c, vo = .slice a Ls.length c := by
  obtain ⟨vals, -, h1, -⟩ := h.ex
  obtain ⟨a, c, e, -⟩ := owns_slice h1
  exact ⟨a, c, e⟩
theorem RowOwn.rows {B : Nat} {Ls : List (List Int)} {vo : Value} {W : World} (h : RowOwn B Ls vo W) (hs : Ls.length ≤ 100000) : IsRows (B ≤ ·) W vo Ls := by
  obtain ⟨vals, hlf, ho, hel⟩ := h.ex
  rcases owns_nilcase ho with ⟨rfl, h0, _⟩ | ⟨g, cap, rfl⟩
  · refine ⟨none, 0, by rw [h0], ⟨by omega, by omega⟩, .inl (List.length_eq_zero_iff.1 (by omega))⟩
  · obtain ⟨_, hg, _, hc, _⟩ := owns_block ho
    refine ⟨_, cap, rfl, ⟨by omega, by omega⟩, .inr ⟨g, 0, rfl, hg, fun j hj => ?_⟩⟩
    have hj' : j < vals.length := by omega
    have hc := ho.cellAt j (by omega)
    refine ⟨vals[j], ?_, ?_⟩
    · rw [Nat.zero_add, Nat.mul_one, hc]; simp [hj']
    · have e : Ls[j] = Ls.getD j [] := by simp [List.getD, hj]
      rw [e]
      exact (hel j hj').keep (Keep.refl W fun b hb _ => hb.1)
/-- An append to them. -/
theorem app_rows {ops : Array Oper} {rest : List Oper} {o : Oper} {a : Act} {Q : Exit → Act → World → Prop} {W0 W : World}
    (hgd : o.guard = none) (s x : Operand) (hop : o.op = .call { callee := .builtin .append, args := #[s, x], argTypes := #[28, 28] })
    (B : Nat) (v : Value) (Ls : List (List Int)) (hs : a.eval s = v) (h : RowOwn B Ls v W0) (hB : B ≤ W0.heap.size) (hb : Below W0.heap.size W0 W)
    (g : Nat) (us : List Value) (ls : List (List Int)) (hx : a.eval x = .slice (some ⟨g, 0, none⟩) ls.length ls.length) (hrow : Row W g 25 us) (hul : us.length = ls.length)
    (hu1 : ∀ u ∈ us, u.oneCell' = true) (hu : ∀ j (_ : j < us.length), IsInts (fun b => W0.heap.size ≤ b ∧ b < W.heap.size) W us[j] (ls.getD j [])) (hn : Ls.length + ls.length ≤ 100000)
    (hk : ∀ v' w', RowOwn B (Ls ++ ls) v' w' → Below B W0 w' → wpList Try.prog ops Q rest (a.put o.dst v') w') :
    wpList Try.prog ops Q (o :: rest) a W := by
  obtain ⟨vals, hlen, hown, hel⟩ := h.ex
  obtain ⟨i0, hi, hz0, hz1, hz2⟩ := info_parts infoRowI
  have hsz := hb.size
  refine wp_app _ hgd s x 28 hop B 25 i0 (.slice none 0 0) 1 24 Try.underlying28 hi hz0 hz1 hz2 rfl (by decide) v Ls.length vals hs (owns_below hown hb) ⟨g, 0, none⟩ ls.length ls.length us hx (by omega) ?_ hu1 (by unfold maxLen; omega) (by omega) (by omega) ?_
  · intro j u hj
    have e : (⟨g, 0, none⟩ : Addr).add j = ⟨g, j, none⟩ := by cases j <;> simp [Addr.add]
    rw [e]
    exact hrow.cell hj
  · intro v' w' ho hgr hv
    have hv2 : ∀ i, v'.ownBlock = some i → v.ownBlock = some i ∨ W.heap.size ≤ i := fun i hi => by
      rcases hv with e | e
      · exact .inl (e ▸ hi)
      · rw [e] at hi; simp at hi; right; omega
    have hbB : Below B W0 w' := by
      have h1 : Below B W0 W := hb.mono hB
      exact h1.grown hgr (by omega) (fun k e => (hown.lt k e).1)
    refine hk v' w' ⟨vals ++ us, by simp [hlen, hul], by rw [List.length_append]; exact ho, fun j hj => ?_⟩ hbB
    by_cases hjl : j < vals.length
    · have e2 : (Ls ++ ls).getD j [] = Ls.getD j [] := by rw [List.getD_eq_getElem?_getD, List.getElem?_append_left (by omega), List.getD_eq_getElem?_getD]
      rw [List.getElem_append_left hjl, e2]
      refine (hel j hjl).keep (fun i hi hlt => ⟨⟨hi.1, fun e => ?_⟩, (hgr.block i (by omega) hi.2).trans (hb.block i hlt)⟩)
      rcases hv2 i e.symm with e2 | e2
      · exact hi.2 e2.symm
      · omega
    · have hj2 : j - vals.length < us.length := by rw [List.length_append] at hj; omega
      have e2 : (Ls ++ ls).getD j [] = ls.getD (j - vals.length) [] := by rw [List.getD_eq_getElem?_getD, List.getElem?_append_right (by omega), List.getD_eq_getElem?_getD, hlen]
      rw [List.getElem_append_right (by omega), e2]
      refine (hu _ hj2).keep (fun i hi hlt => ⟨⟨by omega, fun e => ?_⟩, hgr.block i hlt (fun e => ?_)⟩)
      · rcases hv2 i e.symm with e2 | e2
        · have := (hown.lt i e2).2; omega
        · omega
      · have := (hown.lt i e.symm).2; omega
end Go.Proofs.Ytcihobmjohpnkaa
