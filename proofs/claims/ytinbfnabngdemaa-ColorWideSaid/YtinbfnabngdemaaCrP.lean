/- A list of pairs appended to a row of the call's own, wherever the region stands. -/
import Derived.Test.YtinbfnabngdemaaCoO
import Derived.Test.YtinbfnabngdemaaKOwn
import Derived.Deep.AppendLies
import Derived.Deep.Upon
namespace Go.Proofs.Ytinbfnabngdemaa
open Go.RowKit

theorem infoPr : (Try.prog.info? 37).map (fun i => (i.zero, i.size, i.bytes)) = some (some (.agg #[.int .i64 0, .int .i64 0]), 2, 16) := by kernel_rfl
def prs (zs : List (Int × Int)) : List Value := zs.flatMap fun q => [.int .i64 q.1, .int .i64 q.2]
theorem prs_len (zs : List (Int × Int)) : (prs zs).length = zs.length * 2 := by
  induction zs with
  | nil => rfl
  | cons a l ih =>
    show ([Value.int .i64 a.1, .int .i64 a.2] ++ prs l).length = _
    rw [List.length_append, ih, List.length_cons, List.length_cons, List.length_cons, List.length_nil]; omega
theorem prs_append (xs ys : List (Int × Int)) : prs (xs ++ ys) = prs xs ++ prs ys := by unfold prs; rw [List.flatMap_append]
theorem prs_get {zs : List (Int × Int)} : ∀ {j : Nat} {u : Value}, (prs zs)[j]? = some u → ∃ q, ∃ h : q < zs.length, (j = q * 2 ∧ u = .int .i64 zs[q].1) ∨ (j = q * 2 + 1 ∧ u = .int .i64 zs[q].2) := by
  induction zs with
  | nil => intro j u h; simp [prs] at h
  | cons a l ih =>
    intro j u h
    have e : prs (a :: l) = [Value.int .i64 a.1, .int .i64 a.2] ++ prs l := rfl
    rw [e] at h
    match j, h with
    | 0, h => simp at h; exact ⟨0, by simp, .inl ⟨rfl, h.symm⟩⟩
    | 1, h => simp at h; exact ⟨0, by simp, .inr ⟨rfl, h.symm⟩⟩
    | j + 2, h =>
      simp at h
      obtain ⟨q, hq, hh⟩ := ih h
      refine ⟨q + 1, by simp; omega, ?_⟩
      rcases hh with ⟨h1, h2⟩ | ⟨h1, h2⟩
      · exact .inl ⟨by omega, by simpa using h2⟩
      · exact .inr ⟨by omega, by simpa using h2⟩
theorem prs_fst {zs : List (Int × Int)} {q : Nat} (h : q < zs.length) : (prs zs)[q * 2]? = some (.int .i64 zs[q].1) := by
  have hl : q * 2 < (prs zs).length := by rw [prs_len]; omega
  obtain ⟨q', h', hh⟩ := prs_get (List.getElem?_eq_getElem hl)
  rw [List.getElem?_eq_getElem hl]
  rcases hh with ⟨h1, h2⟩ | ⟨h1, h2⟩
  · obtain rfl : q = q' := by omega
    rw [h2]
  · omega
theorem prs_snd {zs : List (Int × Int)} {q : Nat} (h : q < zs.length) : (prs zs)[q * 2 + 1]? = some (.int .i64 zs[q].2) := by
  have hl : q * 2 + 1 < (prs zs).length := by rw [prs_len]; omega
  obtain ⟨q', h', hh⟩ := prs_get (List.getElem?_eq_getElem hl)
  rw [List.getElem?_eq_getElem hl]
  rcases hh with ⟨h1, h2⟩ | ⟨h1, h2⟩
  · omega
  · obtain rfl : q = q' := by omega
    rw [h2]

theorem step_app_pairs {ops : Array Oper} {o : Oper} {a : Act} {K : Act → World → Prop} {Q : Exit → Act → World → Prop} {E : Prop} {W : World} {p : Nat → Prop}
    (hgd : o.guard = none) (s x : Operand) (hop : o.op = .call { callee := .builtin .append, args := #[s, x], argTypes := #[22, 22] })
    (base : Nat) (v : Value) (zs : List (Int × Int)) (hs : a.eval s = v) (hown : W.ownsRow base 37 2 v zs.length (prs zs)) {sa : Option Addr} {yn cap : Nat} (ys : List (Int × Int)) (hyn : yn = ys.length) (hx : a.eval x = .slice sa yn cap) (hp : IsPairs p W (.slice sa yn cap) ys)
    (hl : zs.length + ys.length ≤ 1000000) (hb : base ≤ W.heap.size)
    (h : ∀ v' w', w'.ownsRow base 37 2 v' (zs ++ ys).length (prs (zs ++ ys)) → W.grownBy w' v.ownBlock → K (a.put o.dst v') w') :
    if Region.wanted o (yielded ops a.tmps) = true then Oper.wp Try.prog o a W K Q else E := by
  subst hyn
  obtain ⟨i0, hi, hz0, hz1, hz2⟩ := info_parts infoPr
  obtain ⟨sa', c', hv, hl', hx'⟩ := hp
  simp at hv
  obtain ⟨rfl, rfl⟩ := hv
  rcases hx' with rfl | ⟨b, off, rfl, _, hc⟩
  · have hw : Region.wanted o (yielded ops a.tmps) = true := by simp [Region.wanted, hgd]
    rw [if_pos hw]
    have hsrc : Src Try.prog i0.size 22 (.slice sa 0 cap) 0 [] W := by
      cases sa with
      | none => exact Src.ofNil W Try.underlying22 cap
      | some ad => exact Src.ofSlice W Try.underlying22 ad 0 cap [] (by simp) (fun j u hj => by simp at hj) (fun u hu => by simp at hu)
    obtain ⟨va, vc, rfl, hva⟩ := owns_slice hown
    have hle : zs.length ≤ vc := by
      rcases hown.2 with ⟨e, _⟩ | ⟨g, cap', cur, e, _, _, hn, _⟩
      · simp at e; omega
      · simp at e; omega
    have hr := run_append_nothing (P := Try.prog) W 22 22 o.type 37 i0 Try.underlying22 hi va zs.length vc hle _ hsrc
    unfold Oper.wp execOp
    simp only [List.length_nil] at hx
    simp only [hop, resolve, invoke, builtin, Sem.run_bind, Sem.run_pure, Result.andThen_ok, List.map_toArray, List.map_cons, List.map_nil, hs, hx, hr]
    exact h _ _ (by simpa using hown) (World.grownBy.refl _ _)
  · by_cases h0 : 0 < ys.length
    · refine step_append_lies _ hgd s x 22 hop base 37 i0 _ 2 16 Try.underlying22 hi hz0 hz1 hz2 rfl (by decide) v zs.length (prs zs) hs hown
        ⟨b, off, none⟩ ys.length cap (prs ys) hx (prs_len ys) ?_ ?_ h0 ?_ ?_ hb _ rfl ?_
      · intro j u hj
        obtain ⟨q, hq, hh⟩ := prs_get hj
        have hc1 := hc q hq
        unfold CPair at hc1
        have e : (⟨b, off, none⟩ : Addr).add j = ⟨b, off + j, none⟩ := by cases j <;> simp [Addr.add]
        rw [e]
        rcases hh with ⟨rfl, rfl⟩ | ⟨rfl, rfl⟩
        · exact hc1.1
        · exact hc1.2
      · intro u hu
        obtain ⟨q, _, hq⟩ := List.mem_flatMap.1 hu
        simp at hq
        rcases hq with rfl | rfl <;> rfl
      · unfold maxLen; omega
      · omega
      · intro g cp w' ho hg hv hlt
        refine h _ w' ?_ hg
        rw [prs_append, List.length_append]
        exact ho
    · have hys : ys = [] := List.length_eq_zero_iff.1 (by omega)
      subst hys
      have hw : Region.wanted o (yielded ops a.tmps) = true := by simp [Region.wanted, hgd]
      rw [if_pos hw]
      have hsrc : Src Try.prog i0.size 22 (.slice (some ⟨b, off, none⟩) 0 cap) 0 [] W := Src.ofSlice W Try.underlying22 _ 0 cap [] (by simp) (fun j u hj => by simp at hj) (fun u hu => by simp at hu)
      obtain ⟨va, vc, rfl, hva⟩ := owns_slice hown
      have hle : zs.length ≤ vc := by
        rcases hown.2 with ⟨e, _⟩ | ⟨g, cap', cur, e, _, _, hn, _⟩
        · simp at e; omega
        · simp at e; omega
      have hr := run_append_nothing (P := Try.prog) W 22 22 o.type 37 i0 Try.underlying22 hi va zs.length vc hle _ hsrc
      unfold Oper.wp execOp
      simp only [List.length_nil] at hx
      simp only [hop, resolve, invoke, builtin, Sem.run_bind, Sem.run_pure, Result.andThen_ok, List.map_toArray, List.map_cons, List.map_nil, hs, hx, hr]
      exact h _ _ (by simpa using hown) (World.grownBy.refl _ _)
theorem prs_cells {W : World} {base g n cap : Nat} {zs : List (Int × Int)} (h : W.ownsRow base 37 2 (.slice (some ⟨g, 0, none⟩) n cap) n (prs zs)) (hn : n = zs.length) {i : Nat} (hi : i < zs.length) : W.cell? ⟨g, i * 2, none⟩ = some (.int .i64 zs[i].1) ∧ W.cell? ⟨g, i * 2 + 1, none⟩ = some (.int .i64 zs[i].2) := by
  obtain ⟨cur, -, hc, -, -, hs, ht, -, -⟩ := owns_block h
  have hget : ∀ j, j < zs.length * 2 → W.cell? ⟨g, j, none⟩ = (prs zs)[j]? := fun j hj => by
    rw [cell_of_row W g j cur _ _ hc, ← ht, List.getElem?_take, if_pos (by omega)]
    simp
  exact ⟨(hget _ (by omega)).trans (prs_fst hi), (hget _ (by omega)).trans (prs_snd hi)⟩
end Go.Proofs.Ytinbfnabngdemaa
