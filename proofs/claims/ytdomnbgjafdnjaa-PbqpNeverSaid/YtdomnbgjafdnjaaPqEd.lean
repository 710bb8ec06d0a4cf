/- Problems that are built: rows of rows, rows of edges, appended. -/
import Derived.Test.YtdomnbgjafdnjaaPqCc
namespace Go.Proofs.Ytdomnbgjafdnjaa
open Go.RowKit Go.Maps Go.ChangeMaps

theorem owns_keepZ {W W' : World} {B n size : Nat} {e : TypeId} {v : Value} {xs : List Value} {Z : Nat → Prop} (h : W.ownsRow B e size v n xs) (hz : ∀ b, v.ownBlock = some b → Z b) (hk : ∀ b, Z b → b < W.heap.size → W'.heap[b]? = W.heap[b]?) : W'.ownsRow B e size v n xs := by
  have hlt := h.lt
  obtain ⟨h1, h2⟩ := h
  refine ⟨h1, ?_⟩
  rcases h2 with h2 | ⟨g, cap, cur, hv, hg, hh, r⟩
  · exact .inl h2
  · have hb : v.ownBlock = some g := by rw [hv]; rfl
    exact .inr ⟨g, cap, cur, hv, hg, (hk g (hz g hb) (hlt g hb).2).trans hh, r⟩
/-- A row of rows of numbers, the first of M, in blocks of Z. -/
structure RwS (e : TypeId) (B : Nat) (Z : Nat → Prop) (M : List (List Int)) (mv : Value) (vs : List Value) (W : World) : Prop where
  ow : W.ownsRow B e 1 mv vs.length vs
  oz : ∀ b, mv.ownBlock = some b → Z b
  el : ∀ j (_ : j < vs.length), ∃ a c, vs[j] = .slice a (M.getD j []).length c ∧ IsInts (fun b => Z b ∧ some b ≠ mv.ownBlock) W (.slice a (M.getD j []).length c) (M.getD j [])
theorem RwS.nil (e : TypeId) (B : Nat) (Z : Nat → Prop) (M : List (List Int)) (W : World) : RwS e B Z M (.slice none 0 0) [] W := ⟨World.ownsRow_nil _ _ _ _, fun b hb => by simp [Value.ownBlock] at hb, fun j hj => by simp at hj⟩
theorem RwS.keep {e : TypeId} {B : Nat} {Z : Nat → Prop} {M : List (List Int)} {mv : Value} {vs : List Value} {W W' : World} (h : RwS e B Z M mv vs W) (hk : ∀ b, Z b → b < W.heap.size → W'.heap[b]? = W.heap[b]?) : RwS e B Z M mv vs W' :=
  ⟨owns_keepZ h.ow h.oz hk, h.oz, fun j hj => by
    obtain ⟨a, c, e1, e2⟩ := h.el j hj
    exact ⟨a, c, e1, e2.keep (fun b hb hlt => ⟨hb, hk b hb.1 hlt⟩)⟩⟩
theorem RwS.push {e : TypeId} {B : Nat} {Z : Nat → Prop} {M : List (List Int)} {mv v' u : Value} {vs : List Value} {W Y w1 : World} (h : RwS e B Z M mv vs W) (_hZ : ∀ b, Z b → b < W.heap.size) (hY : Below W.heap.size W Y) {ua : Option Addr} {uc : Nat} (hu : u = .slice ua (M.getD vs.length []).length uc)
    (hi : IsInts (fun b => W.heap.size ≤ b ∧ b < Y.heap.size) Y u (M.getD vs.length [])) (ho : w1.ownsRow B e 1 v' (vs ++ [u]).length (vs ++ [u])) (hg : Y.grownBy w1 mv.ownBlock) (hat : v'.ownBlock = mv.ownBlock ∨ ∃ g, v'.ownBlock = some g ∧ Y.heap.size ≤ g) : RwS e B (fun b => Z b ∨ (W.heap.size ≤ b ∧ b < w1.heap.size)) M v' (vs ++ [u]) w1 := by
  have hub : ∀ b, mv.ownBlock = some b → b < W.heap.size := fun b hb => (h.ow.lt b hb).2
  have hys := hY.size
  have hgs := hg.size
  refine ⟨ho, fun b hb => ?_, fun j hj => ?_⟩
  · rcases hat with e1 | ⟨g, e1, e2⟩
    · exact .inl (h.oz b (by rw [← e1]; exact hb))
    · have h3 := (ho.lt b hb).2
      rw [e1] at hb
      have : g = b := by simpa using hb
      exact .inr ⟨by omega, h3⟩
  by_cases hjl : j < vs.length
  · rw [List.getElem_append_left hjl]
    obtain ⟨a, c, e1, e2⟩ := h.el j hjl
    refine ⟨a, c, e1, e2.keep (fun b hb hlt => ⟨⟨.inl hb.1, fun e => ?_⟩, (hg.block b (by omega) hb.2).trans (hY.block b hlt)⟩)⟩
    rcases hat with e4 | ⟨g, e4, e5⟩
    · exact hb.2 (by rw [e, e4])
    · rw [e4] at e
      have : b = g := by simpa using e
      omega
  · have hje : j = vs.length := by simp at hj; omega
    subst hje
    rw [List.getElem_append_right (Nat.le_refl _)]
    simp only [Nat.sub_self, List.getElem_cons_zero]
    refine ⟨ua, uc, hu, ?_⟩
    rw [← hu]
    refine hi.keep (fun b hb hlt => ⟨⟨.inr ⟨hb.1, by omega⟩, fun e => ?_⟩, hg.block b hlt (fun e => by have := hub b e.symm; omega)⟩)
    rcases hat with e4 | ⟨g, e4, e5⟩
    · rw [e4] at e
      have := hub b e.symm; omega
    · rw [e4] at e
      have : b = g := by simpa using e
      omega
theorem RwS.rows {e : TypeId} {B : Nat} {Z : Nat → Prop} {M : List (List Int)} {mv : Value} {vs : List Value} {W : World} (h : RwS e B Z M mv vs W) (hl : vs.length = M.length) (hm : M.length ≤ 1000000) : ∃ ma mc, mv = .slice ma M.length mc ∧ IsRows (fun b => Z b ∧ b < W.heap.size) W (.slice ma M.length mc) M := by
  obtain ⟨a, c, e1, e2, -, e3⟩ := owns_sl h.ow (by omega)
  rw [hl] at e1 e2
  refine ⟨a, c, e1, a, c, rfl, ⟨e2, by omega⟩, ?_⟩
  rcases e3 with e3 | ⟨g, rfl, e4, e5, e6⟩
  · exact .inl (List.length_eq_zero_iff.1 (by omega))
  · refine .inr ⟨g, 0, rfl, ⟨h.oz g (by rw [e1]; rfl), e5⟩, fun j hj => ?_⟩
    have hj2 : j < vs.length := by omega
    obtain ⟨ua, uc, f1, f2⟩ := h.el j hj2
    refine ⟨vs[j], by rw [Nat.zero_add, Nat.mul_one]; exact e6 j hj2, ?_⟩
    rw [f1]
    have : M.getD j [] = M[j] := by simp [List.getD, hj]
    rw [← this]
    exact f2.keep (Keep.refl W fun b hb hlt => ⟨hb.1, hlt⟩)

/-- A row of edges. -/
structure EdS (B : Nat) (Z : Nat → Prop) (Es : List EdgeD) (ev : Value) (ve : List Value) (W : World) : Prop where
  ow : W.ownsRow B 32 3 ev Es.length ve
  oz : ∀ b, ev.ownBlock = some b → Z b
  el : ∀ j (h : j < Es.length), ve[3 * j]? = some (.int .i64 Es[j].a) ∧ ve[3 * j + 1]? = some (.int .i64 Es[j].b) ∧ ∃ a c, ve[3 * j + 2]? = some (.slice a Es[j].cost.length c) ∧ IsRows (fun b => Z b ∧ some b ≠ ev.ownBlock) W (.slice a Es[j].cost.length c) Es[j].cost
theorem EdS.nil (B : Nat) (Z : Nat → Prop) (W : World) : EdS B Z [] (.slice none 0 0) [] W := ⟨World.ownsRow_nil _ _ _ _, fun b hb => by simp [Value.ownBlock] at hb, fun j hj => by simp at hj⟩
theorem EdS.keep {B : Nat} {Z : Nat → Prop} {Es : List EdgeD} {ev : Value} {ve : List Value} {W W' : World} (h : EdS B Z Es ev ve W) (hk : ∀ b, Z b → b < W.heap.size → W'.heap[b]? = W.heap[b]?) : EdS B Z Es ev ve W' :=
  ⟨owns_keepZ h.ow h.oz hk, h.oz, fun j hj => by
    obtain ⟨e1, e2, a, c, e3, e4⟩ := h.el j hj
    exact ⟨e1, e2, a, c, e3, e4.keep (fun b hb hlt => ⟨hb, hk b hb.1 hlt⟩)⟩⟩
theorem EdS.len {B : Nat} {Z : Nat → Prop} {Es : List EdgeD} {ev : Value} {ve : List Value} {W : World} (h : EdS B Z Es ev ve W) : ve.length = 3 * Es.length := by
  have := h.ow.1
  omega
theorem EdS.push {B : Nat} {Z : Nat → Prop} {Es : List EdgeD} {ev v' : Value} {ve : List Value} {W Y w1 : World} (h : EdS B Z Es ev ve W) (_hZ : ∀ b, Z b → b < W.heap.size) (hY : ∀ b, Z b → b < W.heap.size → Y.heap[b]? = W.heap[b]?) (hyz : W.heap.size ≤ Y.heap.size) (x : EdgeD) {ua : Option Addr} {uc : Nat}
    (hi : IsRows (fun b => W.heap.size ≤ b ∧ b < Y.heap.size) Y (.slice ua x.cost.length uc) x.cost) (ho : w1.ownsRow B 32 3 v' (Es.length + 1) (ve ++ [.int .i64 x.a, .int .i64 x.b, .slice ua x.cost.length uc])) (hg : Y.grownBy w1 ev.ownBlock) (hat : v'.ownBlock = ev.ownBlock ∨ ∃ g, v'.ownBlock = some g ∧ Y.heap.size ≤ g) :
    EdS B (fun b => Z b ∨ (W.heap.size ≤ b ∧ b < w1.heap.size)) (Es ++ [x]) v' (ve ++ [.int .i64 x.a, .int .i64 x.b, .slice ua x.cost.length uc]) w1 := by
  have hub : ∀ b, ev.ownBlock = some b → b < W.heap.size := fun b hb => (h.ow.lt b hb).2
  have hgs := hg.size
  have hl := h.len
  refine ⟨by rw [List.length_append]; exact ho, fun b hb => ?_, fun j hj => ?_⟩
  · rcases hat with e1 | ⟨g, e1, e2⟩
    · exact .inl (h.oz b (by rw [← e1]; exact hb))
    · have h3 := (ho.lt b hb).2
      rw [e1] at hb
      have : g = b := by simpa using hb
      exact .inr ⟨by omega, h3⟩
  by_cases hjl : j < Es.length
  · rw [List.getElem_append_left hjl, List.getElem?_append_left (by omega), List.getElem?_append_left (by omega), List.getElem?_append_left (by omega)]
    obtain ⟨e1, e2, a, c, e3, e4⟩ := h.el j hjl
    refine ⟨e1, e2, a, c, e3, e4.keep (fun b hb hlt => ⟨⟨.inl hb.1, fun e => ?_⟩, (hg.block b (by omega) hb.2).trans (hY b hb.1 hlt)⟩)⟩
    rcases hat with e4 | ⟨g, e4, e5⟩
    · exact hb.2 (by rw [e, e4])
    · rw [e4] at e
      have : b = g := by simpa using e
      omega
  · have hje : j = Es.length := by simp at hj; omega
    subst hje
    rw [List.getElem_append_right (Nat.le_refl _), List.getElem?_append_right (by omega), List.getElem?_append_right (by omega), List.getElem?_append_right (by omega)]
    simp only [Nat.sub_self, List.getElem_cons_zero, hl, show 3 * Es.length + 1 - 3 * Es.length = 1 by omega, show 3 * Es.length + 2 - 3 * Es.length = 2 by omega]
    refine ⟨rfl, rfl, ua, uc, rfl, hi.keep (fun b hb hlt => ⟨⟨.inr ⟨hb.1, by omega⟩, fun e => ?_⟩, hg.block b hlt (fun e => by have := hub b e.symm; omega)⟩)⟩
    rcases hat with e4 | ⟨g, e4, e5⟩
    · rw [e4] at e
      have := hub b e.symm; omega
    · rw [e4] at e
      have : b = g := by simpa using e
      omega
theorem EdS.edges {B : Nat} {Z : Nat → Prop} {Es : List EdgeD} {ev : Value} {ve : List Value} {W : World} (h : EdS B Z Es ev ve W) (hm : Es.length ≤ 1000000) : ∃ ea ec, ev = .slice ea Es.length ec ∧ IsEdges (fun b => Z b ∧ b < W.heap.size) W (.slice ea Es.length ec) Es := by
  have hl := h.len
  have how := h.ow
  rcases owns_nilcase how with ⟨e1, e2, -⟩ | ⟨g, cap, e1⟩
  · rw [e1, e2]
    exact ⟨none, 0, rfl, none, 0, by rw [e2], ⟨by omega, by omega⟩, .inl (List.length_eq_zero_iff.1 e2)⟩
  · rw [e1] at how
    obtain ⟨cur, f1, f2, f3, -, f5, f6, -, f7⟩ := owns_block how
    refine ⟨_, cap, e1, _, cap, rfl, ⟨f3, by omega⟩, .inr ⟨g, 0, rfl, ⟨h.oz g (by rw [e1]; rfl), f7⟩, fun j hj => ?_⟩⟩
    have hc : ∀ k v, ve[k]? = some v → W.cell? ⟨g, k, none⟩ = some v := fun k v hk => by
      have hr : RowP W g 32 ve := ⟨cur.toList.drop (Es.length * 3), by rw [f2, ← f6, List.take_append_drop]⟩
      exact hr.cell hk
    obtain ⟨q1, q2, a, c, q3, q4⟩ := h.el j hj
    rw [Nat.zero_add, Nat.mul_comm]
    exact ⟨hc _ _ q1, hc _ _ q2, _, hc _ _ q3, q4.keep (Keep.refl W fun b hb hlt => ⟨hb.1, hlt⟩)⟩
theorem infoEdge : (Try.prog.info? 32).map (fun i => (i.zero, i.size, i.bytes)) = some (some (.agg #[.int .i64 0, .int .i64 0, .slice none 0 0]), 3, 40) := by kernel_rfl
/-- 'out = append(out, e)' of an edge. -/
theorem app_edge {ops : Array Oper} {rest : List Oper} {o : Oper} {a : Act} {Q : Exit → Act → World → Prop} {W : World}
    (hgd : o.guard = none) (s x : Operand) (hop : o.op = .call { callee := .builtin .append, args := #[s, x], argTypes := #[23, 23] })
    (base n : Nat) (v : Value) (zs : List Value) (hs : a.eval s = v) (hown : W.ownsRow base 32 3 v n zs) (g : Nat) (c0 c1 c2 : Value) (hy : c0.oneCell' = true ∧ c1.oneCell' = true ∧ c2.oneCell' = true) (hx : a.eval x = .slice (some ⟨g, 0, none⟩) 1 1)
    (hc : W.heap[g]? = some (.cells #[c0, c1, c2] 32 (0, 0))) (hn : n ≤ 1000000) (hb : base ≤ W.heap.size)
    (h : ∀ v' w', w'.ownsRow base 32 3 v' (n + 1) (zs ++ [c0, c1, c2]) → W.grownBy w' v.ownBlock → (v'.ownBlock = v.ownBlock ∨ v'.ownBlock = some W.heap.size) → wpList Try.prog ops Q rest (a.put o.dst v') w') :
    wpList Try.prog ops Q (o :: rest) a W := by
  obtain ⟨i0, hi, hz0, hz1, hz2⟩ := info_parts infoEdge
  refine wp_app _ hgd s x 23 hop base 32 i0 _ 3 40 Try.underlying23 hi hz0 hz1 hz2 rfl (by decide) v n zs hs hown ⟨g, 0, none⟩ 1 1 [c0, c1, c2] hx rfl ?_ ?_ (by unfold maxLen; omega) (by omega) hb h
  · have hr : Row W g 32 [c0, c1, c2] := hc
    intro j u hj
    match j, hj with
    | 0, hj => simp at hj; subst hj; exact hr.cell (k := 0) rfl
    | 1, hj => simp at hj; subst hj; exact hr.cell (k := 1) rfl
    | 2, hj => simp at hj; subst hj; exact hr.cell (k := 2) rfl
  · intro u hu
    simp at hu
    rcases hu with rfl | rfl | rfl
    · exact hy.1
    · exact hy.2.1
    · exact hy.2.2
end Go.Proofs.Ytdomnbgjafdnjaa
