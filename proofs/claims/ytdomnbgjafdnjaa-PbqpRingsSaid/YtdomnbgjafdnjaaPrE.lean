/- Problems that are built: rows of rows, rows of edges, appended. -/
import Derived.Test.YtdomnbgjafdnjaaPsA
import Derived.StillTailTactics
namespace Go.Proofs.Ytdomnbgjafdnjaa
open Go.RowKit Go.Maps Go.ChangeMaps

/-- A row of edges. -/
structure EdS (B : Nat) (Z : Nat → Prop) (Es : List EdgeD) (ev : Value) (ve : List Value) (W : World) : Prop where
  ow : W.ownsRow B 32 3 ev Es.length ve
  oz : ∀ b, ev.ownBlock = some b → Z b
  el : ∀ j (h : j < Es.length), ve[3 * j]? = some (.int .i64 Es[j].a) ∧ ve[3 * j + 1]? = some (.int .i64 Es[j].b) ∧ ∃ a c, ve[3 * j + 2]? = some (.slice a Es[j].cost.length c) ∧ IsRows (fun b => Z b ∧ some b ≠ ev.ownBlock) W (.slice a Es[j].cost.length c) Es[j].cost
theorem EdS.nil (B : Nat) (Z : Nat → Prop) (W : World) : EdS B Z [] (.slice none 0 0) [] W := ⟨World.ownsRow_nil _ _ _ _, fun b hb => by simp [Value.ownBlock] at hb, fun j hj => by simp at hj⟩
theorem EdS.keep {B : Nat} {Z : Nat → Prop} {Es : List EdgeD} {ev : Value} {ve : List Value} {W W' : World} (h : EdS B Z Es ev ve W) (hk : ∀ b, Z b → b < W.heap.size → W'.heap[b]? = W.heap[b]?) : EdS B Z Es ev ve W' :=
  ⟨owns_keepZ h.ow h.oz hk, h.oz, fun j hj => by
    obtain ⟨e1, e2, a, c, e3, e4⟩ := h.el j hj
    exact ⟨e1, e2, a, c, e3, e4.keep (fun b hb hlt => ⟨hb, hk b hb.1 hlt⟩)⟩⟩
theorem EdS.len {B : Nat} {Z : Nat → Prop} {Es : List EdgeD} {ev : Value} {ve : List Value} {W : World} (h : EdS B Z Es ev ve W) : ve.length = 3 * Es.length := by
  have := h.ow.1
  omega
theorem EdS.push {B : Nat} {Z : Nat → Prop} {Es : List EdgeD} {ev v' : Value} {ve : List Value} {W Y w1 : World} (h : EdS B Z Es ev ve W) (_hZ : ∀ b, Z b → b < W.heap.size) (hY : ∀ b, Z b → b < W.heap.size → Y.heap[b]? = W.heap[b]?) (hyz : W.heap.size ≤ Y.heap.size) (x : EdgeD) {ua : Option Addr} {uc : Nat}
    (hi : IsRows (fun b => W.heap.size ≤ b ∧ b < Y.heap.size) Y (.slice ua x.cost.length uc) x.cost) (ho : w1.ownsRow B 32 3 v' (Es.length + 1) (ve ++ [.int .i64 x.a, .int .i64 x.b, .slice ua x.cost.length uc])) (hg : Y.grownBy w1 ev.ownBlock) (hat : v'.ownBlock = ev.ownBlock ∨ ∃ g, v'.ownBlock = some g ∧ Y.heap.size ≤ g) :
    EdS B (fun b => Z b ∨ (W.heap.size ≤ b ∧ b < w1.heap.size)) (Es ++ [x]) v' (ve ++ [.int .i64 x.a, .int .i64 x.b, .slice ua x.cost.length uc]) w1 := by
  have hub : ∀ b, ev.ownBlock = some b → b < W.heap.size := fun b hb => (h.ow.lt b hb).2
  have hgs := hg.size
  have hl := h.len
  refine ⟨by rw [List.length_append]; exact ho, fun b hb => ?_, fun j hj => ?_⟩
  · rcases hat with e1 | ⟨g, e1, e2⟩
    · exact .inl (h.oz b (by rw [← e1]; exact hb))
    · have h3 := (ho.lt b hb).2
      rw [e1] at hb
      have : g = b := by simpa using hb
      exact .inr ⟨by omega, h3⟩
  by_cases hjl : j < Es.length
  · rw [List.getElem_append_left hjl, List.getElem?_append_left (by omega), List.getElem?_append_left (by omega), List.getElem?_append_left (by omega)]
    obtain ⟨e1, e2, a, c, e3, e4⟩ := h.el j hjl
    refine ⟨e1, e2, a, c, e3, e4.keep (fun b hb hlt => ⟨⟨.inl hb.1, fun e => ?_⟩, (hg.block b (by omega) hb.2).trans (hY b hb.1 hlt)⟩)⟩
    rcases hat with e4 | ⟨g, e4, e5⟩
    · exact hb.2 (by rw [e, e4])
    · rw [e4] at e
      have : b = g := by simpa using e
      omega
  · have hje : j = Es.length := by simp at hj; omega
    subst hje
    rw [List.getElem_append_right (Nat.le_refl _), List.getElem?_append_right (by omega), List.getElem?_append_right (by omega), List.getElem?_append_right (by omega)]
    simp only [Nat.sub_self, List.getElem_cons_zero, hl, show 3 * Es.length + 1 - 3 * Es.length = 1 by omega, show 3 * Es.length + 2 - 3 * Es.length = 2 by omega]
    refine ⟨rfl, rfl, ua, uc, rfl, hi.keep (fun b hb hlt => ⟨⟨.inr ⟨hb.1, by omega⟩, fun e => ?_⟩, hg.block b hlt (fun e => by have := hub b e.symm; omega)⟩)⟩
    rcases hat with e4 | ⟨g, e4, e5⟩
    · rw [e4] at e
      have := hub b e.symm; omega
    · rw [e4] at e
      have : b = g := by simpa using e
      omega
theorem EdS.edges {B : Nat} {Z : Nat → Prop} {Es : List EdgeD} {ev : Value} {ve : List Value} {W : World} (h : EdS B Z Es ev ve W) (hm : Es.length ≤ 1000000) : ∃ ea ec, ev = .slice ea Es.length ec ∧ IsEdges (fun b => Z b ∧ b < W.heap.size) W (.slice ea Es.length ec) Es := by
  have hl := h.len
  have how := h.ow
  rcases owns_nilcase how with ⟨e1, e2, -⟩ | ⟨g, cap, e1⟩
  · rw [e1, e2]
    exact ⟨none, 0, rfl, none, 0, by rw [e2], ⟨by omega, by omega⟩, .inl (List.length_eq_zero_iff.1 e2)⟩
  · rw [e1] at how
    obtain ⟨cur, f1, f2, f3, -, f5, f6, -, f7⟩ := owns_block how
    refine ⟨_, cap, e1, _, cap, rfl, ⟨f3, by omega⟩, .inr ⟨g, 0, rfl, ⟨h.oz g (by rw [e1]; rfl), f7⟩, fun j hj => ?_⟩⟩
    have hc : ∀ k v, ve[k]? = some v → W.cell? ⟨g, k, none⟩ = some v := fun k v hk => by
      have hr : RowP W g 32 ve := ⟨cur.toList.drop (Es.length * 3), by rw [f2, ← f6, List.take_append_drop]⟩
      exact hr.cell hk
    obtain ⟨q1, q2, a, c, q3, q4⟩ := h.el j hj
    rw [Nat.zero_add, Nat.mul_comm]
    exact ⟨hc _ _ q1, hc _ _ q2, _, hc _ _ q3, q4.keep (Keep.refl W fun b hb hlt => ⟨hb.1, hlt⟩)⟩
theorem infoEdge : (Try.prog.info? 32).map (fun i => (i.zero, i.size, i.bytes)) = some (some (.agg #[.int .i64 0, .int .i64 0, .slice none 0 0]), 3, 40) := by kernel_rfl
/-- 'out = append(out, e)' of an edge. -/
theorem app_edge {ops : Array Oper} {rest : List Oper} {o : Oper} {a : Act} {Q : Exit → Act → World → Prop} {W : World}
    (hgd : o.guard = none) (s x : Operand) (hop : o.op = .call { callee := .builtin .append, args := #[s, x], argTypes := #[23, 23] })
    (base n : Nat) (v : Value) (zs : List Value) (hs : a.eval s = v) (hown : W.ownsRow base 32 3 v n zs) (g : Nat) (c0 c1 c2 : Value) (hy : c0.oneCell' = true ∧ c1.oneCell' = true ∧ c2.oneCell' = true) (hx : a.eval x = .slice (some ⟨g, 0, none⟩) 1 1)
    (hc : W.heap[g]? = some (.cells #[c0, c1, c2] 32 (0, 0))) (hn : n ≤ 1000000) (hb : base ≤ W.heap.size)
    (h : ∀ v' w', w'.ownsRow base 32 3 v' (n + 1) (zs ++ [c0, c1, c2]) → W.grownBy w' v.ownBlock → (v'.ownBlock = v.ownBlock ∨ v'.ownBlock = some W.heap.size) → wpList Try.prog ops Q rest (a.put o.dst v') w') :
    wpList Try.prog ops Q (o :: rest) a W := by
  obtain ⟨i0, hi, hz0, hz1, hz2⟩ := info_parts infoEdge
  refine wp_app _ hgd s x 23 hop base 32 i0 _ 3 40 Try.underlying23 hi hz0 hz1 hz2 rfl (by decide) v n zs hs hown ⟨g, 0, none⟩ 1 1 [c0, c1, c2] hx rfl ?_ ?_ (by unfold maxLen; omega) (by omega) hb h
  · have hr : Row W g 32 [c0, c1, c2] := hc
    intro j u hj
    match j, hj with
    | 0, hj => simp at hj; subst hj; exact hr.cell (k := 0) rfl
    | 1, hj => simp at hj; subst hj; exact hr.cell (k := 1) rfl
    | 2, hj => simp at hj; subst hj; exact hr.cell (k := 2) rfl
  · intro u hu
    simp at hu
    rcases hu with rfl | rfl | rfl
    · exact hy.1
    · exact hy.2.1
    · exact hy.2.2
/-- A problem that a law builds: i nodes of Nl, j edges of El. -/
structure BdB (w : World) (cb : Nat) (Nl : List (List Int)) (El : List EdgeD) (i j : Nat) (Zn Z : Nat → Prop) (na : Option Addr) (nc : Nat) (vn : List Value) (ea : Option Addr) (ec : Nat) (ve : List Value) (W : World) : Prop where
  r : Row W cb 25 [.slice na i nc, .slice ea j ec]
  n : RwS 26 (cb + 1) Zn Nl (.slice na i nc) vn W
  vl : vn.length = i
  e : EdS (cb + 1) Z (El.take j) (.slice ea j ec) ve W
  zn : ∀ b, Zn b → cb + 1 ≤ b ∧ b < W.heap.size
  z : ∀ b, Z b → cb + 1 ≤ b ∧ b < W.heap.size
  d : ∀ b, Zn b → ¬ Z b
  cb : w.heap.size ≤ cb
  bel : Below w.heap.size w W
def BdS (w : World) (cb : Nat) (Nl : List (List Int)) (El : List EdgeD) (i j : Nat) (W : World) : Prop := ∃ Zn Z na nc vn ea ec ve, BdB w cb Nl El i j Zn Z na nc vn ea ec ve W
section
variable {w W Y w1 : World} {cb i j : Nat} {Nl : List (List Int)} {El : List EdgeD} {Zn Z : Nat → Prop} {na ea : Option Addr} {nc ec : Nat} {vn ve : List Value}
theorem BdS.start (hr : Row W cb 25 [.slice none 0 0, .slice none 0 0]) (hb : Below w.heap.size w W) (hc : w.heap.size ≤ cb) : BdS w cb Nl El 0 0 W :=
  ⟨fun _ => False, fun _ => False, none, 0, [], none, 0, [], hr, RwS.nil _ _ _ _ _, rfl, by rw [List.take_zero]; exact EdS.nil _ _ _, fun _ h => absurd h id, fun _ h => absurd h id, fun _ h => absurd h id, hc, hb⟩
/-- A node more. -/
theorem BdB.node (h : BdB w cb Nl El i j Zn Z na nc vn ea ec ve W) (hY : Below W.heap.size W Y) {m : Nat} {ua : Option Addr} {uc g cap : Nat} (hm : (Nl.getD i []).length = m) (hu : IsInts (fun b => W.heap.size ≤ b ∧ b < Y.heap.size) Y (.slice ua m uc) (Nl.getD i []))
    (ho : w1.ownsRow (cb + 1) 26 1 (.slice (some ⟨g, 0, none⟩) (i + 1) cap) (i + 1) (vn ++ [.slice ua m uc])) (hg : Y.grownBy w1 (Value.slice na i nc).ownBlock) (hat : (Value.slice na i nc).ownBlock = some g ∨ g = Y.heap.size) :
    w1.cell? ⟨cb, 0, none⟩ = some (.slice na i nc) ∧ w1.frozen? ⟨cb, 0, none⟩ = false ∧ BdS w cb Nl El (i + 1) j (w1.setCell ⟨cb, 0, none⟩ (.slice (some ⟨g, 0, none⟩) (i + 1) cap)) := by
  have hub := fun b => h.n.ow.lt b
  have hcl := h.r.lt
  have hys := hY.size
  have hgs := hg.size
  have hcb := h.cb
  have hr1 : Row w1 cb 25 [.slice na i nc, .slice ea j ec] := (h.r.keep (hY.block cb hcl)).keep (hg.block cb (by omega) (fun e => by have := (hub _ e.symm).1; omega))
  have hgd : (Nl.getD vn.length []).length = m := by rw [h.vl, hm]
  have hps := h.n.push (Y := Y) (w1 := w1) (v' := .slice (some ⟨g, 0, none⟩) (i + 1) cap) (u := .slice ua m uc) (fun b hb => (h.zn b hb).2) hY (ua := ua) (uc := uc) (by rw [hgd]) (by rw [h.vl]; exact hu) (by rw [List.length_append, h.vl]; exact ho) hg (hat.imp (fun e => e.symm) (fun e => ⟨g, rfl, by omega⟩))
  refine ⟨hr1.cell rfl, hr1.frozen 0, _, Z, _, cap, _, ea, ec, ve, hr1.set 0 _, hps.keep fun b hb _ => Below.heap_setCell _ _ _ _ (fun e => ?_), by simp [h.vl], h.e.keep fun b hb hlt => ?_, fun b hb => ?_, fun b hb => ?_, fun b hb hz => ?_, hcb, ?_⟩
  · have e : b = cb := e
    rcases hb with hb | hb
    · have := h.zn b hb; omega
    · omega
  · refine (Below.heap_setCell _ _ _ _ (fun e => ?_)).trans ((hg.block b (by omega) (fun e => ?_)).trans (hY.block b hlt))
    · have e : b = cb := e
      have := h.z b hb; omega
    · exact h.d b (h.n.oz b e.symm) hb
  · simp only [World.size_setCell]
    rcases hb with hb | hb
    · have := h.zn b hb; omega
    · omega
  · simp only [World.size_setCell]
    have := h.z b hb; omega
  · rcases hb with hb | hb
    · exact h.d b hb hz
    · have := h.z b hz; omega
  · exact (bel_grown (bel_call h.bel hY) hg (fun b e => by have := (hub b e).1; omega)).setCell hcb _
/-- An edge more. -/
theorem BdB.edge (h : BdB w cb Nl El i j Zn Z na nc vn ea ec ve W) (hY : Below W.heap.size W Y) {x : EdgeD} (hx : El.take (j + 1) = El.take j ++ [x]) (hj : j ≤ El.length) {m : Nat} {ua : Option Addr} {uc g cap : Nat} (hm : x.cost.length = m) (hu : IsRows (fun b => W.heap.size ≤ b ∧ b < Y.heap.size) Y (.slice ua m uc) x.cost)
    (ho : w1.ownsRow (cb + 1) 32 3 (.slice (some ⟨g, 0, none⟩) (j + 1) cap) (j + 1) (ve ++ [.int .i64 x.a, .int .i64 x.b, .slice ua m uc])) (hg : Y.grownBy w1 (Value.slice ea j ec).ownBlock) (hat : (Value.slice ea j ec).ownBlock = some g ∨ g = Y.heap.size) :
    w1.cell? ⟨cb, 1, none⟩ = some (.slice ea j ec) ∧ w1.frozen? ⟨cb, 1, none⟩ = false ∧ BdS w cb Nl El i (j + 1) (w1.setCell ⟨cb, 1, none⟩ (.slice (some ⟨g, 0, none⟩) (j + 1) cap)) := by
  subst hm
  have hub := fun b => h.e.ow.lt b
  have hcl := h.r.lt
  have hys := hY.size
  have hgs := hg.size
  have hcb := h.cb
  have htl : (El.take j).length = j := by rw [List.length_take]; omega
  have hr1 : Row w1 cb 25 [.slice na i nc, .slice ea j ec] := (h.r.keep (hY.block cb hcl)).keep (hg.block cb (by omega) (fun e => by have := (hub _ e.symm).1; omega))
  have hps := h.e.push (Y := Y) (w1 := w1) (v' := .slice (some ⟨g, 0, none⟩) (j + 1) cap) (fun b hb => (h.z b hb).2) (fun b _ hlt => hY.block b hlt) hys x hu (by rw [htl]; exact ho) hg (hat.imp (fun e => e.symm) (fun e => ⟨g, rfl, by omega⟩))
  rw [← hx] at hps
  refine ⟨hr1.cell rfl, hr1.frozen 1, Zn, _, na, nc, vn, _, cap, _, hr1.set 1 _, h.n.keep fun b hb hlt => ?_, h.vl, hps.keep fun b hb _ => Below.heap_setCell _ _ _ _ (fun e => ?_), fun b hb => ?_, fun b hb => ?_, fun b hb hz => ?_, hcb, ?_⟩
  · refine (Below.heap_setCell _ _ _ _ (fun e => ?_)).trans ((hg.block b (by omega) (fun e => ?_)).trans (hY.block b hlt))
    · have e : b = cb := e
      have := h.zn b hb; omega
    · exact h.d b hb (h.e.oz b e.symm)
  · have e : b = cb := e
    rcases hb with hb | hb
    · have := h.z b hb; omega
    · omega
  · simp only [World.size_setCell]
    have := h.zn b hb; omega
  · simp only [World.size_setCell]
    rcases hb with hb | hb
    · have := h.z b hb; omega
    · omega
  · rcases hz with hz | hz
    · exact h.d b hb hz
    · have := h.zn b hb; omega
  · exact (bel_grown (bel_call h.bel hY) hg (fun b e => by have := (hub b e).1; omega)).setCell hcb _
/-- It is built. -/
theorem BdB.pq (h : BdB w cb Nl El i j Zn Z na nc vn ea ec ve W) (hi : i = Nl.length) (hj : j = El.length) (hn : i ≤ 1000) (hm : j ≤ 10000) : IsPq (· < W.heap.size) W na i nc ea j ec Nl El := by
  obtain ⟨ma', mc', hme, hRows⟩ := h.n.rows (by rw [h.vl, hi]) (by omega)
  rw [← hi] at hme hRows
  simp only [Value.slice.injEq] at hme
  obtain ⟨rfl, -, rfl⟩ := hme
  have hE := h.e
  rw [List.take_of_length_le (by omega)] at hE
  obtain ⟨ea', ec', hev, hEd⟩ := hE.edges (by omega)
  rw [← hj] at hev hEd
  simp only [Value.slice.injEq] at hev
  obtain ⟨rfl, -, rfl⟩ := hev
  exact ⟨hRows.keep (Keep.refl W fun b hb _ => hb.2), hEd.keep (Keep.refl W fun b hb _ => hb.2)⟩
end
end Go.Proofs.Ytdomnbgjafdnjaa
