/- Rows of slices of ints that are being written. -/
import Derived.Test.YtcihobmjohpnkaaRfB
import Derived.Test.YtcihobmjohpnkaaRef1
import Derived.Test.YtcihobmjohpnkaaSuccsR
namespace Go.Proofs.Ytcihobmjohpnkaa
open Go.RowKit Go.Sort

structure IRow (p : Nat → Prop) (g : Nat) (I : List (List Int)) (W : World) : Prop where
  np : ¬ p g
  ex : ∃ vs : List Value, Row W g 25 vs ∧ vs.length = I.length ∧ ∀ j (h : j < vs.length), IsInts p W vs[j] (I.getD j [])

theorem getDI_set {I : List (List Int)} (b k : Nat) (x : List Int) : (I.set b x).getD k [] = if b = k ∧ k < I.length then x else I.getD k [] := by
  rw [List.getD_eq_getElem?_getD, List.getElem?_set, List.getD_eq_getElem?_getD]
  by_cases h1 : b = k
  · by_cases h2 : k < I.length
    · subst h1; simp [h2]
    · subst h1; simp [h2]
  · simp [h1]
theorem IsInts.mono {p p' : Nat → Prop} {W : World} {v : Value} {xs : List Int} (h : IsInts p W v xs) (hp : ∀ b, p b → p' b) : IsInts p' W v xs := h.keep (Keep.refl W fun b hb _ => hp b hb)
theorem ints_slice {p : Nat → Prop} {w : World} {z : Value} {xs : List Int} (h : IsInts p w z xs) : ∃ za zn zc, z = .slice za zn zc := by obtain ⟨_, _, h, -⟩ := h; exact ⟨_, _, _, h⟩

section
variable {p p' : Nat → Prop} {g : Nat} {I : List (List Int)} {W W' : World}
theorem IRow.lt (h : IRow p g I W) : g < W.heap.size := let ⟨_, h1, _⟩ := h.ex; h1.lt
theorem IRow.keep (h : IRow p g I W) (hb : W'.heap[g]? = W.heap[g]?) (hk : Keep p p' W W') (np : ¬ p' g) : IRow p' g I W' :=
  let ⟨vs, h1, h2, h3⟩ := h.ex; ⟨np, vs, h1.keep hb, h2, fun j hj => (h3 j hj).keep hk⟩
theorem IRow.below (h : IRow p g I W) (hb : Below W.heap.size W W') : IRow p g I W' := h.keep (hb.block g h.lt) (Keep.below hb) h.np
theorem IRow.other (h : IRow p g I W) {a : Addr} (hne : g ≠ a.block) (hp : ¬ p a.block) (u : Value) : IRow p g I (W.setCell a u) :=
  h.keep (Below.heap_setCell _ _ _ _ hne) (Keep.setCell fun _ hb _ => ⟨hb, fun e => hp (e ▸ hb)⟩) h.np
theorem IRow.get (h : IRow p g I W) {j : Nat} (hj : j < I.length) : ∃ a c, W.cell? ⟨g, j, none⟩ = some (.slice a (I.getD j []).length c) ∧ IsInts p W (.slice a (I.getD j []).length c) (I.getD j []) := by
  obtain ⟨vs, h1, h2, h3⟩ := h.ex
  have hj' : j < vs.length := by omega
  have hw := h3 j hj'
  have hc := h1.cell (k := j) (v := vs[j]) (by simp [hj'])
  obtain ⟨a, c, e, -, -⟩ := id hw
  rw [e] at hc hw
  exact ⟨a, c, hc, hw⟩
theorem IRow.frozen (h : IRow p g I W) (k : Nat) : W.frozen? ⟨g, k, none⟩ = false := let ⟨_, h1, _⟩ := h.ex; h1.frozen k
theorem IRow.set (h : IRow p g I W) {z : Value} {ws : List Int} (hz : IsInts p W z ws) (j : Nat) : IRow p g (I.set j ws) (W.setCell ⟨g, j, none⟩ z) := by
  obtain ⟨vs, h1, h2, h3⟩ := h.ex
  have hk : Keep p p W (W.setCell ⟨g, j, none⟩ z) := Keep.setCell fun b hb _ => ⟨hb, fun e => h.np (by have e' : b = g := e; exact e' ▸ hb)⟩
  refine ⟨h.np, vs.set j z, h1.set j z, by simp [h2], fun i hi => ?_⟩
  have hi' : i < vs.length := by simpa using hi
  rw [List.getElem_set, getDI_set]
  by_cases e : j = i
  · rw [if_pos e, if_pos ⟨e, by omega⟩]; exact hz.keep hk
  · rw [if_neg e, if_neg (by omega)]; exact (h3 i hi').keep hk
theorem IRow.rows (h : IRow p g I W) (hg : p' g) (hp : ∀ b, p b → p' b) (hl : I.length ≤ 100000) : IsRows p' W (.slice (some ⟨g, 0, none⟩) I.length I.length) I := by
  obtain ⟨vs, h1, h2, h3⟩ := h.ex
  refine rows_of_row h1 hg h2 (by omega) fun j hj hj2 => ?_
  have := h3 j hj
  have e : I.getD j [] = I[j] := by simp [List.getD, hj2]
  rw [e] at this
  exact this.mono hp
theorem IRow.start {n : Nat} (h : Row W g 25 (List.replicate n (.slice none 0 0))) (np : ¬ p g) : IRow p g (List.replicate n []) W := by
  refine ⟨np, _, h, by simp, fun j hj => ?_⟩
  have e : (List.replicate n ([] : List Int)).getD j [] = [] := by rw [List.getD_eq_getElem?_getD, List.getElem?_replicate]; split <;> rfl
  rw [List.getElem_replicate, e]
  exact ints_nil _ _
end
/-- 'make([][]int, n)'. -/
theorem mk_rowsI {ops : Array Oper} {rest : List Oper} {o : Oper} {a : Act} {Q : Exit → Act → World → Prop} {W : World}
    (hgd : o.guard = none) (l c : Operand) (hop : o.op = Op.makeSlice 28 l c) (n : Nat) (hl : a.eval l = .int .i64 n) (hc : a.eval c = .int .i64 n) (hn : n ≤ 1000000)
    (h : wpList Try.prog ops Q rest (a.put o.dst (.slice (some ⟨W.heap.size, 0, none⟩) n n)) (W.alloc (.cells (List.replicate n (Value.slice none 0 0)).toArray 25))) :
    wpList Try.prog ops Q (o :: rest) a W := by
  obtain ⟨i0, hi, hz0, hz1, hz2⟩ := info_parts infoIntsL
  exact wp_make1 W hgd l c 28 hop 25 i0 _ (.slice none 0 0) 24 Try.underlying28 hi hz0 hz1 hz2 rfl n hl hc (by omega) (by omega) h

theorem listI_inj {a b : List Nat} (ha : Good1 a) (hb : Good1 b) (h : listI a = listI b) : a = b := by
  refine Bit.can_ext ha.1 hb.1 fun m => ?_
  have h1 := mem_listI (ws := a) (x := (m : Int))
  have h2 := mem_listI (ws := b) (x := (m : Int))
  rw [h] at h1
  simp at h1 h2
  exact Bool.eq_iff_iff.2 (h1.symm.trans h2)
theorem map_getD_listI (I : List (List Nat)) (j : Nat) : (I.map listI).getD j [] = listI (I.getD j []) := by
  by_cases h : j < I.length
  · simp [List.getD, h]
  · have e1 : (I.map listI).getD j [] = [] := by rw [List.getD_eq_getElem?_getD, List.getElem?_eq_none (by simpa using h)]; rfl
    have e2 : I.getD j [] = [] := by rw [List.getD_eq_getElem?_getD, List.getElem?_eq_none (by omega)]; rfl
    rw [e1, e2]; rfl
theorem map_set_listI (I : List (List Nat)) (j : Nat) (ws : List Nat) : (I.map listI).set j (listI ws) = (I.set j ws).map listI := by rw [List.map_set]
theorem listI_good {ws : List Nat} (h : Good1 ws) : (listI ws).length ≤ 65536 := by have := listI_length ws; have := h.2; omega

section
/- Rows of rows of ints that are being written (the reference's Afters). -/
open Go.RowKit Go.Sort

def CRows (p : Nat → Prop) (w : World) (b o : Nat) (xs : List (List Int)) : Prop := ∃ v, w.cell? ⟨b, o, none⟩ = some v ∧ IsRows p w v xs
def IsRows3 (p : Nat → Prop) (w : World) (v : Value) (xs : List (List (List Int))) : Prop := IsSl 1 (CRows p) p w v xs
theorem IsRows3.keep {p p' : Nat → Prop} {w w' : World} {v : Value} {xs : List (List (List Int))} (h : IsRows3 p w v xs) (hk : Keep p p' w w') : IsRows3 p' w' v xs :=
  IsSl.keep h (fun _ _ _ ⟨_, h, _⟩ => lt_of_cell h) hk fun _ _ _ hp _ ⟨u, hc, hu⟩ => ⟨u, hk.cell hp hc, hu.keep hk⟩
theorem IsRows.mono {p p' : Nat → Prop} {W : World} {v : Value} {xs : List (List Int)} (h : IsRows p W v xs) (hp : ∀ b, p b → p' b) : IsRows p' W v xs := h.keep (Keep.refl W fun b hb _ => hp b hb)
theorem rows_nil (p : Nat → Prop) (W : World) : IsRows p W (.slice none 0 0) [] := ⟨none, 0, rfl, ⟨by simp, by simp⟩, .inl rfl⟩

structure RRow (p : Nat → Prop) (g : Nat) (I : List (List (List Int))) (W : World) : Prop where
  np : ¬ p g
  ex : ∃ vs : List Value, Row W g 28 vs ∧ vs.length = I.length ∧ ∀ j (h : j < vs.length), IsRows p W vs[j] (I.getD j [])

theorem getDR_set {I : List (List (List Int))} (b k : Nat) (x : List (List Int)) : (I.set b x).getD k [] = if b = k ∧ k < I.length then x else I.getD k [] := by
  rw [List.getD_eq_getElem?_getD, List.getElem?_set, List.getD_eq_getElem?_getD]
  by_cases h1 : b = k
  · by_cases h2 : k < I.length
    · subst h1; simp [h2]
    · subst h1; simp [h2]
  · simp [h1]
section
variable {p p' : Nat → Prop} {g : Nat} {I : List (List (List Int))} {W W' : World}
theorem RRow.lt (h : RRow p g I W) : g < W.heap.size := let ⟨_, h1, _⟩ := h.ex; h1.lt
theorem RRow.keep (h : RRow p g I W) (hb : W'.heap[g]? = W.heap[g]?) (hk : Keep p p' W W') (np : ¬ p' g) : RRow p' g I W' :=
  let ⟨vs, h1, h2, h3⟩ := h.ex; ⟨np, vs, h1.keep hb, h2, fun j hj => (h3 j hj).keep hk⟩
theorem RRow.below (h : RRow p g I W) (hb : Below W.heap.size W W') : RRow p g I W' := h.keep (hb.block g h.lt) (Keep.below hb) h.np
theorem RRow.other (h : RRow p g I W) {a : Addr} (hne : g ≠ a.block) (hp : ¬ p a.block) (u : Value) : RRow p g I (W.setCell a u) :=
  h.keep (Below.heap_setCell _ _ _ _ hne) (Keep.setCell fun _ hb _ => ⟨hb, fun e => hp (e ▸ hb)⟩) h.np
theorem RRow.get (h : RRow p g I W) {j : Nat} (hj : j < I.length) : ∃ a c, W.cell? ⟨g, j, none⟩ = some (.slice a (I.getD j []).length c) ∧ IsRows p W (.slice a (I.getD j []).length c) (I.getD j []) := by
  obtain ⟨vs, h1, h2, h3⟩ := h.ex
  have hj' : j < vs.length := by omega
  have hw := h3 j hj'
  have hc := h1.cell (k := j) (v := vs[j]) (by simp [hj'])
  obtain ⟨a, c, e, -, -⟩ := id hw
  rw [e] at hc hw
  exact ⟨a, c, hc, hw⟩
theorem RRow.frozen (h : RRow p g I W) (k : Nat) : W.frozen? ⟨g, k, none⟩ = false := let ⟨_, h1, _⟩ := h.ex; h1.frozen k
theorem RRow.set (h : RRow p g I W) {z : Value} {ws : List (List Int)} (hz : IsRows p W z ws) (j : Nat) : RRow p g (I.set j ws) (W.setCell ⟨g, j, none⟩ z) := by
  obtain ⟨vs, h1, h2, h3⟩ := h.ex
  have hk : Keep p p W (W.setCell ⟨g, j, none⟩ z) := Keep.setCell fun b hb _ => ⟨hb, fun e => h.np (by have e' : b = g := e; exact e' ▸ hb)⟩
  refine ⟨h.np, vs.set j z, h1.set j z, by simp [h2], fun i hi => ?_⟩
  have hi' : i < vs.length := by simpa using hi
  rw [List.getElem_set, getDR_set]
  by_cases e : j = i
  · rw [if_pos e, if_pos ⟨e, by omega⟩]; exact hz.keep hk
  · rw [if_neg e, if_neg (by omega)]; exact (h3 i hi').keep hk
theorem RRow.rows (h : RRow p g I W) (hg : p' g) (hp : ∀ b, p b → p' b) (hl : I.length ≤ 100000) : IsRows3 p' W (.slice (some ⟨g, 0, none⟩) I.length I.length) I := by
  obtain ⟨vs, h1, h2, h3⟩ := h.ex
  refine ⟨_, _, rfl, ⟨Nat.le_refl _, by omega⟩, .inr ⟨g, 0, rfl, hg, fun j hj => ⟨vs[j], h1.cell (by simp [h2, hj]), ?_⟩⟩⟩
  have := h3 j (by omega)
  have e : I.getD j [] = I[j] := by simp [List.getD, hj]
  rw [e] at this
  exact this.mono hp
theorem RRow.start {n : Nat} (h : Row W g 28 (List.replicate n (.slice none 0 0))) (np : ¬ p g) : RRow p g (List.replicate n []) W := by
  refine ⟨np, _, h, by simp, fun j hj => ?_⟩
  have e : (List.replicate n ([] : List (List Int))).getD j [] = [] := by rw [List.getD_eq_getElem?_getD, List.getElem?_replicate]; split <;> rfl
  rw [List.getElem_replicate, e]
  exact rows_nil _ _
end

theorem infoRows3 : (Try.prog.info? 28).map (fun i => (i.zero, i.size, i.bytes)) = some (some (.slice none 0 0), 1, 24) := by kernel_rfl
theorem mk_rows3 {ops : Array Oper} {rest : List Oper} {o : Oper} {a : Act} {Q : Exit → Act → World → Prop} {W : World}
    (hgd : o.guard = none) (l c : Operand) (hop : o.op = Op.makeSlice 52 l c) (n : Nat) (hl : a.eval l = .int .i64 n) (hc : a.eval c = .int .i64 n) (hn : n ≤ 1000000)
    (h : wpList Try.prog ops Q rest (a.put o.dst (.slice (some ⟨W.heap.size, 0, none⟩) n n)) (W.alloc (.cells (List.replicate n (Value.slice none 0 0)).toArray 28))) :
    wpList Try.prog ops Q (o :: rest) a W := by
  obtain ⟨i0, hi, hz0, hz1, hz2⟩ := info_parts infoRows3
  exact wp_make1 W hgd l c 52 hop 28 i0 _ (.slice none 0 0) 24 Try.underlying52 hi hz0 hz1 hz2 rfl n hl hc (by omega) (by omega) h

/-- What stands behind each place of a block, the block's last answer given. -/
def aftersB (b : List InsD) (x : List Int) : List (List Int) := (List.range b.length).map fun k => (b.drop (k + 1)).foldr (fun i x => backI x i) x
end
end Go.Proofs.Ytcihobmjohpnkaa
