/- A law's arguments, opened: an instruction and a function by value. -/
import Derived.Test.YtcihobmjohpnkaaOpen
import Derived.Test.YtcihobmjohpnkaaLvB
namespace Go.Proofs.Ytcihobmjohpnkaa
open Go.RowKit Go.ChangeShapes Go.WideShapes

def CStr (w : World) (b o : Nat) (x : ByteArray) : Prop := w.cell? ⟨b, o, none⟩ = some (.string x) ∧ x.size ≤ 9223372036854775807
def IsStrs (p : Nat → Prop) (w : World) (v : Value) (xs : List ByteArray) : Prop := IsSl 1 CStr p w v xs
theorem IsStrs.keep {p p' : Nat → Prop} {w w' : World} {v : Value} {xs : List ByteArray} (h : IsStrs p w v xs) (hk : Keep p p' w w') : IsStrs p' w' v xs :=
  IsSl.keep h (fun _ _ _ h => lt_of_cell h.1) hk fun _ _ _ hp _ hc => ⟨hk.cell hp hc.1, hc.2⟩

section
variable {H : Type} {enc : TypeId × Value → H} {W : World}
theorem opens_str : Opens enc Try.prog W 9 CStr := by
  intro b off fuel cs D Pl _ hc h _
  obtain ⟨n, rfl, _, q⟩ := DataW.trod_string Try.underlying9 h
  exact ⟨n, hc 0 _ rfl, by unfold maxLen at q; omega⟩

theorem sl_imp {α : Type} {k : Nat} {R R' : World → Nat → Nat → α → Prop} {p : Nat → Prop} {w : World} {v : Value} {xs : List α} (h : IsSl k R p w v xs) (hR : ∀ b o x, R w b o x → R' w b o x) : IsSl k R' p w v xs := by
  obtain ⟨a, cap, hv, hl, hx⟩ := h
  refine ⟨a, cap, hv, hl, ?_⟩
  rcases hx with hx | ⟨b, off, ha, hb, hc⟩
  · exact .inl hx
  · exact .inr ⟨b, off, ha, hb, fun j hj => hR _ _ _ (hc j hj)⟩
theorem sl_mem {α : Type} {k : Nat} {R : World → Nat → Nat → α → Prop} {p : Nat → Prop} {w : World} {v : Value} {xs : List α} (h : IsSl k R p w v xs) {x : α} (hx : x ∈ xs) : ∃ b o, R w b o x := by
  obtain ⟨a, cap, hv, hl, hc⟩ := h
  obtain ⟨j, hj, rfl⟩ := List.mem_iff_getElem.1 hx
  rcases hc with rfl | ⟨b, off, ha, hb, hc⟩
  · simp at hj
  · exact ⟨_, _, hc j hj⟩

/-- An instruction whose name is no longer than can be. -/
def CInsN (p : Nat → Prop) (w : World) (b o : Nat) (i : InsD) : Prop := CIns p w b o i ∧ i.name.size ≤ 9223372036854775807
set_option maxRecDepth 100000 in
theorem opens_insN : Opens enc Try.prog W 36 (CInsN (· < W.heap.size)) := by
  intro b off fuel cs D Pl hl hc h hw
  rw [show Try.prog.cellsOf 36 = 9 by kernel_rfl] at hl
  obtain ⟨xs, n, _, hx, _, hlen, hf⟩ := DataW.trod_struct Try.underlying36 h
  match cs, hl, xs, hlen with
  | [c0, c1, c2, c3, c4, c5, c6, c7, c8], _, [x0, x1, x2, x3, x4, x5, x6, x7, x8], _ =>
    have e3 : Try.prog.cellsOf 3 = 1 := by kernel_rfl
    have e9 : Try.prog.cellsOf 9 = 1 := by kernel_rfl
    have e25 : Try.prog.cellsOf 25 = 1 := by kernel_rfl
    have f0 := at_field hf 0 (t := 3) (off := 0) (c := c0) (x := x0) _ rfl rfl rfl e3 rfl rfl
    have f1 := at_field hf 1 (t := 3) (off := 1) (c := c1) (x := x1) _ rfl rfl rfl e3 rfl rfl
    have f2 := at_field hf 2 (t := 3) (off := 2) (c := c2) (x := x2) _ rfl rfl rfl e3 rfl rfl
    have f3 := at_field hf 3 (t := 3) (off := 3) (c := c3) (x := x3) _ rfl rfl rfl e3 rfl rfl
    have f4 := at_field hf 4 (t := 3) (off := 4) (c := c4) (x := x4) _ rfl rfl rfl e3 rfl rfl
    have f5 := at_field hf 5 (t := 9) (off := 5) (c := c5) (x := x5) _ rfl rfl rfl e9 rfl rfl
    have f6 := at_field hf 6 (t := 25) (off := 6) (c := c6) (x := x6) _ rfl rfl rfl e25 rfl rfl
    have f7 := at_field hf 7 (t := 3) (off := 7) (c := c7) (x := x7) _ rfl rfl rfl e3 rfl rfl
    have f8 := at_field hf 8 (t := 3) (off := 8) (c := c8) (x := x8) _ rfl rfl rfl e3 rfl rfl
    obtain ⟨k, g0, _, _⟩ := DataW.trod_int Try.underlying3 f0
    obtain ⟨d, g1, _, _⟩ := DataW.trod_int Try.underlying3 f1
    obtain ⟨a, g2, _, _⟩ := DataW.trod_int Try.underlying3 f2
    obtain ⟨b', g3, _, _⟩ := DataW.trod_int Try.underlying3 f3
    obtain ⟨nn, g4, _, _⟩ := DataW.trod_int Try.underlying3 f4
    obtain ⟨s, g5, _, q5⟩ := DataW.trod_string Try.underlying9 f5
    obtain ⟨t, g7, _, _⟩ := DataW.trod_int Try.underlying3 f7
    obtain ⟨f, g8, _, _⟩ := DataW.trod_int Try.underlying3 f8
    simp only [List.cons.injEq, and_true] at g0 g1 g2 g3 g4 g5 g7 g8
    have hx6 : DataW.trod enc Try.prog W 0 (fun _ => true) true n 25 [c6] = some (x6.1, x6.2) := f6
    obtain ⟨args, ha⟩ := open_slv (k := 1) Try.underlying25 (by kernel_rfl) (by decide) (by kernel_rfl) (fun _ _ _ h => lt_of_cell h) (opens_int Try.underlying3) hx6 (fun q hq => hw q (by
      simp only [Prod.mk.injEq] at hx
      rw [hx.1]
      simp only [DataW.weights, Try.underlying36, List.map_cons, List.map_nil, DataW.weightsEach, List.mem_append]
      simp [hq]))
    subst g0 g1 g2 g3 g4 g5 g7 g8
    exact ⟨⟨k, d, a, b', nn, s, args, t, f⟩, ⟨hc 0 _ rfl, hc 1 _ rfl, hc 2 _ rfl, hc 3 _ rfl, hc 4 _ rfl, hc 5 _ rfl, ⟨c6, hc 6 _ rfl, ha⟩, hc 7 _ rfl, hc 8 _ rfl⟩, by unfold maxLen at q5; show s.size ≤ _; omega⟩
theorem opens_inslN : Opens enc Try.prog W 40 (fun W b o xs => ∃ v, W.cell? ⟨b, o, none⟩ = some v ∧ IsSl 9 (CInsN (· < W.heap.size)) (· < W.heap.size) W v xs) :=
  opens_sl (k := 9) Try.underlying40 (by kernel_rfl) (by decide) (by kernel_rfl) (by kernel_rfl) (fun _ _ _ h => lt_of_cell h.1.1) opens_insN
theorem open_blocksN {fuel : Nat} {v : Value} {D : DataW H} {Pl : List MemPlace} (h : DataW.trod enc Try.prog W 0 (fun _ => true) true fuel 22 [v] = some (D, Pl)) (hw : ∀ n ∈ D.weights Try.prog 22, n ≤ reachBytes) :
    ∃ xs, IsBlocks (· < W.heap.size) W v xs ∧ ∀ l ∈ xs, ∀ i ∈ l, i.name.size ≤ 9223372036854775807 := by
  obtain ⟨xs, hxs⟩ := open_slv (k := 1) Try.underlying22 (by kernel_rfl) (by decide) (by kernel_rfl) (fun _ _ _ ⟨_, h, _⟩ => lt_of_cell h) opens_inslN h hw
  refine ⟨xs, sl_imp hxs (fun b o l ⟨v, h1, h2⟩ => ⟨v, h1, sl_imp h2 fun b o i h => h.1⟩), fun l hl i hi => ?_⟩
  obtain ⟨b, o, v, -, h2⟩ := sl_mem hxs hl
  obtain ⟨b', o', h3⟩ := sl_mem h2 hi
  exact h3.2
theorem open_inslN {fuel : Nat} {v : Value} {D : DataW H} {Pl : List MemPlace} (h : DataW.trod enc Try.prog W 0 (fun _ => true) true fuel 40 [v] = some (D, Pl)) (hw : ∀ n ∈ D.weights Try.prog 40, n ≤ reachBytes) :
    ∃ xs, IsInsL (· < W.heap.size) W v xs ∧ ∀ i ∈ xs, i.name.size ≤ 9223372036854775807 := by
  obtain ⟨xs, hxs⟩ := open_slv (k := 9) Try.underlying40 (by kernel_rfl) (by decide) (by kernel_rfl) (fun _ _ _ h => lt_of_cell h.1.1) opens_insN h hw
  refine ⟨xs, sl_imp hxs (fun b o i h => h.1), fun i hi => ?_⟩
  obtain ⟨b', o', h3⟩ := sl_mem hxs hi
  exact h3.2

set_option maxRecDepth 100000 in
theorem open_insv {r : Reach} {b0 fuel : Nat} {v : Value} {D : DataW H} {Pl : List MemPlace} (hv : Value.okWide Try.prog W r b0 36 v) (h : DataW.trod enc Try.prog W 0 (fun _ => true) true fuel 36 v.cells.toList = some (D, Pl)) (hw : ∀ n ∈ D.weights Try.prog 36, n ≤ reachBytes) :
    ∃ (i : InsD) (a : Option Addr) (len cap : Nat), v = insV i (.slice a len cap) ∧ IsInts (· < W.heap.size) W (.slice a len cap) i.args := by
  obtain ⟨cs, rfl, hsz⟩ := okWide_struct Try.underlying36 hv
  rw [show Try.prog.cellsOf 36 = 9 by kernel_rfl] at hsz
  obtain ⟨l⟩ := cs
  have hl : l.length = 9 := hsz
  have h' : DataW.trod enc Try.prog W 0 (fun _ => true) true fuel 36 l = some (D, Pl) := h
  obtain ⟨xs, n, _, hx, _, hlen, hf⟩ := DataW.trod_struct Try.underlying36 h'
  match l, hl, xs, hlen with
  | [c0, c1, c2, c3, c4, c5, c6, c7, c8], _, [x0, x1, x2, x3, x4, x5, x6, x7, x8], _ =>
    have e3 : Try.prog.cellsOf 3 = 1 := by kernel_rfl
    have e9 : Try.prog.cellsOf 9 = 1 := by kernel_rfl
    have e25 : Try.prog.cellsOf 25 = 1 := by kernel_rfl
    have f0 := at_field hf 0 (t := 3) (off := 0) (c := c0) (x := x0) _ rfl rfl rfl e3 rfl rfl
    have f1 := at_field hf 1 (t := 3) (off := 1) (c := c1) (x := x1) _ rfl rfl rfl e3 rfl rfl
    have f2 := at_field hf 2 (t := 3) (off := 2) (c := c2) (x := x2) _ rfl rfl rfl e3 rfl rfl
    have f3 := at_field hf 3 (t := 3) (off := 3) (c := c3) (x := x3) _ rfl rfl rfl e3 rfl rfl
    have f4 := at_field hf 4 (t := 3) (off := 4) (c := c4) (x := x4) _ rfl rfl rfl e3 rfl rfl
    have f5 := at_field hf 5 (t := 9) (off := 5) (c := c5) (x := x5) _ rfl rfl rfl e9 rfl rfl
    have f6 := at_field hf 6 (t := 25) (off := 6) (c := c6) (x := x6) _ rfl rfl rfl e25 rfl rfl
    have f7 := at_field hf 7 (t := 3) (off := 7) (c := c7) (x := x7) _ rfl rfl rfl e3 rfl rfl
    have f8 := at_field hf 8 (t := 3) (off := 8) (c := c8) (x := x8) _ rfl rfl rfl e3 rfl rfl
    obtain ⟨k, g0, _, _⟩ := DataW.trod_int Try.underlying3 f0
    obtain ⟨d, g1, _, _⟩ := DataW.trod_int Try.underlying3 f1
    obtain ⟨a, g2, _, _⟩ := DataW.trod_int Try.underlying3 f2
    obtain ⟨b', g3, _, _⟩ := DataW.trod_int Try.underlying3 f3
    obtain ⟨nn, g4, _, _⟩ := DataW.trod_int Try.underlying3 f4
    obtain ⟨s, g5, _, _⟩ := DataW.trod_string Try.underlying9 f5
    obtain ⟨t, g7, _, _⟩ := DataW.trod_int Try.underlying3 f7
    obtain ⟨f, g8, _, _⟩ := DataW.trod_int Try.underlying3 f8
    simp only [List.cons.injEq, and_true] at g0 g1 g2 g3 g4 g5 g7 g8
    have hx6 : DataW.trod enc Try.prog W 0 (fun _ => true) true n 25 [c6] = some (x6.1, x6.2) := f6
    obtain ⟨args, ha⟩ := open_slv (k := 1) Try.underlying25 (by kernel_rfl) (by decide) (by kernel_rfl) (fun _ _ _ h => lt_of_cell h) (opens_int Try.underlying3) hx6 (fun q hq => hw q (by
      simp only [Prod.mk.injEq] at hx
      rw [hx.1]
      simp only [DataW.weights, Try.underlying36, List.map_cons, List.map_nil, DataW.weightsEach, List.mem_append]
      simp [hq]))
    subst g0 g1 g2 g3 g4 g5 g7 g8
    obtain ⟨aa, ac, hva, hrest⟩ := id ha
    subst hva
    exact ⟨⟨k, d, a, b', nn, s, args, t, f⟩, aa, _, ac, rfl, ha⟩

set_option maxRecDepth 100000 in
theorem open_funcv {r : Reach} {b0 fuel : Nat} {v : Value} {D : DataW H} {Pl : List MemPlace} (hv : Value.okWide Try.prog W r b0 44 v) (h : DataW.trod enc Try.prog W 0 (fun _ => true) true fuel 44 v.cells.toList = some (D, Pl)) (hw : ∀ n ∈ D.weights Try.prog 44, n ≤ reachBytes) :
    ∃ (nm : ByteArray) (va : Option Addr) (vn vc : Nat) (pa : Option Addr) (pn pc : Nat) (re : ByteArray) (ba : Option Addr) (bn bc : Nat) (vs : List ByteArray) (ps : List Int) (L : List (List InsD)), v = funcV nm va vn vc pa pn pc re ba bn bc ∧
      IsStrs (· < W.heap.size) W (.slice va vn vc) vs ∧ IsInts (· < W.heap.size) W (.slice pa pn pc) ps ∧ IsBlocks (· < W.heap.size) W (.slice ba bn bc) L ∧ (∀ l ∈ L, ∀ i ∈ l, i.name.size ≤ 9223372036854775807) ∧ nm.size ≤ 9223372036854775807 ∧ re.size ≤ 9223372036854775807 := by
  obtain ⟨cs, rfl, hsz⟩ := okWide_struct Try.underlying44 hv
  rw [show Try.prog.cellsOf 44 = 5 by kernel_rfl] at hsz
  obtain ⟨l⟩ := cs
  have hl : l.length = 5 := hsz
  have h' : DataW.trod enc Try.prog W 0 (fun _ => true) true fuel 44 l = some (D, Pl) := h
  obtain ⟨xs, n, _, hx, _, hlen, hf⟩ := DataW.trod_struct Try.underlying44 h'
  match l, hl, xs, hlen with
  | [c0, c1, c2, c3, c4], _, [x0, x1, x2, x3, x4], _ =>
    have e9 : Try.prog.cellsOf 9 = 1 := by kernel_rfl
    have es : Try.prog.cellsOf 42 = 1 := by kernel_rfl
    have e25 : Try.prog.cellsOf 25 = 1 := by kernel_rfl
    have eb : Try.prog.cellsOf 22 = 1 := by kernel_rfl
    have f0 := at_field hf 0 (t := 9) (off := 0) (c := c0) (x := x0) _ rfl rfl rfl e9 rfl rfl
    have f1 := at_field hf 1 (t := 42) (off := 1) (c := c1) (x := x1) _ rfl rfl rfl es rfl rfl
    have f2 := at_field hf 2 (t := 25) (off := 2) (c := c2) (x := x2) _ rfl rfl rfl e25 rfl rfl
    have f3 := at_field hf 3 (t := 9) (off := 3) (c := c3) (x := x3) _ rfl rfl rfl e9 rfl rfl
    have f4 := at_field hf 4 (t := 22) (off := 4) (c := c4) (x := x4) _ rfl rfl rfl eb rfl rfl
    obtain ⟨nm, g0, _, q0⟩ := DataW.trod_string Try.underlying9 f0
    obtain ⟨re, g3, _, q3⟩ := DataW.trod_string Try.underlying9 f3
    simp only [List.cons.injEq, and_true] at g0 g3
    simp only [Prod.mk.injEq] at hx
    have hx1 : DataW.trod enc Try.prog W 0 (fun _ => true) true n 42 [c1] = some (x1.1, x1.2) := f1
    have hx2 : DataW.trod enc Try.prog W 0 (fun _ => true) true n 25 [c2] = some (x2.1, x2.2) := f2
    have hx4 : DataW.trod enc Try.prog W 0 (fun _ => true) true n 22 [c4] = some (x4.1, x4.2) := f4
    obtain ⟨vs, hvs⟩ := open_slv (k := 1) Try.underlying42 (by kernel_rfl) (by decide) (by kernel_rfl) (fun _ _ _ h => lt_of_cell h.1) opens_str hx1 (fun q hq => hw q (by
      rw [hx.1]
      simp only [DataW.weights, Try.underlying44, List.map_cons, List.map_nil, DataW.weightsEach, List.mem_append]
      simp [hq]))
    obtain ⟨ps, hps⟩ := open_slv (k := 1) Try.underlying25 (by kernel_rfl) (by decide) (by kernel_rfl) (fun _ _ _ h => lt_of_cell h) (opens_int Try.underlying3) hx2 (fun q hq => hw q (by
      rw [hx.1]
      simp only [DataW.weights, Try.underlying44, List.map_cons, List.map_nil, DataW.weightsEach, List.mem_append]
      simp [hq]))
    obtain ⟨L, hL, hLn⟩ := open_blocksN hx4 (fun q hq => hw q (by
      rw [hx.1]
      simp only [DataW.weights, Try.underlying44, List.map_cons, List.map_nil, DataW.weightsEach, List.mem_append]
      simp [hq]))
    subst g0 g3
    obtain ⟨va, vc, hva, -⟩ := id hvs
    obtain ⟨pa, pc, hpa, -⟩ := id hps
    obtain ⟨ba, bc, hba, -⟩ := id hL
    subst hva hpa hba
    exact ⟨nm, va, _, vc, pa, _, pc, re, ba, _, bc, vs, ps, L, rfl, hvs, hps, hL, hLn, by unfold maxLen at q0; omega, by unfold maxLen at q3; omega⟩
end
end Go.Proofs.Ytcihobmjohpnkaa
