/- Graphs in memory, and a law's argument opened. -/
import Derived.Test.YtinbfnabngdemaaOpen
import Derived.Test.YtinbfnabngdemaaCoP
namespace Go.Proofs.Ytinbfnabngdemaa
open Go.RowKit Go.ChangeShapes Go.WideShapes

def CPair (w : World) (b o : Nat) (m : Int × Int) : Prop := w.cell? ⟨b, o, none⟩ = some (.int .i64 m.1) ∧ w.cell? ⟨b, o + 1, none⟩ = some (.int .i64 m.2)
def IsPairs (p : Nat → Prop) (w : World) (v : Value) (xs : List (Int × Int)) : Prop := IsSl 2 CPair p w v xs
theorem CPair.keep {p p' : Nat → Prop} {w w' : World} {b o : Nat} {e : Int × Int} (hp : p b) (h : CPair w b o e) (hk : Keep p p' w w') : CPair w' b o e := ⟨hk.cell hp h.1, hk.cell hp h.2⟩
theorem IsPairs.keep {p p' : Nat → Prop} {w w' : World} {v : Value} {xs : List (Int × Int)} (h : IsPairs p w v xs) (hk : Keep p p' w w') : IsPairs p' w' v xs :=
  IsSl.keep h (fun _ _ _ h => lt_of_cell h.1) hk fun _ _ _ hp _ hc => CPair.keep hp hc hk
/-- A graph by value: four slices. -/
structure GV where
  (ea : Option Addr) (en ec : Nat)
  (ma : Option Addr) (mn mc : Nat)
  (aa : Option Addr) (an ac : Nat)
  (la : Option Addr) (ln lc : Nat)
def GV.cs (V : GV) : List Value := [.slice V.ea V.en V.ec, .slice V.ma V.mn V.mc, .slice V.aa V.an V.ac, .slice V.la V.ln V.lc]
structure IsGr (p : Nat → Prop) (w : World) (V : GV) (G : GD) : Prop where
  e : IsPairs p w (.slice V.ea V.en V.ec) G.E
  m : IsPairs p w (.slice V.ma V.mn V.mc) G.M
  a : IsRows p w (.slice V.aa V.an V.ac) G.A
  l : IsRows p w (.slice V.la V.ln V.lc) G.Lp
theorem IsGr.keep {p p' : Nat → Prop} {w w' : World} {V : GV} {G : GD} (h : IsGr p w V G) (hk : Keep p p' w w') : IsGr p' w' V G := ⟨h.e.keep hk, h.m.keep hk, h.a.keep hk, h.l.keep hk⟩
theorem sl_len {α : Type} {k : Nat} {R : World → Nat → Nat → α → Prop} {p : Nat → Prop} {w : World} {a : Option Addr} {n cap : Nat} {xs : List α} (h : IsSl k R p w (.slice a n cap) xs) : n = xs.length ∧ n ≤ cap ∧ n ≤ 140737488351232 := by
  obtain ⟨_, _, hv, ⟨h1, h2⟩, -⟩ := h
  simp only [Value.slice.injEq] at hv
  omega
/-- An element's cells. -/
theorem sl_at {α : Type} {k : Nat} {R : World → Nat → Nat → α → Prop} {p : Nat → Prop} {w : World} {a : Option Addr} {n cap : Nat} {xs : List α} (h : IsSl k R p w (.slice a n cap) xs) (h0 : 0 < xs.length) :
    ∃ b off, a = some ⟨b, off, none⟩ ∧ p b ∧ ∀ j (h : j < xs.length), R w b (off + j * k) xs[j] := by
  obtain ⟨_, _, hv, -, hx⟩ := h
  simp only [Value.slice.injEq] at hv
  obtain ⟨rfl, -, -⟩ := hv
  rcases hx with hx | ⟨b, off, ha, hb, hc⟩
  · rw [hx] at h0; simp at h0
  · exact ⟨b, off, ha, hb, hc⟩
theorem IsGr.lens {p : Nat → Prop} {w : World} {V : GV} {G : GD} (h : IsGr p w V G) : V.en = G.E.length ∧ V.mn = G.M.length ∧ V.an = G.A.length ∧ V.ln = G.Lp.length := ⟨(sl_len h.e).1, (sl_len h.m).1, (sl_len h.a).1, (sl_len h.l).1⟩

section
variable {H : Type} {enc : TypeId × Value → H} {W : World}
theorem opens_pair : Opens enc Try.prog W 37 CPair := by
  intro b off fuel cs D Pl hl hc h hw
  rw [show Try.prog.cellsOf 37 = 2 by kernel_rfl] at hl
  obtain ⟨xs, n, _, hx, _, hlen, hf⟩ := DataW.trod_array Try.underlying37 h
  have e3 : Try.prog.cellsOf 3 = 1 := by kernel_rfl
  rw [e3] at hf
  match cs, hl, xs, hlen with
  | [c0, c1], _, [x0, x1], _ =>
    have f0 := hf 0 (by omega)
    have f1 := hf 1 (by omega)
    simp only [Nat.zero_mul, Nat.one_mul, List.drop_zero, List.drop_succ_cons, List.take_succ_cons, List.take_zero, List.getElem?_cons_zero, List.getElem?_cons_succ] at f0 f1
    obtain ⟨a, g0, _, _⟩ := DataW.trod_int Try.underlying3 f0
    obtain ⟨d, g1, _, _⟩ := DataW.trod_int Try.underlying3 f1
    simp only [List.cons.injEq, and_true] at g0 g1
    subst g0 g1
    exact ⟨(a, d), hc 0 _ rfl, hc 1 _ rfl⟩
theorem open_pairs {fuel : Nat} {v : Value} {D : DataW H} {Pl : List MemPlace} (h : DataW.trod enc Try.prog W 0 (fun _ => true) true fuel 22 [v] = some (D, Pl)) (hw : ∀ n ∈ D.weights Try.prog 22, n ≤ reachBytes) :
    ∃ xs, IsPairs (· < W.heap.size) W v xs :=
  open_slv (k := 2) Try.underlying22 (by kernel_rfl) (by decide) (by kernel_rfl) (fun _ _ _ h => lt_of_cell h.1) opens_pair h hw
set_option maxRecDepth 100000 in
theorem open_graphv {r : Reach} {b0 fuel : Nat} {v : Value} {D : DataW H} {Pl : List MemPlace} (hv : Value.okWide Try.prog W r b0 25 v) (h : DataW.trod enc Try.prog W 0 (fun _ => true) true fuel 25 v.cells.toList = some (D, Pl)) (hw : ∀ n ∈ D.weights Try.prog 25, n ≤ reachBytes) :
    ∃ (V : GV) (G : GD), v = .agg V.cs.toArray ∧ IsGr (· < W.heap.size) W V G := by
  obtain ⟨cs, rfl, hsz⟩ := okWide_struct Try.underlying25 hv
  rw [show Try.prog.cellsOf 25 = 4 by kernel_rfl] at hsz
  obtain ⟨l⟩ := cs
  have hl : l.length = 4 := hsz
  have h' : DataW.trod enc Try.prog W 0 (fun _ => true) true fuel 25 l = some (D, Pl) := h
  obtain ⟨xs, n, _, hx, _, hlen, hf⟩ := DataW.trod_struct Try.underlying25 h'
  match l, hl, xs, hlen with
  | [c0, c1, c2, c3], _, [x0, x1, x2, x3], _ =>
    have e0 : Try.prog.cellsOf 23 = 1 := by kernel_rfl
    have e1 : Try.prog.cellsOf 22 = 1 := by kernel_rfl
    have f0 := at_field hf 0 (t := 22) (off := 0) (c := c0) (x := x0) _ rfl rfl rfl e1 rfl rfl
    have f1 := at_field hf 1 (t := 22) (off := 1) (c := c1) (x := x1) _ rfl rfl rfl e1 rfl rfl
    have f2 := at_field hf 2 (t := 23) (off := 2) (c := c2) (x := x2) _ rfl rfl rfl e0 rfl rfl
    have f3 := at_field hf 3 (t := 23) (off := 3) (c := c3) (x := x3) _ rfl rfl rfl e0 rfl rfl
    simp only [Prod.mk.injEq] at hx
    have hx0 : DataW.trod enc Try.prog W 0 (fun _ => true) true n 22 [c0] = some (x0.1, x0.2) := f0
    have hx1 : DataW.trod enc Try.prog W 0 (fun _ => true) true n 22 [c1] = some (x1.1, x1.2) := f1
    have hx2 : DataW.trod enc Try.prog W 0 (fun _ => true) true n 23 [c2] = some (x2.1, x2.2) := f2
    have hx3 : DataW.trod enc Try.prog W 0 (fun _ => true) true n 23 [c3] = some (x3.1, x3.2) := f3
    have hww : ∀ q, (q ∈ x0.1.weights Try.prog 22 ∨ q ∈ x1.1.weights Try.prog 22 ∨ q ∈ x2.1.weights Try.prog 23 ∨ q ∈ x3.1.weights Try.prog 23) → q ≤ reachBytes := fun q hq => hw q (by
      rw [hx.1]
      simp only [DataW.weights, Try.underlying25, List.map_cons, List.map_nil, DataW.weightsEach, List.mem_append]
      rcases hq with hq | hq | hq | hq <;> simp [hq])
    obtain ⟨E, hE⟩ := open_pairs hx0 (fun q hq => hww q (.inl hq))
    obtain ⟨M, hM⟩ := open_pairs hx1 (fun q hq => hww q (.inr (.inl hq)))
    obtain ⟨A, hA⟩ := open_rows hx2 (fun q hq => hww q (.inr (.inr (.inl hq))))
    obtain ⟨L, hL⟩ := open_rows hx3 (fun q hq => hww q (.inr (.inr (.inr hq))))
    obtain ⟨ea, ec, hea, -⟩ := id hE
    obtain ⟨ma, mc, hma, -⟩ := id hM
    obtain ⟨aa, ac, haa, -⟩ := id hA
    obtain ⟨la, lc, hla, -⟩ := id hL
    subst hea hma haa hla
    exact ⟨⟨ea, _, ec, ma, _, mc, aa, _, ac, la, _, lc⟩, ⟨E, M, A, L⟩, rfl, hE, hM, hA, hL⟩
end
end Go.Proofs.Ytinbfnabngdemaa
