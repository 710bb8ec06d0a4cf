/- Problems of costs in memory, and the law's argument opened. -/
import Derived.Test.YtdomnbgjafdnjaaOpen
import Derived.Test.YtdomnbgjafdnjaaPqP
namespace Go.Proofs.Ytdomnbgjafdnjaa
open Go.RowKit Go.ChangeShapes Go.WideShapes

def CEdge (p : Nat → Prop) (w : World) (b o : Nat) (e : EdgeD) : Prop :=
  w.cell? ⟨b, o, none⟩ = some (.int .i64 e.a) ∧ w.cell? ⟨b, o + 1, none⟩ = some (.int .i64 e.b) ∧ ∃ v, w.cell? ⟨b, o + 2, none⟩ = some v ∧ IsRows p w v e.cost
def IsEdges (p : Nat → Prop) (w : World) (v : Value) (E : List EdgeD) : Prop := IsSl 3 (CEdge p) p w v E
theorem CEdge.keep {p p' : Nat → Prop} {w w' : World} {b o : Nat} {e : EdgeD} (hp : p b) (h : CEdge p w b o e) (hk : Keep p p' w w') : CEdge p' w' b o e := by
  obtain ⟨h0, h1, v, h2, h3⟩ := h
  exact ⟨hk.cell hp h0, hk.cell hp h1, v, hk.cell hp h2, h3.keep hk⟩
theorem IsEdges.keep {p p' : Nat → Prop} {w w' : World} {v : Value} {E : List EdgeD} (h : IsEdges p w v E) (hk : Keep p p' w w') : IsEdges p' w' v E :=
  IsSl.keep h (fun _ _ _ h => lt_of_cell h.1) hk fun _ _ _ hp _ hc => CEdge.keep hp hc hk
abbrev costsV (na : Option Addr) (nl nc : Nat) (ea : Option Addr) (el ec : Nat) : Value := .agg #[.slice na nl nc, .slice ea el ec]
/-- A problem by value: its nodes, its edges. -/
structure IsPq (p : Nat → Prop) (w : World) (na : Option Addr) (nl nc : Nat) (ea : Option Addr) (el ec : Nat) (N : List (List Int)) (E : List EdgeD) : Prop where
  nd : IsRows p w (.slice na nl nc) N
  ed : IsEdges p w (.slice ea el ec) E
theorem IsPq.keep {p p' : Nat → Prop} {w w' : World} {na : Option Addr} {nl nc : Nat} {ea : Option Addr} {el ec : Nat} {N : List (List Int)} {E : List EdgeD} (h : IsPq p w na nl nc ea el ec N E) (hk : Keep p p' w w') : IsPq p' w' na nl nc ea el ec N E :=
  ⟨h.nd.keep hk, h.ed.keep hk⟩
theorem sl_len {α : Type} {k : Nat} {R : World → Nat → Nat → α → Prop} {p : Nat → Prop} {w : World} {a : Option Addr} {n cap : Nat} {xs : List α} (h : IsSl k R p w (.slice a n cap) xs) : n = xs.length ∧ n ≤ cap ∧ n ≤ 140737488351232 := by
  obtain ⟨_, _, hv, ⟨h1, h2⟩, -⟩ := h
  simp only [Value.slice.injEq] at hv
  omega
/-- An element's cells. -/
theorem sl_at {α : Type} {k : Nat} {R : World → Nat → Nat → α → Prop} {p : Nat → Prop} {w : World} {a : Option Addr} {n cap : Nat} {xs : List α} (h : IsSl k R p w (.slice a n cap) xs) (h0 : 0 < xs.length) :
    ∃ b off, a = some ⟨b, off, none⟩ ∧ p b ∧ ∀ j (h : j < xs.length), R w b (off + j * k) xs[j] := by
  obtain ⟨_, _, hv, -, hx⟩ := h
  simp only [Value.slice.injEq] at hv
  obtain ⟨rfl, -, -⟩ := hv
  rcases hx with hx | ⟨b, off, ha, hb, hc⟩
  · rw [hx] at h0; simp at h0
  · exact ⟨b, off, ha, hb, hc⟩

section
variable {H : Type} {enc : TypeId × Value → H} {W : World}
theorem opens_rows : Opens enc Try.prog W 22 (fun W b o xs => ∃ v, W.cell? ⟨b, o, none⟩ = some v ∧ IsRows (· < W.heap.size) W v xs) :=
  opens_sl (k := 1) Try.underlying22 (by kernel_rfl) (by decide) (by kernel_rfl) (by kernel_rfl) (fun _ _ _ ⟨_, h, _⟩ => lt_of_cell h) opens_ints
set_option maxRecDepth 100000 in
theorem opens_edge : Opens enc Try.prog W 32 (CEdge (· < W.heap.size)) := by
  intro b off fuel cs D Pl hl hc h hw
  rw [show Try.prog.cellsOf 32 = 3 by kernel_rfl] at hl
  obtain ⟨xs, n, _, hx, _, hlen, hf⟩ := DataW.trod_struct Try.underlying32 h
  match cs, hl, xs, hlen with
  | [c0, c1, c2], _, [x0, x1, x2], _ =>
    have e3 : Try.prog.cellsOf 3 = 1 := by kernel_rfl
    have e25 : Try.prog.cellsOf 22 = 1 := by kernel_rfl
    have f0 := at_field hf 0 (t := 3) (off := 0) (c := c0) (x := x0) _ rfl rfl rfl e3 rfl rfl
    have f1 := at_field hf 1 (t := 3) (off := 1) (c := c1) (x := x1) _ rfl rfl rfl e3 rfl rfl
    have f2 := at_field hf 2 (t := 22) (off := 2) (c := c2) (x := x2) _ rfl rfl rfl e25 rfl rfl
    obtain ⟨a, g0, _, _⟩ := DataW.trod_int Try.underlying3 f0
    obtain ⟨b', g1, _, _⟩ := DataW.trod_int Try.underlying3 f1
    simp only [List.cons.injEq, and_true] at g0 g1
    have hx2 : DataW.trod enc Try.prog W 0 (fun _ => true) true n 22 [c2] = some (x2.1, x2.2) := f2
    obtain ⟨M, hM⟩ := open_rows hx2 (fun q hq => hw q (by
      simp only [Prod.mk.injEq] at hx
      rw [hx.1]
      simp only [DataW.weights, Try.underlying32, List.map_cons, List.map_nil, DataW.weightsEach, List.mem_append]
      simp [hq]))
    subst g0 g1
    exact ⟨⟨a, b', M⟩, hc 0 _ rfl, hc 1 _ rfl, c2, hc 2 _ rfl, hM⟩
theorem open_edges {fuel : Nat} {v : Value} {D : DataW H} {Pl : List MemPlace} (h : DataW.trod enc Try.prog W 0 (fun _ => true) true fuel 23 [v] = some (D, Pl)) (hw : ∀ n ∈ D.weights Try.prog 23, n ≤ reachBytes) :
    ∃ xs, IsEdges (· < W.heap.size) W v xs :=
  open_slv (k := 3) Try.underlying23 (by kernel_rfl) (by decide) (by kernel_rfl) (fun _ _ _ h => lt_of_cell h.1) opens_edge h hw
set_option maxRecDepth 100000 in
theorem open_costsv {r : Reach} {b0 fuel : Nat} {v : Value} {D : DataW H} {Pl : List MemPlace} (hv : Value.okWide Try.prog W r b0 25 v) (h : DataW.trod enc Try.prog W 0 (fun _ => true) true fuel 25 v.cells.toList = some (D, Pl)) (hw : ∀ n ∈ D.weights Try.prog 25, n ≤ reachBytes) :
    ∃ (na : Option Addr) (nl nc : Nat) (ea : Option Addr) (el ec : Nat) (N : List (List Int)) (E : List EdgeD), v = costsV na nl nc ea el ec ∧ IsPq (· < W.heap.size) W na nl nc ea el ec N E := by
  obtain ⟨cs, rfl, hsz⟩ := okWide_struct Try.underlying25 hv
  rw [show Try.prog.cellsOf 25 = 2 by kernel_rfl] at hsz
  obtain ⟨l⟩ := cs
  have hl : l.length = 2 := hsz
  have h' : DataW.trod enc Try.prog W 0 (fun _ => true) true fuel 25 l = some (D, Pl) := h
  obtain ⟨xs, n, _, hx, _, hlen, hf⟩ := DataW.trod_struct Try.underlying25 h'
  match l, hl, xs, hlen with
  | [c0, c1], _, [x0, x1], _ =>
    have e0 : Try.prog.cellsOf 22 = 1 := by kernel_rfl
    have e1 : Try.prog.cellsOf 23 = 1 := by kernel_rfl
    have f0 := at_field hf 0 (t := 22) (off := 0) (c := c0) (x := x0) _ rfl rfl rfl e0 rfl rfl
    have f1 := at_field hf 1 (t := 23) (off := 1) (c := c1) (x := x1) _ rfl rfl rfl e1 rfl rfl
    simp only [Prod.mk.injEq] at hx
    have hx0 : DataW.trod enc Try.prog W 0 (fun _ => true) true n 22 [c0] = some (x0.1, x0.2) := f0
    have hx1 : DataW.trod enc Try.prog W 0 (fun _ => true) true n 23 [c1] = some (x1.1, x1.2) := f1
    obtain ⟨N, hN⟩ := open_rows hx0 (fun q hq => hw q (by
      rw [hx.1]
      simp only [DataW.weights, Try.underlying25, List.map_cons, List.map_nil, DataW.weightsEach, List.mem_append]
      simp [hq]))
    obtain ⟨E, hE⟩ := open_edges hx1 (fun q hq => hw q (by
      rw [hx.1]
      simp only [DataW.weights, Try.underlying25, List.map_cons, List.map_nil, DataW.weightsEach, List.mem_append]
      simp [hq]))
    obtain ⟨na, nc, hna, -⟩ := id hN
    obtain ⟨ea, ec, hea, -⟩ := id hE
    subst hna hea
    exact ⟨na, _, nc, ea, _, ec, N, E, rfl, hN, hE⟩
end
end Go.Proofs.Ytdomnbgjafdnjaa
