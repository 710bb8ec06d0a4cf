/- Rows of sets that are being written: what 'live.Of' has in memory while it runs. -/
import Derived.Test.YtcihobmjohpnkaaLvL
import Derived.Test.YtcihobmjohpnkaaLvT
namespace Go.Proofs.Ytcihobmjohpnkaa
open Go.RowKit

theorem hid_of {p : Prop} (h : p) : Hid p := h
theorem IsWords.mono {p p' : Nat → Prop} {W : World} {v : Value} {ws : List Nat} (h : IsWords p W v ws) (hp : ∀ b, p b → p' b) : IsWords p' W v ws := h.keep (Keep.refl W fun _ hb _ => hp _ hb)

theorem World.ownsRow.kept_set {W : World} (a : Addr) (u : Value) : W.grownBy (W.setCell a u) (some a.block) :=
  ⟨rfl, rfl, rfl, by simp, fun k _ hne => Below.heap_setCell _ _ _ _ (fun e => hne (by rw [e]))⟩
/-- A row of set values; the sets' words lie in blocks with p, the row does not. -/
structure SetRow (p : Nat → Prop) (g : Nat) (I : List (List Nat)) (W : World) : Prop where
  np : ¬ p g
  ex : ∃ vs : List Value, Row W g 96 vs ∧ vs.length = I.length ∧ ∀ j (h : j < vs.length), IsWords p W vs[j] (I.getD j [])

theorem SetRow.lt {p : Nat → Prop} {g : Nat} {I : List (List Nat)} {W : World} (h : SetRow p g I W) : g < W.heap.size := let ⟨_, h1, _⟩ := h.ex; h1.lt
theorem SetRow.keep {p p' : Nat → Prop} {g : Nat} {I : List (List Nat)} {W W' : World} (h : SetRow p g I W) (hb : W'.heap[g]? = W.heap[g]?) (hk : Keep p p' W W') (np : ¬ p' g) : SetRow p' g I W' :=
  let ⟨vs, h1, h2, h3⟩ := h.ex; ⟨np, vs, h1.keep hb, h2, fun j hj => (h3 j hj).keep hk⟩
theorem SetRow.below {p : Nat → Prop} {g : Nat} {I : List (List Nat)} {W W' : World} (h : SetRow p g I W) (hb : Below W.heap.size W W') : SetRow p g I W' := h.keep (hb.block g h.lt) (Keep.below hb) h.np
theorem SetRow.alloc {p : Nat → Prop} {g : Nat} {I : List (List Nat)} {W : World} (h : SetRow p g I W) (o : Obj) : SetRow p g I (W.alloc o) := h.below (bel_alloc (bel_refl W) o)
theorem SetRow.other {p : Nat → Prop} {g : Nat} {I : List (List Nat)} {W : World} (h : SetRow p g I W) {a : Addr} (hne : g ≠ a.block) (hp : ¬ p a.block) (u : Value) : SetRow p g I (W.setCell a u) :=
  h.keep (Below.heap_setCell _ _ _ _ hne) (Keep.setCell fun _ hb _ => ⟨hb, fun e => hp (e ▸ hb)⟩) h.np
theorem SetRow.get {p : Nat → Prop} {g : Nat} {I : List (List Nat)} {W : World} (h : SetRow p g I W) {j : Nat} (hj : j < I.length) : ∃ a n c, W.cell? ⟨g, j, none⟩ = some (.slice a n c) ∧ IsWords p W (.slice a n c) (I.getD j []) := by
  obtain ⟨vs, h1, h2, h3⟩ := h.ex
  have hj' : j < vs.length := by omega
  have hw := h3 j hj'
  have hc := h1.cell (k := j) (v := vs[j]) (by simp [hj'])
  obtain ⟨a, n, c, e⟩ := words_slice hw
  rw [e] at hc hw
  exact ⟨a, n, c, hc, hw⟩
theorem SetRow.frozen {p : Nat → Prop} {g : Nat} {I : List (List Nat)} {W : World} (h : SetRow p g I W) (k : Nat) : W.frozen? ⟨g, k, none⟩ = false := let ⟨_, h1, _⟩ := h.ex; h1.frozen k
theorem SetRow.set {p : Nat → Prop} {g : Nat} {I : List (List Nat)} {W : World} (h : SetRow p g I W) {z : Value} {ws : List Nat} (hz : IsWords p W z ws) (j : Nat) : SetRow p g (I.set j ws) (W.setCell ⟨g, j, none⟩ z) := by
  obtain ⟨vs, h1, h2, h3⟩ := h.ex
  have hk : Keep p p W (W.setCell ⟨g, j, none⟩ z) := Keep.setCell fun b hb _ => ⟨hb, fun e => h.np (by have e' : b = g := e; exact e' ▸ hb)⟩
  refine ⟨h.np, vs.set j z, h1.set j z, by simp [h2], fun i hi => ?_⟩
  have hi' : i < vs.length := by simpa using hi
  rw [List.getElem_set, getD_set]
  by_cases e : j = i
  · rw [if_pos e, if_pos ⟨e, by omega⟩]; exact hz.keep hk
  · rw [if_neg e, if_neg (by omega)]; exact (h3 i hi').keep hk
theorem SetRow.sets {p p' : Nat → Prop} {g : Nat} {I : List (List Nat)} {W : World} (h : SetRow p g I W) (hg : p' g) (hp : ∀ b, p b → p' b) (hl : I.length ≤ 100000) : IsSets p' W (.slice (some ⟨g, 0, none⟩) I.length I.length) I := by
  obtain ⟨vs, h1, h2, h3⟩ := h.ex
  refine sets_of_row h1 hg h2 (by omega) fun j hj hj2 => ?_
  have := h3 j hj
  have e : I.getD j [] = I[j] := by simp [List.getD, hj2]
  rw [e] at this
  exact this.mono hp
theorem SetRow.start {p : Nat → Prop} {g n : Nat} {W : World} (h : Row W g 96 (List.replicate n (.slice none 0 0))) (np : ¬ p g) : SetRow p g (List.replicate n []) W := by
  refine ⟨np, _, h, by simp, fun j hj => ?_⟩
  rw [List.getElem_replicate, replicate_getD]
  exact words_nil _ _
theorem SetRow.mono {p p' : Nat → Prop} {g : Nat} {I : List (List Nat)} {W : World} (h : SetRow p g I W) (hp : ∀ b, p b → p' b) (np : ¬ p' g) : SetRow p' g I W := h.keep rfl (Keep.refl W fun b hb _ => hp b hb) np

/-- A function by value. -/
def funcV (nm : ByteArray) (va : Option Addr) (vn vc : Nat) (pa : Option Addr) (pn pc : Nat) (re : ByteArray) (ba : Option Addr) (bn bc : Nat) : Value := .agg #[.string nm, .slice va vn vc, .slice pa pn pc, .string re, .slice ba bn bc]
def funcC (nm : ByteArray) (va : Option Addr) (vn vc : Nat) (pa : Option Addr) (pn pc : Nat) (re : ByteArray) (ba : Option Addr) (bn bc : Nat) : List Value := [.string nm, .slice va vn vc, .slice pa pn pc, .string re, .slice ba bn bc]

/-- The blocks of 'live.Of' are different ones. -/
def Six (B sv gI gO gk gg : Nat) : Prop :=
  (B + 2 ≤ sv ∧ sv < B + 7) ∧ (B + 2 ≤ gI ∧ gI < B + 7) ∧ (B + 2 ≤ gO ∧ gO < B + 7) ∧ (B + 2 ≤ gk ∧ gk < B + 7) ∧ (B + 2 ≤ gg ∧ gg < B + 7) ∧
  sv ≠ gI ∧ sv ≠ gO ∧ sv ≠ gk ∧ sv ≠ gg ∧ gI ≠ gO ∧ gI ≠ gk ∧ gI ≠ gg ∧ gO ≠ gk ∧ gO ≠ gg ∧ gk ≠ gg

structure LvSt (w : World) (B n : Nat) (fc : List Value) (sv gI gO gk gg : Nat) (p : Nat → Prop) (I O K G : List (List Nat)) (W : World) : Prop where
  fb : Row W B 44 fc
  rb : Row W (B + 1) 90 [.slice none 0 0, .slice none 0 0]
  sb : Row W sv 90 [.slice (some ⟨gI, 0, none⟩) n n, .slice (some ⟨gO, 0, none⟩) n n]
  rI : SetRow p gI I W
  rO : SetRow p gO O W
  rK : SetRow p gk K W
  rG : SetRow p gg G W
  bel : Below B w W
  sz : B + 7 ≤ W.heap.size
  six : Six B sv gI gO gk gg
  np : ∀ b, b < B + 7 → ¬ p b

section
variable {w : World} {B n : Nat} {fc : List Value} {sv gI gO gk gg : Nat} {p p' : Nat → Prop} {I O K G : List (List Nat)} {W W' : World}
theorem LvSt.below (h : LvSt w B n fc sv gI gO gk gg p I O K G W) (hb : Below W.heap.size W W') : LvSt w B n fc sv gI gO gk gg p I O K G W' :=
  ⟨h.fb.keep (hb.block _ h.fb.lt), h.rb.keep (hb.block _ h.rb.lt), h.sb.keep (hb.block _ h.sb.lt), h.rI.below hb, h.rO.below hb, h.rK.below hb, h.rG.below hb, h.bel.trans (hb.mono (by have := h.sz; omega)), by have := hb.size; have := h.sz; omega, h.six, h.np⟩
theorem LvSt.grown {row : Option Nat} (h : LvSt w B n fc sv gI gO gk gg p I O K G W) (hg : W.grownBy W' row) (hr : ∀ k, row = some k → B + 7 ≤ k ∧ ¬ p k) : LvSt w B n fc sv gI gO gk gg p I O K G W' := by
  have hz := h.sz
  have s := h.six
  unfold Six at s
  have hk : Keep p p W W' := Keep.grown hg fun b hb _ => ⟨hb, fun e => (hr b e.symm).2 hb⟩
  have hh : ∀ b, b < B + 7 → W'.heap[b]? = W.heap[b]? := fun b hb => hg.block b (by omega) (fun e => by have := (hr b e.symm).1; omega)
  exact ⟨h.fb.keep (hh _ (by omega)), h.rb.keep (hh _ (by omega)), h.sb.keep (hh _ (by omega)), h.rI.keep (hh _ (by omega)) hk h.rI.np, h.rO.keep (hh _ (by omega)) hk h.rO.np, h.rK.keep (hh _ (by omega)) hk h.rK.np, h.rG.keep (hh _ (by omega)) hk h.rG.np,
    h.bel.grown hg (by omega) (fun k e => by have := (hr k e).1; omega), by have := hg.size; omega, h.six, h.np⟩
theorem LvSt.move (h : LvSt w B n fc sv gI gO gk gg p I O K G W) (hb : Below (B + 7) W W') (hk : Keep p p' W W') (np : ∀ b, b < B + 7 → ¬ p' b) : LvSt w B n fc sv gI gO gk gg p' I O K G W' := by
  have hz := h.sz
  have s := h.six
  unfold Six at s
  have hh := hb.block
  exact ⟨h.fb.keep (hh _ (by omega)), h.rb.keep (hh _ (by omega)), h.sb.keep (hh _ (by omega)), h.rI.keep (hh _ (by omega)) hk (np _ (by omega)), h.rO.keep (hh _ (by omega)) hk (np _ (by omega)), h.rK.keep (hh _ (by omega)) hk (np _ (by omega)), h.rG.keep (hh _ (by omega)) hk (np _ (by omega)),
    h.bel.trans (hb.mono (by omega)), by have := hb.size; omega, h.six, np⟩
theorem LvSt.mono (h : LvSt w B n fc sv gI gO gk gg p I O K G W) (hp : ∀ b, p b → p' b) (np : ∀ b, b < B + 7 → ¬ p' b) : LvSt w B n fc sv gI gO gk gg p' I O K G W := by
  have s := h.six
  unfold Six at s
  exact ⟨h.fb, h.rb, h.sb, h.rI.mono hp (np _ (by omega)), h.rO.mono hp (np _ (by omega)), h.rK.mono hp (np _ (by omega)), h.rG.mono hp (np _ (by omega)), h.bel, h.sz, h.six, np⟩
/-- A store into a block that is none of these. -/
theorem LvSt.cell (h : LvSt w B n fc sv gI gO gk gg p I O K G W) {a : Addr} (ha : B + 7 ≤ a.block) (hp : ¬ p a.block) (u : Value) : LvSt w B n fc sv gI gO gk gg p I O K G (W.setCell a u) := by
  have s := h.six
  unfold Six at s
  exact ⟨h.fb.other (by omega) u, h.rb.other (by omega) u, h.sb.other (by omega) u, h.rI.other (by omega) hp u, h.rO.other (by omega) hp u, h.rK.other (by omega) hp u, h.rG.other (by omega) hp u, h.bel.setCell (by omega) u, by simpa using h.sz, h.six, h.np⟩
theorem LvSt.setG (h : LvSt w B n fc sv gI gO gk gg p I O K G W) {z : Value} {ws : List Nat} (hz : IsWords p W z ws) (j : Nat) : LvSt w B n fc sv gI gO gk gg p I O K (G.set j ws) (W.setCell ⟨gg, j, none⟩ z) := by
  have s := h.six
  unfold Six at s
  exact ⟨h.fb.other (by show B ≠ gg; omega) z, h.rb.other (by show B + 1 ≠ gg; omega) z, h.sb.other (by show sv ≠ gg; omega) z, h.rI.other (by show gI ≠ gg; omega) h.rG.np z, h.rO.other (by show gO ≠ gg; omega) h.rG.np z, h.rK.other (by show gk ≠ gg; omega) h.rG.np z, h.rG.set hz j, h.bel.setCell (by show B ≤ gg; omega) z, by simpa using h.sz, h.six, h.np⟩
theorem LvSt.setK (h : LvSt w B n fc sv gI gO gk gg p I O K G W) {z : Value} {ws : List Nat} (hz : IsWords p W z ws) (j : Nat) : LvSt w B n fc sv gI gO gk gg p I O (K.set j ws) G (W.setCell ⟨gk, j, none⟩ z) := by
  have s := h.six
  unfold Six at s
  exact ⟨h.fb.other (by show B ≠ gk; omega) z, h.rb.other (by show B + 1 ≠ gk; omega) z, h.sb.other (by show sv ≠ gk; omega) z, h.rI.other (by show gI ≠ gk; omega) h.rK.np z, h.rO.other (by show gO ≠ gk; omega) h.rK.np z, h.rK.set hz j, h.rG.other (by show gg ≠ gk; omega) h.rK.np z, h.bel.setCell (by show B ≤ gk; omega) z, by simpa using h.sz, h.six, h.np⟩
theorem LvSt.setI (h : LvSt w B n fc sv gI gO gk gg p I O K G W) {z : Value} {ws : List Nat} (hz : IsWords p W z ws) (j : Nat) : LvSt w B n fc sv gI gO gk gg p (I.set j ws) O K G (W.setCell ⟨gI, j, none⟩ z) := by
  have s := h.six
  unfold Six at s
  exact ⟨h.fb.other (by show B ≠ gI; omega) z, h.rb.other (by show B + 1 ≠ gI; omega) z, h.sb.other (by show sv ≠ gI; omega) z, h.rI.set hz j, h.rO.other (by show gO ≠ gI; omega) h.rI.np z, h.rK.other (by show gk ≠ gI; omega) h.rI.np z, h.rG.other (by show gg ≠ gI; omega) h.rI.np z, h.bel.setCell (by show B ≤ gI; omega) z, by simpa using h.sz, h.six, h.np⟩
theorem LvSt.setO (h : LvSt w B n fc sv gI gO gk gg p I O K G W) {z : Value} {ws : List Nat} (hz : IsWords p W z ws) (j : Nat) : LvSt w B n fc sv gI gO gk gg p I (O.set j ws) K G (W.setCell ⟨gO, j, none⟩ z) := by
  have s := h.six
  unfold Six at s
  exact ⟨h.fb.other (by show B ≠ gO; omega) z, h.rb.other (by show B + 1 ≠ gO; omega) z, h.sb.other (by show sv ≠ gO; omega) z, h.rI.other (by show gI ≠ gO; omega) h.rO.np z, h.rO.set hz j, h.rK.other (by show gk ≠ gO; omega) h.rO.np z, h.rG.other (by show gg ≠ gO; omega) h.rO.np z, h.bel.setCell (by show B ≤ gO; omega) z, by simpa using h.sz, h.six, h.np⟩
/-- Where the sets may lie while a row of the call's own grows. -/
def pD (B : Nat) (v : Value) (b : Nat) : Prop := B ≤ b ∧ some b ≠ v.ownBlock
theorem LvSt.app {v v' : Value} (h : LvSt w B n fc sv gI gO gk gg (pD (B + 7) v) I O K G W) (hg : W.grownBy W' v.ownBlock) (hv : v'.ownBlock = v.ownBlock ∨ v'.ownBlock = some W.heap.size) (hb : ∀ k, v.ownBlock = some k → B + 7 ≤ k) : LvSt w B n fc sv gI gO gk gg (pD (B + 7) v') I O K G W' := by
  have hz := h.sz
  refine h.move ⟨hg.os, hg.tape, hg.output, hg.size, fun b hb' => hg.block b (by omega) (fun e => by have := hb b e.symm; omega)⟩ (Keep.grown hg fun b hb' hlt => ⟨⟨hb'.1, fun e => ?_⟩, hb'.2⟩) (fun b hb' hh => by have := hh.1; omega)
  rcases hv with e' | e'
  · exact hb'.2 (e.trans e')
  · rw [e'] at e; simp at e; omega
end

/-- The first k of n sets are told. -/
def upTo (f : Nat → List Nat) (n k : Nat) : List (List Nat) := (List.range n).map fun j => if j < k then f j else []
theorem upTo_length (f : Nat → List Nat) (n k : Nat) : (upTo f n k).length = n := by simp [upTo]
theorem upTo_zero (f : Nat → List Nat) (n : Nat) : upTo f n 0 = List.replicate n [] := by
  refine List.ext_getElem (by simp [upTo]) fun j h1 h2 => by simp [upTo]
theorem upTo_set (f : Nat → List Nat) {n k : Nat} (_h : k < n) : (upTo f n k).set k (f k) = upTo f n (k + 1) := by
  refine List.ext_getElem (by simp [upTo]) fun j h1 h2 => ?_
  rw [List.getElem_set]
  by_cases e : k = j
  · subst e; simp [upTo]
  · rw [if_neg e]
    simp only [upTo, List.getElem_map, List.getElem_range]
    by_cases h : j < k
    · rw [if_pos h, if_pos (by omega)]
    · rw [if_neg h, if_neg (by omega)]
theorem upTo_nil (f : Nat → List Nat) (n k : Nat) : (upTo f n k).set k [] = upTo f n k := by
  by_cases h : k < n
  · have := set_same (upTo f n k) k
    rw [show (upTo f n k).getD k [] = [] by simp [upTo, List.getD, h]] at this
    exact this
  · exact List.set_eq_of_length_le (by rw [upTo_length]; omega)
theorem upTo_getD (f : Nat → List Nat) (n k j : Nat) (h : j < n) : (upTo f n k).getD j [] = if j < k then f j else [] := by
  simp [upTo, List.getD, h]

/-- A block gone through from its end: what is wanted, what was written. -/
def genD (l : List InsD) (r : Nat) : List Nat := (l.drop r).reverse.foldl backW []
def defD (l : List InsD) (r : Nat) : List Int := (l.drop r).reverse.map defS
theorem drop_rev {l : List InsD} {q : Nat} (h : q < l.length) : (l.drop q).reverse = (l.drop (q + 1)).reverse ++ [l[q]] := by
  rw [List.drop_eq_getElem_cons h, List.reverse_cons]
theorem genD_succ {l : List InsD} {q : Nat} (h : q < l.length) : genD l q = backW (genD l (q + 1)) l[q] := by
  unfold genD; rw [drop_rev h, List.foldl_append]; rfl
theorem defD_succ {l : List InsD} {q : Nat} (h : q < l.length) : defD l q = defD l (q + 1) ++ [defS l[q]] := by
  unfold defD; rw [drop_rev h, List.map_append]; rfl
theorem genD_all (l : List InsD) : genD l l.length = [] := by unfold genD; simp
theorem defD_all (l : List InsD) : defD l l.length = [] := by unfold defD; simp
theorem genD_zero (l : List InsD) : genD l 0 = genW l := rfl
theorem defD_zero (l : List InsD) : Bit.ofW (defD l 0) = killW l := rfl
theorem genD_good (l : List InsD) (r : Nat) : Good1 (genD l r) := foldl_back _ [] (by simp) Bit.can_nil
theorem defD_length (l : List InsD) (r : Nat) : (defD l r).length = l.length - r := by simp [defD]
end Go.Proofs.Ytcihobmjohpnkaa
