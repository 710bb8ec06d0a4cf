/- A graph that a law builds by appends of all its parts in turn. -/
import Derived.Test.YtinbfnabngdemaaCwH
import Derived.Test.YtinbfnabngdemaaCrS
namespace Go.Proofs.Ytinbfnabngdemaa
open Go.RowKit

theorem RwO.pushL {B : Nat} {Z : Nat → Prop} {ov v' : Value} {vs us : List Value} {M ls : List (List Int)} {W Y w1 : World} (h : RwO B Z ov vs M W) (hY : Below W.heap.size W Y) (hlen : us.length = ls.length)
    (hi : ∀ j (hj : j < us.length), IsInts (fun b => W.heap.size ≤ b ∧ b < Y.heap.size) Y us[j] (ls.getD j [])) (ho : w1.ownsRow B 31 1 v' (M.length + ls.length) (vs ++ us)) (hg : Y.grownBy w1 ov.ownBlock) (hat : v'.ownBlock = ov.ownBlock ∨ ∃ g, v'.ownBlock = some g ∧ Y.heap.size ≤ g) : RwO B (fun b => Z b ∨ (W.heap.size ≤ b ∧ b < w1.heap.size)) v' (vs ++ us) (M ++ ls) w1 := by
  have hub : ∀ b, ov.ownBlock = some b → b < W.heap.size := fun b hb => (h.ow.lt b hb).2
  have hys := hY.size
  have hgs := hg.size
  refine ⟨by rw [List.length_append]; exact ho, by simp [h.vl, hlen], fun b hb => ?_, fun j hj => ?_⟩
  · rcases hat with e1 | ⟨g, e1, e2⟩
    · exact .inl (h.oz b (by rw [← e1]; exact hb))
    · have h3 := (ho.lt b hb).2
      rw [e1] at hb
      have : g = b := by simpa using hb
      exact .inr ⟨by omega, h3⟩
  by_cases hjl : j < vs.length
  · rw [List.getElem_append_left hjl, show (M ++ ls).getD j [] = M.getD j [] by simp [List.getD, List.getElem?_append_left (show j < M.length by rw [← h.vl]; exact hjl)]]
    refine (h.el j hjl).keep (fun b hb hlt => ⟨⟨.inl hb.1, fun e => ?_⟩, (hg.block b (by omega) hb.2).trans (hY.block b hlt)⟩)
    rcases hat with e4 | ⟨g, e4, e5⟩
    · exact hb.2 (by rw [e, e4])
    · rw [e4] at e
      have : b = g := by simpa using e
      omega
  · have hj2 : j - vs.length < us.length := by simp at hj; omega
    rw [List.getElem_append_right (by omega), show (M ++ ls).getD j [] = ls.getD (j - vs.length) [] by simp [List.getD, h.vl, List.getElem?_append_right (show M.length ≤ j by rw [← h.vl]; omega)]]
    refine (hi _ hj2).keep (fun b hb hlt => ⟨⟨.inr ⟨hb.1, by omega⟩, fun e => ?_⟩, hg.block b hlt (fun e => by have := hub b e.symm; omega)⟩)
    rcases hat with e4 | ⟨g, e4, e5⟩
    · rw [e4] at e
      have := hub b e.symm; omega
    · rw [e4] at e
      have : b = g := by simpa using e
      omega
theorem RwO.mono {B : Nat} {Z Z' : Nat → Prop} {ov : Value} {vs : List Value} {M : List (List Int)} {W : World} (h : RwO B Z ov vs M W) (hz : ∀ b, Z b → Z' b) : RwO B Z' ov vs M W :=
  ⟨h.ow, h.vl, fun b hb => hz b (h.oz b hb), fun j hj => (h.el j hj).keep (fun _ hb _ => ⟨⟨hz _ hb.1, hb.2⟩, rfl⟩)⟩

theorem RwO.base {B B' : Nat} {Z : Nat → Prop} {ov : Value} {vs : List Value} {M : List (List Int)} {W : World} (h : RwO B Z ov vs M W) (hb : B' ≤ B) : RwO B' Z ov vs M W := ⟨owns_mono h.ow hb, h.vl, h.oz, h.el⟩
/-- The graph's parts: 0 the laps, 1 what is allowed, 2 the edges, 3 and 4 two rows of colours; each has blocks of its own. -/
structure Wd (w : World) (B xb : Nat) (O : Nat → Nat → Prop) (L A : List (List Int)) (zs : List (Int × Int)) (wl hl : List Int) (ev av lv wv hv : Value) (W : World) : Prop where
  row : Row W xb 25 [ev, .slice none 0 0, av, lv]
  lp : ∃ vs, RwO B (O 0) lv vs L W
  al : ∃ vs, RwO B (O 1) av vs A W
  es : W.ownsRow B 37 2 ev zs.length (prs zs)
  eo : ∀ b, ev.ownBlock = some b → O 2 b
  wo : W.ownsRow B 3 1 wv wl.length (ints wl)
  wz : ∀ b, wv.ownBlock = some b → O 3 b
  ho : W.ownsRow B 3 1 hv hl.length (ints hl)
  hz : ∀ b, hv.ownBlock = some b → O 4 b
  dj : ∀ i j b, O i b → O j b → i = j
  rg : ∀ i b, O i b → b < W.heap.size ∧ b ≠ xb
  bl : Below w.heap.size w W
  ge : w.heap.size ≤ xb ∧ w.heap.size ≤ B ∧ B ≤ W.heap.size
/-- Part i has grown. -/
def Og (O : Nat → Nat → Prop) (i m n : Nat) : Nat → Nat → Prop := fun j b => O j b ∨ (j = i ∧ m ≤ b ∧ b < n)
section
variable {w W Y w1 : World} {B xb : Nat} {O : Nat → Nat → Prop} {L A : List (List Int)} {zs : List (Int × Int)} {wl hl : List Int} {ev av lv wv hv v' : Value}
theorem Wd.frame (h : Wd w B xb O L A zs wl hl ev av lv wv hv W) (i : Nat) {r : Option Nat} (hr : ∀ b, r = some b → O i b) (hrB : ∀ b, r = some b → B ≤ b) (hY : BkS W Y) (hg : Y.grownBy w1 r) :
    (∀ j b, j ≠ i → O j b → w1.heap[b]? = W.heap[b]?) ∧ w1.heap[xb]? = W.heap[xb]? ∧ Below w.heap.size w w1 ∧ (∀ j k b, Og O i W.heap.size w1.heap.size j b → Og O i W.heap.size w1.heap.size k b → j = k) ∧ (∀ j b, Og O i W.heap.size w1.heap.size j b → b < w1.heap.size ∧ b ≠ xb) ∧ W.heap.size ≤ w1.heap.size := by
  have hys := hY.size
  have hgs := hg.size
  have hx := h.row.lt
  have k : ∀ b, b < W.heap.size → r ≠ some b → w1.heap[b]? = W.heap[b]? := fun b hb hn => (hg.block b (by omega) (fun e => hn e.symm)).trans (hY.block b hb)
  refine ⟨fun j b hji hb => k b (h.rg j b hb).1 (fun e => hji (h.dj j i b hb (hr b e))), k xb hx (fun e => (h.rg i xb (hr xb e)).2 rfl), bel_grown (bel_call h.bl hY) hg (fun b e => by have := hrB b e; have := h.ge; omega), fun j l b h1 h2 => ?_, fun j b h1 => ?_, by omega⟩
  · rcases h1 with h1 | ⟨h1, h3⟩ <;> rcases h2 with h2 | ⟨h2, h4⟩
    · exact h.dj _ _ b h1 h2
    · have := (h.rg _ _ h1).1; omega
    · have := (h.rg _ _ h2).1; omega
    · omega
  · rcases h1 with h1 | ⟨-, h3⟩
    · have := h.rg _ _ h1; omega
    · omega
theorem Wd.wideX (h : Wd w B xb O L A zs wl hl ev av lv wv hv W) {ys : List Int} (hY : BkS W Y) (ho : w1.ownsRow B 3 1 v' (wl ++ ys).length (ints (wl ++ ys))) (hg : Y.grownBy w1 wv.ownBlock) (hv' : v'.ownBlock = wv.ownBlock ∨ v'.ownBlock = some Y.heap.size) : Wd w B xb (Og O 3 W.heap.size w1.heap.size) L A zs (wl ++ ys) hl ev av lv v' hv w1 := by
  obtain ⟨f1, f2, f3, f4, f5, f6⟩ := h.frame 3 h.wz (fun b e => (h.wo.lt b e).1) hY hg
  obtain ⟨v1, l1⟩ := h.lp
  obtain ⟨v2, l2⟩ := h.al
  have hys := hY.size
  refine ⟨h.row.keep f2, ⟨v1, (l1.keep (fun b hb _ => f1 0 b (by omega) hb)).mono fun b => .inl⟩, ⟨v2, (l2.keep (fun b hb _ => f1 1 b (by omega) hb)).mono fun b => .inl⟩, owns_keepZ h.es h.eo (fun b hb _ => f1 2 b (by omega) hb), fun b hb => .inl (h.eo b hb), ho, fun b hb => ?_, owns_keepZ h.ho h.hz (fun b hb _ => f1 4 b (by omega) hb), fun b hb => .inl (h.hz b hb), f4, f5, f3, h.ge.1, h.ge.2.1, by have := h.ge; omega⟩
  rcases hv' with e | e
  · exact .inl (h.wz b (by rw [← e]; exact hb))
  · have := (ho.lt b hb).2
    rw [e] at hb
    have : Y.heap.size = b := by simpa using hb
    exact .inr ⟨rfl, by omega, by omega⟩
theorem Wd.halfX (h : Wd w B xb O L A zs wl hl ev av lv wv hv W) {ys : List Int} (hY : BkS W Y) (ho : w1.ownsRow B 3 1 v' (hl ++ ys).length (ints (hl ++ ys))) (hg : Y.grownBy w1 hv.ownBlock) (hv' : v'.ownBlock = hv.ownBlock ∨ v'.ownBlock = some Y.heap.size) : Wd w B xb (Og O 4 W.heap.size w1.heap.size) L A zs wl (hl ++ ys) ev av lv wv v' w1 := by
  obtain ⟨f1, f2, f3, f4, f5, f6⟩ := h.frame 4 h.hz (fun b e => (h.ho.lt b e).1) hY hg
  obtain ⟨v1, l1⟩ := h.lp
  obtain ⟨v2, l2⟩ := h.al
  have hys := hY.size
  refine ⟨h.row.keep f2, ⟨v1, (l1.keep (fun b hb _ => f1 0 b (by omega) hb)).mono fun b => .inl⟩, ⟨v2, (l2.keep (fun b hb _ => f1 1 b (by omega) hb)).mono fun b => .inl⟩, owns_keepZ h.es h.eo (fun b hb _ => f1 2 b (by omega) hb), fun b hb => .inl (h.eo b hb), owns_keepZ h.wo h.wz (fun b hb _ => f1 3 b (by omega) hb), fun b hb => .inl (h.wz b hb), ho, fun b hb => ?_, f4, f5, f3, h.ge.1, h.ge.2.1, by have := h.ge; omega⟩
  rcases hv' with e | e
  · exact .inl (h.hz b (by rw [← e]; exact hb))
  · have := (ho.lt b hb).2
    rw [e] at hb
    have : Y.heap.size = b := by simpa using hb
    exact .inr ⟨rfl, by omega, by omega⟩
theorem Wd.lapX (h : Wd w B xb O L A zs wl hl ev av lv wv hv W) {vs us : List Value} {ls : List (List Int)} (l1 : RwO B (O 0) lv vs L W) (hY : BkS W Y) (hlen : us.length = ls.length)
    (hi : ∀ j (hj : j < us.length), IsInts (fun b => W.heap.size ≤ b ∧ b < Y.heap.size) Y us[j] (ls.getD j [])) (ho : w1.ownsRow B 31 1 v' (L.length + ls.length) (vs ++ us)) (hg : Y.grownBy w1 lv.ownBlock) (hv' : v'.ownBlock = lv.ownBlock ∨ ∃ g, v'.ownBlock = some g ∧ Y.heap.size ≤ g) :
    w1.frozen? ⟨xb, 3, none⟩ = false ∧ w1.cell? ⟨xb, 3, none⟩ = some lv ∧ Wd w B xb (Og O 0 W.heap.size w1.heap.size) (L ++ ls) A zs wl hl ev av v' wv hv (w1.setCell ⟨xb, 3, none⟩ v') := by
  obtain ⟨f1, f2, f3, f4, f5, f6⟩ := h.frame 0 l1.oz (fun b e => (l1.ow.lt b e).1) hY hg
  obtain ⟨v2, l2⟩ := h.al
  have hrw := h.row.keep f2
  have l1' := (l1.pushL hY hlen hi ho hg hv').mono (Z' := Og O 0 W.heap.size w1.heap.size 0) (fun b hb => hb.imp id fun hb => ⟨rfl, hb⟩)
  have k1 : ∀ j b, j ≠ 0 → O j b → (w1.setCell ⟨xb, 3, none⟩ v').heap[b]? = W.heap[b]? := fun j b hj hb => (Below.heap_setCell _ _ _ _ (h.rg j b hb).2).trans (f1 j b hj hb)
  refine ⟨hrw.frozen 3, hrw.cell rfl, hrw.set 3 v', ⟨_, l1'.keep (fun b hb _ => Below.heap_setCell _ _ _ _ (f5 0 b hb).2)⟩, ⟨v2, (l2.keep (fun b hb _ => k1 1 b (by omega) hb)).mono fun b => .inl⟩, owns_keepZ h.es h.eo (fun b hb _ => k1 2 b (by omega) hb), fun b hb => .inl (h.eo b hb), owns_keepZ h.wo h.wz (fun b hb _ => k1 3 b (by omega) hb), fun b hb => .inl (h.wz b hb), owns_keepZ h.ho h.hz (fun b hb _ => k1 4 b (by omega) hb), fun b hb => .inl (h.hz b hb), f4, fun i b hb => by have := f5 i b hb; simp; exact this, f3.setCell h.ge.1 _, h.ge.1, h.ge.2.1, by simp; have := h.ge; omega⟩
theorem Wd.nodeX (h : Wd w B xb O L A zs wl hl ev av lv wv hv W) {vs us : List Value} {ls : List (List Int)} (l1 : RwO B (O 1) av vs A W) (hY : BkS W Y) (hlen : us.length = ls.length)
    (hi : ∀ j (hj : j < us.length), IsInts (fun b => W.heap.size ≤ b ∧ b < Y.heap.size) Y us[j] (ls.getD j [])) (ho : w1.ownsRow B 31 1 v' (A.length + ls.length) (vs ++ us)) (hg : Y.grownBy w1 av.ownBlock) (hv' : v'.ownBlock = av.ownBlock ∨ ∃ g, v'.ownBlock = some g ∧ Y.heap.size ≤ g) :
    w1.frozen? ⟨xb, 2, none⟩ = false ∧ w1.cell? ⟨xb, 2, none⟩ = some av ∧ Wd w B xb (Og O 1 W.heap.size w1.heap.size) L (A ++ ls) zs wl hl ev v' lv wv hv (w1.setCell ⟨xb, 2, none⟩ v') := by
  obtain ⟨f1, f2, f3, f4, f5, f6⟩ := h.frame 1 l1.oz (fun b e => (l1.ow.lt b e).1) hY hg
  obtain ⟨v2, l2⟩ := h.lp
  have hrw := h.row.keep f2
  have l1' := (l1.pushL hY hlen hi ho hg hv').mono (Z' := Og O 1 W.heap.size w1.heap.size 1) (fun b hb => hb.imp id fun hb => ⟨rfl, hb⟩)
  have k1 : ∀ j b, j ≠ 1 → O j b → (w1.setCell ⟨xb, 2, none⟩ v').heap[b]? = W.heap[b]? := fun j b hj hb => (Below.heap_setCell _ _ _ _ (h.rg j b hb).2).trans (f1 j b hj hb)
  refine ⟨hrw.frozen 2, hrw.cell rfl, hrw.set 2 v', ⟨v2, (l2.keep (fun b hb _ => k1 0 b (by omega) hb)).mono fun b => .inl⟩, ⟨_, l1'.keep (fun b hb _ => Below.heap_setCell _ _ _ _ (f5 1 b hb).2)⟩, owns_keepZ h.es h.eo (fun b hb _ => k1 2 b (by omega) hb), fun b hb => .inl (h.eo b hb), owns_keepZ h.wo h.wz (fun b hb _ => k1 3 b (by omega) hb), fun b hb => .inl (h.wz b hb), owns_keepZ h.ho h.hz (fun b hb _ => k1 4 b (by omega) hb), fun b hb => .inl (h.hz b hb), f4, fun i b hb => by have := f5 i b hb; simp; exact this, f3.setCell h.ge.1 _, h.ge.1, h.ge.2.1, by simp; have := h.ge; omega⟩
theorem Wd.edgeX (h : Wd w B xb O L A zs wl hl ev av lv wv hv W) {y : Int × Int} (hY : BkS W Y) (ho : w1.ownsRow B 37 2 v' (zs ++ [y]).length (prs (zs ++ [y]))) (hg : Y.grownBy w1 ev.ownBlock) (hv' : v'.ownBlock = ev.ownBlock ∨ v'.ownBlock = some Y.heap.size) :
    w1.frozen? ⟨xb, 0, none⟩ = false ∧ w1.cell? ⟨xb, 0, none⟩ = some ev ∧ Wd w B xb (Og O 2 W.heap.size w1.heap.size) L A (zs ++ [y]) wl hl v' av lv wv hv (w1.setCell ⟨xb, 0, none⟩ v') := by
  obtain ⟨f1, f2, f3, f4, f5, f6⟩ := h.frame 2 h.eo (fun b e => (h.es.lt b e).1) hY hg
  obtain ⟨v1, l1⟩ := h.lp
  obtain ⟨v2, l2⟩ := h.al
  have hrw := h.row.keep f2
  have hys := hY.size
  have k1 : ∀ j b, j ≠ 2 → O j b → (w1.setCell ⟨xb, 0, none⟩ v').heap[b]? = W.heap[b]? := fun j b hj hb => (Below.heap_setCell _ _ _ _ (h.rg j b hb).2).trans (f1 j b hj hb)
  have hz' : ∀ b, v'.ownBlock = some b → Og O 2 W.heap.size w1.heap.size 2 b := fun b hb => by
    rcases hv' with e | e
    · exact .inl (h.eo b (by rw [← e]; exact hb))
    · have := (ho.lt b hb).2
      rw [e] at hb
      have : Y.heap.size = b := by simpa using hb
      exact .inr ⟨rfl, by omega, by omega⟩
  refine ⟨hrw.frozen 0, hrw.cell rfl, hrw.set 0 v', ⟨v1, (l1.keep (fun b hb _ => k1 0 b (by omega) hb)).mono fun b => .inl⟩, ⟨v2, (l2.keep (fun b hb _ => k1 1 b (by omega) hb)).mono fun b => .inl⟩, owns_keepZ ho hz' (fun b hb _ => Below.heap_setCell _ _ _ _ (f5 2 b hb).2), hz', owns_keepZ h.wo h.wz (fun b hb _ => k1 3 b (by omega) hb), fun b hb => .inl (h.wz b hb), owns_keepZ h.ho h.hz (fun b hb _ => k1 4 b (by omega) hb), fun b hb => .inl (h.hz b hb), f4, fun i b hb => by have := f5 i b hb; simp; exact this, f3.setCell h.ge.1 _, h.ge.1, h.ge.2.1, by simp; have := h.ge; omega⟩
end
end Go.Proofs.Ytinbfnabngdemaa
