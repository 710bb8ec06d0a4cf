/- The laws' graph of nodes of k colours that do not lap. -/
import Derived.Test.YtinbfnabngdemaaCrP
import Derived.Test.YtinbfnabngdemaaCrG
import Derived.Test.YtinbfnabngdemaaCnD
import Derived.Test.YtinbfnabngdemaaCoV
import Derived.Deep.RegionLaw
namespace Go.Proofs.Ytinbfnabngdemaa
open Go.RowKit

theorem infoR : (Try.prog.info? 31).map (fun i => (i.zero, i.size, i.bytes)) = some (some (.slice none 0 0), 1, 24) := by kernel_rfl
theorem owns_keepZ {W W' : World} {B n size : Nat} {e : TypeId} {v : Value} {xs : List Value} {Z : Nat → Prop} (h : W.ownsRow B e size v n xs) (hz : ∀ b, v.ownBlock = some b → Z b) (hk : ∀ b, Z b → b < W.heap.size → W'.heap[b]? = W.heap[b]?) : W'.ownsRow B e size v n xs := by
  have hlt := h.lt
  obtain ⟨h1, h2⟩ := h
  refine ⟨h1, ?_⟩
  rcases h2 with h2 | ⟨g, cap, cur, hv, hg, hh, r⟩
  · exact .inl h2
  · have hb : v.ownBlock = some g := by rw [hv]; rfl
    exact .inr ⟨g, cap, cur, hv, hg, (hk g (hz g hb) (hlt g hb).2).trans hh, r⟩
/-- A row of rows of numbers that a call makes by appends, in blocks of Z. -/
structure RwO (B : Nat) (Z : Nat → Prop) (ov : Value) (vs : List Value) (M : List (List Int)) (W : World) : Prop where
  ow : W.ownsRow B 31 1 ov M.length vs
  vl : vs.length = M.length
  oz : ∀ b, ov.ownBlock = some b → Z b
  el : ∀ j (h : j < vs.length), IsInts (fun b => Z b ∧ some b ≠ ov.ownBlock) W vs[j] (M.getD j [])
theorem RwO.nil (B : Nat) (Z : Nat → Prop) (W : World) : RwO B Z (.slice none 0 0) [] [] W := ⟨World.ownsRow_nil _ _ _ _, rfl, fun b hb => by simp [Value.ownBlock] at hb, fun j hj => by simp at hj⟩
theorem RwO.keep {B : Nat} {Z : Nat → Prop} {ov : Value} {vs : List Value} {M : List (List Int)} {W W' : World} (h : RwO B Z ov vs M W) (hk : ∀ b, Z b → b < W.heap.size → W'.heap[b]? = W.heap[b]?) : RwO B Z ov vs M W' :=
  ⟨owns_keepZ h.ow h.oz hk, h.vl, h.oz, fun j hj => (h.el j hj).keep (fun b hb hlt => ⟨hb, hk b hb.1 hlt⟩)⟩
theorem getDL_snoc (l : List (List Int)) (x : List Int) (j : Nat) (h : j < l.length) : (l ++ [x]).getD j [] = l.getD j [] := by
  simp [List.getD, List.getElem?_append_left h]
theorem getDL_last (l : List (List Int)) (x : List Int) : (l ++ [x]).getD l.length [] = x := by
  simp [List.getD]
theorem RwO.push {B : Nat} {Z : Nat → Prop} {ov v' u : Value} {vs : List Value} {M : List (List Int)} {l : List Int} {W Y w1 : World} (h : RwO B Z ov vs M W) (hY : Below W.heap.size W Y)
    (hi : IsInts (fun b => W.heap.size ≤ b ∧ b < Y.heap.size) Y u l) (ho : w1.ownsRow B 31 1 v' (M.length + 1) (vs ++ [u])) (hg : Y.grownBy w1 ov.ownBlock) (hat : v'.ownBlock = ov.ownBlock ∨ ∃ g, v'.ownBlock = some g ∧ Y.heap.size ≤ g) : RwO B (fun b => Z b ∨ (W.heap.size ≤ b ∧ b < w1.heap.size)) v' (vs ++ [u]) (M ++ [l]) w1 := by
  have hub : ∀ b, ov.ownBlock = some b → b < W.heap.size := fun b hb => (h.ow.lt b hb).2
  have hys := hY.size
  have hgs := hg.size
  refine ⟨by rw [List.length_append]; exact ho, by simp [h.vl], fun b hb => ?_, fun j hj => ?_⟩
  · rcases hat with e1 | ⟨g, e1, e2⟩
    · exact .inl (h.oz b (by rw [← e1]; exact hb))
    · have h3 := (ho.lt b hb).2
      rw [e1] at hb
      have : g = b := by simpa using hb
      exact .inr ⟨by omega, h3⟩
  by_cases hjl : j < vs.length
  · rw [List.getElem_append_left hjl, getDL_snoc _ _ _ (by rw [← h.vl]; exact hjl)]
    refine (h.el j hjl).keep (fun b hb hlt => ⟨⟨.inl hb.1, fun e => ?_⟩, (hg.block b (by omega) hb.2).trans (hY.block b hlt)⟩)
    rcases hat with e4 | ⟨g, e4, e5⟩
    · exact hb.2 (by rw [e, e4])
    · rw [e4] at e
      have : b = g := by simpa using e
      omega
  · have hje : j = vs.length := by simp at hj; omega
    subst hje
    rw [List.getElem_append_right (Nat.le_refl _)]
    simp only [Nat.sub_self, List.getElem_cons_zero]
    rw [h.vl, getDL_last]
    refine hi.keep (fun b hb hlt => ⟨⟨.inr ⟨hb.1, by omega⟩, fun e => ?_⟩, hg.block b hlt (fun e => by have := hub b e.symm; omega)⟩)
    rcases hat with e4 | ⟨g, e4, e5⟩
    · rw [e4] at e
      have := hub b e.symm; omega
    · rw [e4] at e
      have : b = g := by simpa using e
      omega
theorem RwO.rows {B : Nat} {Z : Nat → Prop} {ov : Value} {vs : List Value} {M : List (List Int)} {W : World} (h : RwO B Z ov vs M W) (hm : M.length ≤ 1000000) {p : Nat → Prop} (hp : ∀ b, Z b → p b) : IsRows p W ov M := by
  obtain ⟨a, c, e1, ha⟩ := owns_slice h.ow
  have hvl := h.vl
  subst e1
  by_cases h0 : 0 < M.length
  · obtain ⟨g, rfl⟩ := ha h0
    obtain ⟨cur, hg, -, hc, -, -, -, -, hlt⟩ := owns_block h.ow
    refine ⟨_, c, rfl, ⟨hc, by omega⟩, .inr ⟨g, 0, rfl, hp g (h.oz g rfl), fun j hj => ?_⟩⟩
    have hj2 : j < vs.length := by omega
    refine ⟨vs[j], by rw [Nat.zero_add, Nat.mul_one]; exact (RowP.of_owns h.ow).cell (by simp [hj2]), ?_⟩
    have := h.el j hj2
    rw [show M.getD j [] = M[j] from by simp [List.getD, hj]] at this
    exact this.keep (fun b hb _ => ⟨hp b hb.1, rfl⟩)
  · have : M = [] := List.length_eq_zero_iff.1 (by omega)
    subst this
    exact ⟨a, c, rfl, ⟨by simp, by simp⟩, .inl rfl⟩
theorem RwO.sl {B : Nat} {Z : Nat → Prop} {ov : Value} {vs : List Value} {M : List (List Int)} {W : World} (h : RwO B Z ov vs M W) : ∃ a c, ov = .slice a M.length c := let ⟨a, c, e, _⟩ := owns_slice h.ow; ⟨a, c, e⟩

/-- A row of numbers appended whole, wherever the region stands. -/
theorem step_appI {ops : Array Oper} {o : Oper} {a : Act} {K : Act → World → Prop} {Q : Exit → Act → World → Prop} {E : Prop} {W : World} {p : Nat → Prop}
    (hgd : o.guard = none) (s x : Operand) (hop : o.op = .call { callee := .builtin .append, args := #[s, x], argTypes := #[31, 31] })
    (base : Nat) (v : Value) (zs : List Int) (hs : a.eval s = v) (hown : W.ownsRow base 3 1 v zs.length (ints zs)) {sa : Option Addr} {yn cap : Nat} (ys : List Int) (hyn : yn = ys.length) (hx : a.eval x = .slice sa yn cap) (hp : IsInts p W (.slice sa yn cap) ys)
    (hl : zs.length + ys.length ≤ 1000000) (hb : base ≤ W.heap.size)
    (h : ∀ v' w', w'.ownsRow base 3 1 v' (zs ++ ys).length (ints (zs ++ ys)) → W.grownBy w' v.ownBlock → K (a.put o.dst v') w') :
    if Region.wanted o (yielded ops a.tmps) = true then Oper.wp Try.prog o a W K Q else E := by
  subst hyn
  obtain ⟨i0, hi, hz0, hz1, hz2⟩ := info_parts infoInt
  obtain ⟨sa', c', hv, hl', hx'⟩ := hp
  simp at hv
  obtain ⟨rfl, rfl⟩ := hv
  have hnone : ys = [] → if Region.wanted o (yielded ops a.tmps) = true then Oper.wp Try.prog o a W K Q else E := fun hys => by
    subst hys
    have hw : Region.wanted o (yielded ops a.tmps) = true := by simp [Region.wanted, hgd]
    rw [if_pos hw]
    have hsrc : Src Try.prog i0.size 31 (.slice sa 0 cap) 0 [] W := by
      cases sa with
      | none => exact Src.ofNil W Try.underlying31 cap
      | some ad => exact Src.ofSlice W Try.underlying31 ad 0 cap [] (by simp) (fun j u hj => by simp at hj) (fun u hu => by simp at hu)
    obtain ⟨va, vc, rfl, hva⟩ := owns_slice hown
    have hle : zs.length ≤ vc := by
      rcases hown.2 with ⟨e, _⟩ | ⟨g, cap', cur, e, _, _, hn, _⟩
      · simp at e; omega
      · simp at e; omega
    have hr := run_append_nothing (P := Try.prog) W 31 31 o.type 3 i0 Try.underlying31 hi va zs.length vc hle _ hsrc
    unfold Oper.wp execOp
    simp only [List.length_nil] at hx
    simp only [hop, resolve, invoke, builtin, Sem.run_bind, Sem.run_pure, Result.andThen_ok, List.map_toArray, List.map_cons, List.map_nil, hs, hx, hr]
    exact h _ _ (by simpa using hown) (World.grownBy.refl _ _)
  rcases hx' with rfl | ⟨b, off, rfl, _, hc⟩
  · exact hnone rfl
  · by_cases h0 : 0 < ys.length
    · refine step_append_lies _ hgd s x 31 hop base 3 i0 _ 1 8 Try.underlying31 hi hz0 hz1 hz2 rfl (by decide) v zs.length (ints zs) hs hown
        ⟨b, off, none⟩ ys.length cap (ints ys) hx (by simp [ints]) ?_ ?_ h0 ?_ ?_ hb _ rfl ?_
      · intro j u hj
        have hjl : j < ys.length := by
          by_cases hh : j < ys.length
          · exact hh
          · simp [hh] at hj
        simp [hjl] at hj
        subst hj
        have hc1 := hc j hjl
        unfold CInt at hc1
        rw [Nat.mul_one] at hc1
        have e : (⟨b, off, none⟩ : Addr).add j = ⟨b, off + j, none⟩ := by cases j <;> simp [Addr.add]
        rw [e]; exact hc1
      · intro u hu
        obtain ⟨y, _, rfl⟩ := List.mem_map.1 hu
        rfl
      · unfold maxLen; omega
      · omega
      · intro g cp w' ho hg hv hlt
        refine h _ w' ?_ hg
        rw [List.length_append]
        simpa [ints] using ho
    · exact hnone (List.length_eq_zero_iff.1 (by omega))

/-- The graph while its laps are made: `ca` colours in all, `cl` laps. -/
structure Pl1 (w : World) (ev : Value) (ca cl : Nat) (av lv : Value) (W : World) : Prop where
  res : Row W w.heap.size 25 [.slice none 0 0, .slice none 0 0, .slice none 0 0, .slice none 0 0]
  row : Row W (w.heap.size + 1) 25 [ev, .slice none 0 0, .slice none 0 0, lv]
  all : W.ownsRow (w.heap.size + 2) 3 1 av ca (ints (upI ca))
  lp : ∃ Z vs, RwO (w.heap.size + 2) Z lv vs ((List.range cl).map fun (c : Nat) => [(c : Int)]) W ∧ ∀ b, Z b → w.heap.size + 2 ≤ b ∧ b < W.heap.size ∧ av.ownBlock ≠ some b
  bl : Below w.heap.size w W
section
variable {w : World} {ev av lv : Value} {ca cl : Nat} {W Y w1 : World}
theorem Pl1.all' (h : Pl1 w ev ca cl av lv W) (hY : BkS W Y) {v' : Value} (ho : w1.ownsRow (w.heap.size + 2) 3 1 v' (ca + 1) (ints (upI (ca + 1)))) (hg : Y.grownBy w1 av.ownBlock) (hv : v'.ownBlock = av.ownBlock ∨ v'.ownBlock = some Y.heap.size) : Pl1 w ev (ca + 1) cl v' lv w1 := by
  have hne : ∀ b, av.ownBlock = some b → w.heap.size + 2 ≤ b := fun b hb => (h.all.lt b hb).1
  have hs := hY.size
  have hs2 := hg.size
  have hr := h.row.lt
  have k : ∀ b, b < W.heap.size → av.ownBlock ≠ some b → w1.heap[b]? = W.heap[b]? := fun b hb hn => (hg.block b (by omega) (fun e => hn e.symm)).trans (hY.block b hb)
  obtain ⟨Z, vs, h1, h2⟩ := h.lp
  refine ⟨h.res.keep (k _ (by omega) (fun e => by have := hne _ e; omega)), h.row.keep (k _ (by omega) (fun e => by have := hne _ e; omega)), ho, ⟨Z, vs, h1.keep (fun b hb hlt => k b hlt (h2 b hb).2.2), fun b hb => ⟨(h2 b hb).1, by have := (h2 b hb).2.1; omega, fun e => ?_⟩⟩, bel_grown (bel_call h.bl hY) hg (fun b e => by have := hne b e; omega)⟩
  rcases hv with e2 | e2
  · exact (h2 b hb).2.2 (by rw [← e2]; exact e)
  · rw [e2] at e
    have := (h2 b hb).2.1
    injection e with e
    omega
theorem Pl1.lap (h : Pl1 w ev ca cl av lv W) {Z : Nat → Prop} {vs : List Value} (h1 : RwO (w.heap.size + 2) Z lv vs ((List.range cl).map fun (c : Nat) => [(c : Int)]) W) (h2 : ∀ b, Z b → w.heap.size + 2 ≤ b ∧ b < W.heap.size ∧ av.ownBlock ≠ some b) (hY : BkS W Y) {u v' : Value}
    (hi : IsInts (fun b => W.heap.size ≤ b ∧ b < Y.heap.size) Y u [(cl : Int)]) (ho : w1.ownsRow (w.heap.size + 2) 31 1 v' (cl + 1) (vs ++ [u])) (hg : Y.grownBy w1 lv.ownBlock) (hv : v'.ownBlock = lv.ownBlock ∨ ∃ g, v'.ownBlock = some g ∧ Y.heap.size ≤ g) :
    w1.frozen? ⟨w.heap.size + 1, 3, none⟩ = false ∧ w1.cell? ⟨w.heap.size + 1, 3, none⟩ = some lv ∧ Pl1 w ev ca (cl + 1) av v' (w1.setCell ⟨w.heap.size + 1, 3, none⟩ v') := by
  have hne : ∀ b, lv.ownBlock = some b → w.heap.size + 2 ≤ b := fun b hb => (h2 b (h1.oz b hb)).1
  have hs := hY.size
  have hs2 := hg.size
  have hr := h.row.lt
  have k : ∀ b, b < W.heap.size → lv.ownBlock ≠ some b → w1.heap[b]? = W.heap[b]? := fun b hb hn => (hg.block b (by omega) (fun e => hn e.symm)).trans (hY.block b hb)
  have hlen : ((List.range cl).map fun (c : Nat) => [(c : Int)]).length = cl := by simp
  have h3 := h1.push hY hi (by rw [hlen]; exact ho) hg hv
  have hrw := h.row.keep (k _ hr (fun e => by have := hne _ e; omega))
  have hsz : (w1.setCell ⟨w.heap.size + 1, 3, none⟩ v').heap.size = w1.heap.size := by simp
  refine ⟨hrw.frozen 3, hrw.cell rfl, (h.res.keep (k _ (by omega) (fun e => by have := hne _ e; omega))).other (by show w.heap.size ≠ w.heap.size + 1; omega) _, hrw.set 3 v', ?_, ⟨fun b => Z b ∨ (W.heap.size ≤ b ∧ b < w1.heap.size), vs ++ [u], ?_, fun b hb => ?_⟩, (bel_grown (bel_call h.bl hY) hg (fun b e => by have := hne b e; omega)).setCell (by show w.heap.size ≤ w.heap.size + 1; omega) _⟩
  · refine owns_keepZ h.all (Z := fun b => av.ownBlock = some b) (fun b hb => hb) (fun b hb hlt => (Below.heap_setCell _ _ _ _ (show b ≠ w.heap.size + 1 by have := (h.all.lt b hb).1; omega)).trans (k b hlt (fun e => ?_)))
    exact (h2 b (h1.oz b e)).2.2 hb
  · rw [List.range_succ, List.map_append]
    exact h3.keep (fun b hb _ => Below.heap_setCell _ _ _ _ (show b ≠ w.heap.size + 1 by
      rcases hb with hb | hb
      · have := (h2 b hb).1; omega
      · omega))
  · rw [hsz]
    rcases hb with hb | hb
    · exact ⟨(h2 b hb).1, by have := (h2 b hb).2.1; omega, (h2 b hb).2.2⟩
    · exact ⟨by omega, hb.2, fun e => by have := (h.all.lt b e).2; omega⟩
/-- The graph while its nodes are made. -/
structure Pl2 (w : World) (ev : Value) (k : Nat) (av lv : Value) (B2 i : Nat) (ov : Value) (W : World) : Prop where
  res : Row W w.heap.size 25 [.slice none 0 0, .slice none 0 0, .slice none 0 0, .slice none 0 0]
  row : Row W (w.heap.size + 1) 25 [ev, .slice none 0 0, ov, lv]
  all : W.ownsRow (w.heap.size + 2) 3 1 av k (ints (upI k))
  alt : ∀ b, av.ownBlock = some b → b < B2
  lp : ∃ Z vs, RwO (w.heap.size + 2) Z lv vs ((List.range k).map fun (c : Nat) => [(c : Int)]) W ∧ ∀ b, Z b → w.heap.size + 2 ≤ b ∧ b < B2
  nd : ∃ Z vs, RwO B2 Z ov vs (List.replicate i (upI k)) W ∧ ∀ b, Z b → B2 ≤ b ∧ b < W.heap.size
  bl : Below w.heap.size w W
  ge : w.heap.size + 2 ≤ B2 ∧ B2 ≤ W.heap.size
theorem Pl1.two (h : Pl1 w ev ca ca av lv W) : Pl2 w ev ca av lv W.heap.size 0 (.slice none 0 0) W := by
  obtain ⟨Z, vs, h1, h2⟩ := h.lp
  exact ⟨h.res, h.row, h.all, fun b hb => (h.all.lt b hb).2, ⟨Z, vs, h1, fun b hb => ⟨(h2 b hb).1, (h2 b hb).2.1⟩⟩, ⟨fun _ => False, [], RwO.nil _ _ _, fun b hb => hb.elim⟩, h.bl, by have := h.row.lt; omega, Nat.le_refl _⟩
theorem Pl2.node {k B2 i : Nat} {ov : Value} (h : Pl2 w ev k av lv B2 i ov W) {Z : Nat → Prop} {vs : List Value} (h1 : RwO B2 Z ov vs (List.replicate i (upI k)) W) (h2 : ∀ b, Z b → B2 ≤ b ∧ b < W.heap.size) (hY : BkS W Y) {u v' : Value}
    (hi : IsInts (fun b => W.heap.size ≤ b ∧ b < Y.heap.size) Y u (upI k)) (ho : w1.ownsRow B2 31 1 v' (i + 1) (vs ++ [u])) (hg : Y.grownBy w1 ov.ownBlock) (hv : v'.ownBlock = ov.ownBlock ∨ ∃ g, v'.ownBlock = some g ∧ Y.heap.size ≤ g) :
    w1.frozen? ⟨w.heap.size + 1, 2, none⟩ = false ∧ w1.cell? ⟨w.heap.size + 1, 2, none⟩ = some ov ∧ Pl2 w ev k av lv B2 (i + 1) v' (w1.setCell ⟨w.heap.size + 1, 2, none⟩ v') := by
  have hne : ∀ b, ov.ownBlock = some b → B2 ≤ b := fun b hb => (h2 b (h1.oz b hb)).1
  have hs := hY.size
  have hs2 := hg.size
  have hge := h.ge
  have hr := h.row.lt
  have kk : ∀ b, b < W.heap.size → ov.ownBlock ≠ some b → w1.heap[b]? = W.heap[b]? := fun b hb hn => (hg.block b (by omega) (fun e => hn e.symm)).trans (hY.block b hb)
  have k2 : ∀ b, b < B2 → b ≠ w.heap.size + 1 → (w1.setCell ⟨w.heap.size + 1, 2, none⟩ v').heap[b]? = W.heap[b]? := fun b hb hn => (Below.heap_setCell _ _ _ _ hn).trans (kk b (by omega) (fun e => by have := hne b e; omega))
  have hlen : (List.replicate i (upI k)).length = i := by simp
  have h3 := h1.push hY hi (by rw [hlen]; exact ho) hg hv
  have hrw := h.row.keep (kk _ hr (fun e => by have := hne _ e; omega))
  have hsz : (w1.setCell ⟨w.heap.size + 1, 2, none⟩ v').heap.size = w1.heap.size := by simp
  obtain ⟨Z1, vs1, l1, l2⟩ := h.lp
  refine ⟨hrw.frozen 2, hrw.cell rfl, h.res.keep (k2 _ (by omega) (by omega)), hrw.set 2 v', owns_keepZ h.all (Z := fun b => av.ownBlock = some b) (fun b hb => hb) (fun b hb _ => k2 b (h.alt b hb) (by have := (h.all.lt b hb).1; omega)), h.alt, ⟨Z1, vs1, l1.keep (fun b hb _ => k2 b (l2 b hb).2 (by have := (l2 b hb).1; omega)), l2⟩, ⟨fun b => Z b ∨ (W.heap.size ≤ b ∧ b < w1.heap.size), vs ++ [u], ?_, fun b hb => ?_⟩, (bel_grown (bel_call h.bl hY) hg (fun b e => by have := hne b e; omega)).setCell (by show w.heap.size ≤ w.heap.size + 1; omega) _, hge.1, by rw [hsz]; omega⟩
  · rw [List.replicate_succ', ]
    exact h3.keep (fun b hb _ => Below.heap_setCell _ _ _ _ (show b ≠ w.heap.size + 1 by
      rcases hb with hb | hb
      · have := (h2 b hb).1; omega
      · omega))
  · rw [hsz]
    rcases hb with hb | hb
    · exact ⟨(h2 b hb).1, by have := (h2 b hb).2; omega⟩
    · exact ⟨by omega, hb.2⟩
end
end Go.Proofs.Ytinbfnabngdemaa
