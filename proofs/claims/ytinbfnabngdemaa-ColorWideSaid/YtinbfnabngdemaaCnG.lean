/- 'begin': what stands when the graph's parts are made, and while the laps are laid behind one another. -/
import Derived.Test.YtinbfnabngdemaaCnJ
import Derived.Test.YtinbfnabngdemaaCnK
import Derived.Test.YtinbfnabngdemaaCnL
import Derived.Test.YtinbfnabngdemaaCnD
import Derived.Test.YtinbfnabngdemaaCnS
import Derived.Test.YtinbfnabngdemaaCnE
namespace Go.Proofs.Ytinbfnabngdemaa
open Go.RowKit Go.Maps Go.Sort Go.Shelf Go.WideMaps Go.ChangeMaps Go.WideElems

/-- The maps of all pairs. -/
structure JnP (E : List (Int × Int)) (n g : Nat) (W : World) : Prop where
  row : Row W g 71 ((List.range n).map fun i => Value.map (some (g + 1 + i)))
  mp : ∀ i, i < n → ∃ k, IsIs W (g + 1 + i) k (fun m => adjS E i m)
theorem JnP.below {E : List (Int × Int)} {n g : Nat} {W X : World} (h : JnP E n g W) (hb : Below W.heap.size W X) : JnP E n g X :=
  ⟨h.row.keep (hb.block _ h.row.lt), fun i hi => let ⟨k, h2⟩ := h.mp i hi; ⟨k, h2.keep (hb.block _ h2.lt)⟩⟩
structure KnP (A : List (List Int)) (B n : Nat) (ov : Value) (W : World) : Prop where
  ex : ∃ f s Ks, KI A n f s Ks ∧ W.ownsRow B 3 1 ov n (ints Ks)
theorem KnP.below {A : List (List Int)} {B n : Nat} {ov : Value} {W X : World} (h : KnP A B n ov W) (hb : Below W.heap.size W X) : KnP A B n ov X := let ⟨f, s, Ks, h1, h2⟩ := h; ⟨f, s, Ks, h1, owns_below h2 hb⟩
/-- The graph as it stands when its parts are made. -/
structure Bg0 (G : GD) (cs : List Value) (n B : Nat) (gb g1 g2 cb ub ob : Nat) (kv : Value) (W : World) : Prop where
  row : Row W gb 62 (cs ++ [.slice (some ⟨g1, 0, none⟩) n n, .slice (some ⟨g2, 0, none⟩) n n, kv, .map (some cb), .slice none 0 0, .slice (some ⟨ub, 0, none⟩) n n, .slice (some ⟨ob, 0, none⟩) n n, .slice none 0 0, .slice none 0 0])
  j1 : JnP G.E n g1 W
  j2 : JnP G.M n g2 W
  kn : KnP G.A B n kv W
  mc : W.heap[cb]? = some (.map #[] 0)
  ru : Row W ub 3 (List.replicate n (.int .i64 0))
  ro : Row W ob 4 (List.replicate n (.bool false))
  ge : B ≤ gb ∧ B ≤ g1 ∧ B ≤ g2 ∧ B ≤ cb ∧ B ≤ ub ∧ B ≤ ob
  ap1 : cb < g1 ∨ g1 + 1 + n ≤ cb
  ap2 : cb < g2 ∨ g2 + 1 + n ≤ cb
  kap : kv.ownBlock ≠ some ub
  lt : g1 + 1 + n ≤ gb ∧ g2 + 1 + n ≤ gb ∧ cb < gb ∧ ub < gb ∧ ob < gb ∧ ∀ b, kv.ownBlock = some b → b < gb


theorem JnP.low {E : List (Int × Int)} {n g m : Nat} {W X : World} (h : JnP E n g W) (hb : Below m W X) (hm : g + 1 + n ≤ m) : JnP E n g X :=
  ⟨h.row.keep (hb.block _ (by omega)), fun i hi => let ⟨k, h2⟩ := h.mp i hi; ⟨k, h2.keep (hb.block _ (by omega))⟩⟩
theorem Row.ne {W : World} {a b : Nat} {t t' : TypeId} {us vs : List Value} (h : Row W a t us) (k : Row W b t' vs) (ht : t ≠ t') : a ≠ b := fun e => by
  subst e
  unfold Row at h k
  rw [h] at k
  simp only [Option.some.injEq, Obj.cells.injEq] at k
  exact ht k.2.1
theorem Row.ne_map {W : World} {a b : Nat} {t : TypeId} {us : List Value} {es : Array MapEntry} {c : Nat} (h : Row W a t us) (k : W.heap[b]? = some (.map es c)) : a ≠ b := fun e => by
  subst e
  unfold Row at h
  rw [h] at k
  cases k

theorem IsIs.isMap {W : World} {b n : Nat} {p : Nat → Bool} (h : IsIs W b n p) : ∃ es c, W.heap[b]? = some (.map es c) := let ⟨_, ⟨es, c, hb, _⟩, _⟩ := h; ⟨es, c, hb⟩

theorem SetOwn.app {B : Nat} {v v' : Value} {l : List (List Nat)} {vs : List Value} {y : Value} {ws : List Nat} {W w' : World} (h2 : vs.length = l.length)
    (h3 : ∀ j (h : j < vs.length), IsWords (fun b => B ≤ b ∧ b < W.heap.size ∧ v.ownBlock ≠ some b) W vs[j] (l.getD j [])) (hy : IsWords (fun b => B ≤ b ∧ b < W.heap.size ∧ v.ownBlock ≠ some b) W y ws)
    (ho : w'.ownsRow B 49 1 v' (l.length + 1) (vs ++ [y])) (hg : W.grownBy w' v.ownBlock) (hv : v'.ownBlock = v.ownBlock ∨ ∃ k, v'.ownBlock = some k ∧ W.heap.size ≤ k) : SetOwn B v' (l ++ [ws]) w' := by
  refine ⟨vs ++ [y], by simpa using ho, by simp [h2], fun j hj => ?_⟩
  have hk : ∀ b, b < W.heap.size → v.ownBlock ≠ some b → b < w'.heap.size ∧ v'.ownBlock ≠ some b ∧ w'.heap[b]? = W.heap[b]? := fun b hb hne => by
    refine ⟨Nat.lt_of_lt_of_le hb hg.size, fun e => ?_, hg.block b hb (fun e => hne e.symm)⟩
    rcases hv with e2 | ⟨k, e2, e3⟩
    · rw [e2] at e; exact hne e
    · rw [e2] at e; injection e with e; omega
  have hK : Keep (fun b => B ≤ b ∧ b < W.heap.size ∧ v.ownBlock ≠ some b) (fun b => B ≤ b ∧ b < w'.heap.size ∧ v'.ownBlock ≠ some b) W w' := fun b hp _ => ⟨⟨hp.1, (hk b hp.2.1 hp.2.2).1, (hk b hp.2.1 hp.2.2).2.1⟩, (hk b hp.2.1 hp.2.2).2.2⟩
  rw [getDN_snoc, List.getElem_append]
  by_cases e : j < vs.length
  · rw [dif_pos e, if_pos (by omega)]; exact (h3 j e).keep hK
  · rw [dif_neg e, if_neg (by omega), if_pos (by simp at hj; omega)]
    have : j - vs.length = 0 := by simp at hj; omega
    simp only [this, List.getElem_cons_zero]
    exact hy.keep hK
theorem SetOwn.kept {B : Nat} {v : Value} {l : List (List Nat)} {W X : World} (h : SetOwn B v l W) (hs : W.heap.size ≤ X.heap.size) (hk : ∀ b, B ≤ b → X.heap[b]? = W.heap[b]?) : SetOwn B v l X := by
  obtain ⟨vs, ⟨a1, a2⟩, h2, h3⟩ := h
  refine ⟨vs, ⟨a1, ?_⟩, h2, fun j hj => (h3 j hj).keep (fun b hp _ => ⟨⟨hp.1, by omega, hp.2.2⟩, hk b hp.1⟩)⟩
  rcases a2 with a2 | ⟨g, cap, cur, e, hg, hh, r⟩
  · exact .inl a2
  · exact .inr ⟨g, cap, cur, e, hg, (hk g hg).trans hh, r⟩
theorem SetOwn.sets {B : Nat} {v : Value} {l : List (List Nat)} {W : World} {p : Nat → Prop} (h : SetOwn B v l W) (hp : ∀ b, B ≤ b → b < W.heap.size → p b) (hl : l.length ≤ 1000) : IsSets p W v l := by
  obtain ⟨vs, h1, h2, h3⟩ := h
  obtain ⟨a, c, e, ha⟩ := owns_slice h1
  subst e
  by_cases h0 : 0 < l.length
  · obtain ⟨g, rfl⟩ := ha h0
    obtain ⟨cur, hg, -, hc, -, -, -, -, hlt⟩ := owns_block h1
    refine ⟨_, c, rfl, ⟨hc, by omega⟩, .inr ⟨g, 0, rfl, hp g hg hlt, fun j hj => ?_⟩⟩
    have hj2 : j < vs.length := by omega
    refine ⟨vs[j], by rw [Nat.zero_add, Nat.mul_one]; exact (RowP.of_owns h1).cell (by simp [hj2]), ?_⟩
    have := h3 j hj2
    rw [show l.getD j [] = l[j] from by simp [List.getD, hj]] at this
    exact this.keep (fun b hb _ => ⟨hp b hb.1 hb.2.1, rfl⟩)
  · have : l = [] := List.length_eq_zero_iff.1 (by omega)
    subst this
    exact ⟨a, c, rfl, ⟨by simp, by simp⟩, .inl rfl⟩

/-- The graph while the laps are laid behind one another. -/
structure Bg1 (G : GD) (cs : List Value) (n gb g1 g2 cb ub ob : Nat) (kv lv : Value) (k : Nat) (w0 W : World) : Prop where
  row : Row W gb 62 (cs ++ [.slice (some ⟨g1, 0, none⟩) n n, .slice (some ⟨g2, 0, none⟩) n n, kv, .map (some cb), lv, .slice (some ⟨ub, 0, none⟩) n n, .slice (some ⟨ob, 0, none⟩) n n, .slice none 0 0, .slice none 0 0])
  lap : SetOwn (gb + 1) lv ((G.Lp.take k).map Bit.ofW) W
  low : Below gb w0 W
section
variable {G : GD} {cs : List Value} {n gb g1 g2 cb ub ob : Nat} {kv lv : Value}
theorem Bg1.app {k : Nat} {w0 W Y w1 : World} {v' y : Value} {vs : List Value} {l : List Int} (hcs : cs.length = 4) (h : Bg1 G cs n gb g1 g2 cb ub ob kv lv k w0 W) (hk : k < G.Lp.length) (he : G.Lp[k] = l) (h2 : vs.length = k)
    (h3 : ∀ j (h : j < vs.length), IsWords (fun b => gb + 1 ≤ b ∧ b < W.heap.size ∧ lv.ownBlock ≠ some b) W vs[j] (((G.Lp.take k).map Bit.ofW).getD j [])) (hY : BkS W Y) (hy : IsWords (fun b => W.heap.size ≤ b ∧ b < Y.heap.size) Y y (Bit.ofW l)) (hlv : ∀ b, lv.ownBlock = some b → gb + 1 ≤ b ∧ b < W.heap.size)
    (ho : w1.ownsRow (gb + 1) 49 1 v' (k + 1) (vs ++ [y])) (hg : Y.grownBy w1 lv.ownBlock) (hv : v'.ownBlock = lv.ownBlock ∨ ∃ k, v'.ownBlock = some k ∧ Y.heap.size ≤ k) :
    w1.cell? ⟨gb, 8, none⟩ = some lv ∧ w1.frozen? ⟨gb, 8, none⟩ = false ∧ Bg1 G cs n gb g1 g2 cb ub ob kv v' (k + 1) w0 (w1.setCell ⟨gb, 8, none⟩ v') := by
  have hgl := h.row.lt
  have hsY := hY.size
  have hgne : some gb ≠ lv.ownBlock := fun e => by have := (hlv _ e.symm).1; omega
  have hgr : w1.heap[gb]? = W.heap[gb]? := (hg.block _ (by omega) hgne).trans (hY.block _ hgl)
  have hlen : ((G.Lp.take k).map Bit.ofW).length = k := by rw [List.length_map, List.length_take]; omega
  have hr1 := h.row.keep hgr
  have hc : (cs ++ [Value.slice (some ⟨g1, 0, none⟩) n n, .slice (some ⟨g2, 0, none⟩) n n, kv, .map (some cb), lv, .slice (some ⟨ub, 0, none⟩) n n, .slice (some ⟨ob, 0, none⟩) n n, .slice none 0 0, .slice none 0 0])[8]? = some lv := by
    rw [List.getElem?_append_right (by omega), hcs]; rfl
  refine ⟨hr1.cell hc, hr1.frozen 8, ?_, ?_, ?_⟩
  · have := hr1.set 8 v'
    rw [List.set_append_right _ _ (by omega), hcs] at this
    exact this
  · have e : (G.Lp.take (k + 1)).map Bit.ofW = (G.Lp.take k).map Bit.ofW ++ [Bit.ofW l] := by rw [List.take_succ_eq_append_getElem hk, List.map_append, he]; rfl
    rw [e]
    have hso : SetOwn (gb + 1) v' ((G.Lp.take k).map Bit.ofW ++ [Bit.ofW l]) w1 := by
      refine SetOwn.app (W := Y) (vs := vs) (y := y) (by rw [hlen]; exact h2) (fun j hj => (h3 j hj).keep (fun b hp hlt => ⟨⟨hp.1, by omega, hp.2.2⟩, hY.block b hlt⟩)) (hy.keep (fun b hp _ => ⟨⟨by omega, hp.2, fun e => by have := (hlv b e).2; omega⟩, rfl⟩)) (by rw [hlen]; exact ho) hg hv
    exact hso.kept (by simp) (fun b hb => Below.heap_setCell _ _ _ _ (show b ≠ gb by omega))
  · have hb0 : Below gb W w1 := (hY.mono (by omega)).grown hg (by omega) (fun k e => by have := (hlv k e).1; omega)
    exact (h.low.trans hb0).setCell (Nat.le_refl _) _

/-- The sums so far; nothing is gone. -/
def sB (f : Nat → Int) : CS := ⟨fun _ => false, f, [], []⟩
theorem Bg1.done {B m k : Nat} {w0 W : World} {V : GV} (hk : k = G.Lp.length) (h0 : Bg0 G cs n B gb g1 g2 cb ub ob kv w0) (h : Bg1 G cs n gb g1 g2 cb ub ob kv lv k w0 W) (hG : OkG G) (hF : Few G)
    (hcs : cs = [.slice V.ea V.en V.ec, .slice V.ma V.mn V.mc, .slice V.aa V.an V.ac, .slice V.la V.ln V.lc]) (hn : n = G.A.length) (hgr : IsGr (· < m) w0 V G) (hm : m ≤ B) :
    ∃ L : Gl, L.gb = gb ∧ GlOk L G ∧ StG L G W ∧ DyV L G (sB fun _ => 0) (.slice none 0 0) (.slice none 0 0) W ∧ ∀ b, b < m → L.St b := by
  subst hk
  obtain ⟨f, s, Ks, hK, hKo⟩ := h0.kn
  obtain ⟨l1, l2, l3, l4, l5, l6⟩ := h0.lt
  obtain ⟨e1, e2, e3, e4, e5, e6⟩ := h0.ge
  have hgW := h.row.lt
  have hbl := h.low.block
  have n1 : g1 ≠ cb := h0.j1.row.ne_map h0.mc
  have n2 : g2 ≠ cb := h0.j2.row.ne_map h0.mc
  have n3 : g1 ≠ ub := h0.j1.row.ne h0.ru (by decide)
  have n4 : g2 ≠ ub := h0.j2.row.ne h0.ru (by decide)
  have n5 : g1 ≠ ob := h0.j1.row.ne h0.ro (by decide)
  have n6 : g2 ≠ ob := h0.j2.row.ne h0.ro (by decide)
  have n7 : cb ≠ ub := (h0.ru.ne_map h0.mc).symm
  have n8 : cb ≠ ob := (h0.ro.ne_map h0.mc).symm
  have n9 : ub ≠ ob := h0.ru.ne h0.ro (by decide)
  have nm1 : ∀ i, i < n → ub ≠ g1 + 1 + i ∧ ob ≠ g1 + 1 + i := fun i hi => by
    obtain ⟨k, hk⟩ := h0.j1.mp i hi
    obtain ⟨es, c, hk⟩ := hk.isMap
    exact ⟨h0.ru.ne_map hk, h0.ro.ne_map hk⟩
  have nm2 : ∀ i, i < n → ub ≠ g2 + 1 + i ∧ ob ≠ g2 + 1 + i := fun i hi => by
    obtain ⟨k, hk⟩ := h0.j2.mp i hi
    obtain ⟨es, c, hk⟩ := hk.isMap
    exact ⟨h0.ru.ne_map hk, h0.ro.ne_map hk⟩
  have hap1 := h0.ap1
  have hap2 := h0.ap2
  have hkv : ∀ b, kv.ownBlock = some b → b < W.heap.size ∧ b ≠ gb ∧ b ≠ cb ∧ b ≠ ub ∧ b ≠ ob := fun b hb => by
    have hb2 := l6 b hb
    obtain ⟨a, c, ek, ha⟩ := owns_slice hKo
    subst ek
    obtain ⟨q, rfl⟩ : ∃ q, a = some q := by cases a with
      | none => cases hb
      | some q => exact ⟨q, rfl⟩
    have hq : q.block = b := by cases hb; rfl
    rcases hKo.2 with ⟨e, _⟩ | ⟨g', cap', cur, e, _, hh, _⟩
    · cases e
    · cases e
      cases hb
      refine ⟨by omega, by omega, fun e => ?_, fun e => h0.kap (by rw [← e]; rfl), fun e => ?_⟩
      · have := h0.mc; rw [← e, hh] at this; cases this
      · have := h0.ro; unfold Row at this; rw [← e, hh] at this; simp at this
  have hIsK : IsInts (fun b => kv.ownBlock = some b) w0 kv Ks := by
    have hkl := hK.len
    rw [← hkl] at hKo
    exact ints_of_owns hKo (by have := hF.n; omega) (fun b hb _ _ => hb)
  have hKs : Ks = (List.range G.A.length).map fun i => Ks.getD i 0 := by
    refine List.ext_getElem (by simp [hK.len, hn]) fun i h1 h2 => ?_
    simp [List.getD, h1]
  refine ⟨⟨gb, g1, g2, cb, ub, ob, W.heap.size, fun i => g1 + 1 + i, fun i => g2 + 1 + i, V, fun i => Ks.getD i 0, kv, lv⟩, rfl, ⟨⟨hgW, by show cb < W.heap.size; omega, by show ub < W.heap.size; omega, by show ob < W.heap.size; omega⟩, ⟨by show gb ≠ cb; omega, by show gb ≠ ub; omega, by show gb ≠ ob; omega, n7, n8, n9⟩, fun i hi => ?_, fun i j hi hj he => ?_⟩, ?_, ?_, fun b hb => ?_⟩
  · have h1 := hK.rg _ _ (hK.has i (by omega))
    have := hK.le
    show 0 ≤ Ks.getD i 0 ∧ Ks.getD i 0 < _
    omega
  · have h1 := hK.has i (by omega)
    have h2 := hK.has j (by omega)
    rw [show Ks.getD i 0 = Ks.getD j 0 from he] at h1
    have h3 := hK.inj _ _ _ h1 h2
    have hr : ∀ v, ∀ c ∈ alw G v, 0 ≤ c ∧ c < 256 := fun v c hc => by
      have := (hG.alw_ris v).2 c hc
      have := hF.k
      omega
    exact sL_inj (hr i) (hr j) h3
  · have hSt : ∀ b, b < gb → b ≠ cb → b ≠ ub → b ≠ ob → Gl.St ⟨gb, g1, g2, cb, ub, ob, W.heap.size, fun i => g1 + 1 + i, fun i => g2 + 1 + i, V, fun i => Ks.getD i 0, kv, lv⟩ b := fun b h1 h2 h3 h4 => ⟨by show b < W.heap.size; omega, by show b ≠ gb; omega, h2, h3, h4⟩
    have j1 := h0.j1.low h.low (by omega)
    have j2 := h0.j2.low h.low (by omega)
    refine ⟨Nat.le_refl _, hgr.keep (fun b hb _ => ⟨hSt b (by omega) (by omega) (by omega) (by omega), hbl b (by omega)⟩), hSt _ (by show g1 < gb; omega) n1 n3 n5, hn ▸ j1.row, fun i hi => ⟨hSt _ (by show g1 + 1 + i < gb; omega) (by show g1 + 1 + i ≠ cb; omega) (nm1 i (by omega)).1.symm (nm1 i (by omega)).2.symm, j1.mp i (by omega)⟩,
      hSt _ (by show g2 < gb; omega) n2 n4 n6, hn ▸ j2.row, fun i hi => ⟨hSt _ (by show g2 + 1 + i < gb; omega) (by show g2 + 1 + i ≠ cb; omega) (nm2 i (by omega)).1.symm (nm2 i (by omega)).2.symm, j2.mp i (by omega)⟩, ?_, ?_⟩
    · show IsInts _ W kv ((List.range G.A.length).map fun i => Ks.getD i 0)
      rw [← hKs]
      exact hIsK.keep (fun b hb _ => ⟨hkv b hb, hbl b (l6 b hb)⟩)
    · have hl := h.lap
      rw [List.take_length] at hl
      exact hl.sets (fun b h1 h2 => ⟨h2, by show b ≠ gb; omega, by show b ≠ cb; omega, by show b ≠ ub; omega, by show b ≠ ob; omega⟩) (by rw [List.length_map]; have := hF.k; omega)
  · refine ⟨?_, ⟨0, _, (IsFm.of_empty h0.mc).keep (hbl _ l3), (cntF_none _).symm, fun i j c _ _ hc => by cases hc⟩, ?_, ?_, World.ownsRow_nil _ _ _ _, World.ownsRow_nil _ _ _ _, .inl rfl⟩
    · have := h.row
      rw [hcs] at this
      unfold Gl.cs
      rw [← hn]
      exact this
    · have := h0.ru.keep (hbl _ l4)
      have e : ints ((List.range G.A.length).map (sB fun _ => 0).sums) = List.replicate n (.int .i64 0) := by
        rw [List.eq_replicate_iff]
        exact ⟨by simp [ints, hn], fun x hx => by simp [ints, sB] at hx; exact hx.2.symm⟩
      rw [e]; exact this
    · have := h0.ro.keep (hbl _ l5)
      have e : bools ((List.range G.A.length).map (sB fun _ => 0).gone) = List.replicate n (.bool false) := by
        rw [List.eq_replicate_iff]
        exact ⟨by simp [bools, hn], fun x hx => by simp [bools, sB] at hx; exact hx.2.symm⟩
      rw [e]; exact this
  · exact ⟨by show b < W.heap.size; omega, by show b ≠ gb; omega, by show b ≠ cb; omega, by show b ≠ ub; omega, by show b ≠ ob; omega⟩
end
/-! ### The sums -/
section
variable {L : Gl} {G : GD} {w W W' : World} {f : Nat → Int} {v : Nat} {q : Nat → Bool}
theorem dy0_kept (hd : DyV L G (sB f) (.slice none 0 0) (.slice none 0 0) W) (hok : GlOk L G) (hk : ∀ b, b < L.B → W'.heap[b]? = W.heap[b]?) : DyV L G (sB f) (.slice none 0 0) (.slice none 0 0) W' := by
  obtain ⟨s, g, hf, r⟩ := hd.cost
  have hl := hok.lt
  exact ⟨hd.row.keep (hk _ hl.1), ⟨s, g, hf.keep (hk _ hl.2.1), r⟩, hd.sums.keep (hk _ hl.2.2.1), hd.gone.keep (hk _ hl.2.2.2), World.ownsRow_nil _ _ _ _, World.ownsRow_nil _ _ _ _, .inl rfl⟩
/-- The sums of the nodes below v are whole, that of v lacks those with q. -/
structure BgT (L : Gl) (G : GD) (w : World) (f : Nat → Int) (v : Nat) (q : Nat → Bool) (W : World) : Prop where
  dy : DyV L G (sB f) (.slice none 0 0) (.slice none 0 0) W
  st : StG L G W
  bl : Below w.heap.size w W
  lo : ∀ u, u < v → f u = (sumTo G u G.A.length : Int)
  hi : ∀ u, v < u → f u = 0
  at_v : f v + (sumL (mostS G v) ((nearL G v).filter q) : Int) = (sumTo G v G.A.length : Int)
theorem BgT.keep (h : BgT L G w f v q W) (hok : GlOk L G) (hk : ∀ b, b < L.B → W'.heap[b]? = W.heap[b]?) (hs : W.heap.size ≤ W'.heap.size) (hb : Below w.heap.size w W') : BgT L G w f v q W' :=
  ⟨dy0_kept h.dy hok hk, h.st.keep hs (fun b hb => hk b hb.1), hb, h.lo, h.hi, h.at_v⟩
theorem BgT.below (h : BgT L G w f v q W) (hok : GlOk L G) (hb : Below W.heap.size W W') : BgT L G w f v q W' :=
  h.keep hok (fun b hl => hb.block b (by have := h.st.hB; omega)) hb.size (bel_call h.bl hb)
/-- The sums of the nodes below v are whole, the others naught. -/
structure BgS (L : Gl) (G : GD) (w : World) (f : Nat → Int) (v : Nat) (W : World) : Prop where
  dy : DyV L G (sB f) (.slice none 0 0) (.slice none 0 0) W
  st : StG L G W
  bl : Below w.heap.size w W
  lo : ∀ u, u < v → f u = (sumTo G u G.A.length : Int)
  hi : ∀ u, v ≤ u → f u = 0
theorem BgS.opened (h : BgS L G w f v W) : BgT L G w f v (fun m => adjS G.E v m) W := by
  refine ⟨h.dy, h.st, h.bl, h.lo, fun u hu => h.hi u (by omega), ?_⟩
  rw [h.hi v (Nat.le_refl _), Int.zero_add]
  congr 1
  unfold sumTo nearL
  rw [List.filter_filter]
  simp only [Bool.and_self]
  rfl
theorem BgT.closed (h : BgT L G w f v q W) (hq : ∀ m ∈ nearL G v, q m = false) : BgS L G w f (v + 1) W := by
  refine ⟨h.dy, h.st, h.bl, fun u hu => ?_, fun u hu => h.hi u (by omega)⟩
  rcases Nat.lt_or_ge u v with h1 | h1
  · exact h.lo u h1
  · obtain rfl : u = v := by omega
    have := h.at_v
    rw [show (nearL G u).filter q = [] from List.filter_eq_nil_iff.2 (fun m hm => by rw [hq m hm]; simp)] at this
    simpa [sumL] using this
theorem BgT.val (h : BgT L G w f v q W) (hG : OkG G) (hF : Few G) : f v ≤ 6000 ∧ (0 : Int) ≤ sumL (mostS G v) ((nearL G v).filter q) := by
  have h1 := h.at_v
  have h2 := sumTo_bd hG hF v
  omega
theorem BgT.next (h : BgT L G w f v q W) (hok : GlOk L G) (hSt : ∀ b, b < w.heap.size → L.St b) {m : Nat} (hm : m ∈ nearL G v) (hq : q m = true) :
    BgT L G w (fun u => if u = v then f v + (mostS G v m : Int) else f u) v (fun k => q k && !decide (k = m)) (W.setCell ⟨L.ub, v, none⟩ (.int .i64 (f v + (mostS G v m : Int)))) := by
  obtain ⟨d1, d2⟩ := dy_sum h.dy hok (i := v) (f v + (mostS G v m : Int))
  refine ⟨d1, h.st.step h.dy d2, h.bl.trans (d2.below h.dy hSt h.bl.size), fun u hu => ?_, fun u hu => ?_, ?_⟩
  · rw [if_neg (by omega)]; exact h.lo u hu
  · rw [if_neg (by omega)]; exact h.hi u hu
  · rw [if_pos rfl, ← h.at_v]
    have := sumL_drop (f := mostS G v) (nearL_nodup G v) hm hq (q := fun k => q k && !decide (k = m)) (fun _ => rfl)
    omega
theorem BgT.most (h : BgT L G w f v q W) (hok : GlOk L G) (hG : OkG G) (hF : Few G) (hSt : ∀ b, b < w.heap.size → L.St b) (hv : v < G.A.length) {m : Nat} (hm : m < G.A.length) :
    Calls Try.prog 39 #[.pointer (some ⟨L.gb, 0, none⟩), .int .i64 (v : Int), .int .i64 (m : Int)] W fun e w' => e = .returned (.int .i64 (mostS G v m : Int)) ∧ BgT L G w f v q w' ∧ W.grownBy w' (some L.cb) :=
  (most_s h.st h.dy hok hG hF hv hm).mono (by
    rintro e w' ⟨rfl, hd, hk⟩
    refine ⟨rfl, ⟨hd, h.st.step h.dy hk, h.bl.trans (hk.below h.dy hSt h.bl.size), h.lo, h.hi, h.at_v⟩, ⟨hk.os, hk.tape, hk.output, hk.size, fun b hb hne => ?_⟩⟩
    by_cases e : b = L.gb
    · subst e
      have h1 := h.dy.row
      have h2 := hd.row
      unfold Row at h1 h2
      rw [h1, h2]
    · refine hk.block b hb e ?_
      rintro ((h1 | ⟨h1, -⟩ | ⟨h1, -⟩) | ⟨o, ho, -⟩)
      · exact hne (by rw [h1])
      · omega
      · omega
      · unfold Ofs at ho; omega)
theorem BgS.last (h : BgS L G w f G.A.length W) (hG : OkG G) : DyV L G (begD G 0) (.slice none 0 0) (.slice none 0 0) W := by
  have e : sB f = beg0 G := by
    unfold sB beg0
    congr 1
    funext u
    rcases Nat.lt_or_ge u G.A.length with h1 | h1
    · exact h.lo u h1
    · rw [h.hi u h1]
      have : (List.range G.A.length).filter (fun m => adjS G.E u m) = [] := List.filter_eq_nil_iff.2 (fun m _ ha => by have := hG.lt_of_adj ha; omega)
      unfold sumTo
      rw [this]
      rfl
  have := h.dy
  rw [e] at this
  exact this
end
end Go.Proofs.Ytinbfnabngdemaa
