/- Where no node has a neighbour: a node is taken away. -/
import Derived.Test.YtdomnbgjafdnjaaPqT
namespace Go.Proofs.Ytdomnbgjafdnjaa
open Go.RowKit Go.Maps

theorem infoFn : (Try.prog.info? 1).map (fun i => (i.zero, i.size, i.bytes)) = some (some .nilFunc, 1, 8) := by kernel_rfl
theorem infoMapM : (Try.prog.info? 67).map (fun i => (i.zero, i.size, i.bytes)) = some (some (.map none), 1, 8) := by kernel_rfl
theorem infoVec : (Try.prog.info? 71).map (fun i => (i.zero, i.size, i.bytes)) = some (some (.slice none 0 0), 1, 24) := by kernel_rfl
def pFl2 (B : Nat) (vo : Value) (k : Nat) : Prop := B ≤ k ∧ some k ≠ vo.ownBlock

theorem kept_set {W : World} (a : Addr) (u : Value) : W.grownBy (W.setCell a u) (some a.block) :=
  ⟨rfl, rfl, rfl, by simp, fun k _ hne => Below.heap_setCell _ _ _ _ (fun e => hne (by rw [e]))⟩
/-- Blocks that nobody writes while nodes are taken away. -/
def Fz (W0 : World) (sb lb gb mb b : Nat) : Prop := b < W0.heap.size ∧ b ≠ sb ∧ b ≠ lb ∧ b ≠ gb ∧ b ≠ mb
/-- What a problem without edges has in memory when all is begun. -/
structure SvB (w W0 : World) (sb lb gb xb mb : Nat) (ms : List Value) (N : List (List Int)) : Prop where
  d1 : sb ≠ lb ∧ sb ≠ gb ∧ lb ≠ gb ∧ mb ≠ sb ∧ mb ≠ lb ∧ mb ≠ gb
  lo : w.heap.size ≤ sb ∧ w.heap.size ≤ lb ∧ w.heap.size ≤ gb ∧ w.heap.size ≤ mb
  hi : sb < W0.heap.size ∧ lb < W0.heap.size ∧ gb < W0.heap.size ∧ mb < W0.heap.size
  fx : Fz W0 sb lb gb mb xb
  nd : ∀ j, j < N.length → ∃ a c, W0.cell? ⟨xb, j, none⟩ = some (.slice a (N.getD j []).length c) ∧ IsInts (Fz W0 sb lb gb mb) W0 (.slice a (N.getD j []).length c) (N.getD j [])
  mp : ∀ j, j < N.length → ∃ b, Fz W0 sb lb gb mb b ∧ ms[j]? = some (.map (some b)) ∧ W0.heap[b]? = some (.map #[] 0)
/-- What is to be done behind, for node j. -/
def Clo (q : Nat → Prop) (W W0 : World) (xb sb j : Nat) (u : Value) : Prop :=
  ∃ o l e s m : Nat, u = .func (.func 37) #[] #[.pointer (some ⟨o, 0, none⟩), .pointer (some ⟨l, 0, none⟩), .pointer (some ⟨e, 0, none⟩), .pointer (some ⟨s, 0, none⟩), .pointer (some ⟨m, 0, none⟩)] ∧
    (q o ∧ q l ∧ q s ∧ q m) ∧ W.cell? ⟨o, 0, none⟩ = W0.cell? ⟨xb, j, none⟩ ∧ (∃ v, W.cell? ⟨o, 0, none⟩ = some v) ∧ W.cell? ⟨l, 0, none⟩ = some (.slice none 0 0) ∧ W.cell? ⟨s, 0, none⟩ = some (.pointer (some ⟨sb, 0, none⟩)) ∧ W.cell? ⟨m, 0, none⟩ = some (.int .i64 (j : Int))
theorem Clo.keep {q q' : Nat → Prop} {W W' W0 : World} {xb sb j : Nat} {u : Value} (h : Clo q W W0 xb sb j u) (hk : Keep q q' W W') : Clo q' W' W0 xb sb j u := by
  obtain ⟨o, l, e, s, m, hu, ⟨h1, h2, h3, h4⟩, c1, ⟨v, cv⟩, c2, c3, c4⟩ := h
  have k1 := hk o h1 (lt_of_cell cv)
  have k2 := hk l h2 (lt_of_cell c2)
  have k3 := hk s h3 (lt_of_cell c3)
  have k4 := hk m h4 (lt_of_cell c4)
  have e1 := World.cell?_of_block (a := ⟨o, 0, none⟩) k1.2
  exact ⟨o, l, e, s, m, hu, ⟨k1.1, k2.1, k3.1, k4.1⟩, e1.trans c1, ⟨v, e1.trans cv⟩, (World.cell?_of_block (a := ⟨l, 0, none⟩) k2.2).trans c2, (World.cell?_of_block (a := ⟨s, 0, none⟩) k3.2).trans c3, (World.cell?_of_block (a := ⟨m, 0, none⟩) k4.2).trans c4⟩
/-- k nodes have been taken away. -/
structure TkSt (w W0 : World) (sb lb gb xb xc mb mc n : Nat) (ms : List Value) (k kg km : Nat) (uv : Value) (us : List Value) (W : World) : Prop where
  sv : Row W sb 56 [.slice (some ⟨xb, 0, none⟩) n xc, .slice (some ⟨mb, 0, none⟩) n mc, uv, .slice (some ⟨lb, 0, none⟩) n n, .slice (some ⟨gb, 0, none⟩) n n]
  lr : Row W lb 3 (ints (List.replicate n 0))
  gr : Row W gb 4 (bools (goneS n kg))
  mr : ∃ vs, Row W mb 67 vs ∧ ∀ j, km ≤ j → vs[j]? = ms[j]?
  un : W.ownsRow W0.heap.size 1 1 uv us.length us
  ul : us.length = k
  cl : ∀ j (h : j < us.length), Clo (pFl2 W0.heap.size uv) W W0 xb sb j us[j]
  kz : ∀ b, Fz W0 sb lb gb mb b → W.heap[b]? = W0.heap[b]?
  bel : Below w.heap.size w W
  sz : W0.heap.size ≤ W.heap.size

theorem bk_alloc {W X : World} (h : BkS W X) (o : Obj) : BkS W (X.alloc o) := bel_alloc h o
theorem bk_drew {W X : World} (h : BkS W X) : BkS W X.drew := Below.drew h
theorem bk_set {W X : World} (h : BkS W X) {a : Addr} (ha : W.heap.size ≤ a.block) (u : Value) : BkS W (X.setCell a u) := Below.setCell h ha u

/-- Room for one more closure. -/
theorem TkSt.undo {w W0 W wc w1 : World} {sb lb gb xb xc mb mc n k : Nat} {ms : List Value} {uv uv' cv : Value} {us : List Value} {N : List (List Int)} (hB : SvB w W0 sb lb gb xb mb ms N)
    (h : TkSt w W0 sb lb gb xb xc mb mc n ms k k k uv us W) (hX : Below W.heap.size W wc) {gg cap : Nat} (hv : uv' = .slice (some ⟨gg, 0, none⟩) (k + 1) cap)
    (ho : w1.ownsRow W0.heap.size 1 1 uv' (k + 1) (us ++ [cv])) (hg : ((wc.alloc (.cells #[cv] 1)).drew).grownBy w1 uv.ownBlock) (hat : uv.ownBlock = some gg ∨ gg = wc.heap.size + 1)
    (hc : Clo (fun b => W.heap.size ≤ b ∧ b < wc.heap.size) wc W0 xb sb k cv) :
    w1.cell? ⟨sb, 2, none⟩ = some uv ∧ w1.frozen? ⟨sb, 2, none⟩ = false ∧ TkSt w W0 sb lb gb xb xc mb mc n ms (k + 1) k k uv' (us ++ [cv]) (w1.setCell ⟨sb, 2, none⟩ uv') ∧
      (∀ b, W.heap.size ≤ b → b < wc.heap.size → (w1.setCell ⟨sb, 2, none⟩ uv').heap[b]? = wc.heap[b]?) ∧ ∀ b, W.heap.size ≤ b → b < wc.heap.size → w1.heap[b]? = wc.heap[b]? := by
  obtain ⟨h1, h2, h3, h4⟩ := hB.hi
  obtain ⟨g1, g2, g3, g4⟩ := hB.lo
  obtain ⟨d1, d2, d3, d4, d5, d6⟩ := hB.d1
  have hz := h.sz
  have hxs := hX.size
  have hub : ∀ b, uv.ownBlock = some b → W0.heap.size ≤ b ∧ b < W.heap.size := fun b hb => h.un.lt b hb
  have hgl : W0.heap.size ≤ gg := (ho.lt gg (by rw [hv]; rfl)).1
  have hne : ∀ b, b < W0.heap.size → some b ≠ uv.ownBlock := fun b hb e => by have := (hub b e.symm).1; omega
  have k1 : ∀ b, b < wc.heap.size → some b ≠ uv.ownBlock → w1.heap[b]? = wc.heap[b]? := fun b hb hn => (hg.block b (by simp; omega) hn).trans (by show (wc.alloc _).heap[b]? = _; exact Below.heap_alloc _ _ _ hb)
  have k2 : ∀ b, b < W0.heap.size → w1.heap[b]? = W.heap[b]? := fun b hb => (k1 b (by omega) (hne b hb)).trans (hX.block b (by omega))
  have k3 : ∀ b, b ≠ sb → (w1.setCell ⟨sb, 2, none⟩ uv').heap[b]? = w1.heap[b]? := fun b hb => Below.heap_setCell _ _ _ _ hb
  have hsv := h.sv.keep (k2 sb h1)
  obtain ⟨vs, hvs, hvm⟩ := h.mr
  have hb1 : Below w.heap.size w w1 := bel_grown ((bel_alloc (bel_call h.bel hX) _).drew) hg (fun b e => by have := (hub b e).1; omega)
  refine ⟨hsv.cell (k := 2) rfl, hsv.frozen 2, ⟨hsv.set 2 uv', h.lr.keep ((k3 lb (Ne.symm d1)).trans (k2 lb h2)), h.gr.keep ((k3 gb (Ne.symm d2)).trans (k2 gb h3)), ⟨vs, hvs.keep ((k3 mb d4).trans (k2 mb h4)), hvm⟩, ?_, by simp [h.ul], ?_, fun b hb => ?_, hb1.setCell (by show w.heap.size ≤ sb; omega) _, ?_⟩, fun b hb1 hb2 => ?_, fun b hb1 hb2 => k1 b hb2 (fun e => by have := (hub b e.symm).2; omega)⟩
  · rw [show (us ++ [cv]).length = k + 1 by simp [h.ul]]
    refine ho.kept (kept_set ⟨sb, 2, none⟩ uv') ?_
    rw [hv]
    exact .inr (by show some gg ≠ some sb; simp; omega)
  · intro j hj
    by_cases hjl : j < us.length
    · rw [List.getElem_append_left hjl]
      refine (h.cl j hjl).keep (fun b hb hlt => ⟨⟨hb.1, fun e => ?_⟩, ?_⟩)
      · rw [hv] at e
        have e2 : b = gg := by simpa [Value.ownBlock] using e
        rcases hat with e3 | e3
        · exact hb.2 (by rw [e3, e2])
        · omega
      · exact (k3 b (by have := hb.1; omega)).trans ((k1 b (by omega) hb.2).trans (hX.block b hlt))
    · have hje : j = us.length := by simp at hj; omega
      subst hje
      rw [List.getElem_append_right (Nat.le_refl _)]
      simp only [Nat.sub_self, List.getElem_cons_zero]
      rw [h.ul]
      refine hc.keep (fun b hb hlt => ⟨⟨by omega, fun e => ?_⟩, ?_⟩)
      · rw [hv] at e
        have e2 : b = gg := by simpa [Value.ownBlock] using e
        rcases hat with e3 | e3
        · have := (hub gg e3).2; omega
        · omega
      · exact (k3 b (by omega)).trans (k1 b hlt (fun e => by have := (hub b e.symm).2; omega))
  · exact (k3 b hb.2.1).trans ((k2 b hb.1).trans (h.kz b hb))
  · have := hg.size; simp at this; simp; omega
  · exact (k3 b (by omega)).trans (k1 b hb2 (fun e => by have := (hub b e.symm).2; omega))

theorem TkSt.apart {w W0 W : World} {sb lb gb xb xc mb mc n k kg km : Nat} {ms : List Value} {uv : Value} {us : List Value} (h : TkSt w W0 sb lb gb xb xc mb mc n ms k kg km uv us W)
    {g j : Nat} (u : Value) (hg : g < W0.heap.size) : (W.setCell ⟨g, j, none⟩ u).ownsRow W0.heap.size 1 1 uv us.length us ∧ (∀ i (h : i < us.length), Clo (pFl2 W0.heap.size uv) (W.setCell ⟨g, j, none⟩ u) W0 xb sb i us[i]) := by
  refine ⟨h.un.kept (kept_set ⟨g, j, none⟩ u) ?_, fun i hi => (h.cl i hi).keep (Keep.setCell fun b hb _ => ⟨hb, fun e => by have := hb.1; have e' : b = g := e; omega⟩)⟩
  cases hob : uv.ownBlock with
  | none => exact .inl rfl
  | some b => exact .inr fun e => by have := (h.un.lt b hob).1; have e' : b = g := by simpa using e
                                     omega
theorem TkSt.near {w W0 W : World} {sb lb gb xb xc mb mc n k kg km : Nat} {ms : List Value} {uv : Value} {us : List Value} {N : List (List Int)} (hB : SvB w W0 sb lb gb xb mb ms N) (h : TkSt w W0 sb lb gb xb xc mb mc n ms k kg km uv us W) :
    TkSt w W0 sb lb gb xb xc mb mc n ms k kg (km + 1) uv us (W.setCell ⟨mb, km, none⟩ (.map none)) := by
  obtain ⟨d1, d2, d3, d4, d5, d6⟩ := hB.d1
  obtain ⟨vs, hvs, hvm⟩ := h.mr
  obtain ⟨a1, a2⟩ := h.apart (j := km) (.map none) hB.hi.2.2.2
  exact ⟨h.sv.other (Ne.symm d4) _, h.lr.other (Ne.symm d5) _, h.gr.other (Ne.symm d6) _, ⟨_, hvs.set km _, fun j hj => by rw [List.getElem?_set_ne (by omega)]; exact hvm j (by omega)⟩, a1, h.ul, a2, fun b hb => (Below.heap_setCell _ _ _ _ hb.2.2.2.2).trans (h.kz b hb), h.bel.setCell (by show w.heap.size ≤ mb; exact hB.lo.2.2.2) _, by simpa using h.sz⟩
theorem TkSt.gone {w W0 W : World} {sb lb gb xb xc mb mc n k kg km : Nat} {ms : List Value} {uv : Value} {us : List Value} {N : List (List Int)} (hB : SvB w W0 sb lb gb xb mb ms N) (h : TkSt w W0 sb lb gb xb xc mb mc n ms k kg km uv us W) (hk : kg < n) :
    TkSt w W0 sb lb gb xb xc mb mc n ms k (kg + 1) km uv us (W.setCell ⟨gb, kg, none⟩ (.bool true)) := by
  obtain ⟨d1, d2, d3, d4, d5, d6⟩ := hB.d1
  obtain ⟨vs, hvs, hvm⟩ := h.mr
  obtain ⟨a1, a2⟩ := h.apart (j := kg) (.bool true) hB.hi.2.2.1
  have hgr := h.gr.set kg (.bool true)
  rw [bools_set, goneS_set hk] at hgr
  exact ⟨h.sv.other d2 _, h.lr.other d3 _, hgr, ⟨vs, hvs.other d6 _, hvm⟩, a1, h.ul, a2, fun b hb => (Below.heap_setCell _ _ _ _ hb.2.2.2.1).trans (h.kz b hb), h.bel.setCell (by show w.heap.size ≤ gb; exact hB.lo.2.2.1) _, by simpa using h.sz⟩
theorem TkSt.drew1 {w W0 W : World} {sb lb gb xb xc mb mc n k kg km : Nat} {ms : List Value} {uv : Value} {us : List Value} (h : TkSt w W0 sb lb gb xb xc mb mc n ms k kg km uv us W) :
    TkSt w W0 sb lb gb xb xc mb mc n ms k kg km uv us W.drew :=
  ⟨h.sv, h.lr, h.gr, h.mr, h.un, h.ul, h.cl, h.kz, h.bel.drew, h.sz⟩
theorem TkSt.drew {w W0 W : World} {sb lb gb xb xc mb mc n k kg km : Nat} {ms : List Value} {uv : Value} {us : List Value} (h : TkSt w W0 sb lb gb xb xc mb mc n ms k kg km uv us W) (q : Nat) :
    TkSt w W0 sb lb gb xb xc mb mc n ms k kg km uv us (W.drewN q) :=
  ⟨h.sv, h.lr, h.gr, h.mr, h.un, h.ul, h.cl, h.kz, bel_drewN h.bel q, h.sz⟩

set_option maxRecDepth 100000 in
set_option maxHeartbeats 16000000 in
theorem take_c {w W0 W : World} {sb lb gb xb xc mb mc n k : Nat} {ms : List Value} {uv : Value} {us : List Value} {N : List (List Int)} (hB : SvB w W0 sb lb gb xb mb ms N) (hT : TkSt w W0 sb lb gb xb xc mb mc n ms k k k uv us W)
    (hn : n = N.length) (hk : k < n) (hn3 : n ≤ 300) :
    Calls Try.prog 26 #[.pointer (some ⟨sb, 0, none⟩), .int .i64 (k : Int)] W fun e w' => e = .returned (.tuple #[]) ∧ ∃ uv' us', TkSt w W0 sb lb gb xb xc mb mc n ms (k + 1) (k + 1) (k + 1) uv' us' w' := by
  obtain ⟨vs, hvs, hvm⟩ := hT.mr
  obtain ⟨b, hbz, hmb, hb0⟩ := hB.mp k (by omega)
  have hvb : vs[k]? = some (.map (some b)) := (hvm k (Nat.le_refl _)).trans hmb
  obtain ⟨xa, xac, hxc, hxi⟩ := hB.nd k (by omega)
  obtain ⟨oa, oc, rfl⟩ : ∃ oa oc, uv = .slice oa k oc := by
    have h := hT.un
    rw [hT.ul] at h
    obtain ⟨a, c, e, -⟩ := owns_slice h
    exact ⟨a, c, e⟩
  have hbel2 : Below W.heap.size W ((W.alloc (.cells #[.pointer (some ⟨sb, 0, none⟩)] 46)).alloc (.cells #[.int .i64 (k : Int)] 3)) := bel_alloc (bel_alloc (bel_refl W) _) _
  have hWb : W.heap[b]? = some (.map #[] 0) := (hT.kz b hbz).trans hb0
  have HAR : Hid (∀ X, Below W.heap.size W X → Calls Try.prog 36 #[.pointer (some ⟨sb, 0, none⟩), .int .i64 (k : Int)] X fun e w' => e = .returned (.slice none 0 0) ∧ Below X.heap.size X w') := fun X hX => by
    have hXb : X.heap[b]? = some (.map #[] 0) := (hX.block b (by have := hbz.1; have := hT.sz; omega)).trans hWb
    have r := hT.sv.keep (hX.block sb hT.sv.lt)
    have rm := hvs.keep (hX.block mb hvs.lt)
    refine (around_c (H := Unit) b 0 (.map []) (plainElem Try.prog 3) X ⟨#[], 0, hXb, ⟨by simp, MapKept.stamped_empty 0, by simp⟩, Nat.le_refl _, rfl⟩ (by decide) (by decide) sb mb 0 n mc k (r.cell (k := 1) rfl) hk (by rw [Nat.zero_add]; exact rm.cell hvb)).mono ?_
    rintro e w' ⟨v, ss, rfl, hp, -, hv, hb⟩
    have : ss = [] := List.perm_nil.1 hp
    exact ⟨by rw [hv.2 this], hb⟩
  have HT := hid_of hT
  have HVS := hid_of hvs
  have HVB := hid_of hvb
  have HXC : Hid (W.cell? ⟨xb, k, none⟩ = some (.slice xa (N.getD k []).length xac)) := (World.cell?_of_block (a := ⟨xb, k, none⟩) (hT.kz xb hB.fx)).trans hxc
  have HXC0 := hid_of hxc
  obtain ⟨xl, Hxl⟩ : ∃ xl, Hid ((N.getD k []).length = xl) := ⟨_, (rfl : (N.getD k []).length = _)⟩
  rw [Hxl.out] at HXC HXC0
  have hkz : (k : Int) < (n : Int) := by omega
  have HA := hid_of (HAR.out _ hbel2)
  have HB2 := hid_of hbel2
  have HWS := hid_of hT.sz
  have HNN := hid_of hn
  have HBZ := hid_of hbz
  clear hT hvs hvm hmb hvb hxc hxi hWb hbel2 HAR hn hb0 hbz
  go_enter Try.func26, Try.ntmps26
  go_wp2_with fail
  refine HA.out.mono ?_
  rintro e W1 ⟨rfl, hb1⟩
  have hbA := bel_call HB2.out hb1
  have hs1 := hb1.size
  have s0 : Row W1 W.heap.size 46 [.pointer (some ⟨sb, 0, none⟩)] := Row.keep (W := ((W.alloc (.cells #[.pointer (some ⟨sb, 0, none⟩)] 46)).alloc (.cells #[.int .i64 (k : Int)] 3))) (heap_alloc_ne _ _ _ _ (heap_alloc_eq _ _ _ rfl)) (hb1.block _ (by simp; omega))
  have s1 : Row W1 (W.heap.size + 1) 3 [.int .i64 (k : Int)] := Row.keep (W := ((W.alloc (.cells #[.pointer (some ⟨sb, 0, none⟩)] 46)).alloc (.cells #[.int .i64 (k : Int)] 3))) (heap_alloc_eq _ _ _ (by simp)) (hb1.block _ (by simp))
  simp at hs1
  go_upto_region 2 with fail
  have hbB := bel_alloc hb1 (.cells #[.slice none 0 0] 26)
  refine wp_at (fun X => Row X W.heap.size 46 [.pointer (some ⟨sb, 0, none⟩)] ∧ Row X (W.heap.size + 1) 3 [.int .i64 (k : Int)] ∧ Row X W1.heap.size 26 [.slice none 0 0] ∧ Below W.heap.size W X)
    ⟨s0.keep ((bel_alloc (bel_refl W1) _).block _ s0.lt), s1.keep ((bel_alloc (bel_refl W1) _).block _ s1.lt), heap_alloc_eq _ _ _ rfl, bel_alloc hbA _⟩ ?_
  clear s0 s1 hbB hb1 hbA
  rintro X ⟨s0, s1, s2, hX⟩
  have c0 := s0.cell (k := 0) rfl
  have c1 := s1.cell (k := 0) rfl
  have hsv := HT.out.sv.keep (hX.block sb HT.out.sv.lt)
  have cn := hsv.cell (k := 0) rfl
  have cm := hsv.cell (k := 1) rfl
  have cx : X.cell? ⟨xb, k, none⟩ = some (.slice xa xl xac) := (World.cell?_of_block (a := ⟨xb, k, none⟩) (hX.block xb (by have := hB.fx.1; have := HWS.out; omega))).trans HXC.out
  have cb : X.cell? ⟨mb, k, none⟩ = some (.map (some b)) := (HVS.out.keep (hX.block mb HVS.out.lt)).cell HVB.out
  have HS := hid_of (And.intro s0 (And.intro s1 (And.intro s2 hX)))
  have HSL : Hid (W1.heap.size < X.heap.size) := s2.lt
  have l0 := s0.lt
  have l1 := s1.lt
  have l2 := s2.lt
  have l3 := lt_of_cell cn
  have l4 := lt_of_cell cx
  have l5 := lt_of_cell cb
  dsimp only at l3 l4 l5
  clear s0 s1 s2 hX hsv
  go_cut [5, 6] (fun s5 s6 wx => ∃ o e : Nat, s5 = .pointer (some ⟨o, 0, none⟩) ∧ s6 = .pointer (some ⟨e, 0, none⟩) ∧ X.heap.size ≤ o ∧ wx.cell? ⟨o, 0, none⟩ = some (.slice xa xl xac) ∧ Below X.heap.size X wx)
  case first =>
    have hE0 : BkS X X := bel_refl X
    have hKS : ∀ Y, BkS X Y → Y.cell? ⟨W.heap.size, 0, none⟩ = some (.pointer (some ⟨sb, 0, none⟩)) ∧ Y.cell? ⟨W.heap.size + 1, 0, none⟩ = some (.int .i64 (k : Int)) ∧ Y.cell? ⟨sb, 0, none⟩ = some (.slice (some ⟨xb, 0, none⟩) n xc) ∧ Y.cell? ⟨sb, 1, none⟩ = some (.slice (some ⟨mb, 0, none⟩) n mc) ∧ Y.cell? ⟨xb, k, none⟩ = some (.slice xa xl xac) ∧ Y.cell? ⟨mb, k, none⟩ = some (.map (some b)) := fun Y hY =>
      ⟨(World.cell?_of_block (a := ⟨W.heap.size, 0, none⟩) (hY.block _ l0)).trans c0, (World.cell?_of_block (a := ⟨W.heap.size + 1, 0, none⟩) (hY.block _ l1)).trans c1, (World.cell?_of_block (a := ⟨sb, 0, none⟩) (hY.block _ l3)).trans cn, (World.cell?_of_block (a := ⟨sb, 1, none⟩) (hY.block _ l3)).trans cm, (World.cell?_of_block (a := ⟨xb, k, none⟩) (hY.block _ l4)).trans cx, (World.cell?_of_block (a := ⟨mb, k, none⟩) (hY.block _ l5)).trans cb⟩
    clear c0 c1 cn cm cx cb
    go_region_held3 (fun Y => Y.cell? ⟨W.heap.size, 0, none⟩ = some (.pointer (some ⟨sb, 0, none⟩)) ∧ Y.cell? ⟨W.heap.size + 1, 0, none⟩ = some (.int .i64 (k : Int)) ∧ Y.cell? ⟨sb, 0, none⟩ = some (.slice (some ⟨xb, 0, none⟩) n xc) ∧ Y.cell? ⟨sb, 1, none⟩ = some (.slice (some ⟨mb, 0, none⟩) n mc) ∧ Y.cell? ⟨xb, k, none⟩ = some (.slice xa xl xac) ∧ Y.cell? ⟨mb, k, none⟩ = some (.map (some b)))
      ((refine hKS _ ?_; repeat (first | exact Nat.le_refl _ | exact hE0 | refine bk_drew ?_ | refine bk_alloc ?_ _ | refine bk_set ?_ ?_ _ | (simp; omega)))) (fail)
    all_goals (try go_wp2_with fail)
    all_goals go_meet
    all_goals refine ⟨_, _, rfl, rfl, by omega, ?_, bk_drew (bk_alloc (bk_alloc hE0 _) _)⟩
    · exact Row.cell (W := X.alloc (.cells #[.slice xa xl xac] 71) |>.alloc (.cells #[.map (some b)] 67)) (e := 71) (vs := [.slice xa xl xac]) (heap_alloc_ne _ _ _ _ (heap_alloc_eq _ _ _ rfl)) (k := 0) rfl
    · exact Row.cell (W := X.alloc (.cells #[.map (some b)] 67) |>.alloc (.cells #[.slice xa xl xac] 71)) (e := 71) (vs := [.slice xa xl xac]) (heap_alloc_eq _ _ _ (by simp)) (k := 0) rfl
  case rest =>
    obtain ⟨o, e, rfl, rfl, ho, hoc, hX2⟩ := hcut
    clear c0 c1 cn cm cx cb l0 l1 l2 l3 l4 l5
    obtain ⟨s0, s1, s2, hX⟩ := HS.out
    have hXW : Below W.heap.size W wc := bel_call hX hX2
    have hlo := lt_of_cell hoc
    dsimp only at hlo
    have t0 := s0.keep (hX2.block _ s0.lt)
    have t1 := s1.keep (hX2.block _ s1.lt)
    have t2 := s2.keep (hX2.block _ s2.lt)
    have l0 := t0.lt
    have l1 := t1.lt
    have l2 := t2.lt
    have hClo : Clo (fun b => W.heap.size ≤ b ∧ b < wc.heap.size) wc W0 xb sb k (.func (.func 37) #[] #[.pointer (some ⟨o, 0, none⟩), .pointer (some ⟨W1.heap.size, 0, none⟩), .pointer (some ⟨e, 0, none⟩), .pointer (some ⟨W.heap.size, 0, none⟩), .pointer (some ⟨W.heap.size + 1, 0, none⟩)]) :=
      ⟨o, W1.heap.size, e, W.heap.size, W.heap.size + 1, rfl, ⟨⟨by have := hX.size; omega, hlo⟩, ⟨by omega, l2⟩, ⟨Nat.le_refl _, l0⟩, ⟨by omega, l1⟩⟩, hoc.trans HXC0.out.symm, ⟨_, hoc⟩, t2.cell (k := 0) rfl, t0.cell (k := 0) rfl, t1.cell (k := 0) rfl⟩
    have HUN := fun gg cap w1 ho hg hat => TkSt.undo (w1 := w1) (uv' := .slice (some ⟨gg, 0, none⟩) (k + 1) cap) (gg := gg) (cap := cap) hB HT.out hXW rfl ho hg hat hClo
    have hsv := HT.out.sv.keep (hXW.block sb HT.out.sv.lt)
    have b0 := t0.cell (k := 0) rfl
    have b2 := hsv.cell (k := 2) rfl
    have hu := owns_below HT.out.un hXW
    rw [HT.out.ul] at hu
    obtain ⟨i0, hi0, hz0, hz1, hz2⟩ := info_parts infoFn
    have hsbl := hsv.lt
    have HTS := hid_of (And.intro t0 (And.intro t1 t2))
    have HSZ : Hid (W0.heap.size ≤ wc.heap.size) := by show _ ≤ _; have := HWS.out; have := hXW.size; omega
    clear s0 s1 s2 hX hX2 hoc t0 t1 t2 hsv hClo
    go_upto_region 3 with fail
    go_cut [] (fun wx => ∃ uv' us', TkSt w W0 sb lb gb xb xc mb mc n ms (k + 1) k k uv' us' wx ∧ Row wx W.heap.size 46 [.pointer (some ⟨sb, 0, none⟩)] ∧ Row wx (W.heap.size + 1) 3 [.int .i64 (k : Int)] ∧ Row wx W1.heap.size 26 [.slice none 0 0])
    case first =>
      --[[
      clear hXW
      go_region_law (first | refine step_append_lies _ (by rfl) _ _ _ (by rfl) W0.heap.size 1 i0 _ 1 8 Try.underlying53 hi0 hz0 hz1 hz2 rfl (by omega) (.slice oa k oc) k us (by rfl) ((hu.alloc _).drew) ⟨wc.heap.size, 0, none⟩ 1 1 [.func (.func 37) #[] #[.pointer (some ⟨o, 0, none⟩), .pointer (some ⟨W1.heap.size, 0, none⟩), .pointer (some ⟨e, 0, none⟩), .pointer (some ⟨W.heap.size, 0, none⟩), .pointer (some ⟨W.heap.size + 1, 0, none⟩)]] (by rfl) (by rfl) (World.news_of_block (cs := #[.func (.func 37) #[] #[.pointer (some ⟨o, 0, none⟩), .pointer (some ⟨W1.heap.size, 0, none⟩), .pointer (some ⟨e, 0, none⟩), .pointer (some ⟨W.heap.size, 0, none⟩), .pointer (some ⟨W.heap.size + 1, 0, none⟩)]]) (t := 1) (fr := (0, 0)) (heap_alloc_new wc _)) (by simp [Value.oneCell']) (by omega) (by unfold maxLen; omega) (by omega) (by have := HSZ.out; simp; omega) (wc.heap.size + 1) (by simp) ?_; intro gg cap w1 hown1 hgrow hat hlt; obtain ⟨u1, u2, u3, u4, u5⟩ := HUN gg cap w1 hown1 hgrow hat; have u6 := (World.cell?_of_block (a := ⟨W.heap.size, 0, none⟩) (u5 W.heap.size (Nat.le_refl _) l0)).trans b0)
      all_goals (try go_wp2_with fail)
      all_goals go_meet
      all_goals exact ⟨_, _, u3, HTS.out.1.keep (u4 _ (by omega) (by omega)), HTS.out.2.1.keep (u4 _ (by omega) (by omega)), HTS.out.2.2.keep (u4 _ (by omega) (by omega))⟩
      --]]
    case rest =>
      obtain ⟨uv', us', hT2, t0, t1, t2⟩ := hcut
      clear hu hXW b0 b2 hlo l0 l1 l2 hsbl
      have b0 := t0.cell (k := 0) rfl
      have b1 := t1.cell (k := 0) rfl
      have b2 := t2.cell (k := 0) rfl
      have c1 := hT2.sv.cell (k := 1) rfl
      have c4 := hT2.sv.cell (k := 4) rfl
      obtain ⟨vs2, hv2, hvm2⟩ := hT2.mr
      have hvk := hvm2 k (Nat.le_refl _)
      obtain ⟨bb, -, hmb, -⟩ := hB.mp k (by have := HNN.out; omega)
      rw [hmb] at hvk
      have cm := hv2.cell hvk
      have fm := hv2.frozen k
      have HT2 := hid_of hT2
      have HQ := hid_of (And.intro t0 (And.intro t1 t2))
      have hmb0 := hB.hi.2.2.2
      have hgb0 := hB.hi.2.2.1
      have hws0 := HWS.out
      clear hT2 t0 t1 t2 hv2 hvm2 hvk hmb
      go_wp2_with fail
      go_loop [38] (fun s38 => s38 = .int .i64 0) (fun _ => 0)
      case atStart => rfl
      case round =>
        subst hrel
        go_wp2_with fail
        go_region
        refine k_at (fun Y => TkSt w W0 sb lb gb xb xc mb mc n ms (k + 1) k (k + 1) uv' us' Y ∧ Row Y W.heap.size 46 [.pointer (some ⟨sb, 0, none⟩)] ∧ Row Y (W.heap.size + 1) 3 [.int .i64 (k : Int)] ∧ Row Y W1.heap.size 26 [.slice none 0 0]) ⟨(HT2.out.near hB).drew1, HQ.out.1.other (by show W.heap.size ≠ mb; omega) _, HQ.out.2.1.other (by show W.heap.size + 1 ≠ mb; omega) _, HQ.out.2.2.other (by show W1.heap.size ≠ mb; omega) _⟩ ?_
        clear b0 b1 b2 c1 c4 cm fm HT2 HQ
        rintro Y ⟨hT3, t0, t1, t2⟩
        have b0 := t0.cell (k := 0) rfl
        have b1 := t1.cell (k := 0) rfl
        have b2 := t2.cell (k := 0) rfl
        have c4 := hT3.sv.cell (k := 4) rfl
        have cg := hT3.gr.cell (k := k) (v := .bool ((goneS n k).getD k true)) (by rw [bools_get (by rw [goneS_length (by omega)]; exact hk)])
        have fg := hT3.gr.frozen k
        have HT3 := hid_of hT3
        have HQ := hid_of (And.intro t0 (And.intro t1 t2))
        clear hT3 t0 t1 t2
        go_wp2_with fail
        go_region
        refine k_at (fun Y => TkSt w W0 sb lb gb xb xc mb mc n ms (k + 1) (k + 1) (k + 1) uv' us' Y ∧ Row Y W.heap.size 46 [.pointer (some ⟨sb, 0, none⟩)] ∧ Row Y (W.heap.size + 1) 3 [.int .i64 (k : Int)] ∧ Row Y W1.heap.size 26 [.slice none 0 0]) ⟨(HT3.out.gone hB hk).drew1, HQ.out.1.other (by show W.heap.size ≠ gb; omega) _, HQ.out.2.1.other (by show W.heap.size + 1 ≠ gb; omega) _, HQ.out.2.2.other (by show W1.heap.size ≠ gb; omega) _⟩ ?_
        clear b0 b1 b2 c4 cg fg HT3 HQ
        rintro Z ⟨hT4, t0, t1, t2⟩
        have b2 := t2.cell (k := 0) rfl
        have HT4 := hid_of hT4
        clear hT4 t0 t1 t2
        go_wp2_with fail
        go_end0
        exact ⟨rfl, _, _, HT4.out⟩
end Go.Proofs.Ytdomnbgjafdnjaa
