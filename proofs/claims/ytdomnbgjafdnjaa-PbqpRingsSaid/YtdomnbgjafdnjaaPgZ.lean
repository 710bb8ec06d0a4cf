/- The general solver: what lies in memory, each block under a tag of its own. -/
import Derived.Test.YtdomnbgjafdnjaaPgX
namespace Go.Proofs.Ytdomnbgjafdnjaa
open Go.RowKit Go.Maps

/-- Whose is a block? -/
inductive Tg where
  | sol | xb | mb | lb | gb | und | old
  | vec (k : Nat)
  | map (k : Nat)
  | mat (k j : Nat)
/-- A problem that is taken away: what choices cost, what pairs cost (of nodes that are gone: as it was when they went), what is gone. -/
structure PS where
  nodes : Nat → List Int
  near : Nat → Nat → Option (List (List Int))
  gone : Nat → Bool
  l : List Int
/-- The names of the blocks. -/
structure Pl where
  (sb lb gb xb xc mb mc : Nat) (vb vc pb : Nat → Nat) (cs : Nat → Nat)

/-- Node k's vector. -/
structure VecAt (L : Pl) (S : PS) (k : Nat) (W : World) : Prop where
  row : RowP W (L.vb k) 3 (ints (S.nodes k))
  len : (S.nodes k).length = L.cs k
  cap : L.cs k ≤ L.vc k ∧ 0 < L.cs k ∧ L.cs k ≤ 32
  ok : OkV (S.nodes k)
/-- Node k's map: f tells what each key holds. -/
structure MapAt (L : Pl) (ow : Nat → Tg) (n : Nat) (S : PS) (k : Nat) (f : MF) (W : World) : Prop where
  mv : IsMv W (L.pb k) n f
  dom : ∀ x, f x ≠ none → 0 ≤ x ∧ x < n
  no : ∀ j, j < n → S.near k j = none → f (j : Int) = none
  yes : ∀ j, j < n → ∀ M, S.near k j = some M → ∃ ob mc rb rc, f (j : Int) = some (.slice (some ⟨ob, 0, none⟩) (L.cs k) mc) ∧ MxAt (fun b => ow b = .mat k j) W ob (L.cs k) mc rb rc M ∧ OkM M (L.cs k) (L.cs j)
/-- What is to be done behind for node k, its neighbours being ns. -/
def CloG (L : Pl) (ow : Nat → Tg) (k : Nat) (ns : List Int) (u : Value) (W : World) : Prop :=
  ∃ (o l e s q lc : Nat) (la : Option Addr), u = .func (.func 37) #[] #[.pointer (some ⟨o, 0, none⟩), .pointer (some ⟨l, 0, none⟩), .pointer (some ⟨e, 0, none⟩), .pointer (some ⟨s, 0, none⟩), .pointer (some ⟨q, 0, none⟩)] ∧
    (ow o = .old ∧ ow l = .old ∧ ow e = .old ∧ ow s = .old ∧ ow q = .old) ∧ W.cell? ⟨o, 0, none⟩ = some (.slice (some ⟨L.vb k, 0, none⟩) (L.cs k) (L.vc k)) ∧
    (W.cell? ⟨l, 0, none⟩ = some (.slice la ns.length lc) ∧ IsInts (fun b => ow b = .old) W (.slice la ns.length lc) ns) ∧ W.cell? ⟨e, 0, none⟩ = some (.map (some (L.pb k))) ∧
    W.cell? ⟨s, 0, none⟩ = some (.pointer (some ⟨L.sb, 0, none⟩)) ∧ W.cell? ⟨q, 0, none⟩ = some (.int .i64 (k : Int))
/-- The solver in memory. -/
structure SS (w : World) (L : Pl) (ow : Nat → Tg) (n : Nat) (S : PS) (us : List (Nat × List Int)) (uv : Value) (uvs : List Value) (W : World) : Prop where
  sv : Row W L.sb 56 [.slice (some ⟨L.xb, 0, none⟩) n L.xc, .slice (some ⟨L.mb, 0, none⟩) n L.mc, uv, .slice (some ⟨L.lb, 0, none⟩) n n, .slice (some ⟨L.gb, 0, none⟩) n n]
  lr : Row W L.lb 3 (ints S.l)
  ll : S.l.length = n ∧ ∀ k, k < n → 0 ≤ S.l.getD k 0 ∧ S.l.getD k 0 < L.cs k
  gr : Row W L.gb 4 (bools ((List.range n).map S.gone))
  xr : ∃ xs, RowP W L.xb 71 xs ∧ ∀ k, k < n → xs[k]? = some (.slice (some ⟨L.vb k, 0, none⟩) (L.cs k) (L.vc k))
  mr : ∃ ms, RowP W L.mb 67 ms ∧ n ≤ ms.length ∧ ∀ k, k < n → S.gone k = false → ms[k]? = some (.map (some (L.pb k)))
  vr : ∀ k, k < n → VecAt L S k W
  pr : ∀ k, k < n → ∃ f, MapAt L ow n S k f W
  un : W.ownsRow w.heap.size 1 1 uv uvs.length uvs
  ul : uvs.length = us.length
  cl : ∀ j (h : j < uvs.length), CloG L ow (us.getD j (0, [])).1 (us.getD j (0, [])).2 uvs[j] W
  ts : ow L.sb = .sol ∧ ow L.lb = .lb ∧ ow L.gb = .gb ∧ ow L.xb = .xb ∧ ow L.mb = .mb
  tv : ∀ k, k < n → ow (L.vb k) = .vec k ∧ ow (L.pb k) = .map k
  tu : ∀ b, uv.ownBlock = some b → ow b = .und
  nw : ∀ b, W.heap.size ≤ b → ow b = .old
  tl : ∀ b k j, ow b = .mat k j → w.heap.size ≤ b
  lo : w.heap.size ≤ L.sb ∧ w.heap.size ≤ L.lb ∧ w.heap.size ≤ L.gb ∧ w.heap.size ≤ L.mb ∧ ∀ k, k < n → w.heap.size ≤ L.vb k ∧ w.heap.size ≤ L.pb k
  bel : Below w.heap.size w W

/-- Blocks of other tags than these are as they were. -/
def KT (ow : Nat → Tg) (t : Tg → Prop) (W W' : World) : Prop := ∀ b, b < W.heap.size → ¬ t (ow b) → W'.heap[b]? = W.heap[b]?
section
variable {w W W' : World} {L : Pl} {ow : Nat → Tg} {n : Nat} {S : PS} {us : List (Nat × List Int)} {uv : Value} {uvs : List Value} {t : Tg → Prop}
theorem VecAt.keep {k : Nat} (h : VecAt L S k W) (hk : W'.heap[L.vb k]? = W.heap[L.vb k]?) : VecAt L S k W' := ⟨h.row.keep hk, h.len, h.cap, h.ok⟩
theorem MapAt.keep {k : Nat} {f : MF} (h : MapAt L ow n S k f W) (hp : W'.heap[L.pb k]? = W.heap[L.pb k]?) (hk : KT ow t W W') (ht : ∀ j, ¬ t (.mat k j)) : MapAt L ow n S k f W' :=
  ⟨h.mv.keep hp, h.dom, h.no, fun j hj M hM => by
    obtain ⟨ob, mc, rb, rc, h1, h2, h3⟩ := h.yes j hj M hM
    exact ⟨ob, mc, rb, rc, h1, h2.keep (fun b hb hlt => ⟨hb, hk b hlt (by rw [hb]; exact ht j)⟩), h3⟩⟩
theorem CloG.keep {k : Nat} {ns : List Int} {u : Value} (h : CloG L ow k ns u W) (hk : KT ow t W W') (ht : ¬ t .old) : CloG L ow k ns u W' := by
  obtain ⟨o, l, e, s, q, lc, la, hu, ⟨t1, t2, t3, t4, t5⟩, c1, ⟨c2, c2'⟩, c3, c4, c5⟩ := h
  have k1 : ∀ b, ow b = .old → ∀ {o : Nat} {v : Value}, W.cell? ⟨b, o, none⟩ = some v → W'.cell? ⟨b, o, none⟩ = some v := fun b hb o v hc => (World.cell?_of_block (a := ⟨b, o, none⟩) (hk b (lt_of_cell hc) (by rw [hb]; exact ht))).trans hc
  exact ⟨o, l, e, s, q, lc, la, hu, ⟨t1, t2, t3, t4, t5⟩, k1 o t1 c1, ⟨k1 l t2 c2, c2'.keep (fun b hb hlt => ⟨hb, hk b hlt (by rw [hb]; exact ht)⟩)⟩, k1 e t3 c3, k1 s t4 c4, k1 q t5 c5⟩
theorem SS.svK (h : SS w L ow n S us uv uvs W) (hk : KT ow t W W') (ht : ¬ t .sol) : W'.heap[L.sb]? = W.heap[L.sb]? := hk _ h.sv.lt (by rw [h.ts.1]; exact ht)
theorem SS.lrK (h : SS w L ow n S us uv uvs W) (hk : KT ow t W W') (ht : ¬ t .lb) : W'.heap[L.lb]? = W.heap[L.lb]? := hk _ h.lr.lt (by rw [h.ts.2.1]; exact ht)
theorem SS.grK (h : SS w L ow n S us uv uvs W) (hk : KT ow t W W') (ht : ¬ t .gb) : W'.heap[L.gb]? = W.heap[L.gb]? := hk _ h.gr.lt (by rw [h.ts.2.2.1]; exact ht)
theorem SS.xrK (h : SS w L ow n S us uv uvs W) (hk : KT ow t W W') (ht : ¬ t .xb) : ∃ xs, RowP W' L.xb 71 xs ∧ ∀ k, k < n → xs[k]? = some (.slice (some ⟨L.vb k, 0, none⟩) (L.cs k) (L.vc k)) := by
  obtain ⟨xs, h1, h2⟩ := h.xr
  exact ⟨xs, h1.keep (hk _ h1.lt (by rw [h.ts.2.2.2.1]; exact ht)), h2⟩
theorem SS.mrK (h : SS w L ow n S us uv uvs W) (hk : KT ow t W W') (ht : ¬ t .mb) : ∃ ms, RowP W' L.mb 67 ms ∧ n ≤ ms.length ∧ ∀ k, k < n → S.gone k = false → ms[k]? = some (.map (some (L.pb k))) := by
  obtain ⟨ms, h1, h2⟩ := h.mr
  exact ⟨ms, h1.keep (hk _ h1.lt (by rw [h.ts.2.2.2.2]; exact ht)), h2⟩
theorem SS.vrK (h : SS w L ow n S us uv uvs W) (hk : KT ow t W W') {k : Nat} (hkn : k < n) (ht : ¬ t (.vec k)) : VecAt L S k W' := (h.vr k hkn).keep (hk _ (h.vr k hkn).row.lt (by rw [(h.tv k hkn).1]; exact ht))
theorem SS.prK (h : SS w L ow n S us uv uvs W) (hk : KT ow t W W') {k : Nat} (hkn : k < n) (ht : ¬ t (.map k)) (ht2 : ∀ j, ¬ t (.mat k j)) : ∃ f, MapAt L ow n S k f W' := by
  obtain ⟨f, hf⟩ := h.pr k hkn
  exact ⟨f, hf.keep (hk _ hf.mv.lt (by rw [(h.tv k hkn).2]; exact ht)) hk ht2⟩
theorem SS.unK (h : SS w L ow n S us uv uvs W) (hk : KT ow t W W') (ht : ¬ t .und) : W'.ownsRow w.heap.size 1 1 uv uvs.length uvs := by
  have hlt := h.un.lt
  obtain ⟨h1, h2⟩ := h.un
  refine ⟨h1, ?_⟩
  rcases h2 with h2 | ⟨g, cap, cur, hv, hg, hh, r⟩
  · exact .inl h2
  · refine .inr ⟨g, cap, cur, hv, hg, (hk g (lt_of_block hh) ?_).trans hh, r⟩
    rw [h.tu g (by rw [hv]; rfl)]
    exact ht
theorem KT.below (hb : Below W.heap.size W W') : KT ow (fun _ => False) W W' := fun b hlt _ => hb.block b hlt
/-- New blocks alone. -/
theorem SS.below (h : SS w L ow n S us uv uvs W) (hb : Below W.heap.size W W') : SS w L ow n S us uv uvs W' := by
  have hk : KT ow (fun _ => False) W W' := KT.below hb
  exact ⟨h.sv.keep (h.svK hk id), h.lr.keep (h.lrK hk id), h.ll, h.gr.keep (h.grK hk id), h.xrK hk id, h.mrK hk id, fun k hkn => h.vrK hk hkn id, fun k hkn => h.prK hk hkn id (fun _ => id), h.unK hk id, h.ul, fun j hj => (h.cl j hj).keep hk id, h.ts, h.tv, h.tu,
    fun b hb2 => h.nw b (by have := hb.size; omega), h.tl, h.lo, bel_call h.bel hb⟩
theorem SS.drewN (h : SS w L ow n S us uv uvs W) (q : Nat) : SS w L ow n S us uv uvs (W.drewN q) := h.below (bel_drewN (bel_refl W) q)
end
end Go.Proofs.Ytdomnbgjafdnjaa
