/- The solver in memory: a key goes, a node goes, a vector turns, one thing more is to be done behind. -/
import Derived.Test.YtdomnbgjafdnjaaPgZ
namespace Go.Proofs.Ytdomnbgjafdnjaa
open Go.RowKit Go.Maps Go.ChangeMaps

def PS.drop (S : PS) (m k : Nat) : PS := { S with near := fun a b => if a = m ∧ b = k then none else S.near a b }
def PS.out (S : PS) (k : Nat) : PS := { S with gone := fun j => if j = k then true else S.gone j }
def PS.vec (S : PS) (m : Nat) (ys : List Int) : PS := { S with nodes := fun j => if j = m then ys else S.nodes j }
/-- A node's neighbours. -/
def nsS (S : PS) (n k : Nat) : List Int := ((List.range n).map fun (i : Nat) => (i : Int)).filter fun x => (S.near k x.toNat).isSome
theorem mem_nsS {S : PS} {n k : Nat} {x : Int} : x ∈ nsS S n k ↔ (0 ≤ x ∧ x < n) ∧ (S.near k x.toNat).isSome = true := by
  unfold nsS
  rw [List.mem_filter, List.mem_map]
  refine and_congr ⟨?_, fun h => ⟨x.toNat, List.mem_range.2 (by omega), by omega⟩⟩ Iff.rfl
  rintro ⟨i, hi, rfl⟩
  have := List.mem_range.1 hi
  omega
theorem nsS_length (S : PS) (n k : Nat) : (nsS S n k).length ≤ n := Nat.le_trans (List.length_filter_le _ _) (by simp)
section
variable {w W W' wc w1 : World} {L : Pl} {ow ow' : Nat → Tg} {n : Nat} {S S' : PS} {us : List (Nat × List Int)} {uv uv' cv : Value} {uvs : List Value} {t : Tg → Prop}
theorem MapAt.keys {k : Nat} {f : MF} (h : MapAt L ow n S k f W) : keysF f n = nsS S n k := by
  unfold keysF nsS
  refine List.filter_congr fun x hx => ?_
  obtain ⟨i, hi, rfl⟩ := List.mem_map.1 hx
  have hi := List.mem_range.1 hi
  simp only [Int.toNat_natCast]
  cases hn : S.near k i with
  | none => rw [h.no i hi hn]; rfl
  | some M =>
    obtain ⟨ob, mc, rb, rc, hf, -⟩ := h.yes i hi M hn
    rw [hf]
    rfl
theorem MapAt.of_near {k : Nat} {f : MF} (h : MapAt L ow n S k f W) (he : ∀ j, S'.near k j = S.near k j) : MapAt L ow n S' k f W :=
  ⟨h.mv, h.dom, fun j hj hn => h.no j hj (by rw [← he]; exact hn), fun j hj M hM => h.yes j hj M (by rw [← he]; exact hM)⟩
theorem MapAt.keep2 {k : Nat} {f : MF} (h : MapAt L ow n S k f W) (hp : W'.heap[L.pb k]? = W.heap[L.pb k]?) (hk : ∀ b j, b < W.heap.size → ow b = .mat k j → ow' b = .mat k j ∧ W'.heap[b]? = W.heap[b]?) : MapAt L ow' n S k f W' :=
  ⟨h.mv.keep hp, h.dom, h.no, fun j hj M hM => by
    obtain ⟨ob, mc, rb, rc, h1, h2, h3⟩ := h.yes j hj M hM
    exact ⟨ob, mc, rb, rc, h1, h2.keep (fun b hb hlt => hk b j hlt hb), h3⟩⟩
theorem CloG.keep2 {k : Nat} {ns : List Int} {u : Value} (h : CloG L ow k ns u W) (hk : ∀ b, b < W.heap.size → ow b = .old → ow' b = .old ∧ W'.heap[b]? = W.heap[b]?) : CloG L ow' k ns u W' := by
  obtain ⟨o, l, e, s, q, lc, la, hu, ⟨t1, t2, t3, t4, t5⟩, c1, ⟨c2, c2'⟩, c3, c4, c5⟩ := h
  have k1 : ∀ b, ow b = .old → ∀ {v : Value}, W.cell? ⟨b, 0, none⟩ = some v → ow' b = .old ∧ W'.cell? ⟨b, 0, none⟩ = some v := fun b hb v hc => ⟨(hk b (lt_of_cell hc) hb).1, (World.cell?_of_block (a := ⟨b, 0, none⟩) (hk b (lt_of_cell hc) hb).2).trans hc⟩
  exact ⟨o, l, e, s, q, lc, la, hu, ⟨(k1 o t1 c1).1, (k1 l t2 c2).1, (k1 e t3 c3).1, (k1 s t4 c4).1, (k1 q t5 c5).1⟩, (k1 o t1 c1).2, ⟨(k1 l t2 c2).2, c2'.keep (fun b hb hlt => hk b hlt hb)⟩, (k1 e t3 c3).2, (k1 s t4 c4).2, (k1 q t5 c5).2⟩

/-- Nothing but what is told anew has turned. -/
theorem SS.re (h : SS w L ow n S us uv uvs W) (hk : KT ow t W W') (hs : W.heap.size ≤ W'.heap.size) (ht : ¬ t .sol ∧ ¬ t .lb ∧ ¬ t .xb ∧ ¬ t .und ∧ ¬ t .old) (ht2 : ∀ k, ¬ t (.map k)) (ht3 : ∀ k j, ¬ t (.mat k j)) (hb : Below w.heap.size w W')
    (gr' : Row W' L.gb 4 (bools ((List.range n).map S'.gone))) (mr' : ∃ ms, RowP W' L.mb 67 ms ∧ n ≤ ms.length ∧ ∀ k, k < n → S'.gone k = false → ms[k]? = some (.map (some (L.pb k)))) (vr' : ∀ k, k < n → VecAt L S' k W') (hn : ∀ a b, S'.near a b = S.near a b) (hl : S'.l = S.l) :
    SS w L ow n S' us uv uvs W' :=
  ⟨h.sv.keep (h.svK hk ht.1), by rw [hl]; exact h.lr.keep (h.lrK hk ht.2.1), by rw [hl]; exact h.ll, gr', h.xrK hk ht.2.2.1, mr', vr', fun k hkn => by
      obtain ⟨f, hf⟩ := h.prK hk hkn (ht2 k) (fun j => ht3 k j)
      exact ⟨f, hf.of_near (hn k)⟩,
    h.unK hk ht.2.2.2.1, h.ul, fun j hj => (h.cl j hj).keep hk ht.2.2.2.2, h.ts, h.tv, h.tu, fun b hb2 => h.nw b (by omega), h.tl, h.lo, hb⟩
/-- A key goes. -/
theorem SS.dele (h : SS w L ow n S us uv uvs W) {m k : Nat} (hm : m < n) (_ : k < n) {f : MF} (hf : MapAt L ow n S m f W) (hM : IsMv W' (L.pb m) n (delF f (k : Int))) (ht : W.mapTurned W' (L.pb m)) : SS w L ow n (S.drop m k) us uv uvs W' := by
  have hg := ht.grown
  have hk : KT ow (fun t => t = .map m) W W' := fun b hb hne => hg.block b hb (fun e => hne (by
    have : b = L.pb m := by simpa using e
    rw [this]; exact (h.tv m hm).2))
  have hlo := (h.lo.2.2.2.2 m hm).2
  refine ⟨h.sv.keep (h.svK hk (by simp)), h.lr.keep (h.lrK hk (by simp)), h.ll, h.gr.keep (h.grK hk (by simp)), h.xrK hk (by simp), h.mrK hk (by simp), fun j hj => ?_, fun j hj => ?_, h.unK hk (by simp), h.ul, fun j hj => (h.cl j hj).keep hk (by simp), h.ts, h.tv, h.tu, fun b hb => h.nw b (by have := hg.size; omega), h.tl, h.lo,
    h.bel.grown hg h.bel.size (fun b hb => by cases hb; exact hlo)⟩
  · have := h.vrK hk hj (by simp)
    exact ⟨this.row, this.len, this.cap, this.ok⟩
  · by_cases e : j = m
    · subst e
      refine ⟨_, hM, fun x hx => ?_, fun i hi hn => ?_, fun i hi M hM2 => ?_⟩
      · refine hf.dom x fun hx2 => hx ?_
        unfold delF; split <;> simp [hx2]
      · unfold delF
        by_cases e2 : i = k
        · subst e2; simp
        · have e3 : ¬ (i : Int) = (k : Int) := by omega
          rw [if_neg e3]
          exact hf.no i hi (by simpa [PS.drop, e2] using hn)
      · by_cases e2 : i = k
        · subst e2; simp [PS.drop] at hM2
        · have e3 : ¬ (i : Int) = (k : Int) := by omega
          obtain ⟨ob, mc, rb, rc, h1, h2, h3⟩ := hf.yes i hi M (by simpa [PS.drop, e2] using hM2)
          refine ⟨ob, mc, rb, rc, ?_, h2.keep (fun b hb hlt => ⟨hb, hk b hlt (by rw [hb]; simp)⟩), h3⟩
          unfold delF; rw [if_neg e3]; exact h1
    · obtain ⟨f', hf'⟩ := h.prK hk hj (by simp [e]) (by simp)
      exact ⟨f', hf'.of_near (fun i => by simp [PS.drop, e])⟩
/-- A node goes: between the two writes. -/
structure Half (w : World) (L : Pl) (ow : Nat → Tg) (n : Nat) (S : PS) (us : List (Nat × List Int)) (uv : Value) (uvs : List Value) (k : Nat) (W Y : World) : Prop where
  ss : SS w L ow n S us uv uvs W
  kt : KT ow (fun t => t = .mb) W Y
  sz : W.heap.size ≤ Y.heap.size
  bel : Below w.heap.size w Y
  mr : ∃ ms, RowP Y L.mb 67 ms ∧ n ≤ ms.length ∧ ∀ j, j < n → j ≠ k → S.gone j = false → ms[j]? = some (.map (some (L.pb j)))
theorem SS.half (h : SS w L ow n S us uv uvs W) {k : Nat} (hk : k < n) : Half w L ow n S us uv uvs k W (W.setCell ⟨L.mb, k, none⟩ (.map none)) := by
  refine ⟨h, fun b hb hne => Below.heap_setCell _ _ _ _ (by rintro rfl; exact hne h.ts.2.2.2.2), by simp, h.bel.setCell (show w.heap.size ≤ (⟨L.mb, k, none⟩ : Addr).block from h.lo.2.2.2.1) (.map none), ?_⟩
  obtain ⟨ms, h1, h2, h3⟩ := h.mr
  refine ⟨ms.set k (.map none), h1.set (k := k) (by omega) (.map none), by simpa using h2, fun j hj e hgj => ?_⟩
  rw [List.getElem?_set_ne (by omega)]
  exact h3 j hj hgj
theorem Half.drew1 {k : Nat} (h : Half w L ow n S us uv uvs k W W') : Half w L ow n S us uv uvs k W W'.drew := ⟨h.ss, h.kt, h.sz, h.bel.drew, h.mr⟩
theorem Half.sv {k : Nat} (h : Half w L ow n S us uv uvs k W W') : W'.heap[L.sb]? = W.heap[L.sb]? := h.ss.svK h.kt (by simp)
theorem Half.gr {k : Nat} (h : Half w L ow n S us uv uvs k W W') : W'.heap[L.gb]? = W.heap[L.gb]? := h.ss.grK h.kt (by simp)
theorem Half.done {k : Nat} (h : Half w L ow n S us uv uvs k W W') (_hk : k < n) : SS w L ow n (S.out k) us uv uvs (W'.setCell ⟨L.gb, k, none⟩ (.bool true)) := by
  have hk2 : KT ow (fun t => t = .mb ∨ t = .gb) W (W'.setCell ⟨L.gb, k, none⟩ (.bool true)) := fun b hb hne =>
    (Below.heap_setCell _ _ _ _ (by rintro rfl; exact hne (.inr h.ss.ts.2.2.1))).trans (h.kt b hb fun e => hne (.inl e))
  have e : (bools ((List.range n).map S.gone)).set k (.bool true) = bools ((List.range n).map (S.out k).gone) := by
    rw [bools_set]
    congr 1
    refine List.ext_getElem (by simp) fun j h1 h2 => ?_
    rw [List.getElem_set]
    by_cases e : k = j
    · subst e; simp [PS.out]
    · have : ¬ j = k := fun h => e h.symm
      simp [e, this, PS.out]
  have hgr := (h.ss.gr.keep h.gr).set k (.bool true)
  rw [e] at hgr
  have hmg : L.mb ≠ L.gb := fun e => by have h1 := h.ss.ts.2.2.1; rw [← e, h.ss.ts.2.2.2.2] at h1; simp at h1
  refine h.ss.re hk2 (by simpa using h.sz) (by simp) (by simp) (by simp) (h.bel.setCell (show w.heap.size ≤ (⟨L.gb, k, none⟩ : Addr).block from h.ss.lo.2.2.1) _) hgr ?_ (fun j hj => ?_) (fun _ _ => rfl) rfl
  · obtain ⟨ms, h1, h2, h3⟩ := h.mr
    refine ⟨ms, h1.keep (Below.heap_setCell _ _ _ _ hmg), h2, fun j hj hgj => ?_⟩
    by_cases e : j = k
    · simp [PS.out, e] at hgj
    · exact h3 j hj e (by simpa [PS.out, e] using hgj)
  · have := h.ss.vrK hk2 hj (by simp)
    exact ⟨this.row, this.len, this.cap, this.ok⟩
/-- A vector turns. -/
theorem SS.turn (h : SS w L ow n S us uv uvs W) {m : Nat} (hm : m < n) {ys : List Int} (hr : RowP W' (L.vb m) 3 (ints ys)) (hy : ys.length = L.cs m) (ho : OkV ys) (h2 : Only2 (L.vb m) W W') : SS w L ow n (S.vec m ys) us uv uvs W' := by
  have hk : KT ow (fun t => t = .vec m) W W' := fun b hb hne => h2.kq b hb (by rintro rfl; exact hne (h.tv m hm).1)
  refine h.re hk h2.sz (by simp) (by simp) (by simp) (h2.bel _ _ h.bel (h.lo.2.2.2.2 m hm).1) (h.gr.keep (h.grK hk (by simp))) (h.mrK hk (by simp)) (fun j hj => ?_) (fun _ _ => rfl) rfl
  by_cases e : j = m
  · subst e
    have e1 : (S.vec j ys).nodes j = ys := by simp [PS.vec]
    exact ⟨by rw [e1]; exact hr, by rw [e1]; exact hy, (h.vr j hj).cap, by rw [e1]; exact ho⟩
  · have h3 := h.vrK hk hj (by simp [e])
    have e1 : (S.vec m ys).nodes j = S.nodes j := by simp [PS.vec, e]
    exact ⟨by rw [e1]; exact h3.row, by rw [e1]; exact h3.len, h3.cap, by rw [e1]; exact h3.ok⟩
/-- One thing more is to be done behind. -/
theorem SS.undo (h : SS w L ow n S us uv uvs W) (hX : Below W.heap.size W wc) {k : Nat} {ns : List Int} {gg cap : Nat} (hv : uv' = .slice (some ⟨gg, 0, none⟩) (uvs.length + 1) cap)
    (ho : w1.ownsRow w.heap.size 1 1 uv' (uvs.length + 1) (uvs ++ [cv])) (hg : ((wc.alloc (.cells #[cv] 1)).drew).grownBy w1 uv.ownBlock) (hat : uv.ownBlock = some gg ∨ gg = wc.heap.size + 1)
    (hc : CloG L ow k ns cv wc) :
    w1.cell? ⟨L.sb, 2, none⟩ = some uv ∧ w1.frozen? ⟨L.sb, 2, none⟩ = false ∧ (∃ ow', SS w L ow' n S (us ++ [(k, ns)]) uv' (uvs ++ [cv]) (w1.setCell ⟨L.sb, 2, none⟩ uv') ∧ ∀ b, b < wc.heap.size → ow b = .old → ow' b = .old) ∧
      (∀ b, b < wc.heap.size → ow b = .old → (w1.setCell ⟨L.sb, 2, none⟩ uv').heap[b]? = wc.heap[b]?) ∧ ∀ b, b < wc.heap.size → ow b = .old → w1.heap[b]? = wc.heap[b]? := by
  have hxs := hX.size
  have hub : ∀ b, uv.ownBlock = some b → w.heap.size ≤ b ∧ b < W.heap.size := fun b hb => h.un.lt b hb
  have hgl := ho.lt gg (by rw [hv]; rfl)
  have hgo : ow gg = .und ∨ (ow gg = .old ∧ wc.heap.size ≤ gg) := by
    rcases hat with e | e
    · exact .inl (h.tu gg e)
    · exact .inr ⟨h.nw gg (by omega), by omega⟩
  have hne : ∀ b, ow b ≠ .und → some b ≠ uv.ownBlock := fun b hb e => hb (h.tu b e.symm)
  have k1 : ∀ b, b < wc.heap.size → ow b ≠ .und → w1.heap[b]? = wc.heap[b]? := fun b hb hn => (hg.block b (by simp; omega) (hne b hn)).trans (by show (wc.alloc _).heap[b]? = _; exact Below.heap_alloc _ _ _ hb)
  have k3 : ∀ b, b ≠ L.sb → (w1.setCell ⟨L.sb, 2, none⟩ uv').heap[b]? = w1.heap[b]? := fun b hb => Below.heap_setCell _ _ _ _ hb
  have hso : ∀ b, ow b = .old → b ≠ L.sb := fun b hb e => by rw [e, h.ts.1] at hb; simp at hb
  have kt : KT ow (fun t => t = .sol ∨ t = .und) W (w1.setCell ⟨L.sb, 2, none⟩ uv') := fun b hb hne => ((k3 b (by rintro rfl; exact hne (.inl h.ts.1))).trans (k1 b (by omega) fun e => hne (.inr e))).trans (hX.block b hb)
  have hsl := h.sv.lt
  have hsv := h.sv.keep ((k1 L.sb (by omega) (by rw [h.ts.1]; simp)).trans (hX.block L.sb hsl))
  have hb1 : Below w.heap.size w w1 := bel_grown ((bel_alloc (bel_call h.bel hX) _).drew) hg (fun b e => (hub b e).1)
  have hgs : gg ≠ L.sb := fun e => by rcases hgo with e2 | ⟨e2, -⟩ <;> (rw [e, h.ts.1] at e2; simp at e2)
  have hoo : ∀ b, b < wc.heap.size → ow b = .old → b ≠ gg := fun b hb hbo e => by
    rcases hgo with e2 | ⟨-, e2⟩
    · rw [← e, hbo] at e2; simp at e2
    · omega
  have hne2 : ∀ b, ow b ≠ .und → ow b ≠ .old → b ≠ gg := fun b h1 h2 e => by
    rcases hgo with e2 | ⟨e2, -⟩
    · exact h1 (by rw [e]; exact e2)
    · exact h2 (by rw [e]; exact e2)
  refine ⟨hsv.cell (k := 2) rfl, hsv.frozen 2, ⟨fun b => if b = gg then .und else ow b, ⟨hsv.set 2 uv', h.lr.keep (h.lrK kt (by simp)), h.ll, h.gr.keep (h.grK kt (by simp)), h.xrK kt (by simp), h.mrK kt (by simp), fun j hj => h.vrK kt hj (by simp), fun j hj => ?_, ?_, by simp [h.ul], fun j hj => ?_, ?_, fun j hj => ?_, fun b hb => ?_, fun b hb => ?_, fun b k2 j hb => ?_, h.lo, hb1.setCell (by show w.heap.size ≤ L.sb; exact h.lo.1) _⟩, fun b hb hbo => ?_⟩, fun b hb hbo => (k3 b (hso b hbo)).trans (k1 b hb (by rw [hbo]; simp)), fun b hb hbo => k1 b hb (by rw [hbo]; simp)⟩
  · obtain ⟨f, hf⟩ := h.pr j hj
    refine ⟨f, hf.keep2 (kt _ hf.mv.lt (by rw [(h.tv j hj).2]; simp)) (fun b i hlt hb => ⟨?_, kt b hlt (by rw [hb]; simp)⟩)⟩
    show (if b = gg then Tg.und else ow b) = _
    rw [if_neg (hne2 b (by rw [hb]; simp) (by rw [hb]; simp))]
    exact hb
  · rw [show (uvs ++ [cv]).length = uvs.length + 1 by simp]
    refine ho.kept (kept_set ⟨L.sb, 2, none⟩ uv') ?_
    rw [hv]
    exact .inr (by show some gg ≠ some L.sb; simp; exact hgs)
  · by_cases hjl : j < uvs.length
    · rw [List.getElem_append_left hjl]
      have e1 : (us ++ [(k, ns)]).getD j (0, []) = us.getD j (0, []) := by simp [List.getD, List.getElem?_append_left (show j < us.length by have := h.ul; omega)]
      rw [e1]
      refine (h.cl j hjl).keep2 (fun b hlt hbo => ⟨?_, kt b hlt (by rw [hbo]; simp)⟩)
      show (if b = gg then Tg.und else ow b) = _
      rw [if_neg (hoo b (by omega) hbo)]
      exact hbo
    · have hje : j = uvs.length := by simp at hj; omega
      subst hje
      rw [List.getElem_append_right (Nat.le_refl _)]
      have e1 : (us ++ [(k, ns)]).getD uvs.length (0, []) = (k, ns) := by rw [h.ul]; simp [List.getD]
      rw [e1]
      simp only [Nat.sub_self, List.getElem_cons_zero]
      refine hc.keep2 (fun b hlt hbo => ⟨?_, (k3 b (hso b hbo)).trans (k1 b hlt (by rw [hbo]; simp))⟩)
      show (if b = gg then Tg.und else ow b) = _
      rw [if_neg (hoo b hlt hbo)]
      exact hbo
  · have f : ∀ b, ow b ≠ .und → ow b ≠ .old → (if b = gg then Tg.und else ow b) = ow b := fun b h1 h2 => if_neg (hne2 b h1 h2)
    obtain ⟨a1, a2, a3, a4, a5⟩ := h.ts
    exact ⟨(f _ (by simp [a1]) (by simp [a1])).trans a1, (f _ (by simp [a2]) (by simp [a2])).trans a2, (f _ (by simp [a3]) (by simp [a3])).trans a3, (f _ (by simp [a4]) (by simp [a4])).trans a4, (f _ (by simp [a5]) (by simp [a5])).trans a5⟩
  · have f : ∀ b, ow b ≠ .und → ow b ≠ .old → (if b = gg then Tg.und else ow b) = ow b := fun b h1 h2 => if_neg (hne2 b h1 h2)
    obtain ⟨a1, a2⟩ := h.tv j hj
    exact ⟨(f _ (by simp [a1]) (by simp [a1])).trans a1, (f _ (by simp [a2]) (by simp [a2])).trans a2⟩
  · rw [hv] at hb
    have : gg = b := by simpa [Value.ownBlock] using hb
    show (if b = gg then Tg.und else ow b) = _
    rw [if_pos this.symm]
  · have h1 : w1.heap.size ≤ b := by simpa using hb
    have h2 := hg.size
    simp at h2
    show (if b = gg then Tg.und else ow b) = _
    rw [if_neg (by omega)]
    exact h.nw b (by omega)
  · by_cases e : b = gg
    · simp only [if_pos e] at hb
      simp at hb
    · simp only [if_neg e] at hb
      exact h.tl b _ _ hb
  · show (if b = gg then Tg.und else ow b) = _
    rw [if_neg (hoo b hb hbo)]
    exact hbo
/-- 'delete(m, x)' at the operation. -/
theorem wp_dele {b nn : Nat} {f : MF} {ops : Array Oper} {rest : List Oper} {o : Oper} {a : Act} {Q : Exit → Act → World → Prop} (hg : o.guard = none) (m k : Operand) (hop : o.op = Op.call { callee := Callee.builtin Builtin.delete, args := #[m, k], argTypes := #[67, 3] })
    (h : IsMv W b nn f) (x : Int) (hm : a.eval m = .map (some b)) (hk : a.eval k = .int .i64 x) (hx : In64 x)
    (hK : ∀ W', IsMv W' b nn (delF f x) → W.mapTurned W' b → wpList Try.prog ops Q rest (a.put o.dst (.tuple #[])) W') : wpList Try.prog ops Q (o :: rest) a W := by
  refine wpList_plain hg fun K' hK' => ?_
  obtain ⟨W', hr, h1, h2⟩ := h.dele hx o.type
  unfold Oper.wp
  simp [execOp, hop, resolve, invoke, builtin, hm, hk, hr, Result.andThen]
  exact hK' _ _ (hK W' h1 h2)
/-- The variables of 'take'. -/
structure TkB (L : Pl) (ow : Nat → Tg) (k B C o e : Nat) (la : Option Addr) (lc : Nat) (ns : List Int) (W : World) : Prop where
  b0 : Row W B 46 [.pointer (some ⟨L.sb, 0, none⟩)]
  b1 : Row W (B + 1) 3 [.int .i64 (k : Int)]
  b2 : Row W C 26 [.slice la ns.length lc]
  bo : Row W o 71 [.slice (some ⟨L.vb k, 0, none⟩) (L.cs k) (L.vc k)]
  be : Row W e 67 [.map (some (L.pb k))]
  ts : ow B = .old ∧ ow (B + 1) = .old ∧ ow C = .old ∧ ow o = .old ∧ ow e = .old
  ni : IsInts (fun b => ow b = .old) W (.slice la ns.length lc) ns
theorem TkB.keep {k B C o e lc : Nat} {la : Option Addr} {ns : List Int} (h : TkB L ow k B C o e la lc ns W) (hk : ∀ b, b < W.heap.size → ow b = .old → ow' b = .old ∧ W'.heap[b]? = W.heap[b]?) : TkB L ow' k B C o e la lc ns W' := by
  obtain ⟨t1, t2, t3, t4, t5⟩ := h.ts
  exact ⟨h.b0.keep (hk _ h.b0.lt t1).2, h.b1.keep (hk _ h.b1.lt t2).2, h.b2.keep (hk _ h.b2.lt t3).2, h.bo.keep (hk _ h.bo.lt t4).2, h.be.keep (hk _ h.be.lt t5).2, ⟨(hk _ h.b0.lt t1).1, (hk _ h.b1.lt t2).1, (hk _ h.b2.lt t3).1, (hk _ h.bo.lt t4).1, (hk _ h.be.lt t5).1⟩, h.ni.keep (fun b hb hlt => hk b hlt hb)⟩
theorem TkB.drewN {k B C o e lc : Nat} {la : Option Addr} {ns : List Int} (h : TkB L ow k B C o e la lc ns W) (q : Nat) : TkB L ow k B C o e la lc ns (W.drewN q) := h.keep fun _ _ hb => ⟨hb, rfl⟩
theorem TkB.kt {k B C o e lc : Nat} {la : Option Addr} {ns : List Int} (h : TkB L ow k B C o e la lc ns W) (hk : KT ow t W W') (ht : ¬ t .old) : TkB L ow k B C o e la lc ns W' := h.keep fun b hlt hb => ⟨hb, hk b hlt (by rw [hb]; exact ht)⟩
theorem TkB.clo {k B C o e lc : Nat} {la : Option Addr} {ns : List Int} (h : TkB L ow k B C o e la lc ns W) :
    CloG L ow k ns (.func (.func 37) #[] #[.pointer (some ⟨o, 0, none⟩), .pointer (some ⟨C, 0, none⟩), .pointer (some ⟨e, 0, none⟩), .pointer (some ⟨B, 0, none⟩), .pointer (some ⟨B + 1, 0, none⟩)]) W := by
  obtain ⟨t1, t2, t3, t4, t5⟩ := h.ts
  exact ⟨o, C, e, B, B + 1, lc, la, rfl, ⟨t4, t3, t5, t1, t2⟩, h.bo.cell (k := 0) rfl, ⟨h.b2.cell (k := 0) rfl, h.ni⟩, h.be.cell (k := 0) rfl, h.b0.cell (k := 0) rfl, h.b1.cell (k := 0) rfl⟩
theorem mapTurned_kt {m : Nat} (ht : W.mapTurned W' (L.pb m)) (hm : ow (L.pb m) = .map m) : KT ow (fun t => t = .map m) W W' := fun b hb hne => ht.grown.block b hb (fun e => hne (by
  have : b = L.pb m := by simpa using e
  rw [this]; exact hm))
end
end Go.Proofs.Ytdomnbgjafdnjaa
