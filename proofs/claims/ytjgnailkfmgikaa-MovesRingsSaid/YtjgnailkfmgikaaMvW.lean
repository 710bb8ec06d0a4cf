/- The work of moves in memory: its maps, its order, its moves told so far; a queue of places. -/
import Derived.Test.YtjgnailkfmgikaaMvB
namespace Go.Proofs.Ytjgnailkfmgikaa
open Go.RowKit Go.Maps

def CPair (w : World) (b o : Nat) (m : Int × Int) : Prop := w.cell? ⟨b, o, none⟩ = some (.int .i64 m.1) ∧ w.cell? ⟨b, o + 1, none⟩ = some (.int .i64 m.2)
def IsPairs (p : Nat → Prop) (w : World) (v : Value) (xs : List (Int × Int)) : Prop := IsSl 2 CPair p w v xs
theorem IsPairs.keep {p p' : Nat → Prop} {w w' : World} {v : Value} {xs : List (Int × Int)} (h : IsPairs p w v xs) (hk : Keep p p' w w') : IsPairs p' w' v xs :=
  IsSl.keep h (fun _ _ _ h => lt_of_cell h.1) hk fun _ _ _ hp _ hc => ⟨hk.cell hp hc.1, hk.cell hp hc.2⟩

abbrev pairs (l : List (Int × Int)) : List Value := l.flatMap fun m => [.int .i64 m.1, .int .i64 m.2]
theorem pairs_length (l : List (Int × Int)) : (pairs l).length = l.length * 2 := by
  induction l with
  | nil => rfl
  | cons m l ih => simp only [pairs, List.flatMap_cons, List.length_append, List.length_cons, List.length_nil] at *; omega
theorem pairs_get {l : List (Int × Int)} : ∀ {j : Nat} (h : j < l.length), (pairs l)[j * 2]? = some (.int .i64 l[j].1) ∧ (pairs l)[j * 2 + 1]? = some (.int .i64 l[j].2) := by
  induction l with
  | nil => intro j h; simp at h
  | cons m l ih =>
    intro j h
    cases j with
    | zero => exact ⟨rfl, rfl⟩
    | succ j =>
      have := ih (j := j) (by simpa using h)
      have e1 : (j + 1) * 2 = j * 2 + 2 := by omega
      rw [e1]
      exact this
theorem infoPair : (Try.prog.info? 30).map (fun i => (i.zero, i.size, i.bytes)) = some (some (.agg #[.int .i64 0, .int .i64 0]), 2, 16) := by kernel_rfl

theorem pairs_of_owns {W : World} {base : Nat} {e : TypeId} {v : Value} {xs : List (Int × Int)} {p : Nat → Prop} (h : W.ownsRow base e 2 v xs.length (pairs xs)) (hs : xs.length ≤ 140737488351232)
    (hp : ∀ b, v.ownBlock = some b → base ≤ b → b < W.heap.size → p b) : IsPairs p W v xs := by
  have hlt := h.lt
  have h' := h
  obtain ⟨h1, h2⟩ := h
  rcases h2 with ⟨rfl, h0⟩ | ⟨g, cap, cur, rfl, hg, hh, hn, hm, hc, ht⟩
  · exact ⟨none, 0, by rw [h0], ⟨by omega, hs⟩, .inl (List.length_eq_zero_iff.1 h0)⟩
  · refine ⟨_, cap, rfl, ⟨hn, hs⟩, .inr ⟨g, 0, rfl, hp g rfl hg (hlt g rfl).2, fun j hj => ?_⟩⟩
    obtain ⟨g1, g2⟩ := pairs_get hj
    have c1 := h'.cellAt (j * 2) (by omega)
    have c2 := h'.cellAt (j * 2 + 1) (by omega)
    rw [g1] at c1
    rw [g2] at c2
    exact ⟨by rw [Nat.zero_add]; exact c1, by rw [Nat.zero_add]; exact c2⟩

/-- 'out = append(out, [2]int{x, y})'. -/
theorem app_pair {ops : Array Oper} {rest : List Oper} {o : Oper} {a : Act} {Q : Exit → Act → World → Prop} {W : World}
    (hgd : o.guard = none) (s x : Operand) (hop : o.op = .call { callee := .builtin .append, args := #[s, x], argTypes := #[22, 22] })
    (base : Nat) (v : Value) (zs : List (Int × Int)) (hs : a.eval s = v) (hown : W.ownsRow base 30 2 v zs.length (pairs zs)) (g : Nat) (y : Int × Int) (hx : a.eval x = .slice (some ⟨g, 0, none⟩) 1 1)
    (hc : W.heap[g]? = some (.cells #[.int .i64 y.1, .int .i64 y.2] 30 (0, 0))) (hn : zs.length + 1 ≤ 1000000) (hb : base ≤ W.heap.size)
    (h : ∀ v' w', w'.ownsRow base 30 2 v' (zs ++ [y]).length (pairs (zs ++ [y])) → W.grownBy w' v.ownBlock → (v'.ownBlock = v.ownBlock ∨ v'.ownBlock = some W.heap.size) → wpList Try.prog ops Q rest (a.put o.dst v') w') :
    wpList Try.prog ops Q (o :: rest) a W := by
  obtain ⟨i0, hi, hz0, hz1, hz2⟩ := info_parts infoPair
  refine wp_app _ hgd s x 22 hop base 30 i0 _ 2 16 Try.underlying22 hi hz0 hz1 hz2 rfl (by decide) v zs.length (pairs zs) hs hown
    ⟨g, 0, none⟩ 1 1 [.int .i64 y.1, .int .i64 y.2] hx rfl ?_ ?_ ?_ ?_ hb ?_
  · intro j u hj
    have hcell : ∀ k, W.cell? ⟨g, k, none⟩ = #[Value.int .i64 y.1, .int .i64 y.2][k]? := fun k => by simp [World.cell?, hc]
    match j, hj with
    | 0, hj => simp at hj; subst hj; simp [Addr.add, hcell]
    | 1, hj => simp at hj; subst hj; simp [Addr.add, hcell]
  · intro u hu
    rcases List.mem_cons.1 hu with rfl | hu
    · rfl
    · simp at hu; subst hu; rfl
  · unfold maxLen; omega
  · omega
  · intro v' w' ho hg hv
    refine h v' w' ?_ hg hv
    simpa [pairs] using ho

theorem owns_keep {W W' : World} {base : Nat} {e : TypeId} {size n : Nat} {v : Value} {xs : List Value} (h : W.ownsRow base e size v n xs) (hk : ∀ b, v.ownBlock = some b → W'.heap[b]? = W.heap[b]?) : W'.ownsRow base e size v n xs := by
  obtain ⟨h1, h2⟩ := h
  refine ⟨h1, ?_⟩
  rcases h2 with h2 | ⟨g, cap, cur, rfl, hg, hh, r⟩
  · exact .inl h2
  · exact .inr ⟨g, cap, cur, rfl, hg, (hk g rfl).trans hh, r⟩
theorem owns_cells {W : World} {base : Nat} {e : TypeId} {size n : Nat} {v : Value} {xs : List Value} (h : W.ownsRow base e size v n xs) {b : Nat} (hb : v.ownBlock = some b) : ∃ cur, W.heap[b]? = some (.cells cur e (0, 0)) ∧ base ≤ b := by
  rcases h.2 with ⟨rfl, _⟩ | ⟨g, cap, cur, rfl, hg, hh, _⟩
  · simp [Value.ownBlock] at hb
  · simp [Value.ownBlock] at hb; subst hb; exact ⟨cur, hh, hg⟩

/-- The work of moves. -/
structure IsWork (base : Nat) (W : World) (bw bf br bn : Nat) (vo vu : Value) (n : Nat) (F N R : Mv.PF) (ord : List Int) (out : List (Int × Int)) : Prop where
  row : Row W bw 42 [.map (some bf), .map (some br), .map (some bn), vo, vu]
  f : IsMp W bf n F
  r : IsMp W br n R
  n : IsMp W bn n N
  o : W.ownsRow base 3 1 vo ord.length (ints ord)
  u : W.ownsRow base 30 2 vu out.length (pairs out)
  ge : base ≤ bw ∧ base ≤ bf ∧ base ≤ br ∧ base ≤ bn
  ne : bf ≠ br ∧ bf ≠ bn ∧ br ≠ bn

section
variable {base bw bf br bn n : Nat} {W W' : World} {vo vu : Value} {F N R : Mv.PF} {ord : List Int} {out : List (Int × Int)}

/-- The work's blocks. -/
def WB (bw bf br bn : Nat) (vo vu : Value) (b : Nat) : Prop := b = bw ∨ b = bf ∨ b = br ∨ b = bn ∨ vo.ownBlock = some b ∨ vu.ownBlock = some b
theorem IsWork.keep (h : IsWork base W bw bf br bn vo vu n F N R ord out) (hk : ∀ b, WB bw bf br bn vo vu b → W'.heap[b]? = W.heap[b]?) : IsWork base W' bw bf br bn vo vu n F N R ord out where
  row := h.row.keep (hk _ (.inl rfl))
  f := h.f.keep (hk _ (.inr (.inl rfl)))
  r := h.r.keep (hk _ (.inr (.inr (.inl rfl))))
  n := h.n.keep (hk _ (.inr (.inr (.inr (.inl rfl)))))
  o := owns_keep h.o fun b hb => hk b (.inr (.inr (.inr (.inr (.inl hb)))))
  u := owns_keep h.u fun b hb => hk b (.inr (.inr (.inr (.inr (.inr hb)))))
  ge := h.ge
  ne := h.ne
theorem IsWork.wlt (h : IsWork base W bw bf br bn vo vu n F N R ord out) {b : Nat} (hb : WB bw bf br bn vo vu b) : base ≤ b ∧ b < W.heap.size := by
  obtain ⟨g1, g2, g3, g4⟩ := h.ge
  rcases hb with rfl | rfl | rfl | rfl | hb | hb
  · exact ⟨g1, h.row.lt⟩
  · exact ⟨g2, h.f.lt⟩
  · exact ⟨g3, h.r.lt⟩
  · exact ⟨g4, h.n.lt⟩
  · exact h.o.lt b hb
  · exact h.u.lt b hb
theorem IsWork.below (h : IsWork base W bw bf br bn vo vu n F N R ord out) {B : Nat} (hb : Below B W W') (hB : W.heap.size ≤ B) : IsWork base W' bw bf br bn vo vu n F N R ord out :=
  h.keep fun b hx => hb.block b (by have := (h.wlt hx).2; omega)
theorem IsWork.alloc (h : IsWork base W bw bf br bn vo vu n F N R ord out) (o : Obj) : IsWork base (W.alloc o) bw bf br bn vo vu n F N R ord out :=
  h.keep fun _ hx => Below.heap_alloc _ _ _ (h.wlt hx).2
theorem IsWork.mono (h : IsWork base W bw bf br bn vo vu n F N R ord out) {n' : Nat} (hn : n ≤ n') : IsWork base W bw bf br bn vo vu n' F N R ord out :=
  ⟨h.row, h.f.mono hn, h.r.mono hn, h.n.mono hn, h.o, h.u, h.ge, h.ne⟩
theorem map_not_cells {b b' : Nat} {f : Mv.PF} {cs : Array Value} {e : TypeId} {fr : Nat × Nat} (h : IsMp W b n f) (h' : W.heap[b']? = some (.cells cs e fr)) : b ≠ b' := by
  rintro rfl
  obtain ⟨es, c, hb⟩ := h.isMap
  rw [hb] at h'; simp at h'
theorem IsWork.apart (h : IsWork base W bw bf br bn vo vu n F N R ord out) : (bf ≠ bw ∧ br ≠ bw ∧ bn ≠ bw) ∧ (∀ b, vo.ownBlock = some b → b ≠ bw ∧ b ≠ bf ∧ b ≠ br ∧ b ≠ bn ∧ vu.ownBlock ≠ some b) ∧ (∀ b, vu.ownBlock = some b → b ≠ bw ∧ b ≠ bf ∧ b ≠ br ∧ b ≠ bn) := by
  refine ⟨⟨map_not_cells h.f h.row, map_not_cells h.r h.row, map_not_cells h.n h.row⟩, fun b hb => ?_, fun b hb => ?_⟩
  · obtain ⟨cur, hc, _⟩ := owns_cells h.o hb
    refine ⟨?_, (map_not_cells h.f hc).symm, (map_not_cells h.r hc).symm, (map_not_cells h.n hc).symm, fun hu => ?_⟩
    · rintro rfl; have := h.row; unfold Row at this; rw [this] at hc; simp at hc
    · obtain ⟨cur', hc', _⟩ := owns_cells h.u hu
      rw [hc] at hc'; simp at hc'
  · obtain ⟨cur, hc, _⟩ := owns_cells h.u hb
    refine ⟨?_, (map_not_cells h.f hc).symm, (map_not_cells h.r hc).symm, (map_not_cells h.n hc).symm⟩
    rintro rfl; have := h.row; unfold Row at this; rw [this] at hc; simp at hc

theorem IsWork.turnF (h : IsWork base W bw bf br bn vo vu n F N R ord out) {F' : Mv.PF} {n' : Nat} (hn : n ≤ n') (hf : IsMp W' bf n' F') (ht : W.mapTurned W' bf) : IsWork base W' bw bf br bn vo vu n' F' N R ord out := by
  obtain ⟨⟨a1, a2, a3⟩, a4, a5⟩ := h.apart
  obtain ⟨e1, e2, e3⟩ := h.ne
  have hk : ∀ b, b < W.heap.size → b ≠ bf → W'.heap[b]? = W.heap[b]? := fun b hb hne => ht.grown.block b hb (by simpa using hne)
  exact ⟨h.row.keep (hk _ h.row.lt a1.symm), hf, (h.r.keep (hk _ h.r.lt e1.symm)).mono hn, (h.n.keep (hk _ h.n.lt e2.symm)).mono hn, owns_keep h.o fun b hb => hk b (h.o.lt b hb).2 (a4 b hb).2.1, owns_keep h.u fun b hb => hk b (h.u.lt b hb).2 (a5 b hb).2.1, h.ge, h.ne⟩
theorem IsWork.turnR (h : IsWork base W bw bf br bn vo vu n F N R ord out) {R' : Mv.PF} {n' : Nat} (hn : n ≤ n') (hf : IsMp W' br n' R') (ht : W.mapTurned W' br) : IsWork base W' bw bf br bn vo vu n' F N R' ord out := by
  obtain ⟨⟨a1, a2, a3⟩, a4, a5⟩ := h.apart
  obtain ⟨e1, e2, e3⟩ := h.ne
  have hk : ∀ b, b < W.heap.size → b ≠ br → W'.heap[b]? = W.heap[b]? := fun b hb hne => ht.grown.block b hb (by simpa using hne)
  exact ⟨h.row.keep (hk _ h.row.lt a2.symm), (h.f.keep (hk _ h.f.lt e1)).mono hn, hf, (h.n.keep (hk _ h.n.lt e3.symm)).mono hn, owns_keep h.o fun b hb => hk b (h.o.lt b hb).2 (a4 b hb).2.2.1, owns_keep h.u fun b hb => hk b (h.u.lt b hb).2 (a5 b hb).2.2.1, h.ge, h.ne⟩
theorem IsWork.turnN (h : IsWork base W bw bf br bn vo vu n F N R ord out) {N' : Mv.PF} {n' : Nat} (hn : n ≤ n') (hf : IsMp W' bn n' N') (ht : W.mapTurned W' bn) : IsWork base W' bw bf br bn vo vu n' F N' R ord out := by
  obtain ⟨⟨a1, a2, a3⟩, a4, a5⟩ := h.apart
  obtain ⟨e1, e2, e3⟩ := h.ne
  have hk : ∀ b, b < W.heap.size → b ≠ bn → W'.heap[b]? = W.heap[b]? := fun b hb hne => ht.grown.block b hb (by simpa using hne)
  exact ⟨h.row.keep (hk _ h.row.lt a3.symm), (h.f.keep (hk _ h.f.lt e2)).mono hn, (h.r.keep (hk _ h.r.lt e3)).mono hn, hf, owns_keep h.o fun b hb => hk b (h.o.lt b hb).2 (a4 b hb).2.2.2.1, owns_keep h.u fun b hb => hk b (h.u.lt b hb).2 (a5 b hb).2.2.2, h.ge, h.ne⟩

/-- Behind 'append(w.out, m)', W: ahead of it; the box holds the elder value still; and behind the store. -/
theorem IsWork.told (h : IsWork base W bw bf br bn vo vu n F N R ord out) {v' : Value} {out' : List (Int × Int)} (hb : base ≤ W.heap.size) (ho : W'.ownsRow base 30 2 v' out'.length (pairs out')) (hg : W.grownBy W' vu.ownBlock) :
    Row W' bw 42 [.map (some bf), .map (some br), .map (some bn), vo, vu] ∧ IsWork base (W'.setCell ⟨bw, 4, none⟩ v') bw bf br bn vo v' n F N R ord out' ∧
      (∀ b, b < W.heap.size → b ≠ bw → vu.ownBlock ≠ some b → (W'.setCell ⟨bw, 4, none⟩ v').heap[b]? = W.heap[b]?) ∧ Below base W (W'.setCell ⟨bw, 4, none⟩ v') := by
  obtain ⟨⟨a1, a2, a3⟩, a4, a5⟩ := h.apart
  have hk1 : ∀ b, b < W.heap.size → vu.ownBlock ≠ some b → W'.heap[b]? = W.heap[b]? := fun b hb hne => hg.block b hb (fun e => hne e.symm)
  have hrow' := h.row.keep (hk1 _ h.row.lt fun e => (a5 _ e).1 rfl)
  have hk : ∀ b, b < W.heap.size → b ≠ bw → vu.ownBlock ≠ some b → (W'.setCell ⟨bw, 4, none⟩ v').heap[b]? = W.heap[b]? := fun b hb hne hv => (Below.heap_setCell _ _ _ _ hne).trans (hk1 b hb hv)
  refine ⟨hrow', ⟨hrow'.set 4 v', h.f.keep (hk _ h.f.lt a1 fun e => (a5 _ e).2.1 rfl), h.r.keep (hk _ h.r.lt a2 fun e => (a5 _ e).2.2.1 rfl), h.n.keep (hk _ h.n.lt a3 fun e => (a5 _ e).2.2.2 rfl), owns_keep h.o fun b hb => hk b (h.o.lt b hb).2 (a4 b hb).1 (a4 b hb).2.2.2.2,
    owns_keep ho fun b hb => Below.heap_setCell _ _ _ _ (fun e => ?_), h.ge, h.ne⟩, hk, ((Below.refl base W).grown hg hb fun k hk => (h.u.lt k hk).1).setCell (p := ⟨bw, 4, none⟩) h.ge.1 v'⟩
  obtain ⟨cur, hc, _⟩ := owns_cells ho hb
  rw [e] at hc
  unfold Row at hrow'
  rw [hrow'] at hc; simp at hc
end

/-- A queue of ints that the call owns. -/
def IsQ (base : Nat) (W : World) (v : Value) (xs : List Int) : Prop :=
  ∃ a cap, v = .slice a xs.length cap ∧ xs.length ≤ cap ∧ ((a = none ∧ cap = 0) ∨ ∃ g off cur, a = some ⟨g, off, none⟩ ∧ base ≤ g ∧ W.heap[g]? = some (.cells cur 3 (0, 0)) ∧ off + cap ≤ cur.size ∧ ∀ j (h : j < xs.length), cur[off + j]? = some (.int .i64 xs[j]))
theorem IsQ.nil (base : Nat) (W : World) : IsQ base W (.slice none 0 0) [] := ⟨none, 0, rfl, Nat.le_refl _, .inl ⟨rfl, rfl⟩⟩
theorem IsQ.keep {base : Nat} {W W' : World} {v : Value} {xs : List Int} (h : IsQ base W v xs) (hk : ∀ b, v.ownBlock = some b → W'.heap[b]? = W.heap[b]?) : IsQ base W' v xs := by
  obtain ⟨a, cap, rfl, hl, h⟩ := h
  refine ⟨a, cap, rfl, hl, ?_⟩
  rcases h with h | ⟨g, off, cur, rfl, hg, hc, r⟩
  · exact .inl h
  · exact .inr ⟨g, off, cur, rfl, hg, (hk g rfl).trans hc, r⟩
theorem IsQ.lt {base : Nat} {W : World} {v : Value} {xs : List Int} (h : IsQ base W v xs) {b : Nat} (hb : v.ownBlock = some b) : base ≤ b ∧ b < W.heap.size ∧ ∃ cur, W.heap[b]? = some (.cells cur 3 (0, 0)) := by
  obtain ⟨a, cap, rfl, hl, h⟩ := h
  rcases h with ⟨rfl, _⟩ | ⟨g, off, cur, rfl, hg, hc, r⟩
  · simp [Value.ownBlock] at hb
  · simp [Value.ownBlock] at hb; subst hb
    exact ⟨hg, lt_of_block hc, cur, hc⟩
theorem IsQ.of_owns {base base' : Nat} {W : World} {v : Value} {xs : List Int} (h : W.ownsRow base 3 1 v xs.length (ints xs)) (hb : base' ≤ base) : IsQ base' W v xs := by
  rcases owns_nilcase h with ⟨rfl, h0, hx⟩ | ⟨g, cap, rfl⟩
  · exact ⟨none, 0, by rw [h0], by omega, .inl ⟨rfl, rfl⟩⟩
  · obtain ⟨cur, hg, hc, hn, _, hs, ht, _, _⟩ := owns_block h
    refine ⟨_, cap, rfl, hn, .inr ⟨g, 0, cur, rfl, by omega, hc, by omega, fun j hj => ?_⟩⟩
    have : (ints xs)[j]? = some (.int .i64 xs[j]) := by simp [ints, hj]
    rw [← ht, List.getElem?_take, if_pos (by omega)] at this
    rw [Nat.zero_add]; simpa using this
/-- What comes next is taken: the slice behind it. -/
theorem IsQ.pop {base : Nat} {W : World} {a : Option Addr} {cap : Nat} {x : Int} {xs : List Int} (h : IsQ base W (.slice a (xs.length + 1) cap) (x :: xs)) :
    ∃ g off, a = some ⟨g, off, none⟩ ∧ base ≤ g ∧ xs.length + 1 ≤ cap ∧ W.cell? ⟨g, off, none⟩ = some (.int .i64 x) ∧ (1 < cap → IsQ base W (.slice (some ⟨g, off + 1, none⟩) xs.length (cap - 1)) xs) ∧ (cap = 1 → IsQ base W (.slice (some ⟨g, off, none⟩) xs.length 0) xs) := by
  obtain ⟨a, cap', hv, hl, h⟩ := h
  simp at hv
  obtain ⟨rfl, rfl⟩ := hv
  simp only [List.length_cons] at hl h
  rcases h with ⟨rfl, h0⟩ | ⟨g, off, cur, rfl, hg, hc, hs, hx⟩
  · omega
  · refine ⟨g, off, rfl, hg, hl, ?_, fun h1 => ⟨_, _, rfl, by omega, .inr ⟨g, off + 1, cur, rfl, hg, hc, by omega, fun j hj => ?_⟩⟩, fun h1 => ⟨_, _, rfl, by omega, .inr ⟨g, off, cur, rfl, hg, hc, by omega, fun j hj => by omega⟩⟩⟩
    · have := hx 0 (by omega)
      simp only [Nat.add_zero, List.getElem_cons_zero] at this
      simp [World.cell?, hc, this]
    · have := hx (j + 1) (by omega)
      rw [Nat.add_assoc, Nat.add_comm 1 j]; simpa using this

/-- 'append' to a queue. -/
theorem run_qapp {base : Nat} {W : World} {v : Value} {xs : List Int} (h : IsQ base W v xs) (hb : base ≤ W.heap.size) (hn : xs.length ≤ 1000000) (ty : TypeId) (g : Nat) (y : Int) (hc : W.heap[g]? = some (.cells #[.int .i64 y] 3 (0, 0))) :
    ∃ v' W', (Builtin.append_ #[33, 33] ty #[v, .slice (some ⟨g, 0, none⟩) 1 1]).run Try.prog W = .ok v' W' ∧ IsQ base W' v' (xs ++ [y]) ∧ W.grownBy W' v.ownBlock := by
  obtain ⟨i0, hi, hz0, hz1, hz2⟩ := info_parts infoInt
  have hnews : ∀ j u, [Value.int .i64 y][j]? = some u → W.cell? ((⟨g, 0, none⟩ : Addr).add j) = some u := by
    intro j u hj
    match j, hj with
    | 0, hj => simp at hj; subst hj; simp [Addr.add, cell_of_one hc]
  obtain ⟨a, cap, rfl, hl, h⟩ := h
  rcases h with ⟨rfl, rfl⟩ | ⟨gq, off, cur, rfl, hg, hcur, hs, hx⟩
  · have hx0 : xs = [] := List.length_eq_zero_iff.1 (by omega)
    subst hx0
    obtain ⟨v', W', hr, ho, hg, -⟩ := run_app (P := Try.prog) W base 33 ty 3 i0 (.int .i64 0) 1 8 Try.underlying33 hi hz0 hz1 hz2 rfl (by decide) (.slice none 0 0) 0 [] (World.ownsRow_nil _ _ _ _) ⟨g, 0, none⟩ 1 1 [.int .i64 y] rfl hnews (by simp [Value.oneCell']) (by unfold maxLen; omega) (by omega) hb
    exact ⟨v', W', hr, IsQ.of_owns (xs := [y]) ho (Nat.le_refl _), hg⟩
  · have hcell : ∀ k, W.cell? ⟨gq, k, none⟩ = cur[k]? := fun k => by simp [World.cell?, hcur]
    by_cases hroom : xs.length + 1 ≤ cap
    · have hr := run_append_room_cells (P := Try.prog) W 33 ty 3 i0 Try.underlying33 hi gq off xs.length cap ⟨g, 0, none⟩ 1 1 [.int .i64 y] (by rw [hz1]; rfl) hnews (by simp [Value.oneCell']) hroom
        (fun j hj => by simp at hj; subst hj; rw [hz1, hcell]; simp; omega) (fun j hj => by simp [World.frozen?, hcur])
      refine ⟨_, _, hr, ?_, ?_⟩
      · refine ⟨_, cap, by simp, by simpa using hroom, .inr ⟨gq, off, cur.set! (off + xs.length) (.int .i64 y), rfl, hg, ?_, by simpa using hs, fun j hj => ?_⟩⟩
        · rw [hz1, Nat.mul_one]
          show (W.heap.modify gq _)[gq]? = _
          rw [Array.getElem?_modify, if_pos rfl, hcur]
          rfl
        · simp at hj
          rw [Array.set!_eq_setIfInBounds, Array.getElem?_setIfInBounds]
          by_cases e : j = xs.length
          · subst e; simp; omega
          · rw [if_neg (by omega), hx j (by omega), List.getElem_append_left]
      · rw [hz1, Nat.mul_one]
        exact ⟨rfl, rfl, rfl, by show _ ≤ (W.heap.modify gq _).size; simp, fun k _ hk => by
          show (W.heap.modify gq _)[k]? = _
          rw [Array.getElem?_modify, if_neg (fun e => hk (by rw [← e]; rfl))]⟩
    · have holds : ∀ j u, (ints xs)[j]? = some u → W.cell? ((⟨gq, off, none⟩ : Addr).add j) = some u := by
        intro j u hj
        have hjl : j < xs.length := by
          by_cases h : j < xs.length
          · exact h
          · rw [List.getElem?_eq_none (by simp; omega)] at hj; simp at hj
        have : (ints xs)[j]? = some (.int .i64 xs[j]) := by simp [ints, hjl]
        rw [this] at hj; cases hj
        have e : (⟨gq, off, none⟩ : Addr).add j = ⟨gq, off + j, none⟩ := by simp [Addr.add]
        rw [e, hcell, hx j hjl]
      obtain ⟨v', W', hr, ho, hg'⟩ := run_append_arg_grows (P := Try.prog) W 33 ty 3 i0 (.int .i64 0) 1 8 Try.underlying33 hi hz0 hz1 hz2 rfl (by decide) ⟨gq, off, none⟩ xs.length cap (ints xs) (by simp) holds ⟨g, 0, none⟩ 1 1 [.int .i64 y] rfl hnews (by omega) (by unfold maxLen; omega) (by omega)
      have ho' : W'.ownsRow W.heap.size 3 1 v' (xs ++ [y]).length (ints (xs ++ [y])) := by simpa [ints] using ho
      exact ⟨v', W', hr, IsQ.of_owns ho' hb, ⟨hg'.os, hg'.tape, hg'.output, hg'.size, fun k hk _ => hg'.block k hk (by simp)⟩⟩

/-- 'ready = append(ready, y)' at the operation. -/
theorem wp_qapp {ops : Array Oper} {rest : List Oper} {o : Oper} {a : Act} {Q : Exit → Act → World → Prop} {W : World} (hgd : o.guard = none) (s x : Operand) (hop : o.op = .call { callee := .builtin .append, args := #[s, x], argTypes := #[33, 33] })
    (base : Nat) (v : Value) (xs : List Int) (hs : a.eval s = v) (h : IsQ base W v xs) (g : Nat) (y : Int) (hx : a.eval x = .slice (some ⟨g, 0, none⟩) 1 1) (hc : W.heap[g]? = some (.cells #[.int .i64 y] 3 (0, 0))) (hn : xs.length ≤ 1000000) (hb : base ≤ W.heap.size)
    (hK : ∀ v' w', IsQ base w' v' (xs ++ [y]) → W.grownBy w' v.ownBlock → wpList Try.prog ops Q rest (a.put o.dst v') w') : wpList Try.prog ops Q (o :: rest) a W := by
  refine wpList_plain hgd fun K hK' => ?_
  obtain ⟨v', w', hr, h2, h3⟩ := run_qapp h hb hn o.type g y hc
  unfold Oper.wp execOp
  simp only [hop, resolve, invoke, builtin, Sem.run_bind, Sem.run_pure, Result.andThen_ok, List.map_toArray, List.map_cons, List.map_nil, hs, hx, hr]
  exact hK' _ _ (hK v' w' h2 h3)
end Go.Proofs.Ytjgnailkfmgikaa
