/- Slices in blocks of their own; appends and makes of ints and bools. -/
import Derived.Test.YtinbfnabngdemaaBase
import Derived.Test.YtinbfnabngdemaaRef1
import Derived.OneCell
import Derived.Deep.LoopGhost
import Derived.Laws.Pointers
import Derived.Lib.MinMax
namespace Go.Proofs.Ytinbfnabngdemaa
open Go.RowKit
theorem hid_of {p : Prop} (h : p) : Hid p := h
abbrev ints (xs : List Int) : List Value := xs.map (Value.int .i64)

section
variable {w : World} {base : Nat} {e : TypeId} {g n cap : Nat}

theorem owns_block {xs : List Value} {size : Nat} (h : w.ownsRow base e size (.slice (some ⟨g, 0, none⟩) n cap) n xs) :
    ∃ cur, base ≤ g ∧ w.heap[g]? = some (.cells cur e (0, 0)) ∧ n ≤ cap ∧ cap ≤ maxLen ∧ cur.size = cap * size ∧ cur.toList.take (n * size) = xs ∧ xs.length = n * size ∧ g < w.heap.size := by
  have hlt := h.lt g rfl
  obtain ⟨h1, h2⟩ := h
  rcases h2 with ⟨h2, _⟩ | ⟨g', cap', cur, h2, hg, hh, hn, hm, hc, ht⟩
  · simp at h2
  · simp at h2
    obtain ⟨rfl, rfl⟩ := h2
    exact ⟨cur, hg, hh, hn, hm, hc, ht, h1, hlt.2⟩

/-- A block that was just made. -/
theorem owns_new {X W : World} {cs : Array Value} {size : Nat} {xs : List Value} (hW : W.heap = X.heap.push (.cells cs e)) (hb : base ≤ X.heap.size) (hm : n ≤ maxLen) (hs : cs.size = n * size) (hg : g = X.heap.size) (hx : cs.toList = xs) :
    W.ownsRow base e size (.slice (some ⟨g, 0, none⟩) n n) n xs := by
  subst hg hx
  refine ⟨by simpa using hs, .inr ⟨_, n, cs, rfl, hb, ?_, Nat.le_refl _, hm, hs, ?_⟩⟩
  · rw [hW]; simp
  · rw [List.take_of_length_le (by simp [hs])]

theorem owns_mono {v : Value} {xs : List Value} {size base' : Nat} (h : w.ownsRow base e size v n xs) (hb : base' ≤ base) : w.ownsRow base' e size v n xs := by
  obtain ⟨h1, h2⟩ := h
  refine ⟨h1, ?_⟩
  rcases h2 with h2 | ⟨g, cap, cur, hv, hg, r⟩
  · exact .inl h2
  · exact .inr ⟨g, cap, cur, hv, by omega, r⟩

theorem owns_nilcase {v : Value} {xs : List Value} {size : Nat} (h : w.ownsRow base e size v n xs) : (v = .slice none 0 0 ∧ n = 0 ∧ xs = []) ∨ ∃ g cap, v = .slice (some ⟨g, 0, none⟩) n cap := by
  obtain ⟨h1, h2⟩ := h
  rcases h2 with ⟨h2, h3⟩ | ⟨g', cap', cur, h2, _⟩
  · subst h3; exact .inl ⟨h2, rfl, by simpa using h1⟩
  · exact .inr ⟨_, _, h2⟩

theorem owns_shrink {xs : List Value} {size : Nat} (h : w.ownsRow base e size (.slice (some ⟨g, 0, none⟩) n cap) n xs) (m : Nat) (hm : m ≤ n) :
    w.ownsRow base e size (.slice (some ⟨g, 0, none⟩) m cap) m (xs.take (m * size)) := by
  obtain ⟨cur, hg, hh, hn, hmx, hc, ht, hl, _⟩ := owns_block h
  have hle : m * size ≤ n * size := Nat.mul_le_mul_right _ hm
  refine ⟨by rw [List.length_take, hl, Nat.min_eq_left hle], .inr ⟨g, cap, cur, rfl, hg, hh, by omega, hmx, hc, ?_⟩⟩
  rw [← ht, List.take_take, Nat.min_eq_left hle]

end
theorem infoInt : (Try.prog.info? 3).map (fun i => (i.zero, i.size, i.bytes)) = some (some (.int .i64 0), 1, 8) := by kernel_rfl
theorem infoBool : (Try.prog.info? 4).map (fun i => (i.zero, i.size, i.bytes)) = some (some (.bool false), 1, 1) := by kernel_rfl

theorem grown_trans {A B C : World} {r : Option Nat} (h : A.grownBy B r) (k : B.grownBy C r) : A.grownBy C r :=
  ⟨k.os.trans h.os, k.tape.trans h.tape, k.output.trans h.output, Nat.le_trans h.size k.size, fun i hi hn => (k.block i (Nat.lt_of_lt_of_le hi h.size) hn).trans (h.block i hi hn)⟩

/-- 'out = append(out, y)': ints. -/
theorem app_int {ops : Array Oper} {rest : List Oper} {o : Oper} {a : Act} {Q : Exit → Act → World → Prop} {W : World}
    (hgd : o.guard = none) (s x : Operand) (hop : o.op = .call { callee := .builtin .append, args := #[s, x], argTypes := #[31, 31] })
    (base : Nat) (v : Value) (zs : List Int) (hs : a.eval s = v) (hown : W.ownsRow base 3 1 v zs.length (ints zs)) (g : Nat) (y : Int) (hx : a.eval x = .slice (some ⟨g, 0, none⟩) 1 1)
    (hc : W.heap[g]? = some (.cells #[.int .i64 y] 3 (0, 0))) (hn : zs.length + 1 ≤ 17592186044416) (hb : base ≤ W.heap.size)
    (h : ∀ v' w', w'.ownsRow base 3 1 v' (zs ++ [y]).length (ints (zs ++ [y])) → W.grownBy w' v.ownBlock → (v'.ownBlock = v.ownBlock ∨ v'.ownBlock = some W.heap.size) → wpList Try.prog ops Q rest (a.put o.dst v') w') :
    wpList Try.prog ops Q (o :: rest) a W := by
  obtain ⟨i0, hi, hz0, hz1, hz2⟩ := info_parts infoInt
  refine wp_app _ hgd s x 31 hop base 3 i0 (.int .i64 0) 1 8 Try.underlying31 hi hz0 hz1 hz2 rfl (by decide) v zs.length (ints zs) hs hown
    ⟨g, 0, none⟩ 1 1 [.int .i64 y] hx rfl ?_ ?_ ?_ ?_ hb ?_
  · intro j u hj
    match j, hj with
    | 0, hj => simp at hj; subst hj; simp [Addr.add, cell_of_one hc]
  · intro u hu; simp at hu; subst hu; rfl
  · unfold maxLen; omega
  · omega
  · intro v' w' ho hg hv
    refine h v' w' ?_ hg hv
    simpa [ints] using ho

/-- 'make([]bool, n)'. -/
theorem mk_bools {ops : Array Oper} {rest : List Oper} {o : Oper} {a : Act} {Q : Exit → Act → World → Prop} {W : World}
    (hgd : o.guard = none) (l c : Operand) (hop : o.op = Op.makeSlice 58 l c) (n : Nat) (hl : a.eval l = .int .i64 n) (hc : a.eval c = .int .i64 n) (hn : n ≤ 17592186044416)
    (h : wpList Try.prog ops Q rest (a.put o.dst (.slice (some ⟨W.heap.size, 0, none⟩) n n)) (W.alloc (.cells (bools (List.replicate n false)).toArray 4))) :
    wpList Try.prog ops Q (o :: rest) a W := by
  obtain ⟨i0, hi, hz0, hz1, hz2⟩ := info_parts infoBool
  refine wp_make1 W hgd l c 58 hop 4 i0 _ (.bool false) 1 Try.underlying58 hi hz0 hz1 hz2 rfl n hl hc (by omega) (by omega) ?_
  rw [bools, List.map_replicate] at h
  exact h
section
theorem ints_of_row {W : World} {g : Nat} {e : TypeId} {xs : List Int} {p : Nat → Prop} (h : Row W g e (xs.map (Value.int .i64))) (hp : p g) (hl : xs.length ≤ 140737488351232) : IsInts p W (.slice (some ⟨g, 0, none⟩) xs.length xs.length) xs :=
  ⟨_, _, rfl, ⟨Nat.le_refl _, hl⟩, .inr ⟨g, 0, rfl, hp, fun j hj => h.cell (by simp [hj])⟩⟩
theorem ints_nil (p : Nat → Prop) (W : World) : IsInts p W (.slice none 0 0) [] := ⟨none, 0, rfl, ⟨by simp, by simp⟩, .inl rfl⟩
theorem rows_of_row {W : World} {g : Nat} {e : TypeId} {vs : List Value} {ll : List (List Int)} {p : Nat → Prop} (h : Row W g e vs) (hp : p g) (hn : vs.length = ll.length) (hl : ll.length ≤ 140737488351232)
    (hel : ∀ j (h1 : j < vs.length) (h2 : j < ll.length), IsInts p W vs[j] ll[j]) : IsRows p W (.slice (some ⟨g, 0, none⟩) ll.length ll.length) ll :=
  ⟨_, _, rfl, ⟨Nat.le_refl _, hl⟩, .inr ⟨g, 0, rfl, hp, fun j hj => ⟨vs[j], h.cell (by simp [hn, hj]), hel j (by omega) hj⟩⟩⟩
theorem ints_of_own {W : World} {base : Nat} {e : TypeId} {u : Value} {xs : List Int} (h : W.ownsRow base e 1 u xs.length (ints xs)) (hl : xs.length ≤ 1000) : IsInts (base ≤ ·) W u xs :=
  ints_of_owns h (by omega) fun _ _ hb _ => hb

theorem below_drewN {a w w' : World} (h : Below a.heap.size a w) (n : Nat) (e : w' = w.drewN n) : Below a.heap.size a w' := by subst e; exact bel_drewN h n


theorem owns_below {w w' : World} {base : Nat} {e : TypeId} {size n : Nat} {u : Value} {xs : List Value} (h : w.ownsRow base e size u n xs) (hb : Below w.heap.size w w') : w'.ownsRow base e size u n xs :=
  h.kept (row := none) ⟨hb.os, hb.tape, hb.output, hb.size, fun k hk _ => hb.block k hk⟩ (by cases u.ownBlock <;> simp)
theorem owns_slice {w : World} {base : Nat} {e : TypeId} {size n : Nat} {u : Value} {xs : List Value} (h : w.ownsRow base e size u n xs) : ∃ a cap, u = .slice a n cap ∧ (0 < n → ∃ g, a = some ⟨g, 0, none⟩) := by
  rcases owns_nilcase h with ⟨rfl, rfl, _⟩ | ⟨g, cap, rfl⟩
  · exact ⟨none, 0, rfl, by omega⟩
  · exact ⟨_, cap, rfl, fun _ => ⟨g, rfl⟩⟩
theorem ints_set (xs : List Int) (k : Nat) (x : Int) : (ints xs).set k (.int .i64 x) = ints (xs.set k x) := by simp [ints, List.map_set]
/-- 'make([]int, n)'. -/
theorem mk_ints {ops : Array Oper} {rest : List Oper} {o : Oper} {a : Act} {Q : Exit → Act → World → Prop} {W : World}
    (hgd : o.guard = none) (l c : Operand) (hop : o.op = Op.makeSlice 31 l c) (n : Nat) (hl : a.eval l = .int .i64 n) (hc : a.eval c = .int .i64 n) (hn : n ≤ 1000000)
    (h : wpList Try.prog ops Q rest (a.put o.dst (.slice (some ⟨W.heap.size, 0, none⟩) n n)) (W.alloc (.cells (ints (List.replicate n 0)).toArray 3))) :
    wpList Try.prog ops Q (o :: rest) a W := by
  obtain ⟨i0, hi, hz0, hz1, hz2⟩ := info_parts infoInt
  refine wp_make1 W hgd l c 31 hop 3 i0 _ (.int .i64 0) 8 Try.underlying31 hi hz0 hz1 hz2 rfl n hl hc (by omega) (by omega) ?_
  rw [ints, List.map_replicate] at h
  exact h
theorem sameS_self (xs : List Int) : sameS xs xs = true := by simp [sameS]
end
/-- Block b begins with these cells. -/
def RowP (W : World) (b : Nat) (e : TypeId) (vs : List Value) : Prop := ∃ tl : List Value, W.heap[b]? = some (.cells (vs ++ tl).toArray e (0, 0))
theorem RowP.lt {W : World} {b : Nat} {e : TypeId} {vs : List Value} (h : RowP W b e vs) : b < W.heap.size := let ⟨_, h⟩ := h; lt_of_block h
theorem RowP.cell {W : World} {b : Nat} {e : TypeId} {vs : List Value} (h : RowP W b e vs) {k : Nat} {v : Value} (hk : vs[k]? = some v) : W.cell? ⟨b, k, none⟩ = some v := by
  obtain ⟨tl, h⟩ := h
  refine Row.cell (W := W) (b := b) (e := e) (vs := vs ++ tl) h ?_
  rw [List.getElem?_append_left (List.getElem?_eq_some_iff.1 hk).1]
  exact hk
theorem RowP.frozen {W : World} {b : Nat} {e : TypeId} {vs : List Value} (h : RowP W b e vs) (k : Nat) : W.frozen? ⟨b, k, none⟩ = false := let ⟨_, h⟩ := h; Row.frozen (vs := _) h k
theorem RowP.set {W : World} {b : Nat} {e : TypeId} {vs : List Value} (h : RowP W b e vs) {k : Nat} (hk : k < vs.length) (v : Value) : RowP (W.setCell ⟨b, k, none⟩ v) b e (vs.set k v) := by
  obtain ⟨tl, h⟩ := h
  refine ⟨tl, ?_⟩
  have := Row.set (W := W) (b := b) (e := e) (vs := vs ++ tl) h k v
  unfold Row at this
  rw [List.set_append_left _ _ hk] at this
  exact this
theorem RowP.keep {W W' : World} {b : Nat} {e : TypeId} {vs : List Value} (h : RowP W b e vs) (hk : W'.heap[b]? = W.heap[b]?) : RowP W' b e vs := let ⟨tl, h⟩ := h; ⟨tl, hk.trans h⟩
theorem RowP.of_owns {W : World} {base g n cap : Nat} {e : TypeId} {xs : List Value} (h : W.ownsRow base e 1 (.slice (some ⟨g, 0, none⟩) n cap) n xs) : RowP W g e xs := by
  obtain ⟨cur, -, hc, -, -, -, ht, -, -⟩ := owns_block h
  rw [Nat.mul_one] at ht
  refine ⟨cur.toList.drop n, ?_⟩
  rw [hc, ← ht, List.take_append_drop]
end Go.Proofs.Ytinbfnabngdemaa
