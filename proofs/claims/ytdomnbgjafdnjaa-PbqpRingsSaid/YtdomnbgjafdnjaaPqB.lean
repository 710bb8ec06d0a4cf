/- Rows that a call owns, makes, appends: for the problems of costs. -/
import Derived.Test.YtdomnbgjafdnjaaShelf
import Derived.Test.YtdomnbgjafdnjaaPqK
namespace Go.Proofs.Ytdomnbgjafdnjaa
open Go.RowKit

abbrev ints (xs : List Int) : List Value := xs.map (Value.int .i64)
def BkS (W X : World) : Prop := Below W.heap.size W X
section
variable {w : World} {base : Nat} {e : TypeId} {g n cap : Nat}
theorem owns_block {xs : List Value} {size : Nat} (h : w.ownsRow base e size (.slice (some ⟨g, 0, none⟩) n cap) n xs) :
    ∃ cur, base ≤ g ∧ w.heap[g]? = some (.cells cur e (0, 0)) ∧ n ≤ cap ∧ cap ≤ maxLen ∧ cur.size = cap * size ∧ cur.toList.take (n * size) = xs ∧ xs.length = n * size ∧ g < w.heap.size := by
  have hlt := h.lt g rfl
  obtain ⟨h1, h2⟩ := h
  rcases h2 with ⟨h2, _⟩ | ⟨g', cap', cur, h2, hg, hh, hn, hm, hc, ht⟩
  · simp at h2
  · simp at h2
    obtain ⟨rfl, rfl⟩ := h2
    exact ⟨cur, hg, hh, hn, hm, hc, ht, h1, hlt.2⟩
/-- A block that was just made. -/
theorem owns_new {X W : World} {cs : Array Value} {size : Nat} {xs : List Value} (hW : W.heap = X.heap.push (.cells cs e)) (hb : base ≤ X.heap.size) (hm : n ≤ maxLen) (hs : cs.size = n * size) (hg : g = X.heap.size) (hx : cs.toList = xs) :
    W.ownsRow base e size (.slice (some ⟨g, 0, none⟩) n n) n xs := by
  subst hg hx
  refine ⟨by simpa using hs, .inr ⟨_, n, cs, rfl, hb, ?_, Nat.le_refl _, hm, hs, ?_⟩⟩
  · rw [hW]; simp
  · rw [List.take_of_length_le (by simp [hs])]
theorem owns_mono {v : Value} {xs : List Value} {size base' : Nat} (h : w.ownsRow base e size v n xs) (hb : base' ≤ base) : w.ownsRow base' e size v n xs := by
  obtain ⟨h1, h2⟩ := h
  refine ⟨h1, ?_⟩
  rcases h2 with h2 | ⟨g, cap, cur, hv, hg, r⟩
  · exact .inl h2
  · exact .inr ⟨g, cap, cur, hv, by omega, r⟩
theorem owns_nilcase {v : Value} {xs : List Value} {size : Nat} (h : w.ownsRow base e size v n xs) : (v = .slice none 0 0 ∧ n = 0 ∧ xs = []) ∨ ∃ g cap, v = .slice (some ⟨g, 0, none⟩) n cap := by
  obtain ⟨h1, h2⟩ := h
  rcases h2 with ⟨h2, h3⟩ | ⟨g', cap', cur, h2, _⟩
  · subst h3; exact .inl ⟨h2, rfl, by simpa using h1⟩
  · exact .inr ⟨_, _, h2⟩
end
theorem infoInt : (Try.prog.info? 3).map (fun i => (i.zero, i.size, i.bytes)) = some (some (.int .i64 0), 1, 8) := by kernel_rfl
theorem infoBool : (Try.prog.info? 4).map (fun i => (i.zero, i.size, i.bytes)) = some (some (.bool false), 1, 1) := by kernel_rfl
theorem grown_trans {A B C : World} {r : Option Nat} (h : A.grownBy B r) (k : B.grownBy C r) : A.grownBy C r :=
  ⟨k.os.trans h.os, k.tape.trans h.tape, k.output.trans h.output, Nat.le_trans h.size k.size, fun i hi hn => (k.block i (Nat.lt_of_lt_of_le hi h.size) hn).trans (h.block i hi hn)⟩
/-- 'make([]bool, n)'. -/
theorem mk_bools {ops : Array Oper} {rest : List Oper} {o : Oper} {a : Act} {Q : Exit → Act → World → Prop} {W : World}
    (hgd : o.guard = none) (l c : Operand) (hop : o.op = Op.makeSlice 54 l c) (n : Nat) (hl : a.eval l = .int .i64 n) (hc : a.eval c = .int .i64 n) (hn : n ≤ 17592186044416)
    (h : wpList Try.prog ops Q rest (a.put o.dst (.slice (some ⟨W.heap.size, 0, none⟩) n n)) (W.alloc (.cells (bools (List.replicate n false)).toArray 4))) :
    wpList Try.prog ops Q (o :: rest) a W := by
  obtain ⟨i0, hi, hz0, hz1, hz2⟩ := info_parts infoBool
  refine wp_make1 W hgd l c 54 hop 4 i0 _ (.bool false) 1 Try.underlying54 hi hz0 hz1 hz2 rfl n hl hc (by omega) (by omega) ?_
  rw [bools, List.map_replicate] at h
  exact h
theorem ints_of_row {W : World} {g : Nat} {e : TypeId} {xs : List Int} {p : Nat → Prop} (h : Row W g e (xs.map (Value.int .i64))) (hp : p g) (hl : xs.length ≤ 140737488351232) : IsInts p W (.slice (some ⟨g, 0, none⟩) xs.length xs.length) xs :=
  ⟨_, _, rfl, ⟨Nat.le_refl _, hl⟩, .inr ⟨g, 0, rfl, hp, fun j hj => h.cell (by simp [hj])⟩⟩
theorem ints_nil (p : Nat → Prop) (W : World) : IsInts p W (.slice none 0 0) [] := ⟨none, 0, rfl, ⟨by simp, by simp⟩, .inl rfl⟩
theorem owns_below {w w' : World} {base : Nat} {e : TypeId} {size n : Nat} {u : Value} {xs : List Value} (h : w.ownsRow base e size u n xs) (hb : Below w.heap.size w w') : w'.ownsRow base e size u n xs :=
  h.kept (row := none) ⟨hb.os, hb.tape, hb.output, hb.size, fun k hk _ => hb.block k hk⟩ (by cases u.ownBlock <;> simp)
theorem owns_slice {w : World} {base : Nat} {e : TypeId} {size n : Nat} {u : Value} {xs : List Value} (h : w.ownsRow base e size u n xs) : ∃ a cap, u = .slice a n cap ∧ (0 < n → ∃ g, a = some ⟨g, 0, none⟩) := by
  rcases owns_nilcase h with ⟨rfl, rfl, _⟩ | ⟨g, cap, rfl⟩
  · exact ⟨none, 0, rfl, by omega⟩
  · exact ⟨_, cap, rfl, fun _ => ⟨g, rfl⟩⟩
theorem ints_set (xs : List Int) (k : Nat) (x : Int) : (ints xs).set k (.int .i64 x) = ints (xs.set k x) := by simp [ints, List.map_set]
/-- 'out = append(out, y)' where an element is one cell. -/
theorem app_cell {ops : Array Oper} {rest : List Oper} {o : Oper} {a : Act} {Q : Exit → Act → World → Prop} {W : World}
    (t e : TypeId) (z : Value) (bytes : Nat) (ht : Try.prog.underlying t = some (.slice e)) (hinfo : (Try.prog.info? e).map (fun i => (i.zero, i.size, i.bytes)) = some (some z, 1, bytes)) (hz : z.cells.size = 1)
    (hgd : o.guard = none) (s x : Operand) (hop : o.op = .call { callee := .builtin .append, args := #[s, x], argTypes := #[t, t] })
    (base : Nat) (v : Value) (zs : List Value) (hs : a.eval s = v) (hown : W.ownsRow base e 1 v zs.length zs) (g : Nat) (y : Value) (hy : y.oneCell' = true) (hx : a.eval x = .slice (some ⟨g, 0, none⟩) 1 1)
    (hc : W.heap[g]? = some (.cells #[y] e (0, 0))) (hn : (zs.length + 1) * bytes ≤ 140737488355328) (hm : zs.length + 1 ≤ maxLen) (hb : base ≤ W.heap.size)
    (h : ∀ v' w', w'.ownsRow base e 1 v' (zs ++ [y]).length (zs ++ [y]) → W.grownBy w' v.ownBlock → (v'.ownBlock = v.ownBlock ∨ v'.ownBlock = some W.heap.size) → wpList Try.prog ops Q rest (a.put o.dst v') w') :
    wpList Try.prog ops Q (o :: rest) a W := by
  obtain ⟨i0, hi, hz0, hz1, hz2⟩ := info_parts hinfo
  refine wp_app _ hgd s x t hop base e i0 z 1 bytes ht hi hz0 hz1 hz2 hz (by decide) v zs.length zs hs hown ⟨g, 0, none⟩ 1 1 [y] hx rfl ?_ ?_ hm hn hb ?_
  · intro j u hj
    match j, hj with
    | 0, hj => simp at hj; subst hj; simp [Addr.add, cell_of_one hc]
  · intro u hu; simp at hu; subst hu; exact hy
  · intro v' w' ho hg hv
    refine h v' w' ?_ hg hv
    rw [List.length_append]
    exact ho
/-- Where the rows of what is being made may lie. -/
def pFl (B : Nat) (vo : Value) (k : Nat) : Prop := B ≤ k ∧ some k ≠ vo.ownBlock
end Go.Proofs.Ytdomnbgjafdnjaa
