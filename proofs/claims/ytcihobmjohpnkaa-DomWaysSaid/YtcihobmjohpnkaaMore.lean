/- Small laws of rows and slices. -/
import Derived.Test.YtcihobmjohpnkaaOwn
import Derived.Test.YtcihobmjohpnkaaDfs
namespace Go.Proofs.Ytcihobmjohpnkaa
open Go.RowKit Go.Sort

theorem orderS_length (l : List (List InsD)) : (orderS l).length ≤ l.length := by
  unfold orderS
  split
  · simp
  · rw [List.length_reverse]
    have h := (goes_dfs (succS l) l.length).1 0 (List.replicate l.length false, []) (by rename_i h0; simp [List.getD, show 0 < l.length by omega]) (by simp)
    have h1 := h.cnt
    have h2 := h.len
    have h3 := count_true_false (dfs (succS l) l.length 0 (List.replicate l.length false, [])).1
    simp at h1 h2
    omega

theorem ints_of_row {W : World} {g : Nat} {e : TypeId} {xs : List Int} {p : Nat → Prop} (h : Row W g e (xs.map (Value.int .i64))) (hp : p g) (hl : xs.length ≤ 140737488351232) : IsInts p W (.slice (some ⟨g, 0, none⟩) xs.length xs.length) xs :=
  ⟨_, _, rfl, ⟨Nat.le_refl _, hl⟩, .inr ⟨g, 0, rfl, hp, fun j hj => h.cell (by simp [hj])⟩⟩
theorem ints_nil (p : Nat → Prop) (W : World) : IsInts p W (.slice none 0 0) [] := ⟨none, 0, rfl, ⟨by simp, by simp⟩, .inl rfl⟩
theorem rows_of_row {W : World} {g : Nat} {e : TypeId} {vs : List Value} {ll : List (List Int)} {p : Nat → Prop} (h : Row W g e vs) (hp : p g) (hn : vs.length = ll.length) (hl : ll.length ≤ 140737488351232)
    (hel : ∀ j (h1 : j < vs.length) (h2 : j < ll.length), IsInts p W vs[j] ll[j]) : IsRows p W (.slice (some ⟨g, 0, none⟩) ll.length ll.length) ll :=
  ⟨_, _, rfl, ⟨Nat.le_refl _, hl⟩, .inr ⟨g, 0, rfl, hp, fun j hj => ⟨vs[j], h.cell (by simp [hn, hj]), hel j (by omega) hj⟩⟩⟩
theorem ints_of_own {W : World} {base : Nat} {e : TypeId} {u : Value} {xs : List Int} (h : W.ownsRow base e 1 u xs.length (ints xs)) (hl : xs.length ≤ 1000) : IsInts (base ≤ ·) W u xs :=
  ints_of_owns h (by omega) fun _ _ hb _ => hb

theorem below_drewN {a w w' : World} (h : Below a.heap.size a w) (n : Nat) (e : w' = w.drewN n) : Below a.heap.size a w' := by subst e; exact bel_drewN h n


theorem owns_below {w w' : World} {base : Nat} {e : TypeId} {size n : Nat} {u : Value} {xs : List Value} (h : w.ownsRow base e size u n xs) (hb : Below w.heap.size w w') : w'.ownsRow base e size u n xs :=
  h.kept (row := none) ⟨hb.os, hb.tape, hb.output, hb.size, fun k hk _ => hb.block k hk⟩ (by cases u.ownBlock <;> simp)
theorem owns_slice {w : World} {base : Nat} {e : TypeId} {size n : Nat} {u : Value} {xs : List Value} (h : w.ownsRow base e size u n xs) : ∃ a cap, u = .slice a n cap ∧ (0 < n → ∃ g, a = some ⟨g, 0, none⟩) := by
  rcases owns_nilcase h with ⟨rfl, rfl, _⟩ | ⟨g, cap, rfl⟩
  · exact ⟨none, 0, rfl, by omega⟩
  · exact ⟨_, cap, rfl, fun _ => ⟨g, rfl⟩⟩
theorem ints_set (xs : List Int) (k : Nat) (x : Int) : (ints xs).set k (.int .i64 x) = ints (xs.set k x) := by simp [ints, List.map_set]
/-- 'make([]int, n)'. -/
theorem mk_ints {ops : Array Oper} {rest : List Oper} {o : Oper} {a : Act} {Q : Exit → Act → World → Prop} {W : World}
    (hgd : o.guard = none) (l c : Operand) (hop : o.op = Op.makeSlice 25 l c) (n : Nat) (hl : a.eval l = .int .i64 n) (hc : a.eval c = .int .i64 n) (hn : n ≤ 1000000)
    (h : wpList Try.prog ops Q rest (a.put o.dst (.slice (some ⟨W.heap.size, 0, none⟩) n n)) (W.alloc (.cells (ints (List.replicate n 0)).toArray 3))) :
    wpList Try.prog ops Q (o :: rest) a W := by
  obtain ⟨i0, hi, hz0, hz1, hz2⟩ := info_parts infoInt
  refine wp_make1 W hgd l c 25 hop 3 i0 _ (.int .i64 0) 8 Try.underlying25 hi hz0 hz1 hz2 rfl n hl hc (by omega) (by omega) ?_
  rw [ints, List.map_replicate] at h
  exact h
theorem sameS_self (xs : List Int) : sameS xs xs = true := by simp [sameS]
end Go.Proofs.Ytcihobmjohpnkaa
