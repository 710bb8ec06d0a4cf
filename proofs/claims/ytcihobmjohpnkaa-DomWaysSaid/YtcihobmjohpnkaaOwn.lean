/- Rows that a call owns: what the library's functions on slices do to them. -/
import Derived.Test.YtcihobmjohpnkaaShelf
import Derived.Test.YtcihobmjohpnkaaBase
import Derived.Test.YtcihobmjohpnkaaApp
namespace Go.Proofs.Ytcihobmjohpnkaa
open Go.RowKit Go.Sort

abbrev ints (xs : List Int) : List Value := xs.map (Value.int .i64)

section
variable {w : World} {base : Nat} {e : TypeId} {g n cap : Nat}

theorem owns_block {xs : List Value} {size : Nat} (h : w.ownsRow base e size (.slice (some ⟨g, 0, none⟩) n cap) n xs) :
    ∃ cur, base ≤ g ∧ w.heap[g]? = some (.cells cur e (0, 0)) ∧ n ≤ cap ∧ cap ≤ maxLen ∧ cur.size = cap * size ∧ cur.toList.take (n * size) = xs ∧ xs.length = n * size ∧ g < w.heap.size := by
  have hlt := h.lt g rfl
  obtain ⟨h1, h2⟩ := h
  rcases h2 with ⟨h2, _⟩ | ⟨g', cap', cur, h2, hg, hh, hn, hm, hc, ht⟩
  · simp at h2
  · simp at h2
    obtain ⟨rfl, rfl⟩ := h2
    exact ⟨cur, hg, hh, hn, hm, hc, ht, h1, hlt.2⟩

/-- A block that was just made. -/
theorem owns_new {X W : World} {cs : Array Value} {size : Nat} {xs : List Value} (hW : W.heap = X.heap.push (.cells cs e)) (hb : base ≤ X.heap.size) (hm : n ≤ maxLen) (hs : cs.size = n * size) (hg : g = X.heap.size) (hx : cs.toList = xs) :
    W.ownsRow base e size (.slice (some ⟨g, 0, none⟩) n n) n xs := by
  subst hg hx
  refine ⟨by simpa using hs, .inr ⟨_, n, cs, rfl, hb, ?_, Nat.le_refl _, hm, hs, ?_⟩⟩
  · rw [hW]; simp
  · rw [List.take_of_length_le (by simp [hs])]

theorem owns_mono {v : Value} {xs : List Value} {size base' : Nat} (h : w.ownsRow base e size v n xs) (hb : base' ≤ base) : w.ownsRow base' e size v n xs := by
  obtain ⟨h1, h2⟩ := h
  refine ⟨h1, ?_⟩
  rcases h2 with h2 | ⟨g, cap, cur, hv, hg, r⟩
  · exact .inl h2
  · exact .inr ⟨g, cap, cur, hv, by omega, r⟩

theorem owns_nilcase {v : Value} {xs : List Value} {size : Nat} (h : w.ownsRow base e size v n xs) : (v = .slice none 0 0 ∧ n = 0 ∧ xs = []) ∨ ∃ g cap, v = .slice (some ⟨g, 0, none⟩) n cap := by
  obtain ⟨h1, h2⟩ := h
  rcases h2 with ⟨h2, h3⟩ | ⟨g', cap', cur, h2, _⟩
  · subst h3; exact .inl ⟨h2, rfl, by simpa using h1⟩
  · exact .inr ⟨_, _, h2⟩

theorem owns_shrink {xs : List Value} {size : Nat} (h : w.ownsRow base e size (.slice (some ⟨g, 0, none⟩) n cap) n xs) (m : Nat) (hm : m ≤ n) :
    w.ownsRow base e size (.slice (some ⟨g, 0, none⟩) m cap) m (xs.take (m * size)) := by
  obtain ⟨cur, hg, hh, hn, hmx, hc, ht, hl, _⟩ := owns_block h
  have hle : m * size ≤ n * size := Nat.mul_le_mul_right _ hm
  refine ⟨by rw [List.length_take, hl, Nat.min_eq_left hle], .inr ⟨g, cap, cur, rfl, hg, hh, by omega, hmx, hc, ?_⟩⟩
  rw [← ht, List.take_take, Nat.min_eq_left hle]

theorem owns_holds {xs : List Int} (h : w.ownsRow base e 1 (.slice (some ⟨g, 0, none⟩) xs.length cap) xs.length (ints xs)) : Holds (Value.int .i64) w g 0 xs.toArray := by
  intro j hj
  have hj' : j < xs.length := by simpa using hj
  refine ⟨?_, ?_⟩
  · have := h.cellAt j (by omega)
    rw [Nat.zero_add, this]
    simp [ints, hj']
  · rw [Nat.zero_add]; exact h.frozenAt j

theorem owns_put {xs ys : List Int} (h : w.ownsRow base e 1 (.slice (some ⟨g, 0, none⟩) xs.length cap) xs.length (ints xs)) (hy : ys.length = xs.length) (q : Nat) :
    (putRow (Value.int .i64) (Sort.ahead w q) g 0 ys.toArray).ownsRow base e 1 (.slice (some ⟨g, 0, none⟩) ys.length cap) ys.length (ints ys) ∧
    w.grownBy (putRow (Value.int .i64) (Sort.ahead w q) g 0 ys.toArray) (some g) := by
  obtain ⟨cur, hg, hh, hn, hmx, hc, ht, hl, hlt⟩ := owns_block h
  constructor
  · refine ⟨by simp, .inr ⟨g, cap, putCells (Value.int .i64) 0 ys.toArray cur, rfl, hg, ?_, by omega, hmx, by simpa [putCells] using hc, ?_⟩⟩
    · show (w.heap.modify g _)[g]? = _
      rw [Array.getElem?_modify, if_pos rfl, hh]
      rfl
    · apply List.ext_getElem?
      intro i
      rw [List.getElem?_take, Nat.mul_one]
      by_cases hi : i < ys.length
      · have hic : i < cur.size := by omega
        simp [putCells, hi, hic, ints]
      · simp [hi]
  · refine ⟨rfl, rfl, rfl, by simp [putRow, mapBlock, Sort.ahead], fun k hk hne => ?_⟩
    show (w.heap.modify g _)[k]? = _
    rw [Array.getElem?_modify, if_neg (fun e => hne (by rw [e]))]

/-- 'slices.Reverse' of a row of the call's own. -/
theorem reverse_c {v : Value} {zs : List Int} (w : World) (h : w.ownsRow base e 1 v zs.length (ints zs)) (hs : zs.length ≤ 140737488351232) :
    Calls Try.prog 70 #[v] w fun e' w' => e' = .returned (.tuple #[]) ∧ w'.ownsRow base e 1 v zs.length (ints zs.reverse) ∧ w.grownBy w' v.ownBlock := by
  rcases owns_nilcase h with ⟨rfl, h0, hx⟩ | ⟨g, cap, rfl⟩
  · have hz : zs = [] := List.length_eq_zero_iff.1 h0
    subst hz
    refine (Try.slices_Reverse_int_empty none 0 w).mono ?_
    rintro e' w' ⟨rfl, rfl⟩
    exact ⟨rfl, by simpa using h, World.grownBy.refl _ _⟩
  · refine (Try.slices_Reverse_int g 0 cap zs w (owns_holds h) (by omega)).mono ?_
    rintro e' w' ⟨rfl, q, rfl⟩
    have := owns_put (ys := zs.reverse) h (by simp) q
    rw [List.length_reverse] at this
    exact ⟨rfl, this⟩

/-- 'slices.Compact' of a row of the call's own. -/
theorem compact_c {v : Value} {zs : List Int} (w : World) (h : w.ownsRow base e 1 v zs.length (ints zs)) (hs : zs.length ≤ 140737488351232) :
    Calls Try.prog 73 #[v] w fun e' w' => ∃ v', e' = .returned v' ∧ w'.ownsRow base e 1 v' (Lib.compact zs).length (ints (Lib.compact zs)) ∧ w.grownBy w' v.ownBlock := by
  rcases owns_nilcase h with ⟨rfl, h0, hx⟩ | ⟨g, cap, rfl⟩
  · have hz : zs = [] := List.length_eq_zero_iff.1 h0
    subst hz
    refine (Try.slices_Compact_int_empty none 0 w).mono ?_
    rintro e' w' ⟨rfl, rfl⟩
    exact ⟨_, rfl, World.ownsRow_nil _ _ _ _, World.grownBy.refl _ _⟩
  · obtain ⟨_, _, _, hcap, _⟩ := owns_block h
    refine (Try.slices_Compact_int g 0 cap zs w (owns_holds h) (by omega) hcap).mono ?_
    rintro e' w' ⟨rfl, q, rfl⟩
    have hle := Lib.compact_length_le zs
    obtain ⟨o, hg⟩ := owns_put (ys := Lib.compact zs ++ List.replicate (zs.length - (Lib.compact zs).length) 0) h (by simp; omega) q
    have := owns_shrink o (Lib.compact zs).length (by simp)
    refine ⟨_, rfl, ?_, hg⟩
    simpa [ints] using this

end

theorem infoInt : (Try.prog.info? 3).map (fun i => (i.zero, i.size, i.bytes)) = some (some (.int .i64 0), 1, 8) := by kernel_rfl
theorem infoBool : (Try.prog.info? 4).map (fun i => (i.zero, i.size, i.bytes)) = some (some (.bool false), 1, 1) := by kernel_rfl

theorem grown_trans {A B C : World} {r : Option Nat} (h : A.grownBy B r) (k : B.grownBy C r) : A.grownBy C r :=
  ⟨k.os.trans h.os, k.tape.trans h.tape, k.output.trans h.output, Nat.le_trans h.size k.size, fun i hi hn => (k.block i (Nat.lt_of_lt_of_le hi h.size) hn).trans (h.block i hi hn)⟩

/-- 'out = append(out, y)': ints. -/
theorem app_int {ops : Array Oper} {rest : List Oper} {o : Oper} {a : Act} {Q : Exit → Act → World → Prop} {W : World}
    (hgd : o.guard = none) (s x : Operand) (hop : o.op = .call { callee := .builtin .append, args := #[s, x], argTypes := #[25, 25] })
    (base : Nat) (v : Value) (zs : List Int) (hs : a.eval s = v) (hown : W.ownsRow base 3 1 v zs.length (ints zs)) (g : Nat) (y : Int) (hx : a.eval x = .slice (some ⟨g, 0, none⟩) 1 1)
    (hc : W.heap[g]? = some (.cells #[.int .i64 y] 3 (0, 0))) (hn : zs.length + 1 ≤ 17592186044416) (hb : base ≤ W.heap.size)
    (h : ∀ v' w', w'.ownsRow base 3 1 v' (zs ++ [y]).length (ints (zs ++ [y])) → W.grownBy w' v.ownBlock → (v'.ownBlock = v.ownBlock ∨ v'.ownBlock = some W.heap.size) → wpList Try.prog ops Q rest (a.put o.dst v') w') :
    wpList Try.prog ops Q (o :: rest) a W := by
  obtain ⟨i0, hi, hz0, hz1, hz2⟩ := info_parts infoInt
  refine wp_app _ hgd s x 25 hop base 3 i0 (.int .i64 0) 1 8 Try.underlying25 hi hz0 hz1 hz2 rfl (by decide) v zs.length (ints zs) hs hown
    ⟨g, 0, none⟩ 1 1 [.int .i64 y] hx rfl ?_ ?_ ?_ ?_ hb ?_
  · intro j u hj
    match j, hj with
    | 0, hj => simp at hj; subst hj; simp [Addr.add, cell_of_one hc]
  · intro u hu; simp at hu; subst hu; rfl
  · unfold maxLen; omega
  · omega
  · intro v' w' ho hg hv
    refine h v' w' ?_ hg hv
    simpa [ints] using ho

/-- 'make([]bool, n)'. -/
theorem mk_bools {ops : Array Oper} {rest : List Oper} {o : Oper} {a : Act} {Q : Exit → Act → World → Prop} {W : World}
    (hgd : o.guard = none) (l c : Operand) (hop : o.op = Op.makeSlice 33 l c) (n : Nat) (hl : a.eval l = .int .i64 n) (hc : a.eval c = .int .i64 n) (hn : n ≤ 17592186044416)
    (h : wpList Try.prog ops Q rest (a.put o.dst (.slice (some ⟨W.heap.size, 0, none⟩) n n)) (W.alloc (.cells (bools (List.replicate n false)).toArray 4))) :
    wpList Try.prog ops Q (o :: rest) a W := by
  obtain ⟨i0, hi, hz0, hz1, hz2⟩ := info_parts infoBool
  refine wp_make1 W hgd l c 33 hop 4 i0 _ (.bool false) 1 Try.underlying33 hi hz0 hz1 hz2 rfl n hl hc (by omega) (by omega) ?_
  rw [bools, List.map_replicate] at h
  exact h
end Go.Proofs.Ytcihobmjohpnkaa
