/- Rows that a call owns: what the library's functions on slices do to them. -/
import Derived.Test.YtcihobmjohpnkaaShelf
import Derived.Test.YtcihobmjohpnkaaBase
namespace Go.Proofs.Ytcihobmjohpnkaa

section
open Go.RowKit Go.Sort

abbrev ints (xs : List Int) : List Value := xs.map (Value.int .i64)

section
variable {w : World} {base : Nat} {e : TypeId} {g n cap : Nat}

theorem owns_block {xs : List Value} {size : Nat} (h : w.ownsRow base e size (.slice (some ⟨g, 0, none⟩) n cap) n xs) :
    ∃ cur, base ≤ g ∧ w.heap[g]? = some (.cells cur e (0, 0)) ∧ n ≤ cap ∧ cap ≤ maxLen ∧ cur.size = cap * size ∧ cur.toList.take (n * size) = xs ∧ xs.length = n * size ∧ g < w.heap.size := by
  have hlt := h.lt g rfl
  obtain ⟨h1, h2⟩ := h
  rcases h2 with ⟨h2, _⟩ | ⟨g', cap', cur, h2, hg, hh, hn, hm, hc, ht⟩
  · simp at h2
  · simp at h2
    obtain ⟨rfl, rfl⟩ := h2
    exact ⟨cur, hg, hh, hn, hm, hc, ht, h1, hlt.2⟩

/-- A block that was just made. -/
theorem owns_new {X W : World} {cs : Array Value} {size : Nat} {xs : List Value} (hW : W.heap = X.heap.push (.cells cs e)) (hb : base ≤ X.heap.size) (hm : n ≤ maxLen) (hs : cs.size = n * size) (hg : g = X.heap.size) (hx : cs.toList = xs) :
    W.ownsRow base e size (.slice (some ⟨g, 0, none⟩) n n) n xs := by
  subst hg hx
  refine ⟨by simpa using hs, .inr ⟨_, n, cs, rfl, hb, ?_, Nat.le_refl _, hm, hs, ?_⟩⟩
  · rw [hW]; simp
  · rw [List.take_of_length_le (by simp [hs])]

theorem owns_mono {v : Value} {xs : List Value} {size base' : Nat} (h : w.ownsRow base e size v n xs) (hb : base' ≤ base) : w.ownsRow base' e size v n xs := by
  obtain ⟨h1, h2⟩ := h
  refine ⟨h1, ?_⟩
  rcases h2 with h2 | ⟨g, cap, cur, hv, hg, r⟩
  · exact .inl h2
  · exact .inr ⟨g, cap, cur, hv, by omega, r⟩

theorem owns_nilcase {v : Value} {xs : List Value} {size : Nat} (h : w.ownsRow base e size v n xs) : (v = .slice none 0 0 ∧ n = 0 ∧ xs = []) ∨ ∃ g cap, v = .slice (some ⟨g, 0, none⟩) n cap := by
  obtain ⟨h1, h2⟩ := h
  rcases h2 with ⟨h2, h3⟩ | ⟨g', cap', cur, h2, _⟩
  · subst h3; exact .inl ⟨h2, rfl, by simpa using h1⟩
  · exact .inr ⟨_, _, h2⟩

theorem owns_shrink {xs : List Value} {size : Nat} (h : w.ownsRow base e size (.slice (some ⟨g, 0, none⟩) n cap) n xs) (m : Nat) (hm : m ≤ n) :
    w.ownsRow base e size (.slice (some ⟨g, 0, none⟩) m cap) m (xs.take (m * size)) := by
  obtain ⟨cur, hg, hh, hn, hmx, hc, ht, hl, _⟩ := owns_block h
  have hle : m * size ≤ n * size := Nat.mul_le_mul_right _ hm
  refine ⟨by rw [List.length_take, hl, Nat.min_eq_left hle], .inr ⟨g, cap, cur, rfl, hg, hh, by omega, hmx, hc, ?_⟩⟩
  rw [← ht, List.take_take, Nat.min_eq_left hle]

theorem owns_holds {xs : List Int} (h : w.ownsRow base e 1 (.slice (some ⟨g, 0, none⟩) xs.length cap) xs.length (ints xs)) : Holds (Value.int .i64) w g 0 xs.toArray := by
  intro j hj
  have hj' : j < xs.length := by simpa using hj
  refine ⟨?_, ?_⟩
  · have := h.cellAt j (by omega)
    rw [Nat.zero_add, this]
    simp [ints, hj']
  · rw [Nat.zero_add]; exact h.frozenAt j

theorem owns_put {xs ys : List Int} (h : w.ownsRow base e 1 (.slice (some ⟨g, 0, none⟩) xs.length cap) xs.length (ints xs)) (hy : ys.length = xs.length) (q : Nat) :
    (putRow (Value.int .i64) (Sort.ahead w q) g 0 ys.toArray).ownsRow base e 1 (.slice (some ⟨g, 0, none⟩) ys.length cap) ys.length (ints ys) ∧
    w.grownBy (putRow (Value.int .i64) (Sort.ahead w q) g 0 ys.toArray) (some g) := by
  obtain ⟨cur, hg, hh, hn, hmx, hc, ht, hl, hlt⟩ := owns_block h
  constructor
  · refine ⟨by simp, .inr ⟨g, cap, putCells (Value.int .i64) 0 ys.toArray cur, rfl, hg, ?_, by omega, hmx, by simpa [putCells] using hc, ?_⟩⟩
    · show (w.heap.modify g _)[g]? = _
      rw [Array.getElem?_modify, if_pos rfl, hh]
      rfl
    · apply List.ext_getElem?
      intro i
      rw [List.getElem?_take, Nat.mul_one]
      by_cases hi : i < ys.length
      · have hic : i < cur.size := by omega
        simp [putCells, hi, hic, ints]
      · simp [hi]
  · refine ⟨rfl, rfl, rfl, by simp [putRow, mapBlock, Sort.ahead], fun k hk hne => ?_⟩
    show (w.heap.modify g _)[k]? = _
    rw [Array.getElem?_modify, if_neg (fun e => hne (by rw [e]))]

/-- 'slices.Reverse' of a row of the call's own. -/
theorem reverse_c {v : Value} {zs : List Int} (w : World) (h : w.ownsRow base e 1 v zs.length (ints zs)) (hs : zs.length ≤ 140737488351232) :
    Calls Try.prog 70 #[v] w fun e' w' => e' = .returned (.tuple #[]) ∧ w'.ownsRow base e 1 v zs.length (ints zs.reverse) ∧ w.grownBy w' v.ownBlock := by
  rcases owns_nilcase h with ⟨rfl, h0, hx⟩ | ⟨g, cap, rfl⟩
  · have hz : zs = [] := List.length_eq_zero_iff.1 h0
    subst hz
    refine (Try.slices_Reverse_int_empty none 0 w).mono ?_
    rintro e' w' ⟨rfl, rfl⟩
    exact ⟨rfl, by simpa using h, World.grownBy.refl _ _⟩
  · refine (Try.slices_Reverse_int g 0 cap zs w (owns_holds h) (by omega)).mono ?_
    rintro e' w' ⟨rfl, q, rfl⟩
    have := owns_put (ys := zs.reverse) h (by simp) q
    rw [List.length_reverse] at this
    exact ⟨rfl, this⟩

/-- 'slices.Compact' of a row of the call's own. -/
theorem compact_c {v : Value} {zs : List Int} (w : World) (h : w.ownsRow base e 1 v zs.length (ints zs)) (hs : zs.length ≤ 140737488351232) :
    Calls Try.prog 73 #[v] w fun e' w' => ∃ v', e' = .returned v' ∧ w'.ownsRow base e 1 v' (Lib.compact zs).length (ints (Lib.compact zs)) ∧ w.grownBy w' v.ownBlock := by
  rcases owns_nilcase h with ⟨rfl, h0, hx⟩ | ⟨g, cap, rfl⟩
  · have hz : zs = [] := List.length_eq_zero_iff.1 h0
    subst hz
    refine (Try.slices_Compact_int_empty none 0 w).mono ?_
    rintro e' w' ⟨rfl, rfl⟩
    exact ⟨_, rfl, World.ownsRow_nil _ _ _ _, World.grownBy.refl _ _⟩
  · obtain ⟨_, _, _, hcap, _⟩ := owns_block h
    refine (Try.slices_Compact_int g 0 cap zs w (owns_holds h) (by omega) hcap).mono ?_
    rintro e' w' ⟨rfl, q, rfl⟩
    have hle := Lib.compact_length_le zs
    obtain ⟨o, hg⟩ := owns_put (ys := Lib.compact zs ++ List.replicate (zs.length - (Lib.compact zs).length) 0) h (by simp; omega) q
    have := owns_shrink o (Lib.compact zs).length (by simp)
    refine ⟨_, rfl, ?_, hg⟩
    simpa [ints] using this

end

theorem infoInt : (Try.prog.info? 3).map (fun i => (i.zero, i.size, i.bytes)) = some (some (.int .i64 0), 1, 8) := by kernel_rfl
theorem infoBool : (Try.prog.info? 4).map (fun i => (i.zero, i.size, i.bytes)) = some (some (.bool false), 1, 1) := by kernel_rfl

theorem grown_trans {A B C : World} {r : Option Nat} (h : A.grownBy B r) (k : B.grownBy C r) : A.grownBy C r :=
  ⟨k.os.trans h.os, k.tape.trans h.tape, k.output.trans h.output, Nat.le_trans h.size k.size, fun i hi hn => (k.block i (Nat.lt_of_lt_of_le hi h.size) hn).trans (h.block i hi hn)⟩

/-- 'out = append(out, y)': ints. -/
theorem app_int {ops : Array Oper} {rest : List Oper} {o : Oper} {a : Act} {Q : Exit → Act → World → Prop} {W : World}
    (hgd : o.guard = none) (s x : Operand) (hop : o.op = .call { callee := .builtin .append, args := #[s, x], argTypes := #[25, 25] })
    (base : Nat) (v : Value) (zs : List Int) (hs : a.eval s = v) (hown : W.ownsRow base 3 1 v zs.length (ints zs)) (g : Nat) (y : Int) (hx : a.eval x = .slice (some ⟨g, 0, none⟩) 1 1)
    (hc : W.heap[g]? = some (.cells #[.int .i64 y] 3 (0, 0))) (hn : zs.length + 1 ≤ 17592186044416) (hb : base ≤ W.heap.size)
    (h : ∀ v' w', w'.ownsRow base 3 1 v' (zs ++ [y]).length (ints (zs ++ [y])) → W.grownBy w' v.ownBlock → (v'.ownBlock = v.ownBlock ∨ v'.ownBlock = some W.heap.size) → wpList Try.prog ops Q rest (a.put o.dst v') w') :
    wpList Try.prog ops Q (o :: rest) a W := by
  obtain ⟨i0, hi, hz0, hz1, hz2⟩ := info_parts infoInt
  refine wp_app _ hgd s x 25 hop base 3 i0 (.int .i64 0) 1 8 Try.underlying25 hi hz0 hz1 hz2 rfl (by decide) v zs.length (ints zs) hs hown
    ⟨g, 0, none⟩ 1 1 [.int .i64 y] hx rfl ?_ ?_ ?_ ?_ hb ?_
  · intro j u hj
    match j, hj with
    | 0, hj => simp at hj; subst hj; simp [Addr.add, cell_of_one hc]
  · intro u hu; simp at hu; subst hu; rfl
  · unfold maxLen; omega
  · omega
  · intro v' w' ho hg hv
    refine h v' w' ?_ hg hv
    simpa [ints] using ho

/-- 'make([]bool, n)'. -/
theorem mk_bools {ops : Array Oper} {rest : List Oper} {o : Oper} {a : Act} {Q : Exit → Act → World → Prop} {W : World}
    (hgd : o.guard = none) (l c : Operand) (hop : o.op = Op.makeSlice 33 l c) (n : Nat) (hl : a.eval l = .int .i64 n) (hc : a.eval c = .int .i64 n) (hn : n ≤ 17592186044416)
    (h : wpList Try.prog ops Q rest (a.put o.dst (.slice (some ⟨W.heap.size, 0, none⟩) n n)) (W.alloc (.cells (bools (List.replicate n false)).toArray 4))) :
    wpList Try.prog ops Q (o :: rest) a W := by
  obtain ⟨i0, hi, hz0, hz1, hz2⟩ := info_parts infoBool
  refine wp_make1 W hgd l c 33 hop 4 i0 _ (.bool false) 1 Try.underlying33 hi hz0 hz1 hz2 rfl n hl hc (by omega) (by omega) ?_
  rw [bools, List.map_replicate] at h
  exact h
end

section
/- The order in which blocks are told, in plain Lean: by recursion, and by a stack. -/
section
variable (s : Int → List Int)

/-- Going down from a block: which blocks have been seen; those that are left, in that order. -/
def dfs : Nat → Int → List Bool × List Int → List Bool × List Int
  | 0, _, st => st
  | f + 1, b, st =>
    let r := (s b).foldl (fun st x => if st.1.getD x.toNat true then st else dfs f x st) (st.1.set b.toNat true, st.2)
    (r.1, r.2 ++ [b])
def dfsL (f : Nat) (xs : List Int) (st : List Bool × List Int) : List Bool × List Int :=
  xs.foldl (fun st x => if st.1.getD x.toNat true then st else dfs s f x st) st
theorem dfs_succ (f : Nat) (b : Int) (st : List Bool × List Int) : dfs s (f + 1) b st = ((dfsL s f (s b) (st.1.set b.toNat true, st.2)).1, (dfsL s f (s b) (st.1.set b.toNat true, st.2)).2 ++ [b]) := rfl
theorem dfsL_nil (f : Nat) (st : List Bool × List Int) : dfsL s f [] st = st := rfl
theorem dfsL_cons (f : Nat) (x : Int) (xs : List Int) (st : List Bool × List Int) : dfsL s f (x :: xs) st = dfsL s f xs (if st.1.getD x.toNat true then st else dfs s f x st) := rfl
theorem dfsL_snoc (f : Nat) (x : Int) (xs : List Int) (st : List Bool × List Int) : dfsL s f (xs ++ [x]) st = if (dfsL s f xs st).1.getD x.toNat true then dfsL s f xs st else dfs s f x (dfsL s f xs st) := by
  simp [dfsL, List.foldl_append]

theorem count_set {seen : List Bool} {k : Nat} (h : seen.getD k true = false) : (seen.set k true).count true = seen.count true + 1 ∧ (seen.set k true).count false + 1 = seen.count false := by
  have hk : k < seen.length := by
    apply Classical.byContradiction
    intro hk
    rw [List.getD_eq_getElem?_getD, List.getElem?_eq_none (by omega)] at h
    simp at h
  have hv : seen[k] = false := by rw [List.getD_eq_getElem?_getD, List.getElem?_eq_getElem hk] at h; exact h
  have e : seen = seen.take k ++ false :: seen.drop (k + 1) := by
    rw [← hv]; simp
  have e2 : seen.set k true = seen.take k ++ true :: seen.drop (k + 1) := by
    rw [List.set_eq_take_append_cons_drop, if_pos hk]
  rw [e2]
  constructor
  · conv => rhs; rw [e]
    simp; omega
  · conv => rhs; rw [e]
    simp; omega

theorem count_true_false (l : List Bool) : l.count true + l.count false = l.length := by
  induction l with
  | nil => rfl
  | cons b l ih => cases b <;> simp <;> omega

/-- What going down keeps: the length; what is seen stays so; each block that is newly seen is told. -/
structure Goes (a r : List Bool × List Int) : Prop where
  len : r.1.length = a.1.length
  cnt : r.2.length + a.1.count true = a.2.length + r.1.count true
  le : a.1.count true ≤ r.1.count true
theorem Goes.refl (a : List Bool × List Int) : Goes a a := ⟨rfl, rfl, Nat.le_refl _⟩
theorem Goes.trans {a b c : List Bool × List Int} (h : Goes a b) (k : Goes b c) : Goes a c := ⟨k.len.trans h.len, by have := h.cnt; have := k.cnt; omega, Nat.le_trans h.le k.le⟩

theorem goes_dfs (f : Nat) : (∀ b st, st.1.getD b.toNat true = false → st.1.count false ≤ f → Goes st (dfs s f b st)) ∧ (∀ xs st, st.1.count false ≤ f → Goes st (dfsL s f xs st)) := by
  induction f with
  | zero =>
    have h1 : ∀ b st, st.1.getD b.toNat true = false → st.1.count false ≤ 0 → Goes st (dfs s 0 b st) := by
      intro b st h hc
      have := (count_set h).2
      omega
    refine ⟨h1, fun xs => ?_⟩
    induction xs with
    | nil => intro st _; exact Goes.refl _
    | cons x xs ih =>
      intro st hc
      rw [dfsL_cons]
      split
      · exact ih _ hc
      · rename_i h
        have h' : st.1.getD x.toNat true = false := by simpa using h
        have hg := h1 x st h' hc
        refine hg.trans (ih _ ?_)
        have := count_true_false st.1; have := count_true_false (dfs s 0 x st).1; have := hg.len; have := hg.le
        omega
  | succ f ihf =>
    have h1 : ∀ b st, st.1.getD b.toNat true = false → st.1.count false ≤ f + 1 → Goes st (dfs s (f + 1) b st) := by
      intro b st h hc
      rw [dfs_succ]
      obtain ⟨c1, c2⟩ := count_set h
      have hg := ihf.2 (s b) (st.1.set b.toNat true, st.2) (by show (st.1.set b.toNat true).count false ≤ f; omega)
      have l1 := hg.len; have l2 := hg.cnt; have l3 := hg.le
      dsimp only at l1 l2 l3
      refine ⟨by rw [l1]; simp, ?_, by show _ ≤ (dfsL s f (s b) (st.1.set b.toNat true, st.2)).1.count true; omega⟩
      simp only [List.length_append, List.length_cons, List.length_nil]
      omega
    refine ⟨h1, fun xs => ?_⟩
    induction xs with
    | nil => intro st _; exact Goes.refl _
    | cons x xs ih =>
      intro st hc
      rw [dfsL_cons]
      split
      · exact ih _ hc
      · rename_i h
        have h' : st.1.getD x.toNat true = false := by simpa using h
        have hg := h1 x st h' hc
        refine hg.trans (ih _ ?_)
        have := count_true_false st.1; have := count_true_false (dfs s (f + 1) x st).1; have := hg.len; have := hg.le
        omega

/-- The same by a stack: from what is seen, the stack (a block, and where it still goes on) and what has been told so far to what is told in the end, in so many steps. -/
inductive ItRuns : Nat → List Bool → List (Int × List Int) → List Int → List Int → Prop
  | done (seen : List Bool) (out : List Int) : ItRuns 0 seen [] out out
  | pop {k : Nat} {seen : List Bool} {b : Int} {st : List (Int × List Int)} {out fin : List Int} : ItRuns k seen st (out ++ [b]) fin → ItRuns (k + 1) seen ((b, []) :: st) out fin
  | skip {k : Nat} {seen : List Bool} {b x : Int} {r : List Int} {st : List (Int × List Int)} {out fin : List Int} : seen.getD x.toNat true = true → ItRuns k seen ((b, r) :: st) out fin → ItRuns (k + 1) seen ((b, x :: r) :: st) out fin
  | push {k : Nat} {seen : List Bool} {b x : Int} {r : List Int} {st : List (Int × List Int)} {out fin : List Int} : seen.getD x.toNat true = false → ItRuns k (seen.set x.toNat true) ((x, s x) :: (b, r) :: st) out fin → ItRuns (k + 1) seen ((b, x :: r) :: st) out fin

theorem it_of_dfs (f : Nat) : ∀ (xs : List Int) (seen : List Bool) (out : List Int) (b : Int) (st : List (Int × List Int)) (fin : List Int) (k : Nat), seen.count false ≤ f →
    ItRuns s k (dfsL s f xs (seen, out)).1 st ((dfsL s f xs (seen, out)).2 ++ [b]) fin → ∃ k', ItRuns s k' seen ((b, xs) :: st) out fin := by
  induction f with
  | zero =>
    intro xs
    induction xs with
    | nil => intro seen out b st fin k hc h; exact ⟨_, .pop h⟩
    | cons x xs ih =>
      intro seen out b st fin k hc h
      by_cases hs : seen.getD x.toNat true = true
      · rw [dfsL_cons, if_pos (by simpa using hs)] at h
        obtain ⟨k', h'⟩ := ih seen out b st fin k hc h
        exact ⟨_, .skip hs h'⟩
      · have := (count_set (seen := seen) (k := x.toNat) (by simpa using hs)).2
        omega
  | succ f ihf =>
    intro xs
    induction xs with
    | nil => intro seen out b st fin k hc h; exact ⟨_, .pop h⟩
    | cons x xs ih =>
      intro seen out b st fin k hc h
      by_cases hs : seen.getD x.toNat true = true
      · rw [dfsL_cons, if_pos (by simpa using hs)] at h
        obtain ⟨k', h'⟩ := ih seen out b st fin k hc h
        exact ⟨_, .skip hs h'⟩
      · have hs' : seen.getD x.toNat true = false := by simpa using hs
        have hc2 := (count_set hs').2
        rw [dfsL_cons, if_neg (by simpa using hs)] at h
        have hg := (goes_dfs s (f + 1)).1 x (seen, out) hs' hc
        have hcc : (dfs s (f + 1) x (seen, out)).1.count false ≤ f + 1 := by
          have := count_true_false seen; have := count_true_false (dfs s (f + 1) x (seen, out)).1; have := hg.len; have := hg.le
          dsimp only at *
          omega
        obtain ⟨k', h'⟩ := ih (dfs s (f + 1) x (seen, out)).1 (dfs s (f + 1) x (seen, out)).2 b st fin k hcc h
        rw [dfs_succ] at h'
        obtain ⟨k2, h2⟩ := ihf (s x) (seen.set x.toNat true) out x ((b, xs) :: st) fin k' (by omega) h'
        exact ⟨_, .push hs' h2⟩
end

/-- The blocks that are reached, in their order. -/
def orderS (l : List (List InsD)) : List Int := if l.length = 0 then [] else (dfs (succS l) l.length 0 (List.replicate l.length false, [])).2.reverse

theorem succS_range (l : List (List InsD)) (b : Int) : ∀ x ∈ succS l b, 0 ≤ x ∧ x < l.length := by
  intro x hx
  unfold succS at hx
  split at hx
  · unfold succN at hx
    split at hx
    · simp at hx
    · have := (List.mem_filter.1 hx).2
      unfold inR at this
      simpa using this
  · simp at hx

theorem it_order (l : List (List InsD)) (h : 0 < l.length) : ∃ k, ItRuns (succS l) k ((List.replicate l.length false).set 0 true) [(0, succS l 0)] [] (orderS l).reverse := by
  obtain ⟨n, hn⟩ : ∃ n, l.length = n + 1 := ⟨l.length - 1, by omega⟩
  have hs : (List.replicate l.length false).getD (0 : Int).toNat true = false := by simp [List.getD, h]
  have hc := (count_set hs).2
  simp only [List.count_replicate_self] at hc
  refine it_of_dfs (succS l) n (succS l 0) _ [] 0 [] _ 0 (by
    have : (0 : Int).toNat = 0 := rfl
    rw [this] at hc
    omega) ?_
  have e : (orderS l).reverse = (dfsL (succS l) n (succS l 0) ((List.replicate l.length false).set 0 true, [])).2 ++ [0] := by
    unfold orderS
    rw [if_neg (by omega), List.reverse_reverse, hn, dfs_succ]
    rfl
  rw [e]
  exact .done _ _
theorem succS_length (l : List (List InsD)) (b : Int) : (succS l b).length ≤ 2 := by
  unfold succS
  split
  · unfold succN
    split
    · simp
    · refine Nat.le_trans (List.length_filter_le _ _) ?_
      unfold rawS
      split
      · split <;> simp
      · split <;> simp
  · simp

/-- One block that goes on as a row of edges tells. -/
def flowRow (r : List Int) : List InsD := match r with
  | [] => [⟨9, 0, 0, 0, 0, ⟨#[]⟩, [], 0, 0⟩]
  | [t] => [⟨8, 0, 0, 0, 0, ⟨#[]⟩, [], t, 0⟩]
  | t :: f :: _ => [⟨7, 0, 0, 0, 0, ⟨#[]⟩, [], t, f⟩]
def flowS (ll : List (List Int)) : List (List InsD) := ll.map flowRow
end

section
/- Small laws of rows and slices. -/
open Go.RowKit Go.Sort

theorem orderS_length (l : List (List InsD)) : (orderS l).length ≤ l.length := by
  unfold orderS
  split
  · simp
  · rw [List.length_reverse]
    have h := (goes_dfs (succS l) l.length).1 0 (List.replicate l.length false, []) (by rename_i h0; simp [List.getD, show 0 < l.length by omega]) (by simp)
    have h1 := h.cnt
    have h2 := h.len
    have h3 := count_true_false (dfs (succS l) l.length 0 (List.replicate l.length false, [])).1
    simp at h1 h2
    omega

theorem ints_of_row {W : World} {g : Nat} {e : TypeId} {xs : List Int} {p : Nat → Prop} (h : Row W g e (xs.map (Value.int .i64))) (hp : p g) (hl : xs.length ≤ 140737488351232) : IsInts p W (.slice (some ⟨g, 0, none⟩) xs.length xs.length) xs :=
  ⟨_, _, rfl, ⟨Nat.le_refl _, hl⟩, .inr ⟨g, 0, rfl, hp, fun j hj => h.cell (by simp [hj])⟩⟩
theorem ints_nil (p : Nat → Prop) (W : World) : IsInts p W (.slice none 0 0) [] := ⟨none, 0, rfl, ⟨by simp, by simp⟩, .inl rfl⟩
theorem rows_of_row {W : World} {g : Nat} {e : TypeId} {vs : List Value} {ll : List (List Int)} {p : Nat → Prop} (h : Row W g e vs) (hp : p g) (hn : vs.length = ll.length) (hl : ll.length ≤ 140737488351232)
    (hel : ∀ j (h1 : j < vs.length) (h2 : j < ll.length), IsInts p W vs[j] ll[j]) : IsRows p W (.slice (some ⟨g, 0, none⟩) ll.length ll.length) ll :=
  ⟨_, _, rfl, ⟨Nat.le_refl _, hl⟩, .inr ⟨g, 0, rfl, hp, fun j hj => ⟨vs[j], h.cell (by simp [hn, hj]), hel j (by omega) hj⟩⟩⟩
theorem ints_of_own {W : World} {base : Nat} {e : TypeId} {u : Value} {xs : List Int} (h : W.ownsRow base e 1 u xs.length (ints xs)) (hl : xs.length ≤ 1000) : IsInts (base ≤ ·) W u xs :=
  ints_of_owns h (by omega) fun _ _ hb _ => hb

theorem below_drewN {a w w' : World} (h : Below a.heap.size a w) (n : Nat) (e : w' = w.drewN n) : Below a.heap.size a w' := by subst e; exact bel_drewN h n


theorem owns_below {w w' : World} {base : Nat} {e : TypeId} {size n : Nat} {u : Value} {xs : List Value} (h : w.ownsRow base e size u n xs) (hb : Below w.heap.size w w') : w'.ownsRow base e size u n xs :=
  h.kept (row := none) ⟨hb.os, hb.tape, hb.output, hb.size, fun k hk _ => hb.block k hk⟩ (by cases u.ownBlock <;> simp)
theorem owns_slice {w : World} {base : Nat} {e : TypeId} {size n : Nat} {u : Value} {xs : List Value} (h : w.ownsRow base e size u n xs) : ∃ a cap, u = .slice a n cap ∧ (0 < n → ∃ g, a = some ⟨g, 0, none⟩) := by
  rcases owns_nilcase h with ⟨rfl, rfl, _⟩ | ⟨g, cap, rfl⟩
  · exact ⟨none, 0, rfl, by omega⟩
  · exact ⟨_, cap, rfl, fun _ => ⟨g, rfl⟩⟩
theorem ints_set (xs : List Int) (k : Nat) (x : Int) : (ints xs).set k (.int .i64 x) = ints (xs.set k x) := by simp [ints, List.map_set]
/-- 'make([]int, n)'. -/
theorem mk_ints {ops : Array Oper} {rest : List Oper} {o : Oper} {a : Act} {Q : Exit → Act → World → Prop} {W : World}
    (hgd : o.guard = none) (l c : Operand) (hop : o.op = Op.makeSlice 25 l c) (n : Nat) (hl : a.eval l = .int .i64 n) (hc : a.eval c = .int .i64 n) (hn : n ≤ 1000000)
    (h : wpList Try.prog ops Q rest (a.put o.dst (.slice (some ⟨W.heap.size, 0, none⟩) n n)) (W.alloc (.cells (ints (List.replicate n 0)).toArray 3))) :
    wpList Try.prog ops Q (o :: rest) a W := by
  obtain ⟨i0, hi, hz0, hz1, hz2⟩ := info_parts infoInt
  refine wp_make1 W hgd l c 25 hop 3 i0 _ (.int .i64 0) 8 Try.underlying25 hi hz0 hz1 hz2 rfl n hl hc (by omega) (by omega) ?_
  rw [ints, List.map_replicate] at h
  exact h
theorem sameS_self (xs : List Int) : sameS xs xs = true := by simp [sameS]
end

section
/- What going down comes to, in plain Lean: each block that there is a way to, once; those that go on to no earlier block in their order. -/
/-- Is a block seen? -/
def sn (seen : List Bool) (x : Int) : Bool := seen.getD x.toNat true
theorem sn_set {seen : List Bool} {b x : Int} (hb : 0 ≤ b) (hbn : b < seen.length) (hx : 0 ≤ x) : sn (seen.set b.toNat true) x = true ↔ sn seen x = true ∨ x = b := by
  unfold sn
  by_cases h : x = b
  · subst h
    simp [List.getD, show x.toNat < seen.length by omega]
  · have : b.toNat ≠ x.toNat := by omega
    simp [List.getD, this, h]

section
variable (s : Int → List Int)
/-- There is a way from a block to another. -/
inductive Way : Int → Int → Prop
  | here (a : Int) : Way a a
  | on {a b c : Int} : Way a b → c ∈ s b → Way a c
variable {s}
theorem Way.trans {a b c : Int} (h : Way s a b) (k : Way s b c) : Way s a c := by
  induction k with
  | here => exact h
  | on _ hc ih => exact .on ih hc
theorem Way.first {a b c : Int} (h : b ∈ s a) (k : Way s b c) : Way s a c := (Way.on (.here a) h).trans k

variable (s) in
structure Post (n : Nat) (xs : List Int) (st r : List Bool × List Int) (new : List Int) : Prop where
  len : r.1.length = n
  out : r.2 = st.2 ++ new
  seen : ∀ x : Int, 0 ≤ x → x < n → (sn r.1 x = true ↔ sn st.1 x = true ∨ x ∈ new)
  fresh : ∀ x ∈ new, 0 ≤ x ∧ x < n ∧ sn st.1 x = false
  nodup : new.Nodup
  all : ∀ x ∈ xs, sn r.1 x = true
  closed : ∀ x ∈ new, ∀ y ∈ s x, sn r.1 y = true
  way : ∀ x ∈ new, ∃ a ∈ xs, Way s a x
  low : (∀ a, ∀ y ∈ s a, a < y) → ∀ c, (∀ x ∈ xs, c < x) → ∀ x ∈ new, c < x
  topo : (∀ a, ∀ y ∈ s a, a < y) → ∀ p x q, new = p ++ x :: q → ∀ y ∈ s x, y ∈ p ∨ sn st.1 y = true

variable {n : Nat}
theorem Post.nil (st : List Bool × List Int) (h : st.1.length = n) : Post s n [] st st [] :=
  ⟨h, by simp, by simp, by simp, by simp, by simp, by simp, by simp, by simp, fun _ p x q h => by simp at h⟩

theorem Post.skip {x : Int} {xs new : List Int} {st r : List Bool × List Int} (hx : 0 ≤ x ∧ x < n) (h : sn st.1 x = true) (hp : Post s n xs st r new) : Post s n (x :: xs) st r new :=
  ⟨hp.len, hp.out, hp.seen, hp.fresh, hp.nodup, fun y hy => by
    rcases List.mem_cons.1 hy with rfl | hy
    · exact (hp.seen y hx.1 hx.2).2 (.inl h)
    · exact hp.all y hy, hp.closed, fun y hy => let ⟨a, ha, hw⟩ := hp.way y hy; ⟨a, by simp [ha], hw⟩, fun hi c hc => hp.low hi c fun y hy => hc y (by simp [hy]), hp.topo⟩

theorem Post.cons {x : Int} {xs new1 new2 : List Int} {st r1 r2 : List Bool × List Int} (hr : ∀ a, ∀ y ∈ s a, 0 ≤ y ∧ y < (n : Int)) (hx : 0 ≤ x ∧ x < n) (h1 : Post s n [x] st r1 new1) (h2 : Post s n xs r1 r2 new2) : Post s n (x :: xs) st r2 (new1 ++ new2) where
  len := h2.len
  out := by rw [h2.out, h1.out, List.append_assoc]
  seen y h0 hn := by rw [h2.seen y h0 hn, h1.seen y h0 hn, List.mem_append, or_assoc]
  fresh y hy := by
    rcases List.mem_append.1 hy with hy | hy
    · exact h1.fresh y hy
    · obtain ⟨a, b, c⟩ := h2.fresh y hy
      refine ⟨a, b, ?_⟩
      cases hs : sn st.1 y with
      | false => rfl
      | true => rw [(h1.seen y a b).2 (.inl hs)] at c; cases c
  nodup := List.nodup_append.2 ⟨h1.nodup, h2.nodup, fun a ha b hb e => by
    subst e
    obtain ⟨h0, hn, hf⟩ := h2.fresh a hb
    rw [(h1.seen a h0 hn).2 (.inr ha)] at hf
    cases hf⟩
  all y hy := by
    rcases List.mem_cons.1 hy with rfl | hy
    · exact (h2.seen y hx.1 hx.2).2 (.inl (h1.all y (by simp)))
    · exact h2.all y hy
  closed y hy z hz := by
    rcases List.mem_append.1 hy with hy | hy
    · exact (h2.seen z (hr y z hz).1 (hr y z hz).2).2 (.inl (h1.closed y hy z hz))
    · exact h2.closed y hy z hz
  way y hy := by
    rcases List.mem_append.1 hy with hy | hy
    · obtain ⟨a, ha, hw⟩ := h1.way y hy
      exact ⟨a, by simp at ha; simp [ha], hw⟩
    · obtain ⟨a, ha, hw⟩ := h2.way y hy
      exact ⟨a, by simp [ha], hw⟩
  low hi c hc y hy := by
    rcases List.mem_append.1 hy with hy | hy
    · exact h1.low hi c (fun z hz => hc z (by simp at hz; simp [hz])) y hy
    · exact h2.low hi c (fun z hz => hc z (by simp [hz])) y hy
  topo hi p y q he z hz := by
    rcases List.append_eq_append_iff.1 he with ⟨t, e1, e2⟩ | ⟨t, e1, e2⟩
    · -- new1 ++ t = p, new2 = t ++ y :: q
      rcases h2.topo hi t y q e2 z hz with h | h
      · exact .inl (by rw [e1]; simp [h])
      · rcases (h1.seen z (hr y z hz).1 (hr y z hz).2).1 h with h | h
        · exact .inr h
        · exact .inl (by rw [e1]; simp [h])
    · -- new1 = p ++ t, y :: q = t ++ new2
      cases t with
      | nil =>
        simp only [List.append_nil] at e1
        simp only [List.nil_append] at e2
        rcases h2.topo hi [] y q e2.symm z hz with h | h
        · simp at h
        · rcases (h1.seen z (hr y z hz).1 (hr y z hz).2).1 h with h | h
          · exact .inr h
          · exact .inl (by rw [← e1]; exact h)
      | cons t0 t =>
        simp only [List.cons_append, List.cons.injEq] at e2
        obtain ⟨rfl, _⟩ := e2
        exact h1.topo hi p y t e1 z hz

theorem Post.node {b : Int} {new : List Int} {st r : List Bool × List Int} (hb : 0 ≤ b ∧ b < n) (hl : st.1.length = n) (hs : sn st.1 b = false) (hr : ∀ a, ∀ y ∈ s a, 0 ≤ y ∧ y < (n : Int))
    (h : Post s n (s b) (st.1.set b.toNat true, st.2) r new) : Post s n [b] st (r.1, r.2 ++ [b]) (new ++ [b]) := by
  have hset : ∀ x : Int, 0 ≤ x → (sn (st.1.set b.toNat true) x = true ↔ sn st.1 x = true ∨ x = b) := fun x hx => sn_set hb.1 (by omega) hx
  have hbn : b ∉ new := fun hbm => by
    have := (h.fresh b hbm).2.2
    rw [(hset b hb.1).2 (.inr rfl)] at this
    cases this
  have hseen : ∀ x : Int, 0 ≤ x → x < n → (sn r.1 x = true ↔ sn st.1 x = true ∨ x ∈ new ++ [b]) := fun x h0 hn => by
    rw [h.seen x h0 hn, hset x h0, List.mem_append, List.mem_singleton]
    rw [or_assoc, or_comm (a := x = b)]
  have hne : ∀ (hi : ∀ a, ∀ y ∈ s a, a < y), ∀ x ∈ new, b < x := fun hi x hx => h.low hi b (fun y hy => hi b y hy) x hx
  refine ⟨h.len, by rw [h.out, List.append_assoc], hseen, ?_, ?_, ?_, ?_, ?_, ?_, ?_⟩
  · intro x hx
    rcases List.mem_append.1 hx with hx | hx
    · obtain ⟨h0, hn, hf⟩ := h.fresh x hx
      refine ⟨h0, hn, ?_⟩
      cases hs' : sn st.1 x with
      | false => rfl
      | true => rw [(hset x h0).2 (.inl hs')] at hf; cases hf
    · simp at hx; subst hx; exact ⟨hb.1, hb.2, hs⟩
  · exact List.nodup_append.2 ⟨h.nodup, by simp, fun a ha c hc e => by simp at hc; subst e; subst hc; exact hbn ha⟩
  · intro x hx
    simp at hx; subst hx
    exact (hseen x hb.1 hb.2).2 (.inr (by simp))
  · intro x hx y hy
    rcases List.mem_append.1 hx with hx | hx
    · exact h.closed x hx y hy
    · simp at hx; subst hx; exact h.all y hy
  · intro x hx
    rcases List.mem_append.1 hx with hx | hx
    · obtain ⟨a, ha, hw⟩ := h.way x hx
      exact ⟨b, by simp, .first ha hw⟩
    · simp at hx; subst hx; exact ⟨x, by simp, .here x⟩
  · intro hi c hc x hx
    have hcb := hc b (by simp)
    rcases List.mem_append.1 hx with hx | hx
    · have := hne hi x hx; omega
    · simp at hx; subst hx; exact hcb
  · intro hi p x q he y hy
    rcases List.append_eq_append_iff.1 he with ⟨t, e1, e2⟩ | ⟨t, e1, e2⟩
    · -- new ++ t = p, [b] = t ++ x :: q
      cases t with
      | nil =>
        simp only [List.nil_append, List.cons.injEq] at e2
        obtain ⟨rfl, _⟩ := e2
        have h2 := h.all y hy
        rcases (h.seen y (hr b y hy).1 (hr b y hy).2).1 h2 with h3 | h3
        · rcases (hset y (hr b y hy).1).1 h3 with h3 | h3
          · exact .inr h3
          · have := hi b y hy; omega
        · exact .inl (by rw [e1]; simpa using h3)
      | cons t0 t => simp at e2
    · cases t with
      | nil =>
        simp only [List.nil_append, List.cons.injEq] at e2
        obtain ⟨e0, _⟩ := e2
        subst e0
        have h2 := h.all y hy
        rcases (h.seen y (hr x y hy).1 (hr x y hy).2).1 h2 with h3 | h3
        · rcases (hset y (hr x y hy).1).1 h3 with h3 | h3
          · exact .inr h3
          · have := hi x y hy; omega
        · exact .inl (by simp at e1; rw [← e1]; exact h3)
      | cons t0 t =>
        simp only [List.cons_append, List.cons.injEq] at e2
        obtain ⟨rfl, _⟩ := e2
        rcases h.topo hi p x t e1 y hy with h3 | h3
        · exact .inl h3
        · rcases (hset y (hr x y hy).1).1 h3 with h3 | h3
          · exact .inr h3
          · have h4 := hne hi x (by rw [e1]; simp)
            have h5 := hi x y hy
            omega

variable (s) in
theorem dfs_post (hr : ∀ a, ∀ y ∈ s a, 0 ≤ y ∧ y < (n : Int)) (f : Nat) :
    (∀ (b : Int) (st : List Bool × List Int), 0 ≤ b ∧ b < n → st.1.length = n → sn st.1 b = false → st.1.count false ≤ f → ∃ new, Post s n [b] st (dfs s f b st) new) ∧
    (∀ (xs : List Int) (st : List Bool × List Int), (∀ x ∈ xs, 0 ≤ x ∧ x < n) → st.1.length = n → st.1.count false ≤ f → ∃ new, Post s n xs st (dfsL s f xs st) new) := by
  have step : ∀ f, (∀ (b : Int) (st : List Bool × List Int), 0 ≤ b ∧ b < n → st.1.length = n → sn st.1 b = false → st.1.count false ≤ f → ∃ new, Post s n [b] st (dfs s f b st) new) →
      (∀ (xs : List Int) (st : List Bool × List Int), (∀ x ∈ xs, 0 ≤ x ∧ x < n) → st.1.length = n → st.1.count false ≤ f → ∃ new, Post s n xs st (dfsL s f xs st) new) := by
    intro f h1 xs
    induction xs with
    | nil => intro st _ hl _; exact ⟨[], .nil st hl⟩
    | cons x xs ih =>
      intro st hx hl hc
      rw [dfsL_cons]
      split
      · rename_i h
        obtain ⟨new, hp⟩ := ih st (fun y hy => hx y (by simp [hy])) hl hc
        exact ⟨new, .skip (hx x (by simp)) h hp⟩
      · rename_i h
        have h' : sn st.1 x = false := by simpa [sn] using h
        obtain ⟨new1, p1⟩ := h1 x st (hx x (by simp)) hl h' hc
        have hg := (goes_dfs s f).1 x st h' hc
        have hc2 : (dfs s f x st).1.count false ≤ f := by
          have := count_true_false st.1; have := count_true_false (dfs s f x st).1; have := hg.len; have := hg.le
          omega
        obtain ⟨new2, p2⟩ := ih (dfs s f x st) (fun y hy => hx y (by simp [hy])) p1.len hc2
        exact ⟨new1 ++ new2, .cons hr (hx x (by simp)) p1 p2⟩
  induction f with
  | zero =>
    have h1 : ∀ (b : Int) (st : List Bool × List Int), 0 ≤ b ∧ b < n → st.1.length = n → sn st.1 b = false → st.1.count false ≤ 0 → ∃ new, Post s n [b] st (dfs s 0 b st) new := by
      intro b st _ _ h hc
      have := (count_set (seen := st.1) (k := b.toNat) h).2
      omega
    exact ⟨h1, step 0 h1⟩
  | succ f ih =>
    have h1 : ∀ (b : Int) (st : List Bool × List Int), 0 ≤ b ∧ b < n → st.1.length = n → sn st.1 b = false → st.1.count false ≤ f + 1 → ∃ new, Post s n [b] st (dfs s (f + 1) b st) new := by
      intro b st hb hl h hc
      have hc2 := (count_set (seen := st.1) (k := b.toNat) h).2
      rw [dfs_succ]
      obtain ⟨new, hp⟩ := ih.2 (s b) (st.1.set b.toNat true, st.2) (fun x hx => hr b x hx) (by simpa using hl) (by show (st.1.set b.toNat true).count false ≤ f; omega)
      exact ⟨_, .node hb hl h hr hp⟩
    exact ⟨h1, step (f + 1) h1⟩
end

/-- What the order holds. -/
theorem orderS_post (l : List (List InsD)) (h : 0 < l.length) : ∃ new, orderS l = new.reverse ∧ new.Nodup ∧ (∀ x ∈ new, (0 : Int) ≤ x ∧ x < l.length) ∧ (∀ x, x ∈ new ↔ Way (succS l) 0 x) ∧
    ((∀ a, ∀ y ∈ succS l a, a < y) → ∀ p x q, new = p ++ x :: q → ∀ y ∈ succS l x, y ∈ p) := by
  have h0 : sn (List.replicate l.length false) 0 = false := by simp [sn, List.getD, h]
  have hrep : ∀ y : Int, 0 ≤ y → y < l.length → sn (List.replicate l.length false) y = false := fun y hy hn => by simp [sn, List.getD, show y.toNat < l.length by omega]
  obtain ⟨new, hp⟩ := (dfs_post (n := l.length) (succS l) (fun a y hy => succS_range l a y hy) l.length).1 0 (List.replicate l.length false, []) ⟨by omega, by omega⟩ (by simp) h0 (by simp)
  refine ⟨new, ?_, hp.nodup, fun x hx => ⟨(hp.fresh x hx).1, (hp.fresh x hx).2.1⟩, fun x => ⟨fun hx => ?_, fun hx => ?_⟩, fun hi p x q he y hy => ?_⟩
  · unfold orderS
    rw [if_neg (by omega), hp.out]
    rfl
  · obtain ⟨a, ha, hw⟩ := hp.way x hx
    simp at ha
    subst ha
    exact hw
  · induction hx with
    | here =>
      rcases (hp.seen 0 (by omega) (by omega)).1 (hp.all 0 (by simp)) with h1 | h1
      · rw [h0] at h1; cases h1
      · exact h1
    | on _ hc ih =>
      have h1 := hp.closed _ ih _ hc
      obtain ⟨r1, r2⟩ := succS_range l _ _ hc
      rcases (hp.seen _ r1 r2).1 h1 with h1 | h1
      · rw [hrep _ r1 r2] at h1; cases h1
      · exact h1
  · rcases hp.topo hi p x q he y hy with h1 | h1
    · exact h1
    · obtain ⟨r1, r2⟩ := succS_range l _ _ hy
      rw [hrep _ r1 r2] at h1; cases h1
end

section
/- Which blocks there is a way to, not through another one, in plain Lean. -/
/-- Where a block goes on, but for one. -/
def succX (l : List (List InsD)) (nt : Int) (x : Int) : List Int := (succS l x).filter fun y => decide (y ≠ nt)
/-- Is there a way: of each block. -/
def fromS (l : List (List InsD)) (b nt : Int) : List Bool :=
  if 0 ≤ b ∧ b < l.length ∧ b ≠ nt then (dfs (succX l nt) l.length b (List.replicate l.length false, [])).1 else List.replicate l.length false

theorem succX_range (l : List (List InsD)) (nt a : Int) : ∀ y ∈ succX l nt a, 0 ≤ y ∧ y < l.length := fun y hy => succS_range l a y (List.mem_filter.1 hy).1

theorem fromS_length (l : List (List InsD)) (b nt : Int) : (fromS l b nt).length = l.length := by
  unfold fromS
  split
  · rename_i h
    obtain ⟨new, hp⟩ := (dfs_post (n := l.length) (succX l nt) (succX_range l nt) l.length).1 b (List.replicate l.length false, []) ⟨h.1, h.2.1⟩ (by simp) (by simp [sn, List.getD, show b.toNat < l.length by omega]) (by simp)
    exact hp.len
  · simp

/-- What it holds. -/
theorem fromS_way (l : List (List InsD)) {b nt : Int} (h : 0 ≤ b ∧ b < l.length ∧ b ≠ nt) (x : Int) (hx : 0 ≤ x ∧ x < l.length) : sn (fromS l b nt) x = true ↔ Way (succX l nt) b x := by
  have hrep : ∀ y : Int, 0 ≤ y → y < l.length → sn (List.replicate l.length false) y = false := fun y hy hn => by simp [sn, List.getD, show y.toNat < l.length by omega]
  unfold fromS
  rw [if_pos h]
  obtain ⟨new, hp⟩ := (dfs_post (n := l.length) (succX l nt) (succX_range l nt) l.length).1 b (List.replicate l.length false, []) ⟨h.1, h.2.1⟩ (by simp) (hrep b h.1 h.2.1) (by simp)
  have hnew : ∀ y : Int, 0 ≤ y → y < l.length → (sn (dfs (succX l nt) l.length b (List.replicate l.length false, [])).1 y = true ↔ y ∈ new) := fun y h0 hn => by
    rw [hp.seen y h0 hn]
    dsimp only
    rw [hrep y h0 hn]
    simp
  rw [hnew x hx.1 hx.2]
  constructor
  · intro hm
    obtain ⟨a, ha, hw⟩ := hp.way x hm
    simp at ha
    subst ha
    exact hw
  · intro hw
    clear hx
    induction hw with
    | here => exact (hnew b h.1 h.2.1).1 (hp.all b (by simp))
    | on _ hc ih =>
      obtain ⟨r1, r2⟩ := succX_range l nt _ _ hc
      exact (hnew _ r1 r2).1 (hp.closed _ ih _ hc)

/-- A row of marks is known by what it says of each block. -/
theorem sn_ext {n : Nat} {p q : List Bool} (hp : p.length = n) (hq : q.length = n) (h : ∀ x : Int, 0 ≤ x → x < n → (sn p x = true ↔ sn q x = true)) : p = q := by
  apply List.ext_getElem (by omega)
  intro i h1 h2
  have h3 := h (i : Int) (by omega) (by omega)
  unfold sn at h3
  simp only [Int.toNat_natCast, List.getD, List.getElem?_eq_getElem h1, List.getElem?_eq_getElem h2, Option.getD_some] at h3
  exact Bool.eq_iff_iff.2 h3

/-- Between two rounds of the list of what is still to be gone into. -/
structure FrInv (l : List (List InsD)) (b nt : Int) (seen : List Bool) (todo : List Int) : Prop where
  len : seen.length = l.length
  tod : ∀ z ∈ todo, 0 ≤ z ∧ z < l.length ∧ sn seen z = true
  start : sn seen b = true
  way : ∀ x : Int, 0 ≤ x → x < l.length → sn seen x = true → Way (succX l nt) b x
  closed : ∀ x : Int, 0 ≤ x → x < l.length → sn seen x = true → x ∉ todo → ∀ y ∈ succX l nt x, sn seen y = true
/-- Within a round: block x is gone into, m of those where it goes on are done. -/
structure FrIn (l : List (List InsD)) (b nt x : Int) (ys : List Int) (m : Nat) (seen : List Bool) (todo : List Int) : Prop where
  len : seen.length = l.length
  tod : ∀ z ∈ todo, 0 ≤ z ∧ z < l.length ∧ sn seen z = true
  start : sn seen b = true
  way : ∀ x : Int, 0 ≤ x → x < l.length → sn seen x = true → Way (succX l nt) b x
  here : Way (succX l nt) b x
  closed : ∀ z : Int, 0 ≤ z → z < l.length → sn seen z = true → z ∉ todo → z ≠ x → ∀ y ∈ succX l nt z, sn seen y = true
  at_ : ys = succS l x
  part : ∀ y ∈ ys.take m, y ≠ nt → sn seen y = true

variable {l : List (List InsD)} {b nt x : Int} {seen : List Bool} {todo ys : List Int} {m : Nat}
theorem FrInv.first (h : 0 ≤ b ∧ b < l.length ∧ b ≠ nt) : FrInv l b nt ((List.replicate l.length false).set b.toNat true) [b] := by
  have hs : ∀ x : Int, 0 ≤ x → x < l.length → (sn ((List.replicate l.length false).set b.toNat true) x = true ↔ x = b) := fun x hx hn => by
    rw [sn_set h.1 (by simpa using h.2.1) hx]
    simp [sn, List.getD, show x.toNat < l.length by omega]
  refine ⟨by simp, fun x hx => ?_, (hs b h.1 h.2.1).2 rfl, fun x h0 hn hx => ?_, fun x h0 hn hx ht => ?_⟩
  · simp at hx; subst hx; exact ⟨h.1, h.2.1, (hs x h.1 h.2.1).2 rfl⟩
  · rw [(hs x h0 hn).1 hx]; exact .here b
  · simp at ht; exact (ht ((hs x h0 hn).1 hx)).elim
theorem FrInv.pop (h : FrInv l b nt seen (todo ++ [x])) : FrIn l b nt x (succS l x) 0 seen todo := by
  obtain ⟨h0, hn, hs⟩ := h.tod x (by simp)
  exact ⟨h.len, fun y hy => h.tod y (by simp [hy]), h.start, h.way, h.way x h0 hn hs, fun z hz0 hzn hz hzt hzx => h.closed z hz0 hzn hz (by simp [hzt, hzx]), rfl, by simp⟩
theorem FrIn.skip (h : FrIn l b nt x ys m seen todo) (hm : m < ys.length) (hy : ys[m] = nt ∨ sn seen ys[m] = true) : FrIn l b nt x ys (m + 1) seen todo :=
  ⟨h.len, h.tod, h.start, h.way, h.here, h.closed, h.at_, fun y hyt hne => by
    rw [List.take_succ_eq_append_getElem hm, List.mem_append] at hyt
    rcases hyt with hyt | hyt
    · exact h.part y hyt hne
    · simp at hyt; subst hyt
      rcases hy with hy | hy
      · exact (hne hy).elim
      · exact hy⟩
theorem FrIn.push (h : FrIn l b nt x ys m seen todo) (hm : m < ys.length) (hy : ys[m] ≠ nt) (_hs : sn seen ys[m] = false) : FrIn l b nt x ys (m + 1) (seen.set ys[m].toNat true) (todo ++ [ys[m]]) := by
  have hmem : ys[m] ∈ succS l x := by rw [← h.at_]; exact List.getElem_mem hm
  obtain ⟨r0, rn⟩ := succS_range l x _ hmem
  have hset : ∀ z : Int, 0 ≤ z → (sn (seen.set ys[m].toNat true) z = true ↔ sn seen z = true ∨ z = ys[m]) := fun z hz => sn_set r0 (by rw [h.len]; exact rn) hz
  have hmono : ∀ z : Int, 0 ≤ z → sn seen z = true → sn (seen.set ys[m].toNat true) z = true := fun z hz hs => (hset z hz).2 (.inl hs)
  have hb0 : sn (seen.set ys[m].toNat true) b = true := by
    have := h.start
    unfold sn at this ⊢
    rw [List.getD_eq_getElem?_getD] at this ⊢
    rw [List.getElem?_set]
    split
    · split <;> rfl
    · exact this
  refine ⟨by simpa using h.len, fun z hz => ?_, hb0, fun z h0 hn hz => ?_, h.here, fun z h0 hn hz hzt hzx y hy' => ?_, h.at_, fun y hyt hne => ?_⟩
  · rcases List.mem_append.1 hz with hz | hz
    · obtain ⟨a, c, d⟩ := h.tod z hz
      exact ⟨a, c, hmono z a d⟩
    · simp at hz; subst hz; exact ⟨r0, rn, (hset _ r0).2 (.inr rfl)⟩
  · rcases (hset z h0).1 hz with hz | hz
    · exact h.way z h0 hn hz
    · subst hz; exact .on h.here (List.mem_filter.2 ⟨hmem, by simpa using hy⟩)
  · have hzt' : z ∉ todo ∧ z ≠ ys[m] := by simpa using hzt
    rcases (hset z h0).1 hz with hz | hz
    · exact hmono y (succX_range l nt z y hy').1 (h.closed z h0 hn hz hzt'.1 hzx y hy')
    · exact (hzt'.2 hz).elim
  · rw [List.take_succ_eq_append_getElem hm, List.mem_append] at hyt
    rcases hyt with hyt | hyt
    · have hy0 := (succS_range l x y (by rw [← h.at_]; exact List.mem_of_mem_take hyt)).1
      exact hmono y hy0 (h.part y hyt hne)
    · simp at hyt; subst hyt; exact (hset _ r0).2 (.inr rfl)
theorem FrIn.close (h : FrIn l b nt x ys ys.length seen todo) : FrInv l b nt seen todo :=
  ⟨h.len, h.tod, h.start, h.way, fun z h0 hn hz hzt y hy => by
    by_cases hzx : z = x
    · subst hzx
      obtain ⟨h1, h2⟩ := List.mem_filter.1 hy
      exact h.part y (by rw [List.take_length, h.at_]; exact h1) (by simpa using h2)
    · exact h.closed z h0 hn hz hzt hzx y hy⟩
theorem FrInv.done (hb : 0 ≤ b ∧ b < l.length ∧ b ≠ nt) (h : FrInv l b nt seen []) : seen = fromS l b nt := by
  refine sn_ext h.len (fromS_length l b nt) fun x h0 hn => ?_
  rw [fromS_way l hb x ⟨h0, hn⟩]
  constructor
  · exact h.way x h0 hn
  · intro hw
    clear h0 hn
    induction hw with
    | here => exact h.start
    | on hw' hc ih =>
      have hr : ∀ z, Way (succX l nt) b z → 0 ≤ z ∧ z < l.length := fun z hz => by
        cases hz with
        | here => exact ⟨hb.1, hb.2.1⟩
        | on _ hc => exact succX_range l nt _ _ hc
      obtain ⟨r0, rn⟩ := hr _ hw'
      exact h.closed _ r0 rn ih (by simp) _ hc
end
end Go.Proofs.Ytcihobmjohpnkaa
