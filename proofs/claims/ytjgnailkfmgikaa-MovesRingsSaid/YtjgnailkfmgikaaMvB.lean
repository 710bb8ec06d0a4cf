/- Maps, pairs, the work of moves: how they lie in memory, and what a round does to them. -/
import Derived.Test.YtjgnailkfmgikaaProg
import Derived.Test.YtjgnailkfmgikaaBase
import Derived.Test.YtjgnailkfmgikaaApp
import Derived.Test.YtjgnailkfmgikaaMvP
import Derived.ArgAppend
import Derived.Maps.OwnSet
import Derived.Maps.OwnOps
import Derived.KernelRfl
namespace Go.Proofs.Ytjgnailkfmgikaa
open Go.RowKit Go.Maps

abbrev ints (xs : List Int) : List Value := xs.map (Value.int .i64)

section
variable {w : World} {base : Nat} {e : TypeId} {g n cap : Nat}

theorem owns_block {xs : List Value} {size : Nat} (h : w.ownsRow base e size (.slice (some ⟨g, 0, none⟩) n cap) n xs) :
    ∃ cur, base ≤ g ∧ w.heap[g]? = some (.cells cur e (0, 0)) ∧ n ≤ cap ∧ cap ≤ maxLen ∧ cur.size = cap * size ∧ cur.toList.take (n * size) = xs ∧ xs.length = n * size ∧ g < w.heap.size := by
  have hlt := h.lt g rfl
  obtain ⟨h1, h2⟩ := h
  rcases h2 with ⟨h2, _⟩ | ⟨g', cap', cur, h2, hg, hh, hn, hm, hc, ht⟩
  · simp at h2
  · simp at h2
    obtain ⟨rfl, rfl⟩ := h2
    exact ⟨cur, hg, hh, hn, hm, hc, ht, h1, hlt.2⟩

/-- A block that was just made. -/
theorem owns_new {X W : World} {cs : Array Value} {size : Nat} {xs : List Value} (hW : W.heap = X.heap.push (.cells cs e)) (hb : base ≤ X.heap.size) (hm : n ≤ maxLen) (hs : cs.size = n * size) (hg : g = X.heap.size) (hx : cs.toList = xs) :
    W.ownsRow base e size (.slice (some ⟨g, 0, none⟩) n n) n xs := by
  subst hg hx
  refine ⟨by simpa using hs, .inr ⟨_, n, cs, rfl, hb, ?_, Nat.le_refl _, hm, hs, ?_⟩⟩
  · rw [hW]; simp
  · rw [List.take_of_length_le (by simp [hs])]

theorem owns_mono {v : Value} {xs : List Value} {size base' : Nat} (h : w.ownsRow base e size v n xs) (hb : base' ≤ base) : w.ownsRow base' e size v n xs := by
  obtain ⟨h1, h2⟩ := h
  refine ⟨h1, ?_⟩
  rcases h2 with h2 | ⟨g, cap, cur, hv, hg, r⟩
  · exact .inl h2
  · exact .inr ⟨g, cap, cur, hv, by omega, r⟩

theorem owns_nilcase {v : Value} {xs : List Value} {size : Nat} (h : w.ownsRow base e size v n xs) : (v = .slice none 0 0 ∧ n = 0 ∧ xs = []) ∨ ∃ g cap, v = .slice (some ⟨g, 0, none⟩) n cap := by
  obtain ⟨h1, h2⟩ := h
  rcases h2 with ⟨h2, h3⟩ | ⟨g', cap', cur, h2, _⟩
  · subst h3; exact .inl ⟨h2, rfl, by simpa using h1⟩
  · exact .inr ⟨_, _, h2⟩

theorem owns_shrink {xs : List Value} {size : Nat} (h : w.ownsRow base e size (.slice (some ⟨g, 0, none⟩) n cap) n xs) (m : Nat) (hm : m ≤ n) :
    w.ownsRow base e size (.slice (some ⟨g, 0, none⟩) m cap) m (xs.take (m * size)) := by
  obtain ⟨cur, hg, hh, hn, hmx, hc, ht, hl, _⟩ := owns_block h
  have hle : m * size ≤ n * size := Nat.mul_le_mul_right _ hm
  refine ⟨by rw [List.length_take, hl, Nat.min_eq_left hle], .inr ⟨g, cap, cur, rfl, hg, hh, by omega, hmx, hc, ?_⟩⟩
  rw [← ht, List.take_take, Nat.min_eq_left hle]

end

theorem infoInt : (Try.prog.info? 3).map (fun i => (i.zero, i.size, i.bytes)) = some (some (.int .i64 0), 1, 8) := by kernel_rfl

theorem grown_trans {A B C : World} {r : Option Nat} (h : A.grownBy B r) (k : B.grownBy C r) : A.grownBy C r :=
  ⟨k.os.trans h.os, k.tape.trans h.tape, k.output.trans h.output, Nat.le_trans h.size k.size, fun i hi hn => (k.block i (Nat.lt_of_lt_of_le hi h.size) hn).trans (h.block i hi hn)⟩

/-- 'out = append(out, y)': ints. -/
theorem app_int {ops : Array Oper} {rest : List Oper} {o : Oper} {a : Act} {Q : Exit → Act → World → Prop} {W : World}
    (hgd : o.guard = none) (s x : Operand) (hop : o.op = .call { callee := .builtin .append, args := #[s, x], argTypes := #[33, 33] })
    (base : Nat) (v : Value) (zs : List Int) (hs : a.eval s = v) (hown : W.ownsRow base 3 1 v zs.length (ints zs)) (g : Nat) (y : Int) (hx : a.eval x = .slice (some ⟨g, 0, none⟩) 1 1)
    (hc : W.heap[g]? = some (.cells #[.int .i64 y] 3 (0, 0))) (hn : zs.length + 1 ≤ 17592186044416) (hb : base ≤ W.heap.size)
    (h : ∀ v' w', w'.ownsRow base 3 1 v' (zs ++ [y]).length (ints (zs ++ [y])) → W.grownBy w' v.ownBlock → (v'.ownBlock = v.ownBlock ∨ v'.ownBlock = some W.heap.size) → wpList Try.prog ops Q rest (a.put o.dst v') w') :
    wpList Try.prog ops Q (o :: rest) a W := by
  obtain ⟨i0, hi, hz0, hz1, hz2⟩ := info_parts infoInt
  refine wp_app _ hgd s x 33 hop base 3 i0 (.int .i64 0) 1 8 Try.underlying33 hi hz0 hz1 hz2 rfl (by decide) v zs.length (ints zs) hs hown
    ⟨g, 0, none⟩ 1 1 [.int .i64 y] hx rfl ?_ ?_ ?_ ?_ hb ?_
  · intro j u hj
    match j, hj with
    | 0, hj => simp at hj; subst hj; simp [Addr.add, cell_of_one hc]
  · intro u hu; simp at hu; subst hu; rfl
  · unfold maxLen; omega
  · omega
  · intro v' w' ho hg hv
    refine h v' w' ?_ hg hv
    simpa [ints] using ho


theorem lawInt : Keyed Try.prog 3 := int_keyed Try.underlying3
theorem zeroInt (w : World) : (zeroValue 3).run Try.prog w = .ok (.int .i64 0) w := by kernel_rfl

/-- A number of 64 bits. -/
def In64 (x : Int) : Prop := (Lit.int .i64 x).wf = true

/-- A map of ints that the call owns. -/
def IsMp (W : World) (b n : Nat) (f : Mv.PF) : Prop := ∃ D : DataW Unit, W.ownsMap Try.prog 3 (plainElem Try.prog 3) b n D ∧
  ∀ x, In64 x → (f x = none → Maps.has D (.int .i64 x) = false) ∧ ∀ y, f x = some y → Maps.has D (.int .i64 x) = true ∧ ∀ z, D.atKey (.int .i64 x) z = .lit (.int .i64 y)

section
variable {W W' : World} {b n : Nat} {f : Mv.PF}
theorem IsMp.made (W : World) : IsMp (W.alloc (.map #[] 0)) W.heap.size 0 (fun _ => none) :=
  ⟨_, World.ownsMap_made _ _ _ _, fun x _ => ⟨fun _ => rfl, fun y h => by simp at h⟩⟩
theorem IsMp.mono (h : IsMp W b n f) {n' : Nat} (hn : n ≤ n') : IsMp W b n' f := let ⟨D, h1, h2⟩ := h; ⟨D, h1.mono hn, h2⟩
theorem IsMp.lt (h : IsMp W b n f) : b < W.heap.size := let ⟨_, h1, _⟩ := h; h1.lt
theorem IsMp.keep (h : IsMp W b n f) (he : W'.heap[b]? = W.heap[b]?) : IsMp W' b n f := by
  obtain ⟨D, ⟨es, c, hb, r⟩, h2⟩ := h
  exact ⟨D, ⟨es, c, he.trans hb, r⟩, h2⟩
theorem IsMp.isMap (h : IsMp W b n f) : ∃ es c, W.heap[b]? = some (.map es c) := let ⟨_, ⟨es, c, hb, _⟩, _⟩ := h; ⟨es, c, hb⟩
theorem In64.key {x : Int} (h : In64 x) : keyOf Try.prog 3 (.int .i64 x) = some (.int .i64 x) := keyOf_int_mk Try.underlying3 h
theorem isKey_int (x : Int) : WideAt.IsKeyLit (.int .i64 x) := by simp [WideAt.IsKeyLit]
theorem IsMp.look (h : IsMp W b n f) {x : Int} (hx : In64 x) : (Instr.lookup 40 (.map (some b)) (.int .i64 x) false).run Try.prog W = .ok (.int .i64 ((f x).getD 0)) W := by
  obtain ⟨D, h1, h2⟩ := h
  obtain ⟨c, hr, hc, _⟩ := h1.lookup_int lawInt Try.underlying40 Try.underlying3 (zeroInt _) hx.key
  rw [hr]
  cases hf : f x with
  | none => rw [atKey_of_not_has ((h2 x hx).1 hf)] at hc; simp at hc; subst hc; rfl
  | some y => rw [((h2 x hx).2 y hf).2] at hc; simp at hc; subst hc; rfl
theorem IsMp.lookok (h : IsMp W b n f) {x : Int} (hx : In64 x) : (Instr.lookup 40 (.map (some b)) (.int .i64 x) true).run Try.prog W = .ok (.tuple #[.int .i64 ((f x).getD 0), .bool (f x).isSome]) W := by
  obtain ⟨D, h1, h2⟩ := h
  obtain ⟨v, ps, hr, hv⟩ := h1.look_ok lawInt Try.underlying40 (zeroInt _) (plainElem_int Try.underlying3 (by decide : (Lit.int .i64 0).wf = true)) hx.key
  obtain ⟨c, rfl, hc, _⟩ := plainElem_int_inv Try.underlying3 hv
  simp only [Prod.mk.injEq] at hc
  have hc := hc.1
  rw [hr]
  cases hf : f x with
  | none => rw [(h2 x hx).1 hf]; rw [atKey_of_not_has ((h2 x hx).1 hf)] at hc; simp at hc; subst hc; rfl
  | some y => rw [((h2 x hx).2 y hf).1]; rw [((h2 x hx).2 y hf).2] at hc; simp at hc; subst hc; rfl
theorem IsMp.put (h : IsMp W b n f) (hn : n ≤ 1000000) {x y : Int} (hx : In64 x) (hy : In64 y) : ∃ W', (Instr.mapUpdate 40 (.map (some b)) (.int .i64 x) (.int .i64 y)).run Try.prog W = .ok () W' ∧ IsMp W' b (n + 1) (Mv.upd f x y) ∧ W.mapTurned W' b := by
  obtain ⟨D, h1, h2⟩ := h
  obtain ⟨W', hr, ho, ht⟩ := h1.store lawInt Try.underlying40 (by unfold maxLen; omega) hx.key (plainElem_int Try.underlying3 hy)
  refine ⟨W', hr, ⟨_, ho, fun u hu => ?_⟩, ht⟩
  by_cases e : u = x
  · subst e
    rw [Mv.upd_same]
    refine ⟨fun h => by simp at h, fun z hz => ?_⟩
    simp at hz; subst hz
    exact ⟨has_put_same h1.isMap (isKey_int _) _, fun z => atKey_put_same h1.isMap (isKey_int _) _ _⟩
  · rw [Mv.upd_other _ _ e]
    have hne : Lit.int .i64 u ≠ .int .i64 x := by simpa using e
    obtain ⟨g1, g2⟩ := h2 u hu
    exact ⟨fun hz => (has_put_other hne _).trans (g1 hz), fun z hz => ⟨(has_put_other hne _).trans (g2 z hz).1, fun zd => (atKey_put_other hne _ _).trans ((g2 z hz).2 zd)⟩⟩
theorem IsMp.dele (h : IsMp W b n f) {x : Int} (hx : In64 x) (ty : TypeId) : ∃ W', (Builtin.delete_ #[40, 3] ty #[.map (some b), .int .i64 x]).run Try.prog W = .ok (.tuple #[]) W' ∧ IsMp W' b n (Mv.del f x) ∧ W.mapTurned W' b := by
  obtain ⟨D, h1, h2⟩ := h
  obtain ⟨W', hr, ho, ht⟩ := h1.drop lawInt Try.underlying40 hx.key ty
  refine ⟨W', hr, ⟨_, ho, fun u hu => ?_⟩, ht⟩
  by_cases e : u = x
  · subst e
    rw [Mv.del_same]
    exact ⟨fun _ => has_del_same, fun z hz => by simp at hz⟩
  · rw [Mv.del_other _ e]
    have hne : Lit.int .i64 u ≠ .int .i64 x := by simpa using e
    obtain ⟨g1, g2⟩ := h2 u hu
    exact ⟨fun hz => (has_del_other hne).trans (g1 hz), fun z hz => ⟨(has_del_other hne).trans (g2 z hz).1, fun zd => (atKey_del_other hne _).trans ((g2 z hz).2 zd)⟩⟩

/-- 'm[x] = y' at the operation. -/
theorem wp_put {ops : Array Oper} {rest : List Oper} {o : Oper} {a : Act} {Q : Exit → Act → World → Prop} (hg : o.guard = none) (m k v : Operand) (hop : o.op = Op.mapUpdate 40 m k v)
    (h : IsMp W b n f) (hn : n ≤ 1000000) (x y : Int) (hm : a.eval m = .map (some b)) (hk : a.eval k = .int .i64 x) (hv : a.eval v = .int .i64 y) (hx : In64 x) (hy : In64 y)
    (hK : ∀ W', IsMp W' b (n + 1) (Mv.upd f x y) → W.mapTurned W' b → wpList Try.prog ops Q rest (a.put o.dst undef) W') : wpList Try.prog ops Q (o :: rest) a W := by
  refine wpList_plain hg fun K' hK' => ?_
  obtain ⟨W', hr, h1, h2⟩ := h.put hn hx hy
  unfold Oper.wp
  simp [execOp, hop, hm, hk, hv, hr, Result.andThen]
  exact hK' _ _ (hK W' h1 h2)
/-- 'delete(m, x)' at the operation. -/
theorem wp_del {ops : Array Oper} {rest : List Oper} {o : Oper} {a : Act} {Q : Exit → Act → World → Prop} (hg : o.guard = none) (m k : Operand) (hop : o.op = Op.call { callee := Callee.builtin Builtin.delete, args := #[m, k], argTypes := #[40, 3] })
    (h : IsMp W b n f) (x : Int) (hm : a.eval m = .map (some b)) (hk : a.eval k = .int .i64 x) (hx : In64 x)
    (hK : ∀ W', IsMp W' b n (Mv.del f x) → W.mapTurned W' b → wpList Try.prog ops Q rest (a.put o.dst (.tuple #[])) W') : wpList Try.prog ops Q (o :: rest) a W := by
  refine wpList_plain hg fun K' hK' => ?_
  obtain ⟨W', hr, h1, h2⟩ := h.dele hx o.type
  unfold Oper.wp
  simp [execOp, hop, resolve, invoke, builtin, hm, hk, hr, Result.andThen]
  exact hK' _ _ (hK W' h1 h2)
end
end Go.Proofs.Ytjgnailkfmgikaa
