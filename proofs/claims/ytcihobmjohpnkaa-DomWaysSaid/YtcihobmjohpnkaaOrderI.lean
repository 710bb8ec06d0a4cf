/- 'cfg.Order': by a stack: what the loop keeps. -/
import Derived.Test.YtcihobmjohpnkaaSuccsR
import Derived.Test.YtcihobmjohpnkaaDfs
namespace Go.Proofs.Ytcihobmjohpnkaa
open Go.RowKit Go.Sort

theorem infoGoing : (Try.prog.info? 68).map (fun i => (i.zero, i.size, i.bytes)) = some (some (.agg #[.int .i64 0, .slice none 0 0]), 2, 32) := by kernel_rfl

/-- 'way = append(way, going{x, to})'. -/
theorem app_going {ops : Array Oper} {rest : List Oper} {o : Oper} {a : Act} {Q : Exit → Act → World → Prop} {W : World}
    (hgd : o.guard = none) (s x : Operand) (hop : o.op = .call { callee := .builtin .append, args := #[s, x], argTypes := #[69, 69] })
    (base : Nat) (v : Value) (n : Nat) (xs : List Value) (hs : a.eval s = v) (hown : W.ownsRow base 68 2 v n xs) (g : Nat) (y : Int) (ua : Option Addr) (ul uc : Nat) (hx : a.eval x = .slice (some ⟨g, 0, none⟩) 1 1)
    (hc : W.heap[g]? = some (.cells #[.int .i64 y, .slice ua ul uc] 68 (0, 0))) (hn : n + 1 ≤ 1099511627776) (hb : base ≤ W.heap.size)
    (h : ∀ v' w', w'.ownsRow base 68 2 v' (n + 1) (xs ++ [.int .i64 y, .slice ua ul uc]) → W.grownBy w' v.ownBlock → (v'.ownBlock = v.ownBlock ∨ v'.ownBlock = some W.heap.size) → wpList Try.prog ops Q rest (a.put o.dst v') w') :
    wpList Try.prog ops Q (o :: rest) a W := by
  obtain ⟨i0, hi, hz0, hz1, hz2⟩ := info_parts infoGoing
  refine wp_app _ hgd s x 69 hop base 68 i0 _ 2 32 Try.underlying69 hi hz0 hz1 hz2 rfl (by decide) v n xs hs hown
    ⟨g, 0, none⟩ 1 1 [.int .i64 y, .slice ua ul uc] hx rfl ?_ ?_ ?_ ?_ hb h
  · intro j u hj
    match j, hj with
    | 0, hj => simp at hj; subst hj; simp [Addr.add, World.cell?, hc]
    | 1, hj => simp at hj; subst hj; simp [Addr.add, World.cell?, hc]
  · intro u hu; simp at hu; rcases hu with rfl | rfl <;> rfl
  · unfold maxLen; omega
  · omega

abbrev goings (st : List (Int × Value × List Int)) : List Value := st.flatMap fun e => [.int .i64 e.1, e.2.1]
theorem goings_length (st : List (Int × Value × List Int)) : (goings st).length = st.length * 2 := by
  induction st with
  | nil => rfl
  | cons e st ih => simp only [goings, List.flatMap_cons, List.length_append, List.length_cons, List.length_nil] at *; omega

/-- Where what the stack's entries hold may lie. -/
def pIt (B : Nat) (vw vo : Value) (k : Nat) : Prop := B < k ∧ some k ≠ vw.ownBlock ∧ some k ≠ vo.ownBlock

structure ItInv (B n : Nat) (lv : Value) (l : List (List InsD)) (vw vo : Value) (seen : List Bool) (st : List (Int × Value × List Int)) (out : List Int) (W : World) : Prop where
  blocks : IsBlocks (· < B) W lv l
  seenB : Row W B 4 (bools seen)
  len : seen.length = n
  way : W.ownsRow (B + 1) 68 2 vw st.length (goings st)
  ents : ∀ e ∈ st, IsInts (pIt B vw vo) W e.2.1 e.2.2
  outR : W.ownsRow (B + 1) 3 1 vo out.length (ints out)
  apart : ∀ k, vw.ownBlock = some k → vo.ownBlock ≠ some k
  tot : seen.count true = out.length + st.length

section
variable {B n : Nat} {lv : Value} {l : List (List InsD)} {vw vo : Value} {seen : List Bool} {st : List (Int × Value × List Int)} {out : List Int} {W : World}

theorem ItInv.below {W' : World} (h : ItInv B n lv l vw vo seen st out W) (hb : Below W.heap.size W W') : ItInv B n lv l vw vo seen st out W' := by
  have hg : W.grownBy W' none := ⟨hb.os, hb.tape, hb.output, hb.size, fun k hk _ => hb.block k hk⟩
  refine ⟨h.blocks.keep (Keep.below hb), h.seenB.keep (hb.block _ h.seenB.lt), h.len, h.way.kept hg (by cases vw.ownBlock <;> simp), fun e he => (h.ents e he).keep (Keep.below hb), h.outR.kept hg (by cases vo.ownBlock <;> simp), h.apart, h.tot⟩

/-- A block is marked as seen, while nothing else turns (the count of those seen is given beside). -/
theorem ItInv.mark (h : ItInv B n lv l vw vo seen st out W) (k : Nat) :
    IsBlocks (· < B) (W.setCell ⟨B, k, none⟩ (.bool true)) lv l ∧ Row (W.setCell ⟨B, k, none⟩ (.bool true)) B 4 (bools (seen.set k true)) ∧
    (W.setCell ⟨B, k, none⟩ (.bool true)).ownsRow (B + 1) 68 2 vw st.length (goings st) ∧ (∀ e ∈ st, IsInts (pIt B vw vo) (W.setCell ⟨B, k, none⟩ (.bool true)) e.2.1 e.2.2) ∧
    (W.setCell ⟨B, k, none⟩ (.bool true)).ownsRow (B + 1) 3 1 vo out.length (ints out) := by
  refine ⟨h.blocks.keep (Keep.setCell fun b hb _ => ⟨hb, by show b ≠ B; omega⟩), ?_, ownsRow_setCell_below h.way (by show B < B + 1; omega) _, fun e he => (h.ents e he).keep (Keep.setCell fun b hb _ => ⟨hb, by show b ≠ B; have := hb.1; omega⟩), ownsRow_setCell_below h.outR (by show B < B + 1; omega) _⟩
  rw [← bools_set]; exact h.seenB.set k _

/-- A block is told, and leaves the stack. -/
theorem ItInv.pop {b : Int} {to : Value} {gw cap : Nat} {v' : Value} {w' : World} (h : ItInv B n lv l (.slice (some ⟨gw, 0, none⟩) (st.length + 1) cap) vo seen (st ++ [(b, to, [])]) out W)
    (ho : w'.ownsRow (B + 1) 3 1 v' (out ++ [b]).length (ints (out ++ [b]))) (hg : (W.alloc (.cells #[.int .i64 b] 3)).grownBy w' vo.ownBlock) (hv : v'.ownBlock = vo.ownBlock ∨ v'.ownBlock = some (W.alloc (.cells #[.int .i64 b] 3)).heap.size) :
    ItInv B n lv l (.slice (some ⟨gw, 0, none⟩) st.length cap) v' seen st (out ++ [b]) w' := by
  have hkeep : ∀ k, k < W.heap.size → vo.ownBlock ≠ some k → w'.heap[k]? = W.heap[k]? := fun k hk hne =>
    (hg.block k (by simp; omega) (fun e => hne e.symm)).trans (Below.heap_alloc _ _ _ hk)
  have hbase := fun k hk => (h.outR.lt k hk).1
  have hv2 : ∀ k, v'.ownBlock = some k → vo.ownBlock = some k ∨ W.heap.size < k := fun k hk => by
    rcases hv with e | e
    · exact .inl (e ▸ hk)
    · rw [e] at hk; simp at hk; right; omega
  have hwl := (h.way.lt gw rfl)
  have hgrow : W.grownBy w' vo.ownBlock := ⟨hg.os, hg.tape, hg.output, by have := hg.size; simp at this; omega, fun k hk hne => hkeep k hk (fun e => hne e.symm)⟩
  have hw' : w'.ownsRow (B + 1) 68 2 (.slice (some ⟨gw, 0, none⟩) (st.length + 1) cap) (st.length + 1) (goings (st ++ [(b, to, [])])) := by
    have := h.way.kept hgrow (.inr (fun e => h.apart gw rfl e.symm))
    simpa using this
  refine ⟨h.blocks.keep (fun k hk hlt => ⟨hk, hkeep k hlt (fun e => by have := hbase _ e; omega)⟩), h.seenB.keep (hkeep _ h.seenB.lt (fun e => by have := hbase _ e; omega)), h.len, ?_, ?_, ho, ?_, ?_⟩
  · have := owns_shrink hw' st.length (by omega)
    have e : (goings (st ++ [(b, to, [])])).take (st.length * 2) = goings st := by
      rw [goings, List.flatMap_append]
      exact List.take_left' (goings_length st)
    rwa [e] at this
  · intro e he
    refine (h.ents e (by simp [he])).keep (fun k hk hlt => ⟨⟨hk.1, hk.2.1, fun e' => ?_⟩, hkeep k hlt (fun e' => hk.2.2 e'.symm)⟩)
    rcases hv2 k e'.symm with e2 | e2
    · exact hk.2.2 e2.symm
    · omega
  · intro k hk e
    have hk' : gw = k := by simpa [Value.ownBlock] using hk
    subst hk'
    rcases hv2 gw e with e2 | e2
    · exact h.apart gw rfl e2
    · omega
  · have := h.tot; simp at this ⊢; omega

/-- The top one goes on. -/
theorem ItInv.adv {b : Int} {to v2 : Value} {xs r : List Int} {gw cap : Nat} (h : ItInv B n lv l (.slice (some ⟨gw, 0, none⟩) (st.length + 1) cap) vo seen (st ++ [(b, to, xs)]) out W)
    (hr : IsInts (pIt B (.slice (some ⟨gw, 0, none⟩) (st.length + 1) cap) vo) W v2 r) :
    ItInv B n lv l (.slice (some ⟨gw, 0, none⟩) (st.length + 1) cap) vo seen (st ++ [(b, v2, r)]) out (W.setCell ⟨gw, st.length * 2 + 1, none⟩ v2) := by
  have hwl := (h.way.lt gw rfl)
  have hlen : (st ++ [(b, to, xs)]).length = st.length + 1 := by simp
  have hway := h.way
  rw [hlen] at hway
  have hne : ∀ k, pIt B (.slice (some ⟨gw, 0, none⟩) (st.length + 1) cap) vo k → k ≠ gw := fun k hk e => hk.2.1 (by rw [e]; rfl)
  refine ⟨h.blocks.keep (Keep.setCell fun k hk _ => ⟨hk, by show k ≠ gw; omega⟩), h.seenB.other (by show B ≠ gw; omega) _, h.len, ?_, ?_, ?_, h.apart, ?_⟩
  · have := (hway.stored (st.length * 2 + 1) v2).1
    have e : (goings (st ++ [(b, to, xs)])).set (st.length * 2 + 1) v2 = goings (st ++ [(b, v2, r)]) := by
      rw [goings, goings, List.flatMap_append, List.flatMap_append]
      have hl : (List.flatMap (fun e : Int × Value × List Int => [Value.int .i64 e.1, e.2.1]) st).length = st.length * 2 := goings_length st
      rw [List.set_append_right _ _ (by omega), hl, show st.length * 2 + 1 - st.length * 2 = 1 by omega]
      simp
    rw [e] at this
    simpa using this
  · intro e he
    have hk : Keep (pIt B (.slice (some ⟨gw, 0, none⟩) (st.length + 1) cap) vo) (pIt B (.slice (some ⟨gw, 0, none⟩) (st.length + 1) cap) vo) W (W.setCell ⟨gw, st.length * 2 + 1, none⟩ v2) := Keep.setCell fun k hk _ => ⟨hk, hne k hk⟩
    rcases List.mem_append.1 he with he | he
    · exact (h.ents e (by simp [he])).keep hk
    · simp at he; subst he; exact hr.keep hk
  · exact ownsRow_setCell_other h.outR (fun e => h.apart gw rfl (by simpa using e)) _
  · have := h.tot; simp at this ⊢; omega

/-- A block that is newly seen comes upon the stack. -/
theorem ItInv.push {x : Int} {k : Nat} {u : Option Addr} {ul uc : Nat} {xs : List Int} {gw cap : Nat} {W2 w' : World} {v' : Value} (h : ItInv B n lv l (.slice (some ⟨gw, 0, none⟩) st.length cap) vo seen st out W) (hs : seen.getD k true = false)
    (hb : Below W.heap.size (W.setCell ⟨B, k, none⟩ (.bool true)) W2) (hu : W2.ownsRow W.heap.size 3 1 (.slice u ul uc) xs.length (ints xs)) (hul : xs.length ≤ 1000)
    (ho : w'.ownsRow (B + 1) 68 2 v' (st.length + 1) (goings st ++ [.int .i64 x, .slice u ul uc])) (hg : (W2.alloc (.cells #[.int .i64 x, .slice u ul uc] 68)).grownBy w' (some gw))
    (hv : v'.ownBlock = some gw ∨ v'.ownBlock = some (W2.alloc (.cells #[.int .i64 x, .slice u ul uc] 68)).heap.size) :
    ItInv B n lv l v' vo (seen.set k true) (st ++ [(x, .slice u ul uc, xs)]) out w' := by
  obtain ⟨m1, m2, m3, m4, m5⟩ := h.mark k
  have hwl := (h.way.lt gw rfl)
  have hsz2 : W.heap.size ≤ W2.heap.size := by have := hb.size; simpa using this
  have hkeep : ∀ i, i < W.heap.size → i ≠ gw → w'.heap[i]? = (W.setCell ⟨B, k, none⟩ (.bool true)).heap[i]? := fun i hi hne =>
    (hg.block i (by simp; omega) (fun e => hne (by simpa using e))).trans ((Below.heap_alloc _ _ _ (by omega)).trans (hb.block i hi))
  have hv2 : ∀ i, v'.ownBlock = some i → i = gw ∨ W2.heap.size < i := fun i hi => by
    rcases hv with e | e
    · left; rw [e] at hi; simpa using hi.symm
    · rw [e] at hi; simp at hi; right; omega
  refine ⟨m1.keep (fun i hi hlt => ⟨hi, hkeep i (by simpa using hlt) (by omega)⟩), m2.keep (hkeep _ (by simpa using m2.lt) (by omega)), by simpa using h.len, ?_, ?_, ?_, ?_, ?_⟩
  · have e : goings (st ++ [(x, .slice u ul uc, xs)]) = goings st ++ [.int .i64 x, .slice u ul uc] := by simp [goings]
    rw [e]
    simpa using ho
  · intro e he
    rcases List.mem_append.1 he with he | he
    · refine (m4 e he).keep (fun i hi hlt => ⟨⟨hi.1, fun e' => ?_, hi.2.2⟩, hkeep i (by simpa using hlt) (fun e' => hi.2.1 (by rw [e']; rfl))⟩)
      have hlt' : i < W.heap.size := by simpa using hlt
      rcases hv2 i e'.symm with e2 | e2
      · exact hi.2.1 (by rw [e2]; rfl)
      · omega
    · simp at he
      subst he
      refine (ints_of_owns (p := fun i => W.heap.size ≤ i) hu (by omega) (fun i _ hi _ => hi)).keep (fun i hi hlt => ⟨⟨by have := h.seenB.lt; omega, fun e' => ?_, fun e' => ?_⟩, ?_⟩)
      · rcases hv2 i e'.symm with e2 | e2 <;> omega
      · have := (h.outR.lt i e'.symm).2; omega
      · exact (hg.block i (by simp; omega) (fun e => by simp at e; omega)).trans (Below.heap_alloc _ _ _ hlt)
  · have hgr : (W.setCell ⟨B, k, none⟩ (.bool true)).grownBy w' (some gw) := ⟨hg.os.trans hb.os, hg.tape.trans hb.tape, hg.output.trans hb.output, by have := hg.size; simp at this ⊢; omega, fun i hi hne => hkeep i (by simpa using hi) (fun e => hne (by rw [e]))⟩
    exact m5.kept hgr (by
      cases hvo : vo.ownBlock with
      | none => simp
      | some i => right; exact fun e => h.apart gw rfl (by rw [hvo, e]))
  · intro i hi e
    rcases hv2 i hi with e2 | e2
    · subst e2; exact h.apart i rfl e
    · have := (h.outR.lt i e).2; omega
  · have := (count_set hs).1
    have := h.tot
    simp
    omega
end
end Go.Proofs.Ytcihobmjohpnkaa
