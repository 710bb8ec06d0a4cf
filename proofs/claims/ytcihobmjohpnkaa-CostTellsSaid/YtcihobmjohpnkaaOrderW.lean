/- 'cfg.Order': by a stack: what the loop keeps. -/
import Derived.Test.YtcihobmjohpnkaaSuccsR
import Derived.Test.YtcihobmjohpnkaaOwn
import Derived.Deep.LoopGhost
namespace Go.Proofs.Ytcihobmjohpnkaa

section
open Go.RowKit Go.Sort

theorem infoGoing : (Try.prog.info? 68).map (fun i => (i.zero, i.size, i.bytes)) = some (some (.agg #[.int .i64 0, .slice none 0 0]), 2, 32) := by kernel_rfl

/-- 'way = append(way, going{x, to})'. -/
theorem app_going {ops : Array Oper} {rest : List Oper} {o : Oper} {a : Act} {Q : Exit → Act → World → Prop} {W : World}
    (hgd : o.guard = none) (s x : Operand) (hop : o.op = .call { callee := .builtin .append, args := #[s, x], argTypes := #[69, 69] })
    (base : Nat) (v : Value) (n : Nat) (xs : List Value) (hs : a.eval s = v) (hown : W.ownsRow base 68 2 v n xs) (g : Nat) (y : Int) (ua : Option Addr) (ul uc : Nat) (hx : a.eval x = .slice (some ⟨g, 0, none⟩) 1 1)
    (hc : W.heap[g]? = some (.cells #[.int .i64 y, .slice ua ul uc] 68 (0, 0))) (hn : n + 1 ≤ 1099511627776) (hb : base ≤ W.heap.size)
    (h : ∀ v' w', w'.ownsRow base 68 2 v' (n + 1) (xs ++ [.int .i64 y, .slice ua ul uc]) → W.grownBy w' v.ownBlock → (v'.ownBlock = v.ownBlock ∨ v'.ownBlock = some W.heap.size) → wpList Try.prog ops Q rest (a.put o.dst v') w') :
    wpList Try.prog ops Q (o :: rest) a W := by
  obtain ⟨i0, hi, hz0, hz1, hz2⟩ := info_parts infoGoing
  refine wp_app _ hgd s x 69 hop base 68 i0 _ 2 32 Try.underlying69 hi hz0 hz1 hz2 rfl (by decide) v n xs hs hown
    ⟨g, 0, none⟩ 1 1 [.int .i64 y, .slice ua ul uc] hx rfl ?_ ?_ ?_ ?_ hb h
  · intro j u hj
    match j, hj with
    | 0, hj => simp at hj; subst hj; simp [Addr.add, World.cell?, hc]
    | 1, hj => simp at hj; subst hj; simp [Addr.add, World.cell?, hc]
  · intro u hu; simp at hu; rcases hu with rfl | rfl <;> rfl
  · unfold maxLen; omega
  · omega

abbrev goings (st : List (Int × Value × List Int)) : List Value := st.flatMap fun e => [.int .i64 e.1, e.2.1]
theorem goings_length (st : List (Int × Value × List Int)) : (goings st).length = st.length * 2 := by
  induction st with
  | nil => rfl
  | cons e st ih => simp only [goings, List.flatMap_cons, List.length_append, List.length_cons, List.length_nil] at *; omega

/-- Where what the stack's entries hold may lie. -/
def pIt (B : Nat) (vw vo : Value) (k : Nat) : Prop := B < k ∧ some k ≠ vw.ownBlock ∧ some k ≠ vo.ownBlock

structure ItInv (B n : Nat) (lv : Value) (l : List (List InsD)) (vw vo : Value) (seen : List Bool) (st : List (Int × Value × List Int)) (out : List Int) (W : World) : Prop where
  blocks : IsBlocks (· < B) W lv l
  seenB : Row W B 4 (bools seen)
  len : seen.length = n
  way : W.ownsRow (B + 1) 68 2 vw st.length (goings st)
  ents : ∀ e ∈ st, IsInts (pIt B vw vo) W e.2.1 e.2.2
  outR : W.ownsRow (B + 1) 3 1 vo out.length (ints out)
  apart : ∀ k, vw.ownBlock = some k → vo.ownBlock ≠ some k
  tot : seen.count true = out.length + st.length

section
variable {B n : Nat} {lv : Value} {l : List (List InsD)} {vw vo : Value} {seen : List Bool} {st : List (Int × Value × List Int)} {out : List Int} {W : World}

theorem ItInv.below {W' : World} (h : ItInv B n lv l vw vo seen st out W) (hb : Below W.heap.size W W') : ItInv B n lv l vw vo seen st out W' := by
  have hg : W.grownBy W' none := ⟨hb.os, hb.tape, hb.output, hb.size, fun k hk _ => hb.block k hk⟩
  refine ⟨h.blocks.keep (Keep.below hb), h.seenB.keep (hb.block _ h.seenB.lt), h.len, h.way.kept hg (by cases vw.ownBlock <;> simp), fun e he => (h.ents e he).keep (Keep.below hb), h.outR.kept hg (by cases vo.ownBlock <;> simp), h.apart, h.tot⟩

/-- A block is marked as seen, while nothing else turns (the count of those seen is given beside). -/
theorem ItInv.mark (h : ItInv B n lv l vw vo seen st out W) (k : Nat) :
    IsBlocks (· < B) (W.setCell ⟨B, k, none⟩ (.bool true)) lv l ∧ Row (W.setCell ⟨B, k, none⟩ (.bool true)) B 4 (bools (seen.set k true)) ∧
    (W.setCell ⟨B, k, none⟩ (.bool true)).ownsRow (B + 1) 68 2 vw st.length (goings st) ∧ (∀ e ∈ st, IsInts (pIt B vw vo) (W.setCell ⟨B, k, none⟩ (.bool true)) e.2.1 e.2.2) ∧
    (W.setCell ⟨B, k, none⟩ (.bool true)).ownsRow (B + 1) 3 1 vo out.length (ints out) := by
  refine ⟨h.blocks.keep (Keep.setCell fun b hb _ => ⟨hb, by show b ≠ B; omega⟩), ?_, ownsRow_setCell_below h.way (by show B < B + 1; omega) _, fun e he => (h.ents e he).keep (Keep.setCell fun b hb _ => ⟨hb, by show b ≠ B; have := hb.1; omega⟩), ownsRow_setCell_below h.outR (by show B < B + 1; omega) _⟩
  rw [← bools_set]; exact h.seenB.set k _

/-- A block is told, and leaves the stack. -/
theorem ItInv.pop {b : Int} {to : Value} {gw cap : Nat} {v' : Value} {w' : World} (h : ItInv B n lv l (.slice (some ⟨gw, 0, none⟩) (st.length + 1) cap) vo seen (st ++ [(b, to, [])]) out W)
    (ho : w'.ownsRow (B + 1) 3 1 v' (out ++ [b]).length (ints (out ++ [b]))) (hg : (W.alloc (.cells #[.int .i64 b] 3)).grownBy w' vo.ownBlock) (hv : v'.ownBlock = vo.ownBlock ∨ v'.ownBlock = some (W.alloc (.cells #[.int .i64 b] 3)).heap.size) :
    ItInv B n lv l (.slice (some ⟨gw, 0, none⟩) st.length cap) v' seen st (out ++ [b]) w' := by
  have hkeep : ∀ k, k < W.heap.size → vo.ownBlock ≠ some k → w'.heap[k]? = W.heap[k]? := fun k hk hne =>
    (hg.block k (by simp; omega) (fun e => hne e.symm)).trans (Below.heap_alloc _ _ _ hk)
  have hbase := fun k hk => (h.outR.lt k hk).1
  have hv2 : ∀ k, v'.ownBlock = some k → vo.ownBlock = some k ∨ W.heap.size < k := fun k hk => by
    rcases hv with e | e
    · exact .inl (e ▸ hk)
    · rw [e] at hk; simp at hk; right; omega
  have hwl := (h.way.lt gw rfl)
  have hgrow : W.grownBy w' vo.ownBlock := ⟨hg.os, hg.tape, hg.output, by have := hg.size; simp at this; omega, fun k hk hne => hkeep k hk (fun e => hne e.symm)⟩
  have hw' : w'.ownsRow (B + 1) 68 2 (.slice (some ⟨gw, 0, none⟩) (st.length + 1) cap) (st.length + 1) (goings (st ++ [(b, to, [])])) := by
    have := h.way.kept hgrow (.inr (fun e => h.apart gw rfl e.symm))
    simpa using this
  refine ⟨h.blocks.keep (fun k hk hlt => ⟨hk, hkeep k hlt (fun e => by have := hbase _ e; omega)⟩), h.seenB.keep (hkeep _ h.seenB.lt (fun e => by have := hbase _ e; omega)), h.len, ?_, ?_, ho, ?_, ?_⟩
  · have := owns_shrink hw' st.length (by omega)
    have e : (goings (st ++ [(b, to, [])])).take (st.length * 2) = goings st := by
      rw [goings, List.flatMap_append]
      exact List.take_left' (goings_length st)
    rwa [e] at this
  · intro e he
    refine (h.ents e (by simp [he])).keep (fun k hk hlt => ⟨⟨hk.1, hk.2.1, fun e' => ?_⟩, hkeep k hlt (fun e' => hk.2.2 e'.symm)⟩)
    rcases hv2 k e'.symm with e2 | e2
    · exact hk.2.2 e2.symm
    · omega
  · intro k hk e
    have hk' : gw = k := by simpa [Value.ownBlock] using hk
    subst hk'
    rcases hv2 gw e with e2 | e2
    · exact h.apart gw rfl e2
    · omega
  · have := h.tot; simp at this ⊢; omega

/-- The top one goes on. -/
theorem ItInv.adv {b : Int} {to v2 : Value} {xs r : List Int} {gw cap : Nat} (h : ItInv B n lv l (.slice (some ⟨gw, 0, none⟩) (st.length + 1) cap) vo seen (st ++ [(b, to, xs)]) out W)
    (hr : IsInts (pIt B (.slice (some ⟨gw, 0, none⟩) (st.length + 1) cap) vo) W v2 r) :
    ItInv B n lv l (.slice (some ⟨gw, 0, none⟩) (st.length + 1) cap) vo seen (st ++ [(b, v2, r)]) out (W.setCell ⟨gw, st.length * 2 + 1, none⟩ v2) := by
  have hwl := (h.way.lt gw rfl)
  have hlen : (st ++ [(b, to, xs)]).length = st.length + 1 := by simp
  have hway := h.way
  rw [hlen] at hway
  have hne : ∀ k, pIt B (.slice (some ⟨gw, 0, none⟩) (st.length + 1) cap) vo k → k ≠ gw := fun k hk e => hk.2.1 (by rw [e]; rfl)
  refine ⟨h.blocks.keep (Keep.setCell fun k hk _ => ⟨hk, by show k ≠ gw; omega⟩), h.seenB.other (by show B ≠ gw; omega) _, h.len, ?_, ?_, ?_, h.apart, ?_⟩
  · have := (hway.stored (st.length * 2 + 1) v2).1
    have e : (goings (st ++ [(b, to, xs)])).set (st.length * 2 + 1) v2 = goings (st ++ [(b, v2, r)]) := by
      rw [goings, goings, List.flatMap_append, List.flatMap_append]
      have hl : (List.flatMap (fun e : Int × Value × List Int => [Value.int .i64 e.1, e.2.1]) st).length = st.length * 2 := goings_length st
      rw [List.set_append_right _ _ (by omega), hl, show st.length * 2 + 1 - st.length * 2 = 1 by omega]
      simp
    rw [e] at this
    simpa using this
  · intro e he
    have hk : Keep (pIt B (.slice (some ⟨gw, 0, none⟩) (st.length + 1) cap) vo) (pIt B (.slice (some ⟨gw, 0, none⟩) (st.length + 1) cap) vo) W (W.setCell ⟨gw, st.length * 2 + 1, none⟩ v2) := Keep.setCell fun k hk _ => ⟨hk, hne k hk⟩
    rcases List.mem_append.1 he with he | he
    · exact (h.ents e (by simp [he])).keep hk
    · simp at he; subst he; exact hr.keep hk
  · exact ownsRow_setCell_other h.outR (fun e => h.apart gw rfl (by simpa using e)) _
  · have := h.tot; simp at this ⊢; omega

/-- A block that is newly seen comes upon the stack. -/
theorem ItInv.push {x : Int} {k : Nat} {u : Option Addr} {ul uc : Nat} {xs : List Int} {gw cap : Nat} {W2 w' : World} {v' : Value} (h : ItInv B n lv l (.slice (some ⟨gw, 0, none⟩) st.length cap) vo seen st out W) (hs : seen.getD k true = false)
    (hb : Below W.heap.size (W.setCell ⟨B, k, none⟩ (.bool true)) W2) (hu : W2.ownsRow W.heap.size 3 1 (.slice u ul uc) xs.length (ints xs)) (hul : xs.length ≤ 1000)
    (ho : w'.ownsRow (B + 1) 68 2 v' (st.length + 1) (goings st ++ [.int .i64 x, .slice u ul uc])) (hg : (W2.alloc (.cells #[.int .i64 x, .slice u ul uc] 68)).grownBy w' (some gw))
    (hv : v'.ownBlock = some gw ∨ v'.ownBlock = some (W2.alloc (.cells #[.int .i64 x, .slice u ul uc] 68)).heap.size) :
    ItInv B n lv l v' vo (seen.set k true) (st ++ [(x, .slice u ul uc, xs)]) out w' := by
  obtain ⟨m1, m2, m3, m4, m5⟩ := h.mark k
  have hwl := (h.way.lt gw rfl)
  have hsz2 : W.heap.size ≤ W2.heap.size := by have := hb.size; simpa using this
  have hkeep : ∀ i, i < W.heap.size → i ≠ gw → w'.heap[i]? = (W.setCell ⟨B, k, none⟩ (.bool true)).heap[i]? := fun i hi hne =>
    (hg.block i (by simp; omega) (fun e => hne (by simpa using e))).trans ((Below.heap_alloc _ _ _ (by omega)).trans (hb.block i hi))
  have hv2 : ∀ i, v'.ownBlock = some i → i = gw ∨ W2.heap.size < i := fun i hi => by
    rcases hv with e | e
    · left; rw [e] at hi; simpa using hi.symm
    · rw [e] at hi; simp at hi; right; omega
  refine ⟨m1.keep (fun i hi hlt => ⟨hi, hkeep i (by simpa using hlt) (by omega)⟩), m2.keep (hkeep _ (by simpa using m2.lt) (by omega)), by simpa using h.len, ?_, ?_, ?_, ?_, ?_⟩
  · have e : goings (st ++ [(x, .slice u ul uc, xs)]) = goings st ++ [.int .i64 x, .slice u ul uc] := by simp [goings]
    rw [e]
    simpa using ho
  · intro e he
    rcases List.mem_append.1 he with he | he
    · refine (m4 e he).keep (fun i hi hlt => ⟨⟨hi.1, fun e' => ?_, hi.2.2⟩, hkeep i (by simpa using hlt) (fun e' => hi.2.1 (by rw [e']; rfl))⟩)
      have hlt' : i < W.heap.size := by simpa using hlt
      rcases hv2 i e'.symm with e2 | e2
      · exact hi.2.1 (by rw [e2]; rfl)
      · omega
    · simp at he
      subst he
      refine (ints_of_owns (p := fun i => W.heap.size ≤ i) hu (by omega) (fun i _ hi _ => hi)).keep (fun i hi hlt => ⟨⟨by have := h.seenB.lt; omega, fun e' => ?_, fun e' => ?_⟩, ?_⟩)
      · rcases hv2 i e'.symm with e2 | e2 <;> omega
      · have := (h.outR.lt i e'.symm).2; omega
      · exact (hg.block i (by simp; omega) (fun e => by simp at e; omega)).trans (Below.heap_alloc _ _ _ hlt)
  · have hgr : (W.setCell ⟨B, k, none⟩ (.bool true)).grownBy w' (some gw) := ⟨hg.os.trans hb.os, hg.tape.trans hb.tape, hg.output.trans hb.output, by have := hg.size; simp at this ⊢; omega, fun i hi hne => hkeep i (by simpa using hi) (fun e => hne (by rw [e]))⟩
    exact m5.kept hgr (by
      cases hvo : vo.ownBlock with
      | none => simp
      | some i => right; exact fun e => h.apart gw rfl (by rw [hvo, e]))
  · intro i hi e
    rcases hv2 i hi with e2 | e2
    · subst e2; exact h.apart i rfl e
    · have := (h.outR.lt i e).2; omega
  · have := (count_set hs).1
    have := h.tot
    simp
    omega
end
end

section
/- 'cfg.Order': the walk. -/
open Go.RowKit Go.Sort

/-- The stack, the top one first, as the plain text has it. -/
def plainSt (st : List (Int × Value × List Int)) : List (Int × List Int) := (st.map fun e => (e.1, e.2.2)).reverse

set_option maxRecDepth 100000 in
set_option maxHeartbeats 2000000 in
theorem order_c {p : Nat → Prop} {v : Value} {l : List (List InsD)} (w : World) (h : IsBlocks p w v l) (hl : l.length ≤ 1000) :
    Calls Try.prog 25 #[v] w fun e w' => ∃ u, e = .returned u ∧ w'.ownsRow w.heap.size 3 1 u (orderS l).length (ints (orderS l)) ∧ Below w.heap.size w w' := by
  have h0 : IsBlocks (· < w.heap.size) w v l := h.keep (Keep.refl w fun _ _ hb => hb)
  obtain ⟨a, cap, rfl, -, -⟩ := h
  by_cases hz : l.length = 0
  · have e0 : orderS l = [] := by unfold orderS; rw [if_pos hz]
    have hz' : ((l.length : Int) == 0) = true := by simp [hz]
    rw [e0]
    clear h0 e0 hz hl
    go_enter Try.func25, Try.ntmps25
    go_wp2
    go_ret
    exact ⟨_, rfl, World.ownsRow_nil _ _ _ _, bel_refl _⟩
  have hz' : ((l.length : Int) == 0) = false := beq_eq_false_iff_ne.2 (by omega)
  obtain ⟨k0, hrun⟩ := it_order l (by omega)
  obtain ⟨ol, HOL⟩ : ∃ ol, Hid (orderS l = ol) := ⟨_, (rfl : orderS l = orderS l)⟩
  rw [HOL.out] at hrun ⊢
  have HR : Hid (ItRuns (succS l) k0 ((List.replicate l.length false).set 0 true) [(0, succS l 0)] [] ol.reverse) := hrun
  clear hrun HOL
  obtain ⟨n, HN⟩ : ∃ n, Hid (l.length = n) := ⟨l.length, (rfl : l.length = l.length)⟩
  rw [HN.out] at hz' hz hl HR
  have h1 : IsBlocks (· < w.heap.size) w (.slice a n cap) l := by rw [← HN.out]; exact h0
  rw [HN.out]
  clear h0
  have hn0 : (0 : Int) < (n : Int) := by omega
  go_enter Try.func25, Try.ntmps25
  go_wp2_with (at_make; refine stop_here ?_)
  refine stop_go (mk_bools rfl _ _ rfl n rfl rfl (by omega) ?_)
  refine k_at (fun W => Row W w.heap.size 4 (bools (List.replicate n false)) ∧ Below w.heap.size w W ∧ W.heap.size = w.heap.size + 1) ⟨heap_alloc_eq _ _ _ rfl, bel_alloc (bel_refl w) _, by simp⟩ ?_
  rintro W0 ⟨hr0, hb0, hz0⟩
  have c0 := hr0.cell (k := 0) (v := .bool false) (by rw [bools_get (by simp; omega)]; cases n with | zero => omega | succ n => rfl)
  have f0 := hr0.frozen 0
  obtain ⟨B, HB⟩ : ∃ B, Hid (w.heap.size = B) := ⟨w.heap.size, (rfl : w.heap.size = w.heap.size)⟩
  rw [HB.out] at hr0 hb0 hz0 h1 c0 f0 ⊢
  go_wp2_with fail
  have hm : Row (W0.setCell ⟨B, 0, none⟩ (.bool true)) B 4 (bools ((List.replicate n false).set 0 true)) := by rw [← bools_set]; exact hr0.set 0 _
  refine calls_at (fun W => Row W B 4 (bools ((List.replicate n false).set 0 true)) ∧ Below B w W ∧ W.heap.size = B + 1) ⟨hm, hb0.setCell (Nat.le_refl _) _, by simpa using hz0⟩ ?_
  clear hr0 hb0 hz0 c0 f0 hm
  rintro W1 ⟨hr1, hb1, hz1⟩
  have hk1 : IsBlocks (· < B) W1 _ l := h1.keep (Keep.belowB hb1)
  clear h1
  refine (succs_c W1 0 hk1).mono ?_
  rintro e W2 ⟨u, rfl, hu, hb2⟩
  have hus : (succS l 0).length ≤ 2 := succS_length l 0
  have HX0 : Hid (∀ x ∈ succS l 0, 0 ≤ x ∧ x < (n : Int)) := by have := succS_range l 0; rw [HN.out] at this; exact this
  generalize succS l 0 = xs0 at hu hus HR HX0
  obtain ⟨ua, uc, rfl⟩ : ∃ ua uc, u = .slice ua xs0.length uc := by
    rcases owns_nilcase hu with ⟨rfl, h0, _⟩ | ⟨g, c, rfl⟩
    · exact ⟨none, 0, by rw [h0]⟩
    · exact ⟨_, _, rfl⟩
  go_wp2_with fail
  have hinit : ItInv B n (.slice a n cap) l (.slice (some ⟨W2.heap.size, 0, none⟩) 1 1) (.slice none 0 0) ((List.replicate n false).set 0 true) [(0, .slice ua xs0.length uc, xs0)] [] (W2.alloc (.cells #[.int .i64 0, .slice ua xs0.length uc] 68)) := by
    have hs2 := hb2.size
    have hba : Below W1.heap.size W1 (W2.alloc (.cells #[.int .i64 0, .slice ua xs0.length uc] 68)) := bel_alloc hb2 _
    refine ⟨hk1.keep (Keep.below hba), hr1.keep (hba.block _ hr1.lt), by simp, ?_, ?_, World.ownsRow_nil _ _ _ _, by simp [Value.ownBlock], ?_⟩
    · exact owns_new (cs := #[.int .i64 0, .slice ua xs0.length uc]) rfl (by omega) (by decide) rfl rfl rfl
    · intro e he
      simp at he
      subst he
      exact (ints_of_owns (p := fun i => W1.heap.size ≤ i) hu (by omega) (fun i _ hi _ => hi)).keep (fun i hi hlt => ⟨⟨by omega, fun e => by simp [Value.ownBlock] at e; omega, by simp [Value.ownBlock]⟩, Below.heap_alloc _ _ _ hlt⟩)
    · have := (count_set (seen := List.replicate n false) (k := 0) (by cases n with | zero => omega | succ n => rfl)).1
      rw [this]; simp [List.count_replicate]
  have hbinit : Below B w (W2.alloc (.cells #[.int .i64 0, .slice ua xs0.length uc] 68)) := hb1.trans ((bel_alloc hb2 _).mono (by omega))
  refine k_at (fun W => ItInv B n (.slice a n cap) l (.slice (some ⟨W2.heap.size, 0, none⟩) 1 1) (.slice none 0 0) ((List.replicate n false).set 0 true) [(0, .slice ua xs0.length uc, xs0)] [] W ∧ Below B w W) ⟨hinit, hbinit⟩ ?_
  clear hinit hbinit hu hb2 hr1 hb1 hk1
  rintro W3 ⟨hI0, hB0⟩
  go_loopg [4, 5] k0 (fun g s4 s5 wr => ∃ (gw cw : Nat) (seen : List Bool) (st : List (Int × Value × List Int)) (out : List Int), s4 = .slice (some ⟨gw, 0, none⟩) st.length cw ∧
    ItInv B n (.slice a n cap) l s4 s5 seen st out wr ∧ Below B w wr ∧ Hid (ItRuns (succS l) g seen (plainSt st) out ol.reverse) ∧ Hid (∀ e ∈ st, ∀ x ∈ e.2.2, 0 ≤ x ∧ x < (n : Int)))
  case atStart => exact ⟨W2.heap.size, 1, _, _, [], rfl, hI0, hB0, HR, (by rintro e he x hx; simp at he; subst he; exact HX0.out x hx : ∀ e ∈ [((0 : Int), Value.slice ua xs0.length uc, xs0)], ∀ x ∈ e.2.2, 0 ≤ x ∧ x < (n : Int))⟩
  case round =>
    obtain ⟨gw, cw, seen, st, out, rfl, hI, hB, hR, hrng⟩ := hrel
    clear hI0 hB0 HR
    rcases List.eq_nil_or_concat st with rfl | ⟨st, ⟨b, to, xs⟩, rfl⟩
    · have hout : out = ol.reverse := by
        have := hR.out
        generalize hps : plainSt [] = ps at this
        cases this with
        | done => rfl
        | pop => simp [plainSt] at hps
        | skip => simp [plainSt] at hps
        | push => simp [plainSt] at hps
      subst hout
      have ho := hI.outR
      have hol : ol.reverse.length ≤ 140737488351232 := by have := hI.tot; have := List.count_le_length (a := true) (l := seen); have := hI.len; simp only [List.length_nil] at *; omega
      have hsz := hI.seenB.lt
      clear hI hR
      go_wp2_with fail
      refine (reverse_c (base := B + 1) (e := 3) wr ho hol).mono ?_
      rintro e W4 ⟨rfl, ho4, hg4⟩
      have hb4 : Below B w W4 := hB.grown hg4 (by omega) (fun k hk => by have := (ho.lt k hk).1; omega)
      rw [List.reverse_reverse, List.length_reverse] at ho4
      have ho5 := owns_mono ho4 (base' := w.heap.size) (by rw [HB.out]; omega)
      rw [← HB.out] at hb4
      clear ho ho4 hg4 hB
      go_wp2_with fail
      go_ret
      exact ⟨_, rfl, ho5, hb4⟩
    · rw [List.concat_eq_append] at hI hR hrng ⊢
      have hl2 : (st ++ [(b, to, xs)]).length = st.length + 1 := by simp
      rw [hl2] at hI ⊢
      have HR2 : Hid (ItRuns (succS l) gk seen ((b, xs) :: plainSt st) out ol.reverse) := by
        have := hR.out
        show ItRuns _ _ _ _ _ _
        simpa [plainSt] using this
      clear hR
      have hw := hI.way
      rw [hl2] at hw
      have hgl := goings_length st
      have q0 := hw.cellAt (st.length * 2) (by omega)
      have q1 := hw.cellAt (st.length * 2 + 1) (by omega)
      have qf := hw.frozenAt (st.length * 2 + 1)
      obtain ⟨_, _, _, hcap, _⟩ := owns_block hw
      have e0 : (goings (st ++ [(b, to, xs)]))[st.length * 2]? = some (.int .i64 b) := by
        rw [goings, List.flatMap_append, List.getElem?_append_right (Nat.le_of_eq hgl)]; rw [hgl]; simp
      have e1 : (goings (st ++ [(b, to, xs)]))[st.length * 2 + 1]? = some to := by
        rw [goings, List.flatMap_append, List.getElem?_append_right (by rw [hgl]; omega)]; rw [hgl]; simp
      rw [e0] at q0
      rw [e1] at q1
      have hto := hI.ents (b, to, xs) (by simp)
      dsimp only at hto
      have hto' := hto
      obtain ⟨ta, tc, rfl, htl, htx⟩ := hto
      clear hw hgl e0 e1 hl2
      have hstl : st.length + 1 ≤ 1000 := by have := hI.tot; have := List.count_le_length (a := true) (l := seen); have := hI.len; simp only [List.length_append, List.length_cons, List.length_nil] at *; omega
      cases xs with
      | nil =>
        simp only [List.length_nil] at q1
        have hcz : (st.length : Int) ≤ (cw : Int) := by omega
        have hr0 : ItRuns (succS l) (gk - 1) seen (plainSt st) (out ++ [b]) ol.reverse ∧ 0 < gk := by
          have := HR2.out
          cases this with
          | pop h => exact ⟨by simpa using h, by omega⟩
        have HR3 : Hid (ItRuns (succS l) (gk - 1) seen (plainSt st) (out ++ [b]) ol.reverse) := hr0.1
        have hgk := hr0.2
        clear hr0 HR2
        have hol : out.length + 1 ≤ 17592186044416 := by have := hI.tot; have := List.count_le_length (a := true) (l := seen); have := hI.len; simp only [List.length_append, List.length_cons, List.length_nil] at *; omega
        have hoR := hI.outR
        have hsz := hI.seenB.lt
        go_wp2_with (at_builtin; refine stop_here ?_)
        refine stop_go (app_int rfl _ _ rfl (B + 1) u5 out rfl (hoR.alloc _) _ _ rfl (heap_alloc_eq _ _ _ rfl) hol (by simp; omega) ?_)
        intro v1 w1 ho1 hg1 hv1
        have hI1 := hI.pop ho1 hg1 hv1
        have hb1 : Below B w w1 := (hB.alloc (by omega) _).grown hg1 (by simp; omega) (fun k hk => by have := (hoR.lt k hk).1; omega)
        clear hI ho1 hg1 hv1 hoR q0 q1 qf hto' htx hB
        go_wp2_with fail
        go_roundg (gk - 1)
        case measure => omega
        case rel => exact ⟨gw, cw, seen, st, out ++ [b], rfl, hI1, hb1, HR3, (fun e he => hrng.out e (by simp [he]) : ∀ e ∈ st, ∀ x ∈ e.2.2, 0 ≤ x ∧ x < (n : Int))⟩
      | cons x r =>
        rcases htx with htx | ⟨tb, toff, rfl, hpt, htc⟩
        · simp at htx
        have t0 := htc 0 (by simp)
        simp only [CInt, Nat.zero_mul, Nat.add_zero, List.getElem_cons_zero] at t0
        obtain ⟨xn, rfl, hxn⟩ : ∃ xn : Nat, x = xn ∧ xn < n := by
          obtain ⟨h1, h2⟩ := hrng.out (b, _, x :: r) (List.mem_append_right _ (List.mem_singleton.2 rfl)) x (by simp)
          exact ⟨x.toNat, by omega, by omega⟩
        simp only [List.length_cons] at q1 htl
        have hrng2 : Hid (∀ v2 : Value, ∀ e ∈ st ++ [(b, v2, r)], ∀ x ∈ e.2.2, 0 ≤ x ∧ x < (n : Int)) := by
          intro v2 e he y hy
          rcases List.mem_append.1 he with he | he
          · exact hrng.out e (List.mem_append_left _ he) y hy
          · simp at he; subst he
            exact hrng.out (b, _, (xn : Int) :: r) (List.mem_append_right _ (List.mem_singleton.2 rfl)) y (by simp [show y ∈ r from hy])
        clear hrng
        have hc1 : (1 : Int) ≤ (tc : Int) := by omega
        have hc2 : ((r.length : Int) + 1) ≤ (tc : Int) := by omega
        have hxz : (xn : Int) < (n : Int) := by omega
        obtain ⟨sb, hsb⟩ : ∃ sb, seen.getD xn true = sb := ⟨_, rfl⟩
        have s1 := hI.seenB.cell (k := xn) (bools_get (by rw [hI.len]; exact hxn))
        have sf := hI.seenB.frozen xn
        rw [hsb] at s1
        have HSB : Hid (seen.getD xn true = sb) := hsb
        clear hsb
        obtain ⟨ta2, tc2, hcase, hr2⟩ : ∃ ta2 tc2, ((tc = 1 ∧ ta2 = some ⟨tb, toff, none⟩ ∧ tc2 = 0) ∨ (tc ≠ 1 ∧ ta2 = some ⟨tb, toff + 1, none⟩ ∧ tc2 = tc - 1)) ∧
            IsInts (pIt B (.slice (some ⟨gw, 0, none⟩) (st.length + 1) cw) u5) wr (.slice ta2 r.length tc2) r := by
          by_cases h1 : tc = 1
          · refine ⟨_, _, .inl ⟨h1, rfl, rfl⟩, _, _, rfl, ⟨by omega, by omega⟩, .inl (List.length_eq_zero_iff.1 (by omega))⟩
          · refine ⟨_, _, .inr ⟨h1, rfl, rfl⟩, _, _, rfl, ⟨by omega, by omega⟩, .inr ⟨tb, toff + 1, rfl, hpt, fun j hj => ?_⟩⟩
            have := htc (j + 1) (by simp; omega)
            simp only [List.getElem_cons_succ] at this
            rwa [show toff + 1 + j * 1 = toff + (j + 1) * 1 by omega]
        have hI2 := hI.adv hr2
        have hwl := (hI.way.lt gw rfl)
        have hB2 : Below B w (wr.setCell ⟨gw, st.length * 2 + 1, none⟩ (.slice ta2 r.length tc2)) := hB.setCell (by show B ≤ gw; omega) _
        have HI2 : Hid (ItInv B n (.slice a n cap) l (.slice (some ⟨gw, 0, none⟩) (st.length + 1) cw) u5 seen (st ++ [(b, .slice ta2 r.length tc2, r)]) out (wr.setCell ⟨gw, st.length * 2 + 1, none⟩ (.slice ta2 r.length tc2)) ∧ Below B w (wr.setCell ⟨gw, st.length * 2 + 1, none⟩ (.slice ta2 r.length tc2))) := ⟨hI2, hB2⟩
        clear hI hto' htc hr2 hI2 hB2 hB
        have hgw : B ≠ gw := by omega
        cases sb with
        | true =>
          have hr0 : ItRuns (succS l) (gk - 1) seen ((b, r) :: plainSt st) out ol.reverse ∧ 0 < gk := by
            have := HR2.out
            cases this with
            | skip _ h => exact ⟨by simpa using h, by omega⟩
            | push h _ => rw [Int.toNat_natCast, HSB.out] at h; simp at h
          have HR3 : Hid (ItRuns (succS l) (gk - 1) seen ((b, r) :: plainSt st) out ol.reverse) := hr0.1
          have hgk := hr0.2
          clear hr0 HR2
          rcases hcase with ⟨rfl, rfl, rfl⟩ | ⟨htc1, rfl, rfl⟩
          · obtain rfl : r = [] := List.length_eq_zero_iff.1 (by omega)
            simp only [List.length_nil] at HI2
            go_wp2_with fail
            go_roundg (gk - 1)
            case measure => omega
            case rel => exact ⟨gw, cw, seen, st ++ [(b, _, [])], out, by simp, by simpa using HI2.out.1, HI2.out.2, by simpa [plainSt] using HR3, hrng2.out _⟩
          · go_wp2_with fail
            go_roundg (gk - 1)
            case measure => omega
            case rel => exact ⟨gw, cw, seen, st ++ [(b, _, r)], out, by simp, by simpa using HI2.out.1, HI2.out.2, by simpa [plainSt] using HR3, hrng2.out _⟩
        | false =>
          have hr0 : ItRuns (succS l) (gk - 1) (seen.set xn true) (((xn : Int), succS l xn) :: (b, r) :: plainSt st) out ol.reverse ∧ 0 < gk := by
            have := HR2.out
            cases this with
            | skip h _ => rw [Int.toNat_natCast, HSB.out] at h; simp at h
            | push _ h => exact ⟨by simpa using h, by omega⟩
          have HR3 : Hid (ItRuns (succS l) (gk - 1) (seen.set xn true) (((xn : Int), succS l xn) :: (b, r) :: plainSt st) out ol.reverse) := hr0.1
          have hgk := hr0.2
          clear hr0 HR2
          have hcall : Hid (∀ (Wm W : World) (ta3 : Option Addr) (tc3 : Nat), ItInv B n (.slice a n cap) l (.slice (some ⟨gw, 0, none⟩) (st.length + 1) cw) u5 seen (st ++ [(b, .slice ta3 r.length tc3, r)]) out Wm → Below B w Wm → W = Wm.setCell ⟨B, xn, none⟩ (.bool true) →
              Calls Try.prog 30 #[.slice a n cap, .int .i64 xn] W fun e W2 => ∃ u uc, e = .returned (.slice u (succS l xn).length uc) ∧ Below Wm.heap.size W W2 ∧ W2.ownsRow Wm.heap.size 3 1 (.slice u (succS l xn).length uc) (succS l xn).length (ints (succS l xn))) := by
            intro Wm W ta3 tc3 hIm _ hW
            subst hW
            obtain ⟨m1, _⟩ := hIm.mark xn
            refine (succs_c _ (xn : Int) m1).mono ?_
            rintro e W2 ⟨u, rfl, hu, hb⟩
            have hsz : (Wm.setCell ⟨B, xn, none⟩ (.bool true)).heap.size = Wm.heap.size := by simp
            rw [hsz] at hu hb
            rcases owns_nilcase hu with ⟨rfl, h0, _⟩ | ⟨g, c, rfl⟩
            · exact ⟨none, 0, by rw [h0], hb, by rw [h0]; rw [h0] at hu; exact hu⟩
            · exact ⟨_, _, rfl, hb, hu⟩
          have hsl := succS_length l (xn : Int)
          have HSL : Hid ((succS l (xn : Int)).length ≤ 2) := hsl
          clear hsl
          rcases hcase with ⟨rfl, rfl, rfl⟩ | ⟨htc1, rfl, rfl⟩
          · obtain rfl : r = [] := List.length_eq_zero_iff.1 (by omega)
            simp only [List.length_nil] at HI2 hcall
            go_wp2_with fail
            refine (hcall.out _ _ _ _ HI2.out.1 HI2.out.2 rfl).mono ?_
            clear hcall
            rintro e W2 ⟨u, uc, rfl, hb2, hu2⟩
            have HSL' := HSL.out
            have HRY : Hid (∀ x ∈ succS l (xn : Int), 0 ≤ x ∧ x < (n : Int)) := by have := succS_range l (xn : Int); rw [HN.out] at this; exact this
            generalize succS l (xn : Int) = ys at HR3 hu2 HSL' HRY
            obtain ⟨Wm, HWm⟩ : ∃ Wm, Hid (wr.setCell ⟨gw, st.length * 2 + 1, none⟩ (.slice (some ⟨tb, toff, none⟩) 0 0) = Wm) := ⟨wr.setCell ⟨gw, st.length * 2 + 1, none⟩ (.slice (some ⟨tb, toff, none⟩) 0 0), (rfl : wr.setCell ⟨gw, st.length * 2 + 1, none⟩ (.slice (some ⟨tb, toff, none⟩) 0 0) = wr.setCell ⟨gw, st.length * 2 + 1, none⟩ (.slice (some ⟨tb, toff, none⟩) 0 0))⟩
            rw [HWm.out] at HI2 hb2 hu2
            obtain ⟨hIm, hBm⟩ := HI2.out
            have hl2 : (st ++ [(b, Value.slice (some ⟨tb, toff, none⟩) 0 0, [])]).length = st.length + 1 := by simp
            have hIm' := hIm
            rw [← hl2] at hIm'
            have hway : W2.ownsRow (B + 1) 68 2 (.slice (some ⟨gw, 0, none⟩) (st.length + 1) cw) (st.length + 1) (goings (st ++ [(b, Value.slice (some ⟨tb, toff, none⟩) 0 0, [])])) := by
              have m3 := (hIm.mark xn).2.2.1
              rw [hl2] at m3
              exact m3.kept (row := none) ⟨hb2.os, hb2.tape, hb2.output, hb2.size, fun k hk _ => hb2.block k (by simpa using hk)⟩ (by simp [Value.ownBlock])
            have hszm := hIm.seenB.lt
            have hsz2 := hb2.size
            rw [World.size_setCell] at hsz2
            have hB2 : Below B w W2 := (hBm.setCell (p := ⟨B, xn, none⟩) (Nat.le_refl _) _).trans (hb2.mono (by omega))
            clear HI2 hBm q0 q1 qf t0 s1 sf
            go_wp2_with (at_builtin; refine stop_here ?_)
            refine stop_go (app_going rfl _ _ rfl (B + 1) (.slice (some ⟨gw, 0, none⟩) (st.length + 1) cw) (st.length + 1) _ rfl (hway.alloc _) _ _ _ _ _ rfl (heap_alloc_eq _ _ _ rfl) (by omega) (by simp; omega) ?_)
            intro v1 w1 ho1 hg1 hv1
            have hI3 := hIm'.push HSB.out hb2 hu2 (by omega) (by rw [hl2]; exact ho1) hg1 hv1
            have hb1 : Below B w w1 := (hB2.alloc (by omega) _).grown hg1 (by simp; omega) (fun k hk => by simp [Value.ownBlock] at hk; omega)
            obtain ⟨g1, c1, rfl⟩ : ∃ g1 c1, v1 = .slice (some ⟨g1, 0, none⟩) (st.length + 1 + 1) c1 := by
              rcases owns_nilcase ho1 with ⟨_, h0, _⟩ | ⟨g, c, h⟩
              · omega
              · exact ⟨g, c, h⟩
            clear hway ho1 hg1 hv1 hb2 hu2 hIm hIm' hB2
            go_wp2_with fail
            go_roundg (gk - 1)
            case measure => omega
            case rel =>
              refine ⟨g1, c1, _, _, out, by simp, hI3, hb1, by simpa [plainSt] using HR3, ?_⟩
              intro e he y hy
              rcases List.mem_append.1 he with he | he
              · exact hrng2.out _ e he y hy
              · simp at he; subst he; exact HRY.out y hy
          · go_wp2_with fail
            refine (hcall.out _ _ _ _ HI2.out.1 HI2.out.2 rfl).mono ?_
            clear hcall
            rintro e W2 ⟨u, uc, rfl, hb2, hu2⟩
            have HSL' := HSL.out
            have HRY : Hid (∀ x ∈ succS l (xn : Int), 0 ≤ x ∧ x < (n : Int)) := by have := succS_range l (xn : Int); rw [HN.out] at this; exact this
            generalize succS l (xn : Int) = ys at HR3 hu2 HSL' HRY
            obtain ⟨Wm, HWm⟩ : ∃ Wm, Hid (wr.setCell ⟨gw, st.length * 2 + 1, none⟩ (.slice (some ⟨tb, toff + 1, none⟩) r.length (tc - 1)) = Wm) := ⟨wr.setCell ⟨gw, st.length * 2 + 1, none⟩ (.slice (some ⟨tb, toff + 1, none⟩) r.length (tc - 1)), (rfl : wr.setCell ⟨gw, st.length * 2 + 1, none⟩ (.slice (some ⟨tb, toff + 1, none⟩) r.length (tc - 1)) = wr.setCell ⟨gw, st.length * 2 + 1, none⟩ (.slice (some ⟨tb, toff + 1, none⟩) r.length (tc - 1)))⟩
            rw [HWm.out] at HI2 hb2 hu2
            obtain ⟨hIm, hBm⟩ := HI2.out
            have hl2 : (st ++ [(b, Value.slice (some ⟨tb, toff + 1, none⟩) r.length (tc - 1), r)]).length = st.length + 1 := by simp
            have hIm' := hIm
            rw [← hl2] at hIm'
            have hway : W2.ownsRow (B + 1) 68 2 (.slice (some ⟨gw, 0, none⟩) (st.length + 1) cw) (st.length + 1) (goings (st ++ [(b, Value.slice (some ⟨tb, toff + 1, none⟩) r.length (tc - 1), r)])) := by
              have m3 := (hIm.mark xn).2.2.1
              rw [hl2] at m3
              exact m3.kept (row := none) ⟨hb2.os, hb2.tape, hb2.output, hb2.size, fun k hk _ => hb2.block k (by simpa using hk)⟩ (by simp [Value.ownBlock])
            have hszm := hIm.seenB.lt
            have hsz2 := hb2.size
            rw [World.size_setCell] at hsz2
            have hB2 : Below B w W2 := (hBm.setCell (p := ⟨B, xn, none⟩) (Nat.le_refl _) _).trans (hb2.mono (by omega))
            clear HI2 hBm q0 q1 qf t0 s1 sf
            go_wp2_with (at_builtin; refine stop_here ?_)
            refine stop_go (app_going rfl _ _ rfl (B + 1) (.slice (some ⟨gw, 0, none⟩) (st.length + 1) cw) (st.length + 1) _ rfl (hway.alloc _) _ _ _ _ _ rfl (heap_alloc_eq _ _ _ rfl) (by omega) (by simp; omega) ?_)
            intro v1 w1 ho1 hg1 hv1
            have hI3 := hIm'.push HSB.out hb2 hu2 (by omega) (by rw [hl2]; exact ho1) hg1 hv1
            have hb1 : Below B w w1 := (hB2.alloc (by omega) _).grown hg1 (by simp; omega) (fun k hk => by simp [Value.ownBlock] at hk; omega)
            obtain ⟨g1, c1, rfl⟩ : ∃ g1 c1, v1 = .slice (some ⟨g1, 0, none⟩) (st.length + 1 + 1) c1 := by
              rcases owns_nilcase ho1 with ⟨_, h0, _⟩ | ⟨g, c, h⟩
              · omega
              · exact ⟨g, c, h⟩
            clear hway ho1 hg1 hv1 hb2 hu2 hIm hIm' hB2
            go_wp2_with fail
            go_roundg (gk - 1)
            case measure => omega
            case rel =>
              refine ⟨g1, c1, _, _, out, by simp, hI3, hb1, by simpa [plainSt] using HR3, ?_⟩
              intro e he y hy
              rcases List.mem_append.1 he with he | he
              · exact hrng2.out _ e he y hy
              · simp at he; subst he; exact HRY.out y hy
end
end Go.Proofs.Ytcihobmjohpnkaa
