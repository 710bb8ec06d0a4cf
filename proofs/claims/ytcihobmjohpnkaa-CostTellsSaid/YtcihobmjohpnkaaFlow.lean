/- The laws' own 'Big' and 'Flow' over blocks. -/
import Derived.Test.YtcihobmjohpnkaaOwn
import Derived.Test.YtcihobmjohpnkaaRef1
namespace Go.Proofs.Ytcihobmjohpnkaa
open Go.RowKit Go.Sort

/-- 'out = append(out, y)' where an element is one cell. -/
theorem app_cell {ops : Array Oper} {rest : List Oper} {o : Oper} {a : Act} {Q : Exit → Act → World → Prop} {W : World}
    (t e : TypeId) (z : Value) (bytes : Nat) (ht : Try.prog.underlying t = some (.slice e)) (hinfo : (Try.prog.info? e).map (fun i => (i.zero, i.size, i.bytes)) = some (some z, 1, bytes)) (hz : z.cells.size = 1)
    (hgd : o.guard = none) (s x : Operand) (hop : o.op = .call { callee := .builtin .append, args := #[s, x], argTypes := #[t, t] })
    (base : Nat) (v : Value) (zs : List Value) (hs : a.eval s = v) (hown : W.ownsRow base e 1 v zs.length zs) (g : Nat) (y : Value) (hy : y.oneCell' = true) (hx : a.eval x = .slice (some ⟨g, 0, none⟩) 1 1)
    (hc : W.heap[g]? = some (.cells #[y] e (0, 0))) (hn : (zs.length + 1) * bytes ≤ 140737488355328) (hm : zs.length + 1 ≤ maxLen) (hb : base ≤ W.heap.size)
    (h : ∀ v' w', w'.ownsRow base e 1 v' (zs ++ [y]).length (zs ++ [y]) → W.grownBy w' v.ownBlock → (v'.ownBlock = v.ownBlock ∨ v'.ownBlock = some W.heap.size) → wpList Try.prog ops Q rest (a.put o.dst v') w') :
    wpList Try.prog ops Q (o :: rest) a W := by
  obtain ⟨i0, hi, hz0, hz1, hz2⟩ := info_parts hinfo
  refine wp_app _ hgd s x t hop base e i0 z 1 bytes ht hi hz0 hz1 hz2 hz (by decide) v zs.length zs hs hown ⟨g, 0, none⟩ 1 1 [y] hx rfl ?_ ?_ hm hn hb ?_
  · intro j u hj
    match j, hj with
    | 0, hj => simp at hj; subst hj; simp [Addr.add, cell_of_one hc]
  · intro u hu; simp at hu; subst hu; exact hy
  · intro v' w' ho hg hv
    refine h v' w' ?_ hg hv
    rw [List.length_append]
    exact ho

/-- Some bool comes back, of which P holds; nothing turns. -/
def SomeB (P : Bool → Prop) (w : World) (e : Ending) (w' : World) : Prop := ∃ r, e = .returned (.bool r) ∧ w' = w ∧ P r

set_option maxRecDepth 100000 in
/-- 'Big': where it says no the blocks are few. -/
theorem big_c {p : Nat → Prop} {v : Value} {l : List (List InsD)} (w : World) (h : IsBlocks p w v l) :
    Calls Try.prog 24 #[v] w (SomeB (fun r => r = false → l.length ≤ 60) w) := by
  obtain ⟨a, cap, rfl, ⟨hl0, hl⟩, hx⟩ := h
  go_enter Try.func24, Try.ntmps24
  go_wp2_with fail
  go_loop [3, 4] (fun n i => ∃ k m : Nat, k ≤ l.length ∧ i = .int .i64 k ∧ n = .int .i64 m ∧ m ≤ 281474976710656 + k * 0) (fun _ i => l.length - (intOf i).toNat)
  case atStart => exact ⟨0, l.length, by omega, rfl, rfl, by omega⟩
  case round =>
    obtain ⟨k, m, hk, rfl, rfl, hm⟩ := hrel
    by_cases hlt : k < l.length
    · rcases hx with rfl | ⟨b, off, rfl, _, hx⟩
      · simp at hlt
      obtain ⟨vi, c1, ai, capi, rfl, ⟨_, hli⟩, _⟩ := hx k hlt
      rw [Nat.mul_one] at c1
      generalize l[k].length = lk at hli c1
      clear hx
      have hlz : (k : Int) < (l.length : Int) := by omega
      by_cases hm4 : (m : Int) ≤ 400
      · have hd : decide (m ≤ 400) = true := by simpa using (by omega : m ≤ 400)
        go_wp2_with fail
        go_round
        case rel => exact ⟨k + 1, m + lk, by omega, by go_num, by go_num, by omega⟩
        case measure => simp [intOf]; omega
      · have hd : decide (m ≤ 400) = false := by simpa using (by omega : 400 < m)
        go_wp2
        all_goals (go_ret; refine ⟨_, rfl, rfl, ?_⟩)
        all_goals (intro h; simp at h; try omega)
    · go_wp2
      all_goals (go_ret; refine ⟨_, rfl, rfl, ?_⟩)
      all_goals (intro h; simp at h; try omega)

theorem infoInsL : (Try.prog.info? 40).map (fun i => (i.zero, i.size, i.bytes)) = some (some (.slice none 0 0), 1, 24) := by kernel_rfl

/-- Where the rows of what is being made may lie. -/
def pFl (B : Nat) (vo : Value) (k : Nat) : Prop := B ≤ k ∧ some k ≠ vo.ownBlock
structure FlowInv (B : Nat) (ll : List (List Int)) (vo : Value) (vals : List Value) (W : World) : Prop where
  own : W.ownsRow B 40 1 vo vals.length vals
  el : ∀ j (h : j < vals.length), IsInsL (pFl B vo) W vals[j] (flowRow (ll.getD j []))

def insVals (k t f : Int) : List Value := [.int .i64 k, .int .i64 0, .int .i64 0, .int .i64 0, .int .i64 0, .string ⟨#[]⟩, .slice none 0 0, .int .i64 t, .int .i64 f]
theorem insL_new {W : World} {g : Nat} {p : Nat → Prop} {k t f : Int} (h : Row W g 36 (insVals k t f)) (hp : p g) : IsInsL p W (.slice (some ⟨g, 0, none⟩) 1 1) [⟨k, 0, 0, 0, 0, ⟨#[]⟩, [], t, f⟩] := by
  refine ⟨_, 1, rfl, ⟨by simp, by simp⟩, .inr ⟨g, 0, rfl, hp, fun j hj => ?_⟩⟩
  have : j = 0 := by simpa using hj
  subst this
  exact ⟨h.cell (k := 0) rfl, h.cell (k := 1) rfl, h.cell (k := 2) rfl, h.cell (k := 3) rfl, h.cell (k := 4) rfl, h.cell (k := 5) rfl, ⟨_, h.cell (k := 6) rfl, none, 0, rfl, ⟨by simp, by simp⟩, .inl rfl⟩, h.cell (k := 7) rfl, h.cell (k := 8) rfl⟩

theorem FlowInv.step {B : Nat} {ll : List (List Int)} {vo v' : Value} {vals : List Value} {W W1 w' : World} {g : Nat} {k t f : Int} (h : FlowInv B ll vo vals W) (hB : B ≤ W.heap.size) (hb : Below W.heap.size W W1)
    (hr : Row W1 g 36 (insVals k t f)) (hg : W.heap.size ≤ g) (he : flowRow (ll.getD vals.length []) = [⟨k, 0, 0, 0, 0, ⟨#[]⟩, [], t, f⟩])
    (ho : w'.ownsRow B 40 1 v' (vals ++ [Value.slice (some ⟨g, 0, none⟩) 1 1]).length (vals ++ [Value.slice (some ⟨g, 0, none⟩) 1 1])) (hgr : W1.grownBy w' vo.ownBlock) (hv : v'.ownBlock = vo.ownBlock ∨ v'.ownBlock = some W1.heap.size) :
    FlowInv B ll v' (vals ++ [Value.slice (some ⟨g, 0, none⟩) 1 1]) w' := by
  have hv2 : ∀ i, v'.ownBlock = some i → vo.ownBlock = some i ∨ W1.heap.size ≤ i := fun i hi => by
    rcases hv with e | e
    · exact .inl (e ▸ hi)
    · rw [e] at hi; simp at hi; right; omega
  have hsz := hb.size
  have hlt := hr.lt
  refine ⟨ho, fun j hj => ?_⟩
  by_cases hjl : j < vals.length
  · rw [List.getElem_append_left hjl]
    refine (h.el j hjl).keep (fun i hi hlt => ⟨⟨hi.1, fun e => ?_⟩, (hgr.block i (by omega) hi.2).trans (hb.block i hlt)⟩)
    rcases hv2 i e.symm with e2 | e2
    · exact hi.2 e2.symm
    · omega
  · have hje : j = vals.length := by simp at hj; omega
    subst hje
    rw [List.getElem_append_right (Nat.le_refl _)]
    simp only [Nat.sub_self, List.getElem_cons_zero]
    rw [he]
    refine insL_new (hr.keep (hgr.block g hlt (fun e => ?_))) ⟨by omega, fun e => ?_⟩
    · have := (h.own.lt g e.symm).2; omega
    · rcases hv2 g e.symm with e2 | e2
      · have := (h.own.lt g e2).2; omega
      · omega

theorem FlowInv.blocks {B : Nat} {ll : List (List Int)} {vo : Value} {vals : List Value} {W : World} (h : FlowInv B ll vo vals W) (hl : vals.length = ll.length) (hs : ll.length ≤ 1000) : IsBlocks (B ≤ ·) W vo (flowS ll) := by
  have hlf : (flowS ll).length = vals.length := by simp [flowS, hl]
  rcases owns_nilcase h.own with ⟨rfl, h0, _⟩ | ⟨g, cap, rfl⟩
  · refine ⟨none, 0, by rw [hlf, h0], ⟨by omega, by omega⟩, .inl (List.length_eq_zero_iff.1 (by omega))⟩
  · obtain ⟨_, hg, _, hc, _⟩ := owns_block h.own
    refine ⟨_, cap, by rw [hlf], ⟨by omega, by omega⟩, .inr ⟨g, 0, rfl, hg, fun j hj => ?_⟩⟩
    have hj' : j < vals.length := by omega
    have hc := h.own.cellAt j (by omega)
    refine ⟨vals[j], ?_, ?_⟩
    · rw [Nat.zero_add, Nat.mul_one, hc]; simp [hj']
    · have e : (flowS ll)[j] = flowRow (ll.getD j []) := by simp [flowS, List.getD, show j < ll.length by omega]
      rw [e]
      exact IsSl.keep (h.el j hj') (fun _ _ _ h => lt_of_cell h.1) (Keep.refl W fun b hb _ => hb.1) fun b o x hp _ hc => CIns.keep hp hc (Keep.refl W fun b hb _ => hb.1)

set_option maxRecDepth 100000 in
set_option maxHeartbeats 2000000 in
/-- 'Flow'. -/
theorem flow_c {p : Nat → Prop} {v : Value} {ll : List (List Int)} (w : World) (h : IsRows p w v ll) (hl : ll.length ≤ 1000) :
    Calls Try.prog 28 #[v] w fun e w' => ∃ u, e = .returned u ∧ IsBlocks (w.heap.size ≤ ·) w' u (flowS ll) ∧ Below w.heap.size w w' := by
  have hk0 := h
  obtain ⟨a, cap, rfl, -, -⟩ := h
  go_enter Try.func28, Try.ntmps28
  go_wp2_with fail
  go_loopw [3, 4] (fun vo i wr => ∃ vals : List Value, vals.length ≤ ll.length ∧ i = .int .i64 vals.length ∧ FlowInv w.heap.size ll vo vals wr ∧ Below w.heap.size w wr) (fun _ i _ => ll.length - (intOf i).toNat)
  case atStart => exact ⟨[], by simp, rfl, ⟨World.ownsRow_nil _ _ _ _, fun j hj => by simp at hj⟩, bel_refl _⟩
  case round =>
    obtain ⟨vals, hk, rfl, hI, hB⟩ := hrel
    obtain ⟨k, HK⟩ : ∃ k, Hid (vals.length = k) := ⟨vals.length, (rfl : vals.length = vals.length)⟩
    rw [HK.out] at hk ⊢
    by_cases hlt : k < ll.length
    · have hk1 := hk0.keep (Keep.below hB)
      obtain ⟨_, _, hv0, -, hx⟩ := hk1
      simp only [Value.slice.injEq, true_and] at hv0
      obtain ⟨rfl, rfl⟩ := hv0
      rcases hx with rfl | ⟨b, off, rfl, hpb, hx⟩
      · simp at hlt
      obtain ⟨vi, c1, ai, capi, rfl, ⟨hli0, hli⟩, hxi⟩ := hx k hlt
      rw [Nat.mul_one] at c1
      have hbl := lt_of_cell c1
      clear hx hk0
      have hsz := hB.size
      have hgl : ll.getD k [] = ll[k] := by simp [List.getD, hlt]
      have HG : Hid (ll.getD k [] = ll[k]) := hgl
      clear hgl
      obtain ⟨row, HR⟩ : ∃ row, Hid (ll[k] = row) := ⟨ll[k], (rfl : ll[k] = ll[k])⟩
      rw [HR.out] at c1 hxi hli HG hli0
      clear HR
      have hap : (vals.length + 1) * 24 ≤ 140737488355328 := by have := HK.out; omega
      have ham : vals.length + 1 ≤ maxLen := by have := HK.out; unfold maxLen; omega
      have HAP : Hid ((vals.length + 1) * 24 ≤ 140737488355328 ∧ vals.length + 1 ≤ maxLen) := ⟨hap, ham⟩
      clear hap ham
      rcases row with _ | ⟨t, _ | ⟨f, r⟩⟩
      · simp only [List.length_nil] at c1
        go_wp2_with (at_builtin; refine stop_here ?_)
        refine stop_go (app_cell 22 40 (.slice none 0 0) 24 Try.underlying22 infoInsL rfl rfl _ _ rfl w.heap.size u3 vals rfl (((hI.own.alloc _).alloc _).alloc _) _ (.slice (some ⟨wr.heap.size + 1, 0, none⟩) 1 1) rfl rfl (heap_alloc_eq _ _ _ (by simp)) HAP.out.1 HAP.out.2 (by simp; omega) ?_)
        intro v' w' ho hg hv
        have hI1 := hI.step hsz (bel_alloc (bel_alloc (bel_alloc (bel_refl wr) _) _) _) (k := 9) (t := 0) (f := 0) (heap_alloc_ne _ _ _ _ (heap_alloc_eq _ _ _ (by simp))) (by omega) (by rw [HK.out, HG.out]; rfl) ho hg hv
        have hB1 := bel_grown (bel_call hB (bel_alloc (bel_alloc (bel_alloc (bel_refl wr) _) _) _)) hg (fun i hi => (hI.own.lt i hi).1)
        clear hI ho hg hv hB c1
        go_wp2_with fail
        go_roundw
        case rel => exact ⟨vals ++ [_], by simp; have := HK.out; omega, by rw [List.length_append, HK.out]; go_num, hI1, hB1⟩
        case measure => simp [intOf]; omega
      · rcases hxi with hxi | ⟨bt, ot, rfl, _, hxi⟩
        · simp at hxi
        have t0 := hxi 0 (by simp)
        simp only [CInt, Nat.zero_mul, Nat.add_zero, List.getElem_cons_zero] at t0
        have htl := lt_of_cell t0
        simp only [List.length_cons, List.length_nil, Nat.zero_add] at c1
        clear hxi
        go_wp2_with (at_builtin; refine stop_here ?_)
        refine stop_go (app_cell 22 40 (.slice none 0 0) 24 Try.underlying22 infoInsL rfl rfl _ _ rfl w.heap.size u3 vals rfl (((hI.own.alloc _).alloc _).alloc _) _ (.slice (some ⟨wr.heap.size + 1, 0, none⟩) 1 1) rfl rfl (heap_alloc_eq _ _ _ (by simp)) HAP.out.1 HAP.out.2 (by simp; omega) ?_)
        intro v' w' ho hg hv
        have hI1 := hI.step hsz (bel_alloc (bel_alloc (bel_alloc (bel_refl wr) _) _) _) (k := 8) (t := t) (f := 0) (heap_alloc_ne _ _ _ _ (heap_alloc_eq _ _ _ (by simp))) (by omega) (by rw [HK.out, HG.out]; rfl) ho hg hv
        have hB1 := bel_grown (bel_call hB (bel_alloc (bel_alloc (bel_alloc (bel_refl wr) _) _) _)) hg (fun i hi => (hI.own.lt i hi).1)
        clear hI ho hg hv hB c1
        go_wp2_with fail
        go_roundw
        case rel => exact ⟨vals ++ [_], by simp; have := HK.out; omega, by rw [List.length_append, HK.out]; go_num, hI1, hB1⟩
        case measure => simp [intOf]; omega
      · rcases hxi with hxi | ⟨bt, ot, rfl, _, hxi⟩
        · simp at hxi
        have t0 := hxi 0 (by simp)
        have t1 := hxi 1 (by simp)
        simp only [CInt, Nat.zero_mul, Nat.add_zero, Nat.one_mul, List.getElem_cons_zero, List.getElem_cons_succ] at t0 t1
        have htl := lt_of_cell t0
        simp only [List.length_cons, Nat.add_assoc, Nat.reduceAdd] at c1
        generalize r.length = rl at c1
        have hb1 : ((rl : Int) + 2 == 1) = false := beq_eq_false_iff_ne.2 (by omega)
        clear hxi
        go_wp2_with fail
        go_region
        go_wp2_with (at_builtin; refine stop_here ?_)
        refine stop_go (app_cell 22 40 (.slice none 0 0) 24 Try.underlying22 infoInsL rfl rfl _ _ rfl w.heap.size u3 vals rfl (((hI.own.alloc _).alloc _).alloc _) _ (.slice (some ⟨wr.heap.size + 1, 0, none⟩) 1 1) rfl rfl (heap_alloc_eq _ _ _ (by simp)) HAP.out.1 HAP.out.2 (by simp; omega) ?_)
        intro v' w' ho hg hv
        have hI1 := hI.step hsz ((bel_alloc (bel_alloc (bel_alloc (bel_refl wr) _) _) _).drew) (k := 7) (t := t) (f := f) (heap_alloc_ne _ _ _ _ (heap_alloc_eq _ _ _ (by simp))) (by omega) (by rw [HK.out, HG.out]; rfl) ho hg hv
        have hB1 := bel_grown (bel_call hB ((bel_alloc (bel_alloc (bel_alloc (bel_refl wr) _) _) _).drew)) hg (fun i hi => (hI.own.lt i hi).1)
        clear hI ho hg hv hB c1
        go_wp2_with fail
        go_roundw
        case rel => exact ⟨vals ++ [_], by simp; have := HK.out; omega, by rw [List.length_append, HK.out]; go_num, hI1, hB1⟩
        case measure => simp [intOf]; omega
    · have hv : vals.length = ll.length := by have := HK.out; omega
      have hbl := hI.blocks hv hl
      clear hI
      go_wp2
      go_ret
      exact ⟨_, rfl, hbl, hB⟩
end Go.Proofs.Ytcihobmjohpnkaa
