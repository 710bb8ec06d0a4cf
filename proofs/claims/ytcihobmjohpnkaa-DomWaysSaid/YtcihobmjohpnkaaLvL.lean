/- 'live.lists'. -/
import Derived.Test.YtcihobmjohpnkaaLvS
import Derived.Test.YtcihobmjohpnkaaBitL
import Derived.Test.YtcihobmjohpnkaaFlow
namespace Go.Proofs.Ytcihobmjohpnkaa
open Go.RowKit Go.Sort

theorem infoIntsL : (Try.prog.info? 25).map (fun i => (i.zero, i.size, i.bytes)) = some (some (.slice none 0 0), 1, 24) := by kernel_rfl

/-- Rows of ints of a call's own, each in a block of its own. -/
structure RowsOwn (B : Nat) (own : Nat → Nat) (ll : List (List Int)) (v : Value) (vals : List Value) (W : World) : Prop where
  row : W.ownsRow B 25 1 v vals.length vals
  len : vals.length = ll.length
  el : ∀ j (h : j < vals.length), W.ownsRow B 3 1 vals[j] (ll.getD j []).length (ints (ll.getD j []))
  apart : ∀ j (h : j < vals.length) b, vals[j].ownBlock = some b → v.ownBlock ≠ some b ∧ own b = j

theorem RowsOwn.nil (B : Nat) (W : World) : RowsOwn B (fun _ => 0) [] (.slice none 0 0) [] W :=
  ⟨World.ownsRow_nil _ _ _ _, rfl, fun j h => by simp at h, fun j h => by simp at h⟩

theorem RowsOwn.snoc {B : Nat} {own : Nat → Nat} {ll : List (List Int)} {v v' u : Value} {vals : List Value} {W W1 w' : World} {xs : List Int} (h : RowsOwn B own ll v vals W) (hB : B ≤ W.heap.size) (hb : Below W.heap.size W W1)
    (hr : W1.ownsRow W.heap.size 3 1 u xs.length (ints xs)) (ho : w'.ownsRow B 25 1 v' (vals ++ [u]).length (vals ++ [u])) (hgr : W1.grownBy w' v.ownBlock) (hv : v'.ownBlock = v.ownBlock ∨ v'.ownBlock = some W1.heap.size) :
    RowsOwn B (fun b => if b < W.heap.size then own b else ll.length) (ll ++ [xs]) v' (vals ++ [u]) w' := by
  have hlen := h.len
  have hsz := hb.size
  have hv2 : ∀ i, v'.ownBlock = some i → v.ownBlock = some i ∨ i = W1.heap.size := fun i hi => by
    rcases hv with e | e
    · exact .inl (e ▸ hi)
    · rw [e] at hi; simp at hi; right; omega
  refine ⟨ho, by simp [hlen], fun j hj => ?_, fun j hj b hb' => ?_⟩
  · by_cases hjl : j < vals.length
    · have e1 : (vals ++ [u])[j] = vals[j] := List.getElem_append_left hjl
      have e2 : (ll ++ [xs]).getD j [] = ll.getD j [] := by
        rw [List.getD_eq_getElem?_getD, List.getElem?_append_left (by omega), List.getD_eq_getElem?_getD]
      rw [e1, e2]
      refine (owns_below (h.el j hjl) hb).kept hgr ?_
      cases hob : vals[j].ownBlock with
      | none => exact .inl rfl
      | some b => exact .inr fun e => (h.apart j hjl b hob).1 e.symm
    · have hje : j = vals.length := by simp at hj; omega
      subst hje
      have e1 : (vals ++ [u])[vals.length] = u := by simp
      have e2 : (ll ++ [xs]).getD vals.length [] = xs := by rw [hlen]; simp [List.getD]
      rw [e1, e2]
      refine (owns_mono hr hB).kept hgr ?_
      cases hob : u.ownBlock with
      | none => exact .inl rfl
      | some b => exact .inr fun e => by have := (hr.lt b hob).1; have := (h.row.lt b e.symm).2; omega
  · by_cases hjl : j < vals.length
    · have e1 : (vals ++ [u])[j] = vals[j] := List.getElem_append_left hjl
      rw [e1] at hb'
      obtain ⟨a1, a2⟩ := h.apart j hjl b hb'
      have hlt := ((h.el j hjl).lt b hb').2
      refine ⟨fun e => ?_, by rw [if_pos hlt]; exact a2⟩
      rcases hv2 b e with e | e
      · exact a1 e
      · omega
    · have hje : j = vals.length := by simp at hj; omega
      subst hje
      have e1 : (vals ++ [u])[vals.length] = u := by simp
      rw [e1] at hb'
      have hlt := hr.lt b hb'
      refine ⟨fun e => ?_, by rw [if_neg (by omega)]; exact hlen.symm⟩
      rcases hv2 b e with e | e
      · have := (h.row.lt b e).2; omega
      · omega

theorem RowsOwn.rows {B : Nat} {own : Nat → Nat} {ll : List (List Int)} {v : Value} {vals : List Value} {W : World} (h : RowsOwn B own ll v vals W) (hs : ll.length ≤ 1000000) (hx : ∀ xs ∈ ll, xs.length ≤ 140737488351232) : IsRows (B ≤ ·) W v ll := by
  have hlf := h.len
  rcases owns_nilcase h.row with ⟨rfl, h0, _⟩ | ⟨g, cap, rfl⟩
  · refine ⟨none, 0, by rw [← hlf, h0], ⟨by omega, by omega⟩, .inl (List.length_eq_zero_iff.1 (by omega))⟩
  · obtain ⟨_, hg, _, hc, _⟩ := owns_block h.row
    refine ⟨_, cap, by rw [hlf], ⟨by omega, by omega⟩, .inr ⟨g, 0, rfl, hg, fun j hj => ?_⟩⟩
    have hj' : j < vals.length := by omega
    have hc := h.row.cellAt j (by omega)
    refine ⟨vals[j], ?_, ?_⟩
    · rw [Nat.zero_add, Nat.mul_one, hc]; simp [hj']
    · have e : ll.getD j [] = ll[j] := by simp [List.getD, hj]
      have := h.el j hj'
      rw [e] at this
      exact ints_of_owns this (hx _ (List.getElem_mem hj)) fun _ _ hb _ => hb

theorem RowsOwn.below {B : Nat} {own : Nat → Nat} {ll : List (List Int)} {v : Value} {vals : List Value} {W W1 : World} (h : RowsOwn B own ll v vals W) (hb : Below W.heap.size W W1) : RowsOwn B own ll v vals W1 :=
  ⟨owns_below h.row hb, h.len, fun j hj => owns_below (h.el j hj) hb, h.apart⟩

set_option maxRecDepth 100000 in
set_option maxHeartbeats 2000000 in
theorem lists_c {v : Value} {l : List (List Nat)} (w : World) (h : IsSets (· < w.heap.size) w v l) (hl : l.length ≤ 100000) (hok : ∀ ws ∈ l, Bit.Ok ws ∧ ws.length ≤ 2000) :
    Calls Try.prog 80 #[v] w fun e w' => ∃ u own vals, e = .returned u ∧ RowsOwn w.heap.size own (l.map listI) u vals w' ∧ Below w.heap.size w w' := by
  have hk0 := h
  obtain ⟨a, cap, rfl, -, -⟩ := h
  go_enter Try.func80, Try.ntmps80
  go_wp2_with fail
  go_loopw [3, 5, 8] (fun vo s5 i wr => ∃ (vals : List Value) (own : Nat → Nat), vals.length ≤ l.length ∧ i = .int .i64 vals.length ∧ Hid (RowsOwn w.heap.size own ((l.take vals.length).map listI) vo vals wr) ∧ Below w.heap.size w wr) (fun _ _ i _ => l.length - (intOf i).toNat)
  case atStart => exact ⟨[], fun _ => 0, by simp, rfl, RowsOwn.nil _ _, bel_refl _⟩
  case round =>
    obtain ⟨vals, own, hk, rfl, hI, hB⟩ := hrel
    obtain ⟨k, HK⟩ : ∃ k, Hid (vals.length = k) := ⟨vals.length, (rfl : vals.length = vals.length)⟩
    rw [HK.out] at hk ⊢
    by_cases hlt : k < l.length
    · obtain ⟨_, _, hv0, -, hx⟩ := hk0.keep (Keep.belowB hB)
      simp only [Value.slice.injEq, true_and] at hv0
      obtain ⟨rfl, rfl⟩ := hv0
      rcases hx with rfl | ⟨b, off, rfl, hpb, hx⟩
      · simp at hlt
      obtain ⟨vi, c1, hw⟩ := hx k hlt
      rw [Nat.mul_one] at c1
      have hbl := lt_of_cell c1
      clear hx
      have hsz := hB.size
      obtain ⟨ho1, ho2⟩ := hok _ (List.getElem_mem hlt)
      have hgl : l.getD k [] = l[k] := by simp [List.getD, hlt]
      have HG : Hid (l.getD k [] = l[k]) := hgl
      clear hgl
      obtain ⟨ws, HR⟩ : ∃ ws, Hid (l[k] = ws) := ⟨l[k], (rfl : l[k] = l[k])⟩
      rw [HR.out] at hw HG ho1 ho2
      obtain ⟨va, vn, vc, rfl⟩ := words_slice hw
      have hap : (vals.length + 1) * 24 ≤ 140737488355328 := by have := HK.out; omega
      have ham : vals.length + 1 ≤ maxLen := by have := HK.out; unfold maxLen; omega
      have HAP : Hid ((vals.length + 1) * 24 ≤ 140737488355328 ∧ vals.length + 1 ≤ maxLen) := ⟨hap, ham⟩
      clear hap ham
      go_wp2_with fail
      generalize hW1 : wr.alloc _ = W1
      have hb1 : Below wr.heap.size wr W1 := by rw [← hW1]; exact bel_alloc (bel_refl wr) _
      clear hW1
      have hs1 := hb1.size
      refine (list_c W1 (hw.keep (fun b hb hlt => ⟨by show b < W1.heap.size; omega, hb1.block b hlt⟩)) ho2 ho1).mono ?_
      rintro e W2 ⟨z, rfl, hz, hb2⟩
      have hll := listI_length ws
      have hz2 := owns_mono hz hs1
      obtain ⟨za, zc, rfl, -⟩ := owns_slice hz
      have hb12 := bel_call hb1 hb2
      have hs2 := hb12.size
      have hown2 := owns_below hI.out.row hb12
      go_wp2_with (at_builtin; refine stop_here ?_)
      refine stop_go (app_cell 28 25 (.slice none 0 0) 24 Try.underlying28 infoIntsL rfl rfl _ _ rfl w.heap.size _ vals rfl (hown2.alloc _) _ (.slice za (listI ws).length zc) rfl rfl (heap_alloc_eq _ _ _ rfl) HAP.out.1 HAP.out.2 (by simp; omega) ?_)
      intro v' w' ho hg hv
      have hbA := bel_alloc hb12 (.cells #[.slice za (listI ws).length zc] 25)
      have hI1 := hI.out.snoc hsz hbA (hz2.alloc _) ho hg hv
      have HE : (l.take (vals.length + 1)).map listI = (l.take vals.length).map listI ++ [listI ws] := by
        rw [HK.out, List.take_succ_eq_append_getElem hlt, List.map_append, HR.out]; rfl
      rw [← HE] at hI1
      have HI1 : Hid (RowsOwn w.heap.size (fun b => if b < wr.heap.size then own b else ((l.take vals.length).map listI).length) ((l.take (vals ++ [Value.slice za (listI ws).length zc]).length).map listI) v' (vals ++ [Value.slice za (listI ws).length zc]) w') := by
        rw [List.length_append]; exact hI1
      have hB1 := bel_grown (bel_call hB hbA) hg (fun i hi => (hI.out.row.lt i hi).1)
      clear hI hI1 HE ho hg hv hB c1 hown2 hz hz2 hbA hb12 hb2 hb1 hw
      go_wp2_with fail
      go_roundw
      case rel => exact ⟨vals ++ [_], _, by simp; have := HK.out; omega, by rw [List.length_append, HK.out]; go_num, HI1, hB1⟩
      case measure => simp [intOf]; omega
    · have hke : k = l.length := by omega
      have hIr := hI.out
      rw [HK.out, hke, List.take_length] at hIr
      have HIr : Hid (RowsOwn w.heap.size own (l.map listI) u3 vals wr) := hIr
      clear hke hI hIr
      go_wp2_with fail
      go_ret
      exact ⟨_, _, _, rfl, HIr.out, hB⟩
end Go.Proofs.Ytcihobmjohpnkaa
