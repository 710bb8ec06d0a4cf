/- 'neighbours': a node's neighbours that are still there, rising, as a range over a function tells them. -/
import Derived.Test.YtinbfnabngdemaaCnE
import Derived.RangeFuncWrites
import Derived.Stop.RegionWithIn
namespace Go.Proofs.Ytinbfnabngdemaa
open Go.RowKit Go.Maps Go.Sort Go.Shelf Go.WideMaps Go.ChangeMaps Go.WideElems

/-- What a round of the loop over neighbours keeps. -/
structure KN (L : Gl) (W W' : World) : Prop where
  size : W.heap.size ≤ W'.heap.size
  gbc : ∀ o, ¬ Ofs 1 o → W'.cell? ⟨L.gb, o, none⟩ = W.cell? ⟨L.gb, o, none⟩
  cell : ∀ b o v, b ≠ L.gb → ¬ Dn L 1 W b → W.cell? ⟨b, o, none⟩ = some v → W'.cell? ⟨b, o, none⟩ = some v
  dyn : ∀ b, b < W.heap.size → Dn L 1 W' b → Dn L 1 W b
theorem KN.refl (L : Gl) (W : World) : KN L W W := ⟨Nat.le_refl _, fun _ _ => rfl, fun _ _ _ _ _ h => h, fun _ _ h => h⟩
theorem KN.trans {L : Gl} {A B C : World} (h : KN L A B) (k : KN L B C) : KN L A C :=
  ⟨Nat.le_trans h.size k.size, fun o ho => (k.gbc o ho).trans (h.gbc o ho), fun b o v hg hd hc => k.cell b o v hg (fun e => hd (h.dyn b (lt_of_cell hc) e)) (h.cell b o v hg hd hc),
    fun b hb hd => h.dyn b hb (k.dyn b (Nat.lt_of_lt_of_le hb h.size) hd)⟩
theorem KN.of_kz {L : Gl} {A B : World} (h : KZ L 1 A B) : KN L A B :=
  ⟨h.size, h.cell, fun b o v hg hd hc => by rw [cell_of_block (h.block b (lt_of_cell hc) hg hd)]; exact hc, h.dyn⟩
theorem KN.below {L : Gl} {A B : World} (hg : L.gb < A.heap.size) (h : Below A.heap.size A B) : KN L A B := KN.of_kz (KZ.of_below hg h)
theorem KN.putObj {L : Gl} {W : World} {l : Nat} {o o' : Obj} (hg : L.gb < l) (hl : W.heap[l]? = some o) (hc : o.isCells = false) : KN L W (W.putObj l o') := by
  have hne : ∀ b, b ≠ l → (W.putObj l o').heap[b]? = W.heap[b]? := fun b hb => World.putObj_heap_other hb
  have hcell : ∀ o, (W.putObj l o').cell? ⟨L.gb, o, none⟩ = W.cell? ⟨L.gb, o, none⟩ := fun o => cell_of_block (hne _ (by omega)) o
  refine ⟨by simp, fun o _ => hcell o, fun b k v _ _ h => ?_, fun b _ h => ?_⟩
  · by_cases e : b = l
    · subst e
      unfold World.cell? at h
      rw [show W.heap[(⟨b, k, none⟩ : Addr).block]? = some o from hl] at h
      cases o <;> simp [Obj.isCells] at hc h
    · rw [cell_of_block (hne b e)]; exact h
  · rcases h with h | ⟨o, ho, v, hv, e⟩
    · exact .inl h
    · exact .inr ⟨o, ho, v, by rw [← hcell o]; exact hv, e⟩

theorem Dn.of_below {L : Gl} {l : Nat} {W Y : World} (hg : L.gb < W.heap.size) (h : Below W.heap.size W Y) {b : Nat} (hd : Dn L l Y b) : Dn L l W b := by
  rcases hd with hd | ⟨o, ho, v, hv, e⟩
  · exact .inl hd
  · exact .inr ⟨o, ho, v, by rw [← cell_of_block (h.block _ hg) o]; exact hv, e⟩
/-- The numbers that have p and are there. -/
def thereL (p gone : Nat → Bool) (n : Nat) : List Nat := ((List.range n).filter p).filter fun m => !gone m
theorem there_take {p gone : Nat → Bool} {n k : Nat} (hk : k < ((List.range n).filter p).length) :
    (((List.range n).filter p).take (k + 1)).filter (fun m => !gone m) = (((List.range n).filter p).take k).filter (fun m => !gone m) ++ (if gone ((List.range n).filter p)[k] then [] else [((List.range n).filter p)[k]]) := by
  rw [List.take_succ_eq_append_getElem hk, List.filter_append]
  congr 1
  cases h : gone ((List.range n).filter p)[k] <;> simp [h]
theorem there_len {p gone : Nat → Bool} {n k : Nat} (hk : k < ((List.range n).filter p).length) (hg : gone ((List.range n).filter p)[k] = false) : ((((List.range n).filter p).take k).filter (fun m => !gone m)).length < (thereL p gone n).length := by
  have h1 : ((((List.range n).filter p).take (k + 1)).filter (fun m => !gone m)).length ≤ (thereL p gone n).length := ((List.take_sublist _ _).filter _).length_le
  rw [there_take hk, hg] at h1
  simp at h1
  omega

set_option maxRecDepth 100000 in
set_option maxHeartbeats 4000000 in
theorem nb1_in (n : Nat) (hn : 5 ≤ n) (lp Bx Bv : Nat) (L : Gl) (v N nmv kk : Nat) (p gone : Nat → Bool) (J Jx : List Nat → World → Prop) (W : World) (hJ : AbidesFrom W.heap.size J)
    (hY : ∀ pre (x : Nat) W, J pre W → pre.length < (thereL p gone N).length → x < N → YieldAt Fence.wide (n - 1) Try.prog lp #[.int .i64 (x : Int)] W fun e W' =>
      (e = .returned (.bool true) ∧ J (pre ++ [x]) W' ∧ KN L W W') ∨ (e = .returned (.bool false) ∧ Jx (pre ++ [x]) W'))
    (hx : W.cell? ⟨Bx, 0, none⟩ = some (.pointer (some ⟨L.gb, 0, none⟩))) (hv : W.cell? ⟨Bv, 0, none⟩ = some (.int .i64 (v : Int))) (hxg : Bx ≠ L.gb) (hxd : ¬ Dn L 1 W Bx)
    (c4 : W.cell? ⟨L.gb, 4, none⟩ = some (.slice (some ⟨L.nb, 0, none⟩) N N)) (hvN : v < N) (hN : N ≤ 1000) (cn : W.cell? ⟨L.nb, v, none⟩ = some (.map (some nmv))) (hm : IsIs W nmv kk p) (hp : ∀ k, p k = true → k < N)
    (c10 : W.cell? ⟨L.gb, 10, none⟩ = some (.slice (some ⟨L.ob, 0, none⟩) N N)) (co : ∀ i, i < N → W.cell? ⟨L.ob, i, none⟩ = some (.bool (gone i))) (hog : L.ob ≠ L.gb) (hod : ¬ Dn L 1 W L.ob)
    (hd : ∀ b, Dn L 1 W b → b < W.heap.size) (h0 : J [] W) :
    CallsIn Fence.wide n Try.prog 51 #[.func (.yield lp) #[] #[], .pointer (some ⟨Bx, 0, none⟩), .pointer (some ⟨Bv, 0, none⟩)] W fun e W' => (∃ v, e = .returned v) ∧
      ((∃ ys, ys = thereL p gone N ∧ J ys W') ∨ (∃ pre, True ∧ Jx pre W')) := by
  have hgl := lt_of_cell c4
  have hxl := lt_of_cell hx
  have hol := lt_of_cell (co v hvN)
  dsimp only at hgl hxl hol
  have hbA : Below W.heap.size W (W.alloc (.cells #[.map (some nmv)] 71)) := bel_alloc (bel_refl W) _
  obtain ⟨A, HA⟩ : ∃ A, Hid ((List.range N).filter p = A) := ⟨_, (rfl : (List.range N).filter p = _)⟩
  obtain ⟨m, Hm⟩ : ∃ m, Hid (A.length = m) := ⟨_, (rfl : A.length = _)⟩
  have HKeys : Hid (keysP p N = A.map fun (i : Nat) => (i : Int)) := by show _ = _; unfold keysP; rw [HA.out]
  have hKs : ∀ X, BkS W X → Calls Try.prog 45 #[.map (some nmv)] X fun e X' => ∃ q, e = .returned (keysV q) ∧ X'.cell? ⟨q, 0, none⟩ = some (.map (some nmv)) ∧ BkS W X' := fun X hX =>
    (keys_c _ X).mono (by rintro e X' ⟨rfl, rfl⟩; exact ⟨_, rfl, cell_of_one (heap_alloc_eq X _ _ rfl), bk_alloc hX _⟩)
  have hSs : ∀ X q, BkS W X → X.cell? ⟨q, 0, none⟩ = some (.map (some nmv)) → Calls Try.prog 44 #[keysV q] X fun e X' => ∃ sa sc, e = .returned (.slice sa m sc) ∧ X'.ownsRow W.heap.size 3 1 (.slice sa m sc) m (nts A) ∧ BkS W X' := fun X q hX hq =>
    (sorted_c X (hm.keep (hX.block _ hm.lt)) hN hp hq).mono (by
      rintro e X' ⟨sv, rfl, ho, hb⟩
      rw [HKeys.out, List.length_map, Hm.out, ← nts_ints] at ho
      obtain ⟨sa, sc, rfl, -⟩ := owns_slice ho
      exact ⟨sa, sc, rfl, owns_mono ho hX.size, bel_call hX hb⟩)
  have hS : ∀ X, BkS W X → X.cell? ⟨Bx, 0, none⟩ = some (.pointer (some ⟨L.gb, 0, none⟩)) ∧ X.cell? ⟨Bv, 0, none⟩ = some (.int .i64 (v : Int)) ∧ X.cell? ⟨L.gb, 4, none⟩ = some (.slice (some ⟨L.nb, 0, none⟩) N N) ∧ X.cell? ⟨L.nb, v, none⟩ = some (.map (some nmv)) := fun X hX =>
    ⟨(cell_of_block (hX.block _ hxl) 0).trans hx, (cell_of_block (hX.block _ (lt_of_cell hv)) 0).trans hv, (cell_of_block (hX.block _ hgl) 4).trans c4, (cell_of_block (hX.block _ (lt_of_cell cn)) v).trans cn⟩
  have hE0 : BkS W W := bk_refl W
  have hE1 : BkS W W.drew := bk_drew hE0
  have hvz : (v : Int) < (N : Int) := by omega
  refine callsIn_of_wp Try.func51 rfl trivial ?_ rfl
  simp only [Try.ntmps51, List.size_toArray, List.length_cons, List.length_nil, Nat.reduceAdd, Nat.reduceSub, Array.replicate_succ, Array.replicate_zero, List.push_toArray, List.append_toArray, List.nil_append, List.cons_append]
  gi_wp2_with fail
  refine wpIn_wide.2 ?_
  go_region_held3 (fun X => X.cell? ⟨Bx, 0, none⟩ = some (.pointer (some ⟨L.gb, 0, none⟩)) ∧ X.cell? ⟨Bv, 0, none⟩ = some (.int .i64 (v : Int)) ∧ X.cell? ⟨L.gb, 4, none⟩ = some (.slice (some ⟨L.nb, 0, none⟩) N N) ∧ X.cell? ⟨L.nb, v, none⟩ = some (.map (some nmv)))
    ((refine hS _ ?_; with_reducible assumption))
    (first
      | (go_at_call 45; (with_reducible refine (hKs _ ?_).mono ?_); (with_reducible assumption); rintro e Yk ⟨q, rfl, hq, hEk⟩)
      | (go_at_call 44; (with_reducible refine (hSs _ q ?_ ?_).mono ?_); (with_reducible assumption); (with_reducible assumption); rintro e Ys ⟨sa, sc, rfl, hso, hEs⟩))
  have hkn0 := KN.below hgl hEs
  have HK0 : Hid (KN L Ys Ys) := KN.refl L Ys
  have hJ0 : J [] Ys := hJ [] W Ys none h0 ⟨hEs.os, hEs.tape, hEs.output, hEs.size, fun b hb _ => hEs.block b hb⟩ (fun r e => by cases e)
  have HX : Hid (∀ wx, KN L Ys wx → wx.cell? ⟨Bx, 0, none⟩ = some (.pointer (some ⟨L.gb, 0, none⟩)) ∧ wx.cell? ⟨L.gb, 10, none⟩ = some (.slice (some ⟨L.ob, 0, none⟩) N N) ∧ (∀ i, i < N → wx.cell? ⟨L.ob, i, none⟩ = some (.bool (gone i))) ∧
      ∀ k (hk : k < A.length) g, sa = some ⟨g, 0, none⟩ → wx.cell? ⟨g, k, none⟩ = some (.int .i64 (A[k] : Nat))) := fun wx hk => by
    refine ⟨hk.cell Bx 0 _ hxg (fun e => hxd (Dn.of_below hgl hEs e)) (hS Ys hEs).1, ?_, fun i hi => hk.cell L.ob i _ hog (fun e => hod (Dn.of_below hgl hEs e)) ((cell_of_block (hEs.block _ hol) i).trans (co i hi)), fun k hkl g e => ?_⟩
    · rw [hk.gbc 10 (by unfold Ofs; omega)]; exact (cell_of_block (hEs.block _ hgl) 10).trans c10
    · subst e
      have hg := (hso.lt g rfl).1
      refine hk.cell g k _ (by omega) (fun e => by have := hd g (Dn.of_below hgl hEs e); omega) ((RowP.of_owns hso).cell (by simp [nts, hkl]))
  have HSA : Hid (0 < m → ∃ g, sa = some ⟨g, 0, none⟩) := fun h => (owns_slice hso).elim fun a h1 => h1.elim fun c h2 => by
    have := h2.1
    simp only [Value.slice.injEq] at this
    exact this.1 ▸ h2.2 h
  have hmc : m ≤ sc := by
    rcases hso.2 with ⟨e, h⟩ | ⟨g, cap', cur, e, _, _, h, _⟩
    · omega
    · simp at e; omega
  have hmN : m ≤ N := by rw [← Hm.out, ← HA.out]; exact Nat.le_trans (List.length_filter_le _ _) (by simp)
  have HJ0 : Hid (J ((A.take 0).filter fun m => !gone m) Ys) := hJ0
  have HYY := hid_of hY
  have HAN : Hid (∀ k (hk : k < A.length), A[k] < N) := fun k hk => by
    have : A[k] ∈ (List.range N).filter p := by rw [HA.out]; exact List.getElem_mem hk
    exact List.mem_range.1 (List.mem_filter.1 this).1
  have HTH : Hid (thereL p gone N = A.filter fun m => !gone m) := by show thereL p gone N = _; unfold thereL; rw [HA.out]
  have HTK : Hid (∀ k (hk : k < A.length), (A.take (k + 1)).filter (fun m => !gone m) = (A.take k).filter (fun m => !gone m) ++ (if gone A[k] then [] else [A[k]])) := fun k hk => by
    have := HA.out
    subst this
    exact there_take hk
  have HTL : Hid (∀ k (hk : k < A.length), gone A[k] = false → ((A.take k).filter (fun m => !gone m)).length < (thereL p gone N).length) := fun k hk => by
    have := HA.out
    subst this
    exact there_len hk
  clear hx hv c4 cn hm c10 co hkn0 hJ0 h0 hY hJ hKs hSs hS hE0 hE1 hq hEk hso hxd hod hd hbA HKeys HA
  gi_wp2_with fail
  gi_loopw [16] (fun s16 wx => ∃ k : Nat, k ≤ m ∧ s16 = .int .i64 k ∧ Hid (J ((A.take k).filter fun m => !gone m) wx) ∧ Hid (KN L Ys wx)) (fun s16 _ => m - (intOf s16).toNat)
  case atStart => exact ⟨0, by omega, rfl, HJ0, HK0⟩
  case round =>
    obtain ⟨k, hk, rfl, HJs, HK⟩ := hrel
    clear HJ0 HK0
    by_cases hlt : k < m
    · have hkA : k < A.length := by rw [Hm.out]; exact hlt
      obtain ⟨g, rfl⟩ := HSA.out (by omega)
      obtain ⟨q1, q2, q3, q4⟩ := HX.out wr HK.out
      have c1 := q4 k hkA g rfl
      have htk := HTK.out k hkA
      have htl := HTL.out k hkA
      have hxN := HAN.out k hkA
      obtain ⟨x, Hx⟩ : ∃ x, Hid (A[k] = x) := ⟨_, (rfl : A[k] = _)⟩
      rw [Hx.out] at c1 htk htl hxN
      have c2 := q3 x hxN
      have hxz : (x : Int) < (N : Int) := by omega
      clear q3 q4
      cases hgx : gone x with
      | true =>
        rw [hgx] at c2 htk
        rw [if_pos rfl, List.append_nil] at htk
        have HT := hid_of htk
        clear hgx htk htl
        gi_wp2
        try (refine ⟨fun f h => (by cases h), ?_⟩)
        gi_wp2
        go_roundw
        case rel => exact ⟨k + 1, by omega, by go_num, by rw [HT.out]; exact HJs, HK⟩
        case measure => simp [intOf]; omega
      | false =>
        rw [hgx] at c2 htk
        rw [if_neg (by simp)] at htk
        have HT := hid_of htk
        obtain ⟨fn, tmps, assign, body, hy, hR⟩ := HYY.out _ x wr HJs.out (htl hgx) hxN
        clear hgx htk htl
        gi_wp2
        refine ⟨fun _ => by omega, hR.mono ?_⟩
        clear hR hy
        rintro e W3 (⟨rfl, hJ3, hk3⟩ | ⟨rfl, hJx3⟩)
        · have hK3 := HK.out.trans hk3
          rw [← HT.out] at hJ3
          have HJ3 := hid_of hJ3
          have HK3 := hid_of hK3
          clear hk3 hK3 hJ3 HK HJs
          gi_wp2
          go_roundw
          case rel => exact ⟨k + 1, by omega, by go_num, HJ3, HK3⟩
          case measure => simp [intOf]; omega
        · gi_wp2
          refine bodyPost_ret (results_none rfl _ _ _) rfl ?_
          exact ⟨⟨_, rfl⟩, .inr ⟨_, trivial, hJx3⟩⟩
    · obtain rfl : m = k := by omega
      gi_wp2
      go_end0
      refine ⟨⟨_, rfl⟩, .inl ⟨_, rfl, ?_⟩⟩
      have := HJs.out
      rw [← Hm.out, List.take_length] at this
      rw [HTH.out]
      exact this
end Go.Proofs.Ytinbfnabngdemaa
