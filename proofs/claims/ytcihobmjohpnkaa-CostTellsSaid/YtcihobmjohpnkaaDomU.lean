/- The reference's 'Doms': rows of bools that are being written; the walk. -/
import Derived.Test.YtcihobmjohpnkaaDomV
import Derived.Test.YtcihobmjohpnkaaSuccsR
import Derived.Test.YtcihobmjohpnkaaDom15
namespace Go.Proofs.Ytcihobmjohpnkaa

section
open Go.RowKit Go.Sort

/-- The first k of n rows of bools, each in a block of its own. -/
structure BRow (B G n k : Nat) (M : List (List Bool)) (W : World) : Prop where
  kn : k ≤ n
  ex : ∃ gs : List Nat, gs.length = k ∧ Row W G 33 (gs.map (fun g => Value.slice (some ⟨g, 0, none⟩) n n) ++ List.replicate (n - k) (.slice none 0 0)) ∧ gs.Nodup ∧ (∀ g ∈ gs, B ≤ g ∧ g ≠ G) ∧ ∀ j (h : j < gs.length), Row W gs[j] 4 (bools (M.getD j []))
section
variable {B G n k : Nat} {M : List (List Bool)} {W W' : World}
theorem BRow.lt (h : BRow B G n k M W) : G < W.heap.size := let ⟨_, _, h1, _⟩ := h.ex; h1.lt
theorem BRow.below (h : BRow B G n k M W) (hb : Below W.heap.size W W') : BRow B G n k M W' :=
  let ⟨gs, h0, h1, h2, h3, h4⟩ := h.ex
  ⟨h.kn, gs, h0, h1.keep (hb.block G h1.lt), h2, h3, fun j hj => (h4 j hj).keep (hb.block _ (h4 j hj).lt)⟩
theorem BRow.start (h : Row W G 33 (List.replicate n (.slice none 0 0))) : BRow B G n 0 M W :=
  ⟨by omega, [], rfl, by simpa using h, List.nodup_nil, fun g hg => by simp at hg, fun j hj => by simp at hj⟩
theorem BRow.cellNil (h : BRow B G n k M W) (hk : k < n) : W.cell? ⟨G, k, none⟩ = some (.slice none 0 0) ∧ W.frozen? ⟨G, k, none⟩ = false := by
  obtain ⟨gs, h0, h1, -, -, -⟩ := h.ex
  refine ⟨h1.cell ?_, h1.frozen k⟩
  rw [List.getElem?_append_right (by simp [h0]), List.length_map, h0, Nat.sub_self, List.getElem?_replicate, if_pos (by omega)]
theorem BRow.push (h : BRow B G n k M W) (hk : k < n) (hM : M.getD k [] = List.replicate n false) (hB : B ≤ W.heap.size) :
    BRow B G n (k + 1) M ((W.alloc (.cells (bools (List.replicate n false)).toArray 4)).setCell ⟨G, k, none⟩ (.slice (some ⟨W.heap.size, 0, none⟩) n n)) := by
  obtain ⟨gs, h0, h1, h2, h3, h4⟩ := h.ex
  have hG := h1.lt
  have hl : ∀ g ∈ gs, g < W.heap.size := fun g hg => by obtain ⟨j, hj, rfl⟩ := List.getElem_of_mem hg; exact (h4 j hj).lt
  have ra : Row (W.alloc (.cells (bools (List.replicate n false)).toArray 4)) G 33 _ := heap_alloc_ne W (.cells (bools (List.replicate n false)).toArray 4) _ _ h1
  have r1 := ra.set k (.slice (some ⟨W.heap.size, 0, none⟩) n n)
  refine ⟨hk, gs ++ [W.heap.size], by simp [h0], ?_, ?_, ?_, fun j hj => ?_⟩
  · have e : (gs.map (fun g => Value.slice (some ⟨g, 0, none⟩) n n) ++ List.replicate (n - k) (Value.slice none 0 0)).set k (.slice (some ⟨W.heap.size, 0, none⟩) n n) = (gs ++ [W.heap.size]).map (fun g => Value.slice (some ⟨g, 0, none⟩) n n) ++ List.replicate (n - (k + 1)) (Value.slice none 0 0) := by
      obtain ⟨m, hm⟩ : ∃ m, n - k = m + 1 := ⟨n - k - 1, by omega⟩
      rw [hm, show n - (k + 1) = m by omega, List.replicate_succ, List.set_append_right _ _ (by simp [h0]), List.length_map, h0, Nat.sub_self]
      simp
    rw [e] at r1
    exact r1
  · refine List.nodup_append.2 ⟨h2, by simp, fun a ha b hb => ?_⟩
    have := hl a ha
    simp at hb; omega
  · intro g hg
    rcases List.mem_append.1 hg with hg | hg
    · exact h3 g hg
    · rw [List.mem_singleton] at hg; subst hg; exact ⟨hB, by omega⟩
  · by_cases hjl : j < gs.length
    · rw [List.getElem_append_left hjl]
      exact Row.other (heap_alloc_ne _ _ _ _ (h4 j hjl)) (by show gs[j] ≠ G; exact (h3 _ (List.getElem_mem hjl)).2) _
    · have hj' : j = gs.length := by simp at hj; omega
      subst hj'
      rw [List.getElem_append_right (Nat.le_refl _)]
      simp only [Nat.sub_self, List.getElem_cons_zero]
      rw [h0, hM]
      exact Row.other (heap_alloc_eq _ _ _ rfl) (by show W.heap.size ≠ G; omega) _
theorem BRow.get (h : BRow B G n n M W) {j : Nat} (hj : j < n) : ∃ g, W.cell? ⟨G, j, none⟩ = some (.slice (some ⟨g, 0, none⟩) n n) ∧ Row W g 4 (bools (M.getD j [])) ∧ B ≤ g := by
  obtain ⟨gs, h0, h1, h2, h3, h4⟩ := h.ex
  have hj' : j < gs.length := by omega
  refine ⟨gs[j], h1.cell ?_, h4 j hj', (h3 _ (List.getElem_mem hj')).1⟩
  rw [List.getElem?_append_left (by simp; omega)]
  simp [hj']
theorem BRow.put (h : BRow B G n n M W) {j : Nat} (hj : j < M.length) {g : Nat} (hg : W.cell? ⟨G, j, none⟩ = some (.slice (some ⟨g, 0, none⟩) n n)) (hjn : j < n) (a : Nat) (v : Bool) : BRow B G n n (M.set j ((M.getD j []).set a v)) (W.setCell ⟨g, a, none⟩ (.bool v)) := by
  obtain ⟨gs, h0, h1, h2, h3, h4⟩ := h.ex
  have hj' : j < gs.length := by omega
  have eg : gs[j] = g := by
    have := h1.cell (k := j) (v := .slice (some ⟨gs[j], 0, none⟩) n n) (by rw [List.getElem?_append_left (by simp; omega)]; simp [hj'])
    rw [hg] at this
    simpa using this.symm
  have eD : ∀ i, (M.set j ((M.getD j []).set a v)).getD i [] = if j = i then (M.getD j []).set a v else M.getD i [] := fun i => by
    rw [List.getD_eq_getElem?_getD, List.getElem?_set]
    by_cases e : j = i
    · subst e; simp [hj]
    · simp [e]
  refine ⟨h.kn, gs, h0, h1.other (by show G ≠ g; rw [← eg]; exact fun e => (h3 _ (List.getElem_mem hj')).2 e.symm) _, h2, h3, fun i hi => ?_⟩
  rw [eD]
  by_cases e : j = i
  · subst e
    rw [if_pos rfl, eg]
    have := (h4 j hi).set a (.bool v)
    rw [eg, bools_set] at this
    exact this
  · rw [if_neg e]
    refine (h4 i hi).other ?_ _
    show gs[i] ≠ g
    rw [← eg]
    intro e2
    exact e ((List.getElem_inj h2).1 e2.symm)
end
/-- What the reference's 'Doms' holds. -/
def domsM (L : List (List InsD)) : List (List Bool) := (List.range L.length).map fun (b : Nat) => (List.range L.length).map fun (a : Nat) => overS L (a : Int) (b : Int)

/-- What has been written when the blocks ahead of a are done, and of a itself the first b rows. -/
structure DmSt (L : List (List InsD)) (a b : Nat) (M : List (List Bool)) : Prop where
  len : M.length = L.length
  row : ∀ j, j < L.length → (M.getD j []).length = L.length
  val : ∀ j i, j < L.length → i < L.length → (M.getD j []).getD i false = if i < a ∨ (i = a ∧ j < b) then overS L (i : Int) (j : Int) else false
theorem DmSt.start (L : List (List InsD)) : DmSt L 0 0 (List.replicate L.length (List.replicate L.length false)) := by
  have e : ∀ j, j < L.length → (List.replicate L.length (List.replicate L.length false)).getD j [] = List.replicate L.length false := fun j hj => by
    rw [List.getD_eq_getElem?_getD, List.getElem?_replicate, if_pos hj]; rfl
  refine ⟨by simp, fun j hj => by rw [e j hj]; simp, fun j i hj hi => ?_⟩
  rw [e j hj, List.getD_eq_getElem?_getD, List.getElem?_replicate, if_pos hi, if_neg (by omega)]
  rfl
theorem DmSt.put {L : List (List InsD)} {a b : Nat} {M : List (List Bool)} (h : DmSt L a b M) (hb : b < L.length) (ha : a < L.length) : DmSt L a (b + 1) (M.set b ((M.getD b []).set a (overS L (a : Int) (b : Int)))) := by
  have eD : ∀ i, (M.set b ((M.getD b []).set a (overS L (a : Int) (b : Int)))).getD i [] = if b = i then (M.getD b []).set a (overS L (a : Int) (b : Int)) else M.getD i [] := fun i => by
    rw [List.getD_eq_getElem?_getD, List.getElem?_set]
    by_cases e : b = i
    · subst e; simp [h.len, hb]
    · simp [e]
  refine ⟨by rw [List.length_set]; exact h.len, fun j hj => ?_, fun j i hj hi => ?_⟩
  · rw [eD]; split
    · rw [List.length_set]; exact h.row b hb
    · exact h.row j hj
  · rw [eD]
    split
    · rename_i e
      subst e
      rw [List.getD_eq_getElem?_getD, List.getElem?_set]
      by_cases e2 : a = i
      · subst e2
        rw [if_pos rfl, if_pos (by rw [h.row b hb]; exact ha), if_pos (.inr ⟨rfl, by omega⟩)]
        rfl
      · rw [if_neg e2, ← List.getD_eq_getElem?_getD, h.val b i hb hi]
        by_cases h1 : i < a
        · rw [if_pos (.inl h1), if_pos (.inl h1)]
        · rw [if_neg (by omega), if_neg (by omega)]
    · rename_i e
      rw [h.val j i hj hi]
      by_cases h1 : i < a ∨ (i = a ∧ j < b)
      · rw [if_pos h1, if_pos (by omega)]
      · rw [if_neg h1, if_neg (by omega)]
theorem DmSt.close {L : List (List InsD)} {a : Nat} {M : List (List Bool)} (h : DmSt L a L.length M) : DmSt L (a + 1) 0 M :=
  ⟨h.len, h.row, fun j i hj hi => by
    rw [h.val j i hj hi]
    by_cases h1 : i < a ∨ (i = a ∧ j < L.length)
    · rw [if_pos h1, if_pos (by omega)]
    · rw [if_neg h1, if_neg (by omega)]⟩
/-- A block that is not reached is over none. -/
theorem DmSt.skip {L : List (List InsD)} {a : Nat} {M : List (List Bool)} (h : DmSt L a 0 M) (hn : (a : Int) ∉ orderS L) : DmSt L (a + 1) 0 M :=
  ⟨h.len, h.row, fun j i hj hi => by
    rw [h.val j i hj hi]
    by_cases h1 : i < a
    · rw [if_pos (.inl h1), if_pos (by omega)]
    · rw [if_neg (by omega)]
      by_cases h2 : i = a
      · subst h2
        rw [if_pos (by omega)]
        unfold overS
        simp [hn]
      · rw [if_neg (by omega)]⟩
theorem DmSt.done {L : List (List InsD)} {M : List (List Bool)} (h : DmSt L L.length 0 M) : M = domsM L := by
  refine List.ext_getElem (by simp [domsM, h.len]) fun j h1 h2 => ?_
  have hj : j < L.length := by rw [← h.len]; exact h1
  have e1 : M.getD j [] = M[j] := by simp [List.getD, h1]
  have hr := h.row j hj
  rw [e1] at hr
  refine List.ext_getElem (by simp [domsM, hr]) fun i h3 h4 => ?_
  have hi : i < L.length := by omega
  have := h.val j i hj hi
  rw [e1, if_pos (.inl hi)] at this
  simp only [List.getD, List.getElem?_eq_getElem h3, Option.getD_some] at this
  rw [this]
  simp [domsM]
theorem reach_from {L : List (List InsD)} {b : Nat} (hb : b < L.length) : sn (fromS L 0 (-1)) b = decide ((b : Int) ∈ orderS L) := by
  rw [Bool.eq_iff_iff, decide_eq_true_eq, fromS_way L ⟨Int.le_refl _, by omega, by omega⟩ _ ⟨by omega, by omega⟩]
  have e : succX L (-1) = succS L := by
    funext x
    unfold succX
    rw [List.filter_eq_self]
    intro y hy
    have := succS_range L x y hy
    simp; omega
  rw [e]
  exact ⟨fun h => order_way (by omega) h, fun h => (order_range h).2.2⟩

theorem infoBools : (Try.prog.info? 33).map (fun i => (i.zero, i.size, i.bytes)) = some (some (.slice none 0 0), 1, 24) := by kernel_rfl
theorem mk_brow {ops : Array Oper} {rest : List Oper} {o : Oper} {a : Act} {Q : Exit → Act → World → Prop} {W : World}
    (hgd : o.guard = none) (l c : Operand) (hop : o.op = Op.makeSlice 58 l c) (n : Nat) (hl : a.eval l = .int .i64 n) (hc : a.eval c = .int .i64 n) (hn : n ≤ 1000000)
    (h : wpList Try.prog ops Q rest (a.put o.dst (.slice (some ⟨W.heap.size, 0, none⟩) n n)) (W.alloc (.cells (List.replicate n (Value.slice none 0 0)).toArray 33))) :
    wpList Try.prog ops Q (o :: rest) a W := by
  obtain ⟨i0, hi, hz0, hz1, hz2⟩ := info_parts infoBools
  exact wp_make1 W hgd l c 58 hop 33 i0 _ (.slice none 0 0) 24 Try.underlying58 hi hz0 hz1 hz2 rfl n hl hc (by omega) (by omega) h

set_option maxRecDepth 100000 in
theorem reachedQ_c {p : Nat → Prop} {v : Value} {l : List (List InsD)} (w : World) (h : IsBlocks p w v l) (hl : l.length ≤ 1000) :
    Calls Try.prog 31 #[v] w fun e w' => ∃ g, e = .returned (.slice (some ⟨g, 0, none⟩) l.length l.length) ∧ w.heap.size ≤ g ∧ Row w' g 4 (bools (fromS l 0 (-1))) ∧ Below w.heap.size w w' := by
  have h0 := h
  obtain ⟨a, cap, hv, _, _⟩ := id h
  subst hv
  obtain ⟨F, HF⟩ : ∃ F, Hid (fromS l 0 (-1) = F) := ⟨_, (rfl : fromS l 0 (-1) = fromS l 0 (-1))⟩
  rw [HF.out]
  go_enter Try.func31, Try.ntmps31
  go_wp2_with fail
  refine (fromR_c w 0 (-1) h0 hl).mono ?_
  rintro e w2 ⟨g, rfl, hg, hr, hb2⟩
  rw [HF.out] at hr
  go_wp2_with fail
  go_ret
  exact ⟨g, rfl, hg, hr, hb2⟩

set_option maxRecDepth 100000 in
set_option maxHeartbeats 16000000 in
theorem doms_c {ba : Option Addr} {n bc : Nat} (w : World) {L : List (List InsD)} (h : IsBlocks (· < w.heap.size) w (.slice ba n bc) L) (hl : n ≤ 1000) :
    Calls Try.prog 51 #[.slice ba n bc] w fun e w' => ∃ G, e = .returned (.slice (some ⟨G, 0, none⟩) n n) ∧ w.heap.size ≤ G ∧ BRow (G + 1) G n n (domsM L) w' ∧ Below w.heap.size w w' := by
  have hnL : n = L.length := by obtain ⟨_, _, hv0, hl0, hx⟩ := id h; simp only [Value.slice.injEq] at hv0; exact hv0.2.1
  have HNL := hid_of hnL
  have HKP : Hid (∀ W, Below w.heap.size w W → IsBlocks (· < W.heap.size) W (.slice ba n bc) L) := fun W hW => h.keep (fun b hb hlt => ⟨Nat.lt_of_lt_of_le hb hW.size, hW.block b hlt⟩)
  have hR := reachedQ_c w h (by omega)
  rw [← hnL] at hR
  have HR := hid_of hR
  clear hnL h hR
  go_enter Try.func51, Try.ntmps51
  go_wp2_with fail
  refine HR.out.mono ?_
  rintro e W1 ⟨gr, rfl, hgr, hr1, hb1⟩
  have hgl := hr1.lt
  have HQ : Hid (Row (W1.alloc (.cells (List.replicate n (Value.slice none 0 0)).toArray 33)) gr 4 (bools (fromS L 0 (-1))) ∧ BRow (W1.heap.size + 1) W1.heap.size n 0 (List.replicate n (List.replicate n false)) (W1.alloc (.cells (List.replicate n (Value.slice none 0 0)).toArray 33)) ∧ Below w.heap.size w (W1.alloc (.cells (List.replicate n (Value.slice none 0 0)).toArray 33))) :=
    ⟨heap_alloc_ne _ _ _ _ hr1, BRow.start (heap_alloc_eq _ _ _ rfl), bel_alloc hb1 _⟩
  have hGw := hb1.size
  clear hr1 hb1 HR
  go_wp2_with (at_make; refine stop_here ?_)
  refine stop_go (mk_brow rfl _ _ rfl n rfl rfl (by omega) ?_)
  refine k_at (fun X => Row X gr 4 (bools (fromS L 0 (-1))) ∧ BRow (W1.heap.size + 1) W1.heap.size n 0 (List.replicate n (List.replicate n false)) X ∧ Below w.heap.size w X) HQ.out ?_
  rintro W2 ⟨hr2, hB2, hb2⟩
  obtain ⟨G, HG⟩ : ∃ G, Hid (W1.heap.size = G) := ⟨_, (rfl : W1.heap.size = _)⟩
  rw [HG.out] at hB2 hGw hgl ⊢
  have HR2 := hid_of hr2
  have HB2 := hid_of hB2
  have Hb2 := hid_of hb2
  clear HQ hr2 hB2 hb2
  have hneG : gr ≠ G := by omega
  go_wp2_with fail
  go_loopw [5] (fun s5 wx => ∃ k : Nat, k ≤ n ∧ s5 = .int .i64 k ∧ Hid (Row wx gr 4 (bools (fromS L 0 (-1)))) ∧ Hid (BRow (G + 1) G n k (List.replicate n (List.replicate n false)) wx) ∧ Hid (Below w.heap.size w wx)) (fun s5 _ => n - (intOf s5).toNat)
  case atStart => exact ⟨0, by omega, rfl, HR2, HB2, Hb2⟩
  case round =>
    obtain ⟨k, hk, rfl, HR3, HB3, Hb3⟩ := hrel
    clear HR2 HB2 Hb2
    by_cases hlt : k < n
    · obtain ⟨qn, fn⟩ := HB3.out.cellNil hlt
      have hGl := HB3.out.lt
      have hsz := Hb3.out.size
      have HB4 := hid_of (HB3.out.push hlt (by rw [List.getD_eq_getElem?_getD, List.getElem?_replicate, if_pos hlt]; rfl) hGl)
      have HR4 : Hid (Row ((wr.alloc (.cells (bools (List.replicate n false)).toArray 4)).setCell ⟨G, k, none⟩ (.slice (some ⟨wr.heap.size, 0, none⟩) n n)) gr 4 (bools (fromS L 0 (-1)))) := Row.other (heap_alloc_ne _ _ _ _ HR3.out) (by show gr ≠ G; exact hneG) _
      have Hb4 : Hid (Below w.heap.size w ((wr.alloc (.cells (bools (List.replicate n false)).toArray 4)).setCell ⟨G, k, none⟩ (.slice (some ⟨wr.heap.size, 0, none⟩) n n))) := (bel_alloc Hb3.out _).setCell (by show w.heap.size ≤ G; exact hGw) _
      have hk0 : (0 : Int) ≤ (k : Int) := by omega
      have hkz : (k : Int) < (n : Int) := by omega
      have HQ := hid_of (And.intro HR4 (And.intro HB4 (And.intro Hb4 (And.intro ((World.cell?_of_block (a := ⟨G, k, none⟩) (Below.heap_alloc wr (.cells (bools (List.replicate n false)).toArray 4) _ hGl)).trans qn) ((World.frozen?_of_block (a := ⟨G, k, none⟩) (Below.heap_alloc wr (.cells (bools (List.replicate n false)).toArray 4) _ hGl)).trans fn)))))
      clear HR3 HB3 Hb3 HR4 HB4 Hb4
      go_wp2_with (at_make; refine stop_here ?_)
      refine stop_go (mk_bools rfl _ _ rfl n rfl rfl (by omega) ?_)
      refine k_at (fun X => Hid (Row (X.setCell ⟨G, k, none⟩ (.slice (some ⟨wr.heap.size, 0, none⟩) n n)) gr 4 (bools (fromS L 0 (-1)))) ∧ Hid (BRow (G + 1) G n (k + 1) (List.replicate n (List.replicate n false)) (X.setCell ⟨G, k, none⟩ (.slice (some ⟨wr.heap.size, 0, none⟩) n n))) ∧ Hid (Below w.heap.size w (X.setCell ⟨G, k, none⟩ (.slice (some ⟨wr.heap.size, 0, none⟩) n n))) ∧ X.cell? ⟨G, k, none⟩ = some (.slice none 0 0) ∧ X.frozen? ⟨G, k, none⟩ = false) HQ.out ?_
      rintro X ⟨x1, x2, x3, x4, x5⟩
      clear HQ qn fn
      go_wp2_with fail
      go_roundw
      case rel => exact ⟨k + 1, by omega, by go_num, x1, x2, x3⟩
      case measure => simp [intOf]; omega
    · obtain rfl : k = n := by omega
      have HD0 := hid_of (DmSt.start L)
      rw [← HNL.out] at HD0
      go_wp2_with fail
      go_loopw [6] (fun s6 wx => ∃ (a : Nat) (M : List (List Bool)), a ≤ k ∧ s6 = .int .i64 a ∧ Hid (DmSt L a 0 M) ∧ Hid (Row wx gr 4 (bools (fromS L 0 (-1)))) ∧ Hid (BRow (G + 1) G k k M wx) ∧ Hid (Below w.heap.size w wx)) (fun s6 _ => k - (intOf s6).toNat)
      case atStart => exact ⟨0, _, by omega, rfl, HD0, HR3, HB3, Hb3⟩
      case round =>
        obtain ⟨a, M, ha, rfl, HD, HR5, HB5, Hb5⟩ := hrel
        clear HD0 HR3 HB3 Hb3
        by_cases hat : a < k
        · have haL : a < L.length := by rw [← HNL.out]; exact hat
          have hFl := fromS_length L 0 (-1)
          have hrs := reach_from haL
          obtain ⟨rb, Hrb⟩ : ∃ rb, Hid (decide ((a : Int) ∈ orderS L) = rb) := ⟨_, (rfl : decide ((a : Int) ∈ orderS L) = _)⟩
          have qr := HR5.out.cell (k := a) (v := .bool rb) (by
            rw [bools_get (by rw [hFl]; exact haL)]
            unfold sn at hrs
            rw [Int.toNat_natCast] at hrs
            rw [hrs, Hrb.out])
          have ha0 : (0 : Int) ≤ (a : Int) := by omega
          have haz : (a : Int) < (k : Int) := by omega
          clear hrs hFl
          cases rb with
          | false =>
            have HD2 := hid_of (HD.out.skip (by have := Hrb.out; simpa using this))
            go_wp2_with fail
            go_roundw
            case rel => exact ⟨a + 1, M, by omega, by go_num, HD2, HR5, HB5, Hb5⟩
            case measure => simp [intOf]; omega
          | true =>
            have HFr := hid_of (fromR_c wr 0 (a : Int) (HKP.out wr Hb5.out) (by rw [← HNL.out]; exact hl))
            rw [← HNL.out] at HFr
            go_wp2_with fail
            refine HFr.out.mono ?_
            rintro e W5 ⟨g2, rfl, hg2, hr6, hb6⟩
            have HR6 := hid_of (HR5.out.keep (hb6.block gr HR5.out.lt))
            have HW6 := hid_of hr6
            have HB6 := hid_of (HB5.out.below hb6)
            have Hb6 := hid_of (bel_call Hb5.out hb6)
            have HLOW : Hid (∀ j g, j < k → W5.cell? ⟨G, j, none⟩ = some (.slice (some ⟨g, 0, none⟩) k k) → g < g2) := fun j g hj hc => by
              obtain ⟨g', h1, h2, -⟩ := HB5.out.get hj
              have h3 := (World.cell?_of_block (a := ⟨G, j, none⟩) (hb6.block G HB5.out.lt)).trans h1
              rw [hc] at h3
              have e : g = g' := by simpa using h3
              have := h2.lt
              omega
            clear HFr hr6 hb6 qr HR5 HB5 Hb5
            go_wp2_with fail
            obtain ⟨wo, rfl⟩ : ∃ wo : World, wo = W5 := ⟨_, rfl⟩
            go_loopw [8] (fun s8 wx => ∃ (b : Nat) (M' : List (List Bool)), b ≤ k ∧ s8 = .int .i64 b ∧ Hid (DmSt L a b M') ∧ Hid (Row wx gr 4 (bools (fromS L 0 (-1)))) ∧ Hid (Row wx g2 4 (bools (fromS L 0 (a : Int)))) ∧ Hid (BRow (G + 1) G k k M' wx) ∧ Hid (Below w.heap.size w wx) ∧ Hid (wx.heap[G]? = wo.heap[G]?)) (fun s8 _ => k - (intOf s8).toNat)
            case atStart => exact ⟨0, M, by omega, rfl, HD, HR6, HW6, HB6, Hb6, hid_of rfl⟩
            case round =>
              obtain ⟨b, M', hb, rfl, HD7, HR7, HW7, HB7, Hb7, HG7⟩ := hrel
              clear HR6 HW6 HB6 Hb6
              by_cases hbt : b < k
              · have hbL : b < L.length := by rw [← HNL.out]; exact hbt
                have hFl := fromS_length L 0 (-1)
                have hFl2 := fromS_length L 0 (a : Int)
                have hrs := reach_from hbL
                obtain ⟨rv, Hrv⟩ : ∃ rv, Hid (decide ((b : Int) ∈ orderS L) = rv) := ⟨_, (rfl : decide ((b : Int) ∈ orderS L) = _)⟩
                obtain ⟨wv, Hwv⟩ : ∃ wv, Hid (sn (fromS L 0 (a : Int)) b = wv) := ⟨_, (rfl : sn (fromS L 0 (a : Int)) b = _)⟩
                obtain ⟨eb, Heb⟩ : ∃ eb, Hid (decide ((a : Int) = (b : Int)) = eb) := ⟨_, (rfl : decide ((a : Int) = (b : Int)) = _)⟩
                have q1 := HR7.out.cell (k := b) (v := .bool rv) (by
                  rw [bools_get (by rw [hFl]; exact hbL)]
                  unfold sn at hrs
                  rw [Int.toNat_natCast] at hrs
                  rw [hrs, Hrv.out])
                have q2 := HW7.out.cell (k := b) (v := .bool wv) (by
                  rw [bools_get (by rw [hFl2]; exact hbL)]
                  have := Hwv.out
                  unfold sn at this
                  rw [Int.toNat_natCast] at this
                  rw [this])
                have hov : overS L (a : Int) (b : Int) = (rv && (eb || !wv)) := by
                  unfold overS
                  rw [Hrb.out, Hrv.out, Heb.out, Hwv.out]
                  simp
                obtain ⟨gj, q3, hgj, hgG⟩ := HB7.out.get hbt
                have hgj2 := HLOW.out b gj hbt ((World.cell?_of_block (a := ⟨G, b, none⟩) HG7.out).symm.trans q3)
                have hrow := HD7.out.row b hbL
                have q4 := hgj.cell (k := a) (v := .bool ((M'.getD b []).getD a true)) (bools_get (by rw [hrow]; exact haL))
                have q5 := hgj.frozen a
                obtain ⟨vv, Hvv⟩ : ∃ vv, Hid ((rv && (eb || !wv)) = vv) := ⟨_, (rfl : (rv && (eb || !wv)) = _)⟩
                have hP := HB7.out.put (by rw [HD7.out.len]; exact hbL) q3 hbt a vv
                have HP := hid_of (hP.below (bel_refl (wr.setCell ⟨gj, a, none⟩ (.bool vv))).drew)
                have hD8 := HD7.out.put hbL haL
                rw [hov, Hvv.out] at hD8
                have HD8 := hid_of hD8
                have HR8 : Hid (Row (wr.setCell ⟨gj, a, none⟩ (.bool vv)).drew gr 4 (bools (fromS L 0 (-1)))) := HR7.out.other (by show gr ≠ gj; omega) _
                have HW8 : Hid (Row (wr.setCell ⟨gj, a, none⟩ (.bool vv)).drew g2 4 (bools (fromS L 0 (a : Int)))) := HW7.out.other (by show g2 ≠ gj; omega) _
                have Hb8 : Hid (Below w.heap.size w (wr.setCell ⟨gj, a, none⟩ (.bool vv)).drew) := (Hb7.out.setCell (by show w.heap.size ≤ gj; omega) _).drew
                have HG8 : Hid ((wr.setCell ⟨gj, a, none⟩ (.bool vv)).drew.heap[G]? = wo.heap[G]?) := (Below.heap_setCell _ _ _ _ (by show G ≠ gj; omega)).trans HG7.out
                have hEq : ((a : Int) == (b : Int)) = eb := by rw [← Heb.out]; rfl
                have hb0 : (0 : Int) ≤ (b : Int) := by omega
                have hbz : (b : Int) < (k : Int) := by omega
                clear hFl hFl2 hrs hov hgj hrow hP hD8 HR7 HW7 HB7 Hb7 HG7 HD7
                cases rv <;> cases eb <;> cases wv
                all_goals
                  first
                  | obtain rfl : vv = true := Hvv.out.symm
                  | obtain rfl : vv = false := Hvv.out.symm
                  clear Hvv
                  go_wp2_with fail
                  go_region
                  all_goals
                    go_wp2_with fail
                    go_roundw
                    case rel => exact ⟨b + 1, _, by omega, by go_num, HD8, HR8, HW8, HP, Hb8, HG8⟩
                    case measure => simp [intOf]; omega
              · obtain rfl : b = k := by omega
                have hD8 := HD7.out
                rw [HNL.out] at hD8
                have HD8 := hid_of hD8.close
                clear hD8
                go_wp2_with fail
                go_roundw
                case rel => exact ⟨a + 1, M', by omega, by go_num, HD8, HR7, HB7, Hb7⟩
                case measure => simp [intOf]; omega
        · obtain rfl : a = k := by omega
          have hM : M = domsM L := by have := HD.out; rw [HNL.out] at this; exact this.done
          have HF := hid_of (hM ▸ HB5.out)
          clear hM
          go_wp2_with fail
          go_ret
          exact ⟨G, rfl, hGw, HF.out, Hb5.out⟩
end

section
/- The reference's 'count', 'Idom' and 'Frontier'. -/
open Go.RowKit Go.Sort

theorem count_take {l : List Bool} {k : Nat} (h : k < l.length) : (l.take (k + 1)).count true = (l.take k).count true + if l[k] = true then 1 else 0 := by
  rw [List.take_succ_eq_append_getElem h, List.count_append]
  congr 1
  cases l[k] <;> rfl
set_option maxRecDepth 100000 in
theorem count_c {g n : Nat} {l : List Bool} (w : World) (h : Row w g 4 (bools l)) (hl : l.length = n) (hn : n ≤ 1000) :
    Calls Try.prog 94 #[.slice (some ⟨g, 0, none⟩) n n] w fun e w' => e = .returned (.int .i64 (l.count true : Nat)) ∧ w' = w := by
  have HL := hid_of hl
  have HR := hid_of h
  clear hl h
  go_enter Try.func94, Try.ntmps94
  go_wp2_with fail
  go_loop [3, 4] (fun s3 s4 => ∃ (k c : Nat), k ≤ n ∧ c ≤ k ∧ s4 = .int .i64 k ∧ s3 = .int .i64 c ∧ Hid ((l.take k).count true = c)) (fun _ s4 => n - (intOf s4).toNat)
  case atStart => exact ⟨0, 0, by omega, by omega, rfl, rfl, by show _ = _; simp⟩
  case round =>
    obtain ⟨k, c, hk, hck, rfl, rfl, HC⟩ := hrel
    by_cases hlt : k < n
    · have hkl : k < l.length := by rw [HL.out]; exact hlt
      have c1 := HR.out.cell (k := k) (v := .bool l[k]) (by simp [bools, hkl])
      have ht := count_take hkl
      rw [HC.out] at ht
      have HT := hid_of ht
      obtain ⟨x, Hx⟩ : ∃ x, Hid (l[k] = x) := ⟨_, (rfl : l[k] = _)⟩
      rw [Hx.out] at c1 HT
      have hk0 : (0 : Int) ≤ (k : Int) := by omega
      have hkz : (k : Int) < (n : Int) := by omega
      clear ht
      cases x with
      | false =>
        go_wp2_with fail
        go_round
        case rel => exact ⟨k + 1, c, by omega, by omega, by go_num, rfl, by show _ = _; rw [HT.out]; simp⟩
        case measure => simp [intOf]; omega
      | true =>
        go_wp2_with fail
        go_round
        case rel => exact ⟨k + 1, c + 1, by omega, by omega, by go_num, by go_num, by show _ = _; rw [HT.out]; simp⟩
        case measure => simp [intOf]; omega
    · obtain rfl : k = n := by omega
      have hc := HC.out
      rw [List.take_of_length_le (by rw [HL.out]; exact Nat.le_refl _)] at hc
      have HC2 := hid_of hc
      clear hc
      go_wp2_with fail
      go_ret
      exact ⟨by rw [HC2.out]; rfl, rfl⟩

/-- What stands over block b among the first k. -/
def overK (L : List (List InsD)) (b : Int) (k : Nat) : List Int := ((List.range k).map fun (i : Nat) => (i : Int)).filter fun a => overS L a b
theorem overK_succ (L : List (List InsD)) (b : Int) (k : Nat) : overK L b (k + 1) = overK L b k ++ if overS L k b then [(k : Int)] else [] := by
  unfold overK
  rw [List.range_succ, List.map_append, List.filter_append, List.map_singleton]
  congr 1
  cases h : overS L k b <;> simp [h]
def idK (L : List (List InsD)) (b k : Nat) : Int := (overK L b k).foldl (idStepS L b) (-1)
theorem idK_all (L : List (List InsD)) (b : Nat) : idK L b L.length = idS L b := rfl
theorem idK_off {L : List (List InsD)} {b k : Nat} (h : overS L k b = false) : idK L b (k + 1) = idK L b k := by
  unfold idK; rw [overK_succ, h]; simp
theorem idK_on {L : List (List InsD)} {b k : Nat} (h : overS L k b = true) : idK L b (k + 1) = idStepS L b (idK L b k) k := by
  unfold idK; rw [overK_succ, h, if_pos rfl, List.foldl_append]; rfl
theorem idK_range (L : List (List InsD)) (b k : Nat) : idK L b k = -1 ∨ (0 ≤ idK L b k ∧ idK L b k < k) := by
  induction k with
  | zero => left; rfl
  | succ k ih =>
    cases h : overS L k b with
    | false => rw [idK_off h]; omega
    | true =>
      rw [idK_on h]
      unfold idStepS
      split <;> omega
/-- How many stand over it; none over none. -/
def cntI (L : List (List InsD)) (c : Int) : Nat := if c < 0 then 0 else (overL L c).length
theorem over_self {L : List (List InsD)} {a b : Int} (h : overS L a b = true) : overS L a a = true := by
  unfold overS at h ⊢
  simp only [Bool.and_eq_true, decide_eq_true_eq] at h
  simp [h.1.1]
theorem mem_overL {L : List (List InsD)} {x b : Int} : x ∈ overL L b ↔ overS L x b = true := by
  unfold overL
  rw [List.mem_filter, List.mem_map]
  constructor
  · exact fun h => h.2
  · intro h
    have h2 := h
    unfold overS at h2
    simp only [Bool.and_eq_true, decide_eq_true_eq] at h2
    obtain ⟨h0, h1, -⟩ := order_range h2.1.1
    exact ⟨⟨x.toNat, List.mem_range.2 (by omega), by omega⟩, h⟩
theorem overL_pos {L : List (List InsD)} {a b : Int} (h : overS L a b = true) : 0 < (overL L a).length := List.length_pos_iff.2 (List.ne_nil_of_mem (mem_overL.2 (over_self h)))
theorem idK_step {L : List (List InsD)} {b k : Nat} (h : overS L k b = true) (hne : k ≠ b) : idK L b (k + 1) = if cntI L (idK L b k) < (overL L k).length then (k : Int) else idK L b k := by
  rw [idK_on h]
  unfold idStepS cntI
  have := overL_pos h
  by_cases hc : idK L b k < 0
  · rw [if_pos hc, if_pos ⟨by omega, .inl hc⟩, if_pos this]
  · rw [if_neg hc]
    by_cases hl : (overL L (idK L b k)).length < (overL L k).length
    · rw [if_pos hl, if_pos ⟨by omega, .inr hl⟩]
    · rw [if_neg hl, if_neg (by rintro ⟨-, h1 | h1⟩ <;> omega)]
theorem idK_same {L : List (List InsD)} {b : Nat} : idK L b (b + 1) = idK L b b := by
  cases h : overS L b b with
  | false => exact idK_off h
  | true => rw [idK_on h]; unfold idStepS; simp
theorem domsM_row {L : List (List InsD)} {j : Nat} (h : j < L.length) : (domsM L).getD j [] = (List.range L.length).map fun (a : Nat) => overS L (a : Int) (j : Int) := by
  simp [domsM, List.getD, h]
theorem domsM_count {L : List (List InsD)} {j : Nat} (h : j < L.length) : ((domsM L).getD j []).count true = (overL L j).length := by
  rw [domsM_row h]
  unfold overL
  rw [List.count_eq_countP, List.countP_map, List.countP_eq_length_filter, List.filter_map, List.length_map]
  congr 1
  refine List.filter_congr fun x _ => ?_
  show (overS L x j == true) = overS L x j
  simp
theorem domsM_get {L : List (List InsD)} {j a : Nat} (h : j < L.length) (ha : a < L.length) : (bools ((domsM L).getD j []))[a]? = some (.bool (overS L a j)) := by
  rw [domsM_row h]; simp [bools, ha]
theorem domsM_len {L : List (List InsD)} {j : Nat} (h : j < L.length) : ((domsM L).getD j []).length = L.length := by
  rw [domsM_row h]; simp

theorem intsAt {O : List Int} {k : Nat} (h : k < O.length) : (ints O)[k]? = some (.int .i64 O[k]) := by simp [ints, h]
/-- What the numbers written so far are. -/
structure IdR (L : List (List InsD)) (b : Nat) (O : List Int) : Prop where
  len : O.length = L.length
  val : ∀ j, j < b → O.getD j 0 = idS L j
theorem IdR.put {L : List (List InsD)} {b : Nat} {O : List Int} (h : IdR L b O) (hb : b < L.length) (x : Int) (hx : x = idS L b) : IdR L (b + 1) (O.set b x) := by
  refine ⟨by rw [List.length_set]; exact h.len, fun j hj => ?_⟩
  rw [List.getD_eq_getElem?_getD, List.getElem?_set]
  by_cases e : b = j
  · subst e; rw [if_pos rfl, if_pos (by rw [h.len]; exact hb), hx]; rfl
  · rw [if_neg e, ← List.getD_eq_getElem?_getD]; exact h.val j (by omega)
theorem IdR.done {L : List (List InsD)} {O : List Int} (h : IdR L L.length O) : O = (List.range L.length).map (idS L) := by
  refine List.ext_getElem (by simp [h.len]) fun j h1 h2 => ?_
  have := h.val j (by rw [← h.len]; exact h1)
  simp only [List.getD, List.getElem?_eq_getElem h1, Option.getD_some] at this
  rw [this]; simp

set_option maxRecDepth 100000 in
set_option maxHeartbeats 16000000 in
theorem idomR_c {ba : Option Addr} {n bc : Nat} (w : World) {L : List (List InsD)} (h : IsBlocks (· < w.heap.size) w (.slice ba n bc) L) (hl : n ≤ 1000) :
    Calls Try.prog 55 #[.slice ba n bc] w fun e w' => ∃ g, e = .returned (.slice (some ⟨g, 0, none⟩) n n) ∧ w.heap.size ≤ g ∧ Row w' g 3 (ints ((List.range L.length).map (idS L))) ∧ Below w.heap.size w w' := by
  have hnL : n = L.length := by obtain ⟨_, _, hv0, hl0, hx⟩ := id h; simp only [Value.slice.injEq] at hv0; exact hv0.2.1
  have HNL := hid_of hnL
  have HD := hid_of (doms_c w h hl)
  clear hnL h
  go_enter Try.func55, Try.ntmps55
  go_wp2_with fail
  refine HD.out.mono ?_
  rintro e W1 ⟨G, rfl, hG, hB1, hb1⟩
  have hra : Row (W1.alloc (.cells (ints (List.replicate n 0)).toArray 3)) W1.heap.size 3 (ints (List.replicate n 0)) := heap_alloc_eq _ _ _ rfl
  have HQ := hid_of (And.intro hra (bel_alloc (bel_refl W1) (.cells (ints (List.replicate n 0)).toArray 3)))
  have hGw := hb1.size
  have HB1 := hid_of hB1
  have Hb1 := hid_of hb1
  clear hra hb1 hB1 HD
  go_wp2_with (at_make; refine stop_here ?_)
  refine stop_go (mk_ints rfl _ _ rfl n rfl rfl (by omega) ?_)
  refine k_at (fun X => Row X W1.heap.size 3 (ints (List.replicate n 0)) ∧ Below W1.heap.size W1 X) HQ.out ?_
  rintro W2 ⟨hr2, hb2⟩
  clear HQ
  have HD0 : Hid (IdR L 0 (List.replicate n 0)) := ⟨by rw [List.length_replicate]; exact HNL.out, fun j hj => by omega⟩
  have HR2 := hid_of hr2
  have Hb2 := hid_of hb2
  clear hr2 hb2
  obtain ⟨gi, Hgi⟩ : ∃ gi, Hid (W1.heap.size = gi) := ⟨_, (rfl : W1.heap.size = _)⟩
  rw [Hgi.out] at HR2 Hb2 hGw ⊢
  go_wp2_with fail
  go_loopw [5] (fun s5 wx => ∃ (b : Nat) (O : List Int), b ≤ n ∧ s5 = .int .i64 b ∧ Hid (IdR L b O) ∧ Hid (Row wx gi 3 (ints O)) ∧ Hid (Below gi W1 wx)) (fun s5 _ => n - (intOf s5).toNat)
  case atStart => exact ⟨0, _, by omega, rfl, HD0, HR2, Hb2⟩
  case round =>
    obtain ⟨b, O, hb, rfl, HI, HR3, Hb3⟩ := hrel
    clear HD0 HR2 Hb2
    by_cases hbt : b < n
    · have hbL : b < L.length := by rw [← HNL.out]; exact hbt
      have hOl := HI.out.len
      have qo := HR3.out.cell (k := b) (v := .int .i64 (O[b]'(by omega))) (intsAt _)
      have fo := HR3.out.frozen b
      have hR4 := HR3.out.set b (.int .i64 (-1))
      rw [ints_set] at hR4
      have HR4 := hid_of hR4
      have Hb4 := hid_of (Hb3.out.setCell (p := ⟨gi, b, none⟩) (Nat.le_refl _) (.int .i64 (-1)))
      have hb0 : (0 : Int) ≤ (b : Int) := by omega
      have hbz : (b : Int) < (n : Int) := by omega
      clear hR4
      go_wp2_with fail
      clear qo fo HR3 Hb3
      go_loopw [6, 7] (fun s6 s7 wx => ∃ a : Nat, a ≤ n ∧ s7 = .int .i64 a ∧ s6 = .int .i64 (cntI L (idK L b a) : Nat) ∧ Hid (Row wx gi 3 (ints (O.set b (idK L b a)))) ∧ Hid (Below gi W1 wx)) (fun _ s7 _ => n - (intOf s7).toNat)
      case atStart => exact ⟨0, by omega, rfl, rfl, HR4, Hb4⟩
      case round =>
        obtain ⟨a, ha, rfl, rfl, HR5, Hb5⟩ := hrel
        clear HR4 Hb4
        by_cases hat : a < n
        · have haL : a < L.length := by rw [← HNL.out]; exact hat
          have ha0 : (0 : Int) ≤ (a : Int) := by omega
          have haz : (a : Int) < (n : Int) := by omega
          have hBx := HB1.out.below (by rw [Hgi.out]; exact Hb5.out)
          obtain ⟨gb, q1, hgb, -⟩ := hBx.get hbt
          obtain ⟨ov, Hov⟩ : ∃ ov, Hid (overS L (a : Int) (b : Int) = ov) := ⟨_, (rfl : overS L (a : Int) (b : Int) = _)⟩
          have q2 := hgb.cell (k := a) (v := .bool ov) (by rw [domsM_get hbL haL, Hov.out])
          obtain ⟨cn, Hcn⟩ : ∃ cn, Hid (cntI L (idK L b a) = cn) := ⟨_, (rfl : cntI L (idK L b a) = _)⟩
          rw [Hcn.out]
          by_cases hab : a = b
          · subst hab
            have HE : Hid (idK L a (a + 1) = idK L a a) := idK_same
            have heq : ((a : Int) == (a : Int)) = true := by simp
            clear q1 hgb q2 hBx
            go_wp2_with fail
            go_roundw
            case rel => exact ⟨a + 1, by omega, by go_num, by rw [HE.out, Hcn.out], by rw [HE.out]; exact HR5, Hb5⟩
            case measure => simp [intOf]; omega
          have heq : ((a : Int) == (b : Int)) = false := beq_eq_false_iff_ne.2 (by omega)
          cases ov with
          | false =>
            have HE : Hid (idK L b (a + 1) = idK L b a) := idK_off Hov.out
            clear hgb hBx
            go_wp2_with fail
            go_roundw
            case rel => exact ⟨a + 1, by omega, by go_num, by rw [HE.out, Hcn.out], by rw [HE.out]; exact HR5, Hb5⟩
            case measure => simp [intOf]; omega
          | true =>
            have hE := idK_step Hov.out hab
            rw [Hcn.out] at hE
            obtain ⟨ga, q3, hga, -⟩ := hBx.get hat
            have HC := hid_of (count_c wr hga (by rw [domsM_len haL, ← HNL.out]) hl)
            rw [domsM_count haL] at HC
            obtain ⟨kn, Hkn⟩ : ∃ kn, Hid ((overL L (a : Int)).length = kn) := ⟨_, (rfl : (overL L (a : Int)).length = _)⟩
            rw [Hkn.out] at HC hE
            have HE := hid_of hE
            have hOl2 : (O.set b (idK L b a)).length = L.length := by rw [List.length_set]; exact HI.out.len
            have qo := HR5.out.cell (k := b) (v := .int .i64 ((O.set b (idK L b a))[b]'(by omega))) (intsAt _)
            have fo := HR5.out.frozen b
            have hR6 := HR5.out.set b (.int .i64 a)
            rw [ints_set, List.set_set] at hR6
            have HR6 := hid_of hR6
            have Hb6 := hid_of (Hb5.out.setCell (p := ⟨gi, b, none⟩) (Nat.le_refl _) (.int .i64 a))
            clear hgb hBx hga hE hR6
            by_cases hlt : cn < kn
            · have d1 : decide ((kn : Int) > (cn : Int)) = true := by simp; omega
              have d1' : decide (cn < kn) = true := by simp; omega
              have HE2 : Hid (idK L b (a + 1) = a) := by have := HE.out; rw [if_pos hlt] at this; exact this
              have HC2 : Hid (cntI L (idK L b (a + 1)) = kn) := by
                show _ = _
                rw [HE2.out]
                unfold cntI
                rw [if_neg (by omega)]
                exact Hkn.out
              clear hlt HE
              go_wp2_with fail
              refine HC.out.mono ?_
              rintro e W7 ⟨rfl, rfl⟩
              go_wp2_with fail
              go_roundw
              case rel => exact ⟨a + 1, by omega, by go_num, by rw [HC2.out], by rw [HE2.out]; exact HR6, Hb6⟩
              case measure => simp [intOf]; omega
            · have d1 : decide ((kn : Int) > (cn : Int)) = false := by simp; omega
              have d1' : decide (cn < kn) = false := by simp; omega
              have HE2 : Hid (idK L b (a + 1) = idK L b a) := by have := HE.out; rw [if_neg hlt] at this; exact this
              clear hlt HE qo fo HR6 Hb6
              go_wp2_with fail
              refine HC.out.mono ?_
              rintro e W7 ⟨rfl, rfl⟩
              go_wp2_with fail
              go_roundw
              case rel => exact ⟨a + 1, by omega, by go_num, by rw [HE2.out, Hcn.out], by rw [HE2.out]; exact HR5, Hb5⟩
              case measure => simp [intOf]; omega
        · obtain rfl : a = n := by omega
          have HI2 := hid_of (HI.out.put hbL (idK L b a) (by rw [HNL.out, idK_all]))
          go_wp2_with fail
          go_roundw
          case rel => exact ⟨b + 1, _, by omega, by go_num, HI2, HR5, Hb5⟩
          case measure => simp [intOf]; omega
    · obtain rfl : b = n := by omega
      have hO : O = (List.range L.length).map (idS L) := by have := HI.out; rw [HNL.out] at this; exact this.done
      have HRF := hid_of (hO ▸ HR3.out)
      have HBF := hid_of (bel_call Hb1.out (by rw [Hgi.out]; exact Hb3.out))
      clear hO
      go_wp2_with fail
      go_ret
      exact ⟨gi, rfl, hGw, HRF.out, HBF.out⟩
end

section
/- The reference's 'Frontier'. -/
open Go.RowKit Go.Sort

theorem isInts_slice {p : Nat → Prop} {w : World} {z : Value} {xs : List Int} (h : IsInts p w z xs) : ∃ za zn zc, z = .slice za zn zc := by obtain ⟨_, _, h, -⟩ := h; exact ⟨_, _, _, h⟩
theorem reach_cell {L : List (List InsD)} {k : Nat} (hk : k < L.length) : (bools (fromS L 0 (-1)))[k]? = some (.bool (decide ((k : Int) ∈ orderS L))) := by
  rw [bools_get (by rw [fromS_length]; exact hk), ← reach_from hk]
  unfold sn
  rw [Int.toNat_natCast]
theorem any_predS {L : List (List InsD)} (a : Int) (b : Int) : (predS L b).any (overS L a) = (orderS L).any fun p => decide (b ∈ succS L p) && overS L a p := by
  rw [Bool.eq_iff_iff, List.any_eq_true, List.any_eq_true]
  have hm : ∀ p, p ∈ predS L b ↔ (0 ≤ p ∧ p < L.length) ∧ b ∈ succS L p := fun p => by
    unfold predS
    rw [List.mem_map]
    constructor
    · rintro ⟨i, hi, rfl⟩
      obtain ⟨h1, h2⟩ := List.mem_filter.1 hi
      have := List.mem_range.1 h1
      unfold inS at h2
      exact ⟨by omega, by simpa using h2⟩
    · rintro ⟨h1, h2⟩
      exact ⟨p.toNat, List.mem_filter.2 ⟨List.mem_range.2 (by omega), by unfold inS; rw [Int.toNat_of_nonneg h1.1]; simpa using h2⟩, by omega⟩
  constructor
  · rintro ⟨p, hp, ho⟩
    exact ⟨p, (over_mem ho).2, by simp [((hm p).1 hp).2, ho]⟩
  · rintro ⟨p, hp, ho⟩
    rw [Bool.and_eq_true, decide_eq_true_eq] at ho
    have := order_range hp
    exact ⟨p, (hm p).2 ⟨⟨this.1, this.2.1⟩, ho.1⟩, ho.2⟩
theorem front_none {L : List (List InsD)} {a : Int} (h : a ∉ orderS L) (k : Nat) : frontP L a k = [] :=
  frontP_nil fun c _ => by
    cases hf : frontB L a c with
    | false => rfl
    | true => obtain ⟨-, ⟨p, -, h2⟩, -⟩ := frontB_iff.1 hf; exact absurd (over_mem h2).1 h

set_option maxRecDepth 100000 in
set_option maxHeartbeats 16000000 in
theorem frontR_c {ba : Option Addr} {n bc : Nat} (w : World) {L : List (List InsD)} (h : IsBlocks (· < w.heap.size) w (.slice ba n bc) L) (hl : n ≤ 1000) (x : Int) :
    Calls Try.prog 54 #[.slice ba n bc, .int .i64 x] w fun e w' => ∃ z, e = .returned z ∧ w'.ownsRow w.heap.size 3 1 z (frontP L x L.length).length (ints (frontP L x L.length)) ∧ Below w.heap.size w w' := by
  have hnL : n = L.length := by obtain ⟨_, _, hv0, hl0, hx⟩ := id h; simp only [Value.slice.injEq] at hv0; exact hv0.2.1
  have HNL := hid_of hnL
  have HKP : Hid (∀ W, Below w.heap.size w W → IsBlocks (· < W.heap.size) W (.slice ba n bc) L) := fun W hW => h.keep (fun b hb hlt => ⟨Nat.lt_of_lt_of_le hb hW.size, hW.block b hlt⟩)
  have HD := hid_of (doms_c w h hl)
  have HR : Hid (∀ W, Below w.heap.size w W → Calls Try.prog 31 #[.slice ba n bc] W fun e w' => ∃ g, e = .returned (.slice (some ⟨g, 0, none⟩) n n) ∧ W.heap.size ≤ g ∧ Row w' g 4 (bools (fromS L 0 (-1))) ∧ Below W.heap.size W w') := fun W hW => by
    have := reachedQ_c W (HKP.out W hW) (by omega)
    rw [← hnL] at this
    exact this
  rw [← hnL]
  clear hnL h
  go_enter Try.func54, Try.ntmps54
  go_wp2_with fail
  refine HD.out.mono ?_
  rintro e W1 ⟨G, rfl, hG, hB1, hb1⟩
  have HR1 := hid_of (HR.out W1 hb1)
  have HB1 := hid_of hB1
  have Hb1 := hid_of hb1
  clear HD hB1 hb1 HR
  go_wp2_with fail
  refine HR1.out.mono ?_
  rintro e W2 ⟨gr, rfl, hgr, hr2, hb2⟩
  have HB2 := hid_of (HB1.out.below hb2)
  have Hb2 := hid_of (bel_call Hb1.out hb2)
  have HQ2 := hid_of hr2
  clear HR1 hr2 hb2 HB1 Hb1
  have hnil : ∀ (_ : x ∉ orderS L), frontP L x n = [] := fun hx => front_none hx n
  have HNIL := hid_of hnil
  clear hnil
  by_cases hx0 : x < 0
  · have d1 : decide (x < 0) = true := by simpa using hx0
    have hE := HNIL.out (fun hm => by have := (order_range hm).1; omega)
    have HE := hid_of hE
    clear hx0 hE
    go_wp2_with fail
    go_ret
    refine ⟨_, rfl, ?_, Hb2.out⟩
    rw [HE.out]
    exact World.ownsRow_nil _ _ _ _
  obtain ⟨xN, rfl⟩ : ∃ xN : Nat, x = xN := ⟨x.toNat, by omega⟩
  have d1 : decide ((xN : Int) < 0) = false := by simp
  by_cases hxn : n ≤ xN
  · have d2 : decide ((xN : Int) ≥ (n : Int)) = true := by simp; omega
    have d2' : decide (n ≤ xN) = true := by simp; omega
    have hE := HNIL.out (fun hm => by have := order_range hm; rw [← HNL.out] at this; omega)
    have HE := hid_of hE
    clear hx0 hxn hE
    go_wp2_with fail
    go_ret
    refine ⟨_, rfl, ?_, Hb2.out⟩
    rw [HE.out]
    exact World.ownsRow_nil _ _ _ _
  have hxL : xN < L.length := by rw [← HNL.out]; omega
  have d2 : decide ((xN : Int) ≥ (n : Int)) = false := by simp; omega
  have d2' : decide (n ≤ xN) = false := by simp; omega
  obtain ⟨rx, Hrx⟩ : ∃ rx, Hid (decide ((xN : Int) ∈ orderS L) = rx) := ⟨_, (rfl : decide ((xN : Int) ∈ orderS L) = _)⟩
  have qx := HQ2.out.cell (k := xN) (v := .bool rx) (by rw [reach_cell hxL, Hrx.out])
  have hx1 : (0 : Int) ≤ (xN : Int) := by omega
  have hx2 : (xN : Int) < (n : Int) := by omega
  have hxn2 : xN < n := by omega
  clear hx0 hxn
  cases rx with
  | false =>
    have hE := HNIL.out (by have := Hrx.out; simpa using this)
    have HE := hid_of hE
    clear hE
    go_wp2_with fail
    go_ret
    refine ⟨_, rfl, ?_, Hb2.out⟩
    rw [HE.out]
    exact World.ownsRow_nil _ _ _ _
  | true =>
  go_wp2_with fail
  clear qx
  obtain ⟨wo, rfl⟩ : ∃ wo : World, wo = W2 := ⟨_, rfl⟩
  go_loopw [7, 8] (fun s7 s8 wx => ∃ b : Nat, b ≤ n ∧ s8 = .int .i64 b ∧ Hid (wx.ownsRow wo.heap.size 3 1 s7 (frontP L xN b).length (ints (frontP L xN b))) ∧ Hid (Below wo.heap.size wo wx)) (fun _ s8 _ => n - (intOf s8).toNat)
  case atStart => exact ⟨0, by omega, rfl, World.ownsRow_nil _ _ _ _, bel_refl _⟩
  case round =>
    obtain ⟨b, hb, rfl, HO, HB⟩ := hrel
    obtain ⟨oV, rfl⟩ : ∃ oV, oV = u7 := ⟨_, rfl⟩
    by_cases hbt : b < n
    · have hbL : b < L.length := by rw [← HNL.out]; exact hbt
      have hb0 : (0 : Int) ≤ (b : Int) := by omega
      have hbz : (b : Int) < (n : Int) := by omega
      have hBx := HB2.out.below HB.out
      have hQx := HQ2.out.keep (HB.out.block gr HQ2.out.lt)
      have hany := any_predS (L := L) xN (b : Int)
      have hfs := frontP_succ L xN b
      unfold frontB at hfs
      rw [← hany] at hfs
      obtain ⟨rb, Hrb⟩ : ∃ rb, Hid (decide ((b : Int) ∈ orderS L) = rb) := ⟨_, (rfl : decide ((b : Int) ∈ orderS L) = _)⟩
      obtain ⟨ov, Hov⟩ : ∃ ov, Hid (overS L (xN : Int) (b : Int) = ov) := ⟨_, (rfl : overS L (xN : Int) (b : Int) = _)⟩
      obtain ⟨eb, Heb⟩ : ∃ eb, Hid (decide ((xN : Int) = (b : Int)) = eb) := ⟨_, (rfl : decide ((xN : Int) = (b : Int)) = _)⟩
      have hEq : ((xN : Int) == (b : Int)) = eb := by rw [← Heb.out]; rfl
      have q1 := hQx.cell (k := b) (v := .bool rb) (by rw [reach_cell hbL, Hrb.out])
      rw [Hrb.out, Hov.out, Heb.out] at hfs
      obtain ⟨gb, q2, hgb, -⟩ := hBx.get hbt
      have q3 := hgb.cell (k := xN) (v := .bool ov) (by rw [domsM_get hbL hxL, Hov.out])
      have HFS := hid_of hfs
      clear hany hfs hBx hQx hgb
      cases rb with
      | false =>
        have HE : Hid (frontP L xN (b + 1) = frontP L xN b) := by show _ = _; rw [HFS.out]; simp
        go_wp2_with fail
        go_roundw
        case rel => exact ⟨b + 1, by omega, by go_num, by rw [HE.out]; exact HO, HB⟩
        case measure => simp [intOf]; omega
      | true =>
        cases ov with
        | false =>
          have HPr := hid_of (predsR_c wr (b : Int) (HKP.out wr (bel_call Hb2.out HB.out)) (by rw [← HNL.out]; exact hl))
          have hpl : (predS L (b : Int)).length ≤ n := by rw [HNL.out]; exact predK_length L (b : Int) L.length
          go_wp2_with fail
          refine HPr.out.mono ?_
          rintro e W3 ⟨pu, rfl, hpo, hb3⟩
          clear q1 q2 q3
          have hpi : IsInts (fun _ => True) W3 pu (predS L (b : Int)) := ints_of_owns hpo (by omega) (fun _ _ _ _ => trivial)
          have hpm : ∀ z ∈ predS L (b : Int), ∃ k : Nat, z = k ∧ k < L.length := fun z hz => by
            unfold predS at hz
            obtain ⟨i, hi, rfl⟩ := List.mem_map.1 hz
            exact ⟨i, rfl, List.mem_range.1 (List.mem_filter.1 hi).1⟩
          obtain ⟨pa, pc, rfl, -, hx⟩ := id hpi
          have HB3 := hid_of (bel_call HB.out hb3)
          have HO3 := hid_of (owns_below HO.out hb3)
          obtain ⟨P, HP⟩ : ∃ P, Hid (predS L (b : Int) = P) := ⟨_, (rfl : predS L (b : Int) = _)⟩
          rw [HP.out] at hpi hpm hx hpl HFS ⊢
          obtain ⟨pn, Hpn⟩ : ∃ pn, Hid (P.length = pn) := ⟨_, (rfl : P.length = _)⟩
          rw [Hpn.out] at hpl ⊢
          have HPM := hid_of hpm
          have HX := hid_of hx
          clear HPr hpo hpi hb3 hpm hx HO HB
          go_wp2_with fail
          go_loop [7, 10] (fun s7 s10 => ∃ i : Nat, i ≤ pn ∧ s7 = oV ∧ s10 = .int .i64 i ∧ Hid ((P.take i).any (overS L xN) = false)) (fun _ s10 => pn - (intOf s10).toNat)
          case atStart => exact ⟨0, by omega, rfl, rfl, by show _ = _; simp⟩
          case round =>
            obtain ⟨i, hi, rfl, rfl, HA⟩ := hrel
            by_cases hit : i < pn
            · have hiP : i < P.length := by rw [Hpn.out]; exact hit
              rcases HX.out with hx | ⟨pb, po, rfl, -, hx⟩
              · exfalso; rw [hx] at hiP; simp at hiP
              have e1 := hx i hiP
              unfold CInt at e1
              rw [Nat.mul_one] at e1
              obtain ⟨pk, hpk, hpkl⟩ := HPM.out P[i] (List.getElem_mem hiP)
              rw [hpk] at e1
              have hpkn : pk < n := by rw [HNL.out]; exact hpkl
              obtain ⟨rp, Hrp⟩ : ∃ rp, Hid (decide ((pk : Int) ∈ orderS L) = rp) := ⟨_, (rfl : decide ((pk : Int) ∈ orderS L) = _)⟩
              obtain ⟨op, Hop⟩ : ∃ op, Hid (overS L (xN : Int) (pk : Int) = op) := ⟨_, (rfl : overS L (xN : Int) (pk : Int) = _)⟩
              have hBx := HB2.out.below HB3.out
              have q1 := (HQ2.out.keep (HB3.out.block gr HQ2.out.lt)).cell (k := pk) (v := .bool rp) (by rw [reach_cell hpkl, Hrp.out])
              obtain ⟨gp, q2, hgp, -⟩ := hBx.get hpkn
              have q3 := hgp.cell (k := xN) (v := .bool op) (by rw [domsM_get hpkl hxL, Hop.out])
              have ht := List.take_succ_eq_append_getElem hiP
              have hro : op = true → rp = true := fun ho => by rw [← Hrp.out]; have := (over_mem (Hop.out.trans ho)).2; simpa using this
              have hA2 : (P.take (i + 1)).any (overS L xN) = op := by
                rw [ht, List.any_append, HA.out, hpk]; simp [Hop.out]
              have hi0 : (0 : Int) ≤ (i : Int) := by omega
              have hiz : (i : Int) < (pn : Int) := by omega
              have hp0 : (0 : Int) ≤ (pk : Int) := by omega
              have hpz : (pk : Int) < (n : Int) := by omega
              have HA2 := hid_of hA2
              have HRO := hid_of hro
              clear hx hpk hBx hgp ht hro hA2 HX
              cases rp with
              | false =>
                have hop : op = false := by cases op with
                  | false => rfl
                  | true => exact absurd (HRO.out rfl) (by decide)
                subst hop
                go_wp2_with fail
                go_round
                case rel => exact ⟨i + 1, by omega, rfl, by go_num, HA2⟩
                case measure => simp [intOf]; omega
              | true =>
                cases op with
                | false =>
                  go_wp2_with fail
                  go_round
                  case rel => exact ⟨i + 1, by omega, rfl, by go_num, HA2⟩
                  case measure => simp [intOf]; omega
                | true =>
                  have hAll : P.any (overS L xN) = true := by
                    rw [← List.take_append_drop (i + 1) P, List.any_append, HA2.out]; rfl
                  have hE := HFS.out
                  rw [hAll] at hE
                  have hE2 : frontP L xN (b + 1) = frontP L xN b ++ [(b : Int)] := by rw [hE]; simp
                  have HE2 := hid_of hE2
                  have hfl := frontP_length L xN b
                  obtain ⟨fp, Hfp⟩ : ∃ fp, Hid (frontP L xN b = fp) := ⟨_, (rfl : frontP L xN b = _)⟩
                  have ho := HO3.out
                  rw [Hfp.out] at ho hfl
                  have hs2 := HB3.out.size
                  clear hAll hE hE2
                  go_wp2_with (at_builtin; refine stop_here ?_)
                  refine stop_go (app_int rfl _ _ rfl wo.heap.size _ fp rfl (ho.alloc _) _ (b : Int) rfl (heap_alloc_eq _ _ _ rfl) (by omega) (by simp; omega) ?_)
                  intro v' w' ho' hg hv'
                  have HBE := hid_of (bel_grown (bel_alloc HB3.out _) hg (fun b hb => (ho.lt b hb).1))
                  have HOE : Hid (w'.ownsRow wo.heap.size 3 1 v' (frontP L xN (b + 1)).length (ints (frontP L xN (b + 1)))) := by
                    rw [HE2.out, Hfp.out]
                    have h9 := ho'
                    show World.ownsRow _ _ _ _ _ _ _
                    simpa [ints] using h9
                  clear ho ho' hg hv' q1 q2 q3 e1
                  go_wp2_with fail
                  go_roundw
                  case rel => exact ⟨b + 1, by omega, by go_num, HOE, HBE⟩
                  case measure => simp [intOf]; omega
            · obtain rfl : i = pn := by omega
              have hA := HA.out
              rw [List.take_of_length_le (by rw [Hpn.out]; exact Nat.le_refl _)] at hA
              have hE := HFS.out
              rw [hA] at hE
              have HE : Hid (frontP L xN (b + 1) = frontP L xN b) := by show _ = _; rw [hE]; simp
              clear hA hE
              go_wp2_with fail
              go_roundw
              case rel => exact ⟨b + 1, by omega, by go_num, by rw [HE.out]; exact HO3, HB3⟩
              case measure => simp [intOf]; omega
        | true =>
          cases eb with
          | false =>
            have HE : Hid (frontP L xN (b + 1) = frontP L xN b) := by show _ = _; rw [HFS.out]; simp
            go_wp2_with fail
            go_roundw
            case rel => exact ⟨b + 1, by omega, by go_num, by rw [HE.out]; exact HO, HB⟩
            case measure => simp [intOf]; omega
          | true =>
            have HPr := hid_of (predsR_c wr (b : Int) (HKP.out wr (bel_call Hb2.out HB.out)) (by rw [← HNL.out]; exact hl))
            have hpl : (predS L (b : Int)).length ≤ n := by rw [HNL.out]; exact predK_length L (b : Int) L.length
            go_wp2_with fail
            refine HPr.out.mono ?_
            rintro e W3 ⟨pu, rfl, hpo, hb3⟩
            clear q1 q2 q3
            have hpi : IsInts (fun _ => True) W3 pu (predS L (b : Int)) := ints_of_owns hpo (by omega) (fun _ _ _ _ => trivial)
            have hpm : ∀ z ∈ predS L (b : Int), ∃ k : Nat, z = k ∧ k < L.length := fun z hz => by
              unfold predS at hz
              obtain ⟨i, hi, rfl⟩ := List.mem_map.1 hz
              exact ⟨i, rfl, List.mem_range.1 (List.mem_filter.1 hi).1⟩
            obtain ⟨pa, pc, rfl, -, hx⟩ := id hpi
            have HB3 := hid_of (bel_call HB.out hb3)
            have HO3 := hid_of (owns_below HO.out hb3)
            obtain ⟨P, HP⟩ : ∃ P, Hid (predS L (b : Int) = P) := ⟨_, (rfl : predS L (b : Int) = _)⟩
            rw [HP.out] at hpi hpm hx hpl HFS ⊢
            obtain ⟨pn, Hpn⟩ : ∃ pn, Hid (P.length = pn) := ⟨_, (rfl : P.length = _)⟩
            rw [Hpn.out] at hpl ⊢
            have HPM := hid_of hpm
            have HX := hid_of hx
            clear HPr hpo hpi hb3 hpm hx HO HB
            go_wp2_with fail
            go_loop [7, 10] (fun s7 s10 => ∃ i : Nat, i ≤ pn ∧ s7 = oV ∧ s10 = .int .i64 i ∧ Hid ((P.take i).any (overS L xN) = false)) (fun _ s10 => pn - (intOf s10).toNat)
            case atStart => exact ⟨0, by omega, rfl, rfl, by show _ = _; simp⟩
            case round =>
              obtain ⟨i, hi, rfl, rfl, HA⟩ := hrel
              by_cases hit : i < pn
              · have hiP : i < P.length := by rw [Hpn.out]; exact hit
                rcases HX.out with hx | ⟨pb, po, rfl, -, hx⟩
                · exfalso; rw [hx] at hiP; simp at hiP
                have e1 := hx i hiP
                unfold CInt at e1
                rw [Nat.mul_one] at e1
                obtain ⟨pk, hpk, hpkl⟩ := HPM.out P[i] (List.getElem_mem hiP)
                rw [hpk] at e1
                have hpkn : pk < n := by rw [HNL.out]; exact hpkl
                obtain ⟨rp, Hrp⟩ : ∃ rp, Hid (decide ((pk : Int) ∈ orderS L) = rp) := ⟨_, (rfl : decide ((pk : Int) ∈ orderS L) = _)⟩
                obtain ⟨op, Hop⟩ : ∃ op, Hid (overS L (xN : Int) (pk : Int) = op) := ⟨_, (rfl : overS L (xN : Int) (pk : Int) = _)⟩
                have hBx := HB2.out.below HB3.out
                have q1 := (HQ2.out.keep (HB3.out.block gr HQ2.out.lt)).cell (k := pk) (v := .bool rp) (by rw [reach_cell hpkl, Hrp.out])
                obtain ⟨gp, q2, hgp, -⟩ := hBx.get hpkn
                have q3 := hgp.cell (k := xN) (v := .bool op) (by rw [domsM_get hpkl hxL, Hop.out])
                have ht := List.take_succ_eq_append_getElem hiP
                have hro : op = true → rp = true := fun ho => by rw [← Hrp.out]; have := (over_mem (Hop.out.trans ho)).2; simpa using this
                have hA2 : (P.take (i + 1)).any (overS L xN) = op := by
                  rw [ht, List.any_append, HA.out, hpk]; simp [Hop.out]
                have hi0 : (0 : Int) ≤ (i : Int) := by omega
                have hiz : (i : Int) < (pn : Int) := by omega
                have hp0 : (0 : Int) ≤ (pk : Int) := by omega
                have hpz : (pk : Int) < (n : Int) := by omega
                have HA2 := hid_of hA2
                have HRO := hid_of hro
                clear hx hpk hBx hgp ht hro hA2 HX
                cases rp with
                | false =>
                  have hop : op = false := by cases op with
                    | false => rfl
                    | true => exact absurd (HRO.out rfl) (by decide)
                  subst hop
                  go_wp2_with fail
                  go_round
                  case rel => exact ⟨i + 1, by omega, rfl, by go_num, HA2⟩
                  case measure => simp [intOf]; omega
                | true =>
                  cases op with
                  | false =>
                    go_wp2_with fail
                    go_round
                    case rel => exact ⟨i + 1, by omega, rfl, by go_num, HA2⟩
                    case measure => simp [intOf]; omega
                  | true =>
                    have hAll : P.any (overS L xN) = true := by
                      rw [← List.take_append_drop (i + 1) P, List.any_append, HA2.out]; rfl
                    have hE := HFS.out
                    rw [hAll] at hE
                    have hE2 : frontP L xN (b + 1) = frontP L xN b ++ [(b : Int)] := by rw [hE]; simp
                    have HE2 := hid_of hE2
                    have hfl := frontP_length L xN b
                    obtain ⟨fp, Hfp⟩ : ∃ fp, Hid (frontP L xN b = fp) := ⟨_, (rfl : frontP L xN b = _)⟩
                    have ho := HO3.out
                    rw [Hfp.out] at ho hfl
                    have hs2 := HB3.out.size
                    clear hAll hE hE2
                    go_wp2_with (at_builtin; refine stop_here ?_)
                    refine stop_go (app_int rfl _ _ rfl wo.heap.size _ fp rfl (ho.alloc _) _ (b : Int) rfl (heap_alloc_eq _ _ _ rfl) (by omega) (by simp; omega) ?_)
                    intro v' w' ho' hg hv'
                    have HBE := hid_of (bel_grown (bel_alloc HB3.out _) hg (fun b hb => (ho.lt b hb).1))
                    have HOE : Hid (w'.ownsRow wo.heap.size 3 1 v' (frontP L xN (b + 1)).length (ints (frontP L xN (b + 1)))) := by
                      rw [HE2.out, Hfp.out]
                      have h9 := ho'
                      show World.ownsRow _ _ _ _ _ _ _
                      simpa [ints] using h9
                    clear ho ho' hg hv' q1 q2 q3 e1
                    go_wp2_with fail
                    go_roundw
                    case rel => exact ⟨b + 1, by omega, by go_num, HOE, HBE⟩
                    case measure => simp [intOf]; omega
              · obtain rfl : i = pn := by omega
                have hA := HA.out
                rw [List.take_of_length_le (by rw [Hpn.out]; exact Nat.le_refl _)] at hA
                have hE := HFS.out
                rw [hA] at hE
                have HE : Hid (frontP L xN (b + 1) = frontP L xN b) := by show _ = _; rw [hE]; simp
                clear hA hE
                go_wp2_with fail
                go_roundw
                case rel => exact ⟨b + 1, by omega, by go_num, by rw [HE.out]; exact HO3, HB3⟩
                case measure => simp [intOf]; omega
    · obtain rfl : b = n := by omega
      go_wp2_with fail
      go_ret
      exact ⟨_, rfl, owns_mono HO.out Hb2.out.size, bel_call Hb2.out HB.out⟩
end
end Go.Proofs.Ytcihobmjohpnkaa
