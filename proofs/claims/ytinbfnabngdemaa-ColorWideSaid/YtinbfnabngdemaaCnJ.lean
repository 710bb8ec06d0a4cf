/- 'joined': of each node those that it is paired with. -/
import Derived.Test.YtinbfnabngdemaaCmC
import Derived.Test.YtinbfnabngdemaaCoO
import Derived.Test.YtinbfnabngdemaaCnA
import Derived.StillTailTactics
import Derived.Laws.Pointers
namespace Go.Proofs.Ytinbfnabngdemaa
open Go.RowKit Go.Maps Go.Sort Go.Shelf Go.WideMaps Go.ChangeMaps Go.WideElems

theorem infoMapI : (Try.prog.info? 71).map (fun i => (i.zero, i.size, i.bytes)) = some (some (.map none), 1, 8) := by kernel_rfl
/-- 'make([]map[int]int, n)'. -/
theorem mk_maps {ops : Array Oper} {rest : List Oper} {o : Oper} {a : Act} {Q : Exit → Act → World → Prop} {W : World}
    (hgd : o.guard = none) (l c : Operand) (hop : o.op = Op.makeSlice 56 l c) (n : Nat) (hl : a.eval l = .int .i64 n) (hc : a.eval c = .int .i64 n) (hn : n ≤ 1000000)
    (h : wpList Try.prog ops Q rest (a.put o.dst (.slice (some ⟨W.heap.size, 0, none⟩) n n)) (W.alloc (.cells (List.replicate n (Value.map none)).toArray 71))) :
    wpList Try.prog ops Q (o :: rest) a W := by
  obtain ⟨i0, hi, hz0, hz1, hz2⟩ := info_parts infoMapI
  exact wp_make1 W hgd l c 56 hop 71 i0 _ (.map none) 8 Try.underlying56 hi hz0 hz1 hz2 rfl n hl hc (by omega) (by omega) h

/-- The maps of the first t pairs. -/
structure JnS (E : List (Int × Int)) (n g t : Nat) (w W : World) : Prop where
  row : Row W g 71 ((List.range n).map fun i => Value.map (some (g + 1 + i)))
  mp : ∀ i, i < n → IsIs W (g + 1 + i) (2 * t) (fun m => adjS (E.take t) i m)
  bel : Below w.heap.size w W
theorem adj_one (E : List (Int × Int)) (x y : Nat) (i m : Nat) : adjS (E ++ [((x : Int), (y : Int))]) i m = (adjS E i m || (decide (i = x ∧ m = y) || decide (i = y ∧ m = x))) := by
  rw [adjS_snoc]
  congr 1
  have h1 : ((((x : Int), (y : Int)) : Int × Int) == ((i : Int), (m : Int))) = decide (i = x ∧ m = y) := by
    rw [Bool.eq_iff_iff]; simp; omega
  have h2 : ((((x : Int), (y : Int)) : Int × Int) == ((m : Int), (i : Int))) = decide (i = y ∧ m = x) := by
    rw [Bool.eq_iff_iff]; simp; omega
  rw [h1, h2]

set_option maxRecDepth 100000 in
set_option maxHeartbeats 4000000 in
theorem joined_c {p : Nat → Prop} {a : Option Addr} {en cap : Nat} {E : List (Int × Int)} (w : World) (n : Nat) (h : IsPairs p w (.slice a en cap) E) (hp : ∀ b, p b → b < w.heap.size) (hE : ∀ q ∈ E, EndP q n) (hn : n ≤ 1000) (hel : E.length ≤ 100000) :
    Calls Try.prog 37 #[.slice a en cap, .int .i64 (n : Int)] w fun e w' => e = .returned (.slice (some ⟨w.heap.size, 0, none⟩) n n) ∧ JnS E n w.heap.size E.length w w' := by
  have HN := hid_of (sl_len h).1
  have HH := hid_of h
  have HP := hid_of hp
  have HE := hid_of hE
  have hmx := (sl_len h).2.1
  have hen : en ≤ 100000 := by rw [(sl_len h).1]; exact hel
  have hmm := @run_makeMap Try.prog
  clear h hp hE
  go_enter Try.func37, Try.ntmps37
  go_wp2_with (at_make; refine stop_here ?_)
  refine stop_go (mk_maps rfl _ _ rfl n rfl rfl (by omega) ?_)
  have H0 : Hid (Row (w.alloc (.cells (List.replicate n (Value.map none)).toArray 71)) w.heap.size 71 ((List.range n).map fun j => if j < 0 then Value.map (some (w.heap.size + 1 + j)) else .map none) ∧ (∀ j, j < 0 → (w.alloc (.cells (List.replicate n (Value.map none)).toArray 71)).heap[w.heap.size + 1 + j]? = some (.map #[] 0)) ∧ (w.alloc (.cells (List.replicate n (Value.map none)).toArray 71)).heap.size = w.heap.size + 1 + 0 ∧ Below w.heap.size w (w.alloc (.cells (List.replicate n (Value.map none)).toArray 71))) := by
    refine ⟨?_, fun j hj => by omega, by simp, bel_alloc (bel_refl w) _⟩
    have e : ((List.range n).map fun j => if j < 0 then Value.map (some (w.heap.size + 1 + j)) else .map none) = List.replicate n (Value.map none) := by
      refine List.ext_getElem (by simp) fun i h1 h2 => by simp
    rw [e]
    exact heap_alloc_eq _ _ _ rfl
  generalize w.alloc (.cells (List.replicate n (Value.map none)).toArray 71) = W0 at *
  go_wp2_with fail
  go_loopw [13] (fun s13 wx => ∃ i : Nat, i ≤ n ∧ s13 = .int .i64 i ∧ Hid (Row wx w.heap.size 71 ((List.range n).map fun j => if j < i then Value.map (some (w.heap.size + 1 + j)) else .map none) ∧ (∀ j, j < i → wx.heap[w.heap.size + 1 + j]? = some (.map #[] 0)) ∧ wx.heap.size = w.heap.size + 1 + i ∧ Below w.heap.size w wx)) (fun s13 _ => n - (intOf s13).toNat)
  case atStart => exact ⟨0, by omega, rfl, H0⟩
  case round =>
    obtain ⟨i, hi, rfl, HI⟩ := hrel
    clear H0
    by_cases hlt : i < n
    · obtain ⟨h1, h2, h3, h4⟩ := HI.out
      have hiz : (i : Int) < (n : Int) := by omega
      have hc0 := h1.cell (k := i) (get_range hlt)
      rw [if_neg (by omega)] at hc0
      have hfr := h1.frozen i
      have hne : wr.heap.size ≠ w.heap.size := by omega
      have ha : Row (wr.alloc (.map #[] 0)) w.heap.size 71 ((List.range n).map fun j => if j < i then Value.map (some (w.heap.size + 1 + j)) else .map none) := heap_alloc_ne _ _ _ _ h1
      have hc1 := ha.cell (k := i) (get_range hlt)
      rw [if_neg (by omega)] at hc1
      have hfa := ha.frozen i
      have HNX : Hid (Row ((wr.alloc (.map #[] 0)).setCell ⟨w.heap.size, i, none⟩ (.map (some wr.heap.size))) w.heap.size 71 ((List.range n).map fun j => if j < i + 1 then Value.map (some (w.heap.size + 1 + j)) else .map none) ∧ (∀ j, j < i + 1 → ((wr.alloc (.map #[] 0)).setCell ⟨w.heap.size, i, none⟩ (.map (some wr.heap.size))).heap[w.heap.size + 1 + j]? = some (.map #[] 0)) ∧ ((wr.alloc (.map #[] 0)).setCell ⟨w.heap.size, i, none⟩ (.map (some wr.heap.size))).heap.size = w.heap.size + 1 + (i + 1) ∧ Below w.heap.size w ((wr.alloc (.map #[] 0)).setCell ⟨w.heap.size, i, none⟩ (.map (some wr.heap.size)))) := by
        refine ⟨?_, fun j hj => ?_, by simp; omega, (bel_alloc h4 _).setCell (by show w.heap.size ≤ w.heap.size; omega) _⟩
        · have := ha.set i (.map (some wr.heap.size))
          rw [map_set_range] at this
          refine Eq.mp (congrArg (Row _ _ _) (List.map_congr_left fun j hj => ?_)) this
          by_cases e : j = i
          · subst e; rw [if_pos rfl, if_pos (by omega), h3]
          · rw [if_neg e]
            by_cases e2 : j < i
            · rw [if_pos e2, if_pos (by omega)]
            · rw [if_neg e2, if_neg (by omega)]
        · refine (Below.heap_setCell _ _ _ _ (by show _ ≠ w.heap.size; omega)).trans ?_
          by_cases e : j = i
          · subst e; exact heap_alloc_eq _ _ _ (by omega)
          · exact heap_alloc_ne _ _ _ _ (h2 j (by omega))
      clear h1 h2 h3 h4 ha HI
      go_wp2_with fail
      go_roundw
      case rel => exact ⟨i + 1, by omega, by go_num, HNX⟩
      case measure => simp [intOf]; omega
    · obtain rfl : n = i := by omega
      obtain ⟨h1, h2, h3, h4⟩ := HI.out
      have HJ0 : Hid (JnS E n w.heap.size 0 w wr) := by
        refine ⟨?_, fun i hi => (IsIs.of_empty (h2 i hi)).congr (fun k => by simp [adjS]), h4⟩
        refine Eq.mp (congrArg (Row _ _ _) (List.map_congr_left fun j hj => ?_)) h1
        rw [if_pos (List.mem_range.1 hj)]
      clear h1 h2 h3 h4 HI
      go_wp2_with fail
      go_loopw [23] (fun s23 wx => ∃ k : Nat, k ≤ en ∧ s23 = .int .i64 k ∧ Hid (JnS E n w.heap.size k w wx)) (fun s23 _ => en - (intOf s23).toNat)
      case atStart => exact ⟨0, by omega, rfl, HJ0⟩
      case round =>
        obtain ⟨k, hk, rfl, HK⟩ := hrel
        clear HJ0
        by_cases hlt : k < en
        · have hkl : k < E.length := by rw [← HN.out]; exact hlt
          obtain ⟨b, off, rfl, hpb, hc⟩ := sl_at HH.out (by omega)
          obtain ⟨c1, c2⟩ := hc k hkl
          have hbw := HP.out b hpb
          have c1 := (HK.out.bel.cell (p := ⟨b, off + k * 2, none⟩) hbw).trans c1
          have c2 := (HK.out.bel.cell (p := ⟨b, off + k * 2 + 1, none⟩) hbw).trans c2
          have hts : E.take (k + 1) = E.take k ++ [E[k]] := List.take_succ_eq_append_getElem hkl
          have hend := HE.out _ (List.getElem_mem hkl)
          obtain ⟨⟨x, y⟩, Hy⟩ : ∃ q, Hid (E[k] = q) := ⟨_, (rfl : E[k] = _)⟩
          rw [Hy.out] at c1 c2 hts hend
          unfold EndP at hend
          dsimp only at hend c1 c2
          obtain ⟨x, rfl⟩ : ∃ z : Nat, x = (z : Int) := ⟨x.toNat, by omega⟩
          obtain ⟨y, rfl⟩ : ∃ z : Nat, y = (z : Int) := ⟨y.toNat, by omega⟩
          have hxn : x < n := by omega
          have hyn : y < n := by omega
          have hxy : x ≠ y := by omega
          have HTS := hid_of hts
          have hkz : (k : Int) < (en : Int) := by omega
          have hxz : (x : Int) < (n : Int) := by omega
          have hyz : (y : Int) < (n : Int) := by omega
          have hk2 : 2 * k + 1 ≤ 1000000 := by omega
          clear hts hc hpb hbw hend
          go_upto_region 11 with fail
          have hb0 := bel_alloc (bel_refl wr) (.cells #[.int .i64 (x : Int), .int .i64 (y : Int)] 37)
          have hJ1 : JnS E n w.heap.size k w (wr.alloc (.cells #[.int .i64 (x : Int), .int .i64 (y : Int)] 37)) := ⟨HK.out.row.keep (hb0.block _ HK.out.row.lt), fun i hi => (HK.out.mp i hi).keep (hb0.block _ (HK.out.mp i hi).lt), bel_call HK.out.bel hb0⟩
          have hR1 : Row (wr.alloc (.cells #[.int .i64 (x : Int), .int .i64 (y : Int)] 37)) wr.heap.size 37 [.int .i64 (x : Int), .int .i64 (y : Int)] := heap_alloc_eq _ _ _ rfl
          have hgl := (HK.out.mp x hxn).lt
          have hgl2 := (HK.out.mp y hyn).lt
          have hgr := HK.out.row.lt
          refine wp_at (fun X => JnS E n w.heap.size k w X ∧ Row X wr.heap.size 37 [.int .i64 (x : Int), .int .i64 (y : Int)]) ⟨hJ1, hR1⟩ ?_
          clear hJ1 hR1 hb0 c1 c2
          rintro X ⟨hJ, hR⟩
          have q0 := hR.cell (k := 0) rfl
          have q1 := hR.cell (k := 1) rfl
          have m0 := hJ.row.cell (k := x) (get_range hxn)
          have HJ := hid_of hJ
          have HR := hid_of hR
          clear hJ hR
          go_still_tail 7, (by kernel_rfl)
          change wpList _ _ _ _ _ X.drew
          refine wp_putI rfl _ _ _ rfl ((HJ.out.mp x hxn).keep rfl) (by omega) (x := y) rfl rfl rfl (by omega) ?_
          intro X2 hI2 ht2
          have hg2 := ht2.grown
          have hkp : ∀ b, b < X.heap.size → b ≠ w.heap.size + 1 + x → X2.heap[b]? = X.heap[b]? := fun b hb hne => hg2.block b hb (fun e => hne (by injection e))
          have hrow2 := HJ.out.row.keep (hkp _ HJ.out.row.lt (by omega))
          have hR2 := HR.out.keep (hkp _ HR.out.lt (by omega))
          have hbel2 : Below w.heap.size w X2 := (HJ.out.bel.drew).grown hg2 (by have := HJ.out.bel.size; exact this) (fun k e => by cases e; omega)
          have q0 := hR2.cell (k := 0) rfl
          have q1 := hR2.cell (k := 1) rfl
          have m1 := hrow2.cell (k := y) (get_range hyn)
          have HMY := hid_of ((HJ.out.mp y hyn).keep (hkp _ (HJ.out.mp y hyn).lt (by omega)))
          have HMO := hid_of (fun i (hi : i < n) (h1 : i ≠ x) => (HJ.out.mp i hi).keep (hkp _ (HJ.out.mp i hi).lt (by omega)))
          have HI2 := hid_of hI2
          have HROW := hid_of hrow2
          have HBEL := hid_of hbel2
          clear ht2 hg2 hkp hrow2 hR2 hbel2 hI2 m0
          go_wp2_with fail
          go_still_tail 7, (by kernel_rfl)
          change wpList _ _ _ _ _ X2.drew
          refine wp_putI rfl _ _ _ rfl (HMY.out.keep rfl) (by omega) (x := x) rfl rfl rfl (by omega) ?_
          intro X3 hI3 ht3
          have hg3 := ht3.grown
          have hkp : ∀ b, b < X2.heap.size → b ≠ w.heap.size + 1 + y → X3.heap[b]? = X2.heap[b]? := fun b hb hne => hg3.block b hb (fun e => hne (by injection e))
          have HF : Hid (JnS E n w.heap.size (k + 1) w X3) := by
            refine ⟨HROW.out.keep (hkp _ HROW.out.lt (by omega)), fun i hi => ?_, (HBEL.out.drew).grown hg3 (by have := HBEL.out.size; exact this) (fun k e => by cases e; omega)⟩
            rw [HTS.out]
            by_cases e1 : i = x
            · subst e1
              refine ((HI2.out.keep (hkp _ HI2.out.lt (by omega))).mono (by omega)).congr fun m => ?_
              rw [adj_one]; simp [hxy]
            · by_cases e2 : i = y
              · subst e2
                refine (hI3.mono (by omega)).congr fun m => ?_
                rw [adj_one]; simp [e1]
              · refine (((HMO.out i hi e1).keep (hkp _ (HMO.out i hi e1).lt (by omega))).mono (by omega)).congr fun m => ?_
                rw [adj_one]; simp [e1, e2]
          clear hI3 ht3 hg3 hkp HMY HMO HI2 HROW HBEL q0 q1 m1 HJ HR HK
          go_wp2_with fail
          go_roundw
          case rel => exact ⟨k + 1, by omega, by go_num, HF⟩
          case measure => simp [intOf]; omega
        · obtain rfl : en = k := by omega
          have HF : Hid (JnS E n w.heap.size E.length w wr) := by rw [← HN.out]; exact HK.out
          clear HK
          go_wp2_with fail
          go_ret
          exact ⟨rfl, HF.out⟩
end Go.Proofs.Ytinbfnabngdemaa
