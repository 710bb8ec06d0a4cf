/- The reference's 'Near'. -/
import Derived.Test.YtinbfnabngdemaaCrA
import Derived.Test.YtinbfnabngdemaaCxS
import Derived.Test.YtinbfnabngdemaaCnJ
namespace Go.Proofs.Ytinbfnabngdemaa
open Go.RowKit

/-- A number put into a rising list. -/
theorem putS_ris {l : List Int} (hl : l.Pairwise (· < ·)) {n : Int} (hn : 0 ≤ n ∧ n ≤ 65535) : (putS l n).Pairwise (· < ·) ∧ ∀ x, x ∈ putS l n ↔ x = n ∨ x ∈ l := by
  have hf : Bit.fits n = true := by unfold Bit.fits; simp; omega
  unfold putS
  rw [if_pos hf]
  have htw : ∀ x ∈ l.takeWhile (fun x => decide (x < n)), x < n := fun x hx => by
    have := List.all_takeWhile (p := fun x : Int => decide (x < n)) (l := l)
    rw [List.all_eq_true] at this
    simpa using this x hx
  have hsp : l.takeWhile (fun x => decide (x < n)) ++ l.dropWhile (fun x => decide (x < n)) = l := List.takeWhile_append_dropWhile
  have hdw : ∀ y r, l.dropWhile (fun x => decide (x < n)) = y :: r → n ≤ y := fun y r e => by
    have := List.head?_dropWhile_not (p := fun x : Int => decide (x < n)) l
    rw [e] at this
    simpa using this
  generalize l.takeWhile (fun x => decide (x < n)) = a at *
  generalize l.dropWhile (fun x => decide (x < n)) = b at *
  subst hsp
  rw [List.pairwise_append] at hl
  obtain ⟨h1, h2, h3⟩ := hl
  cases b with
  | nil =>
    refine ⟨List.pairwise_append.2 ⟨h1, by simp, fun x hx y hy => by rw [List.mem_singleton.1 hy]; exact htw x hx⟩, fun x => by simp [or_comm]⟩
  | cons y r =>
    have hy := hdw y r rfl
    dsimp only
    by_cases e : y = n
    · rw [if_pos e]
      refine ⟨List.pairwise_append.2 ⟨h1, h2, h3⟩, fun x => ?_⟩
      subst e
      simp
      exact fun h => .inr (.inl h)
    · rw [if_neg e]
      obtain ⟨h4, h5⟩ := List.pairwise_cons.1 h2
      refine ⟨List.pairwise_append.2 ⟨h1, List.pairwise_cons.2 ⟨fun z hz => ?_, h2⟩, fun x hx z hz => ?_⟩, fun x => ?_⟩
      · rcases List.mem_cons.1 hz with rfl | hz
        · omega
        · have := h4 z hz; omega
      · rcases List.mem_cons.1 hz with rfl | hz
        · exact htw x hx
        · exact h3 x hx z hz
      · simp only [List.mem_append, List.mem_cons]
        constructor
        · rintro (h | h | h | h)
          · exact .inr (.inl h)
          · exact .inl h
          · exact .inr (.inr (.inl h))
          · exact .inr (.inr (.inr h))
        · rintro (h | h | h | h)
          · exact .inr (.inl h)
          · exact .inl h
          · exact .inr (.inr (.inl h))
          · exact .inr (.inr (.inr h))
/-- The neighbours by some of the pairs, rising. -/
def nrI (E : List (Int × Int)) (n v : Nat) : List Int := ((List.range n).filter fun m => adjS E v m).map fun (m : Nat) => (m : Int)
theorem nrI_ris (E : List (Int × Int)) (n v : Nat) : (nrI E n v).Pairwise (· < ·) := by
  unfold nrI
  rw [List.pairwise_map]
  exact (List.pairwise_lt_range.filter _).imp fun h => by omega
theorem mem_nrI {E : List (Int × Int)} {n v : Nat} {x : Int} : x ∈ nrI E n v ↔ 0 ≤ x ∧ x.toNat < n ∧ adjS E v x.toNat = true := by
  unfold nrI
  rw [List.mem_map]
  constructor
  · rintro ⟨m, hm, rfl⟩
    have := List.mem_filter.1 hm
    exact ⟨by omega, by simpa using List.mem_range.1 this.1, by simpa using this.2⟩
  · rintro ⟨h0, h1, h2⟩
    exact ⟨x.toNat, List.mem_filter.2 ⟨List.mem_range.2 h1, h2⟩, by omega⟩
theorem nrI_len (E : List (Int × Int)) (n v : Nat) : (nrI E n v).length ≤ n := by unfold nrI; rw [List.length_map]; exact Nat.le_trans (List.length_filter_le _ _) (by simp)
/-- One more pair: row by row. -/
theorem nrI_put {E : List (Int × Int)} {n v y : Nat} (hy : y < n) (hn : n ≤ 1000) {P : Nat → Bool} (hP : ∀ m, P m = (adjS E v m || decide (m = y))) : putS (nrI E n v) (y : Int) = ((List.range n).filter P).map fun (m : Nat) => (m : Int) := by
  obtain ⟨h1, h2⟩ := putS_ris (nrI_ris E n v) (n := (y : Int)) (by omega)
  refine len_of_mem h1 ?_ fun x => ?_
  · rw [List.pairwise_map]
    exact (List.pairwise_lt_range.filter _).imp fun h => by omega
  · rw [h2, mem_nrI, List.mem_map]
    constructor
    · rintro (rfl | ⟨h3, h4, h5⟩)
      · exact ⟨y, List.mem_filter.2 ⟨List.mem_range.2 hy, by rw [hP]; simp⟩, rfl⟩
      · exact ⟨x.toNat, List.mem_filter.2 ⟨List.mem_range.2 h4, by rw [hP, h5]; rfl⟩, by omega⟩
    · rintro ⟨m, hm, rfl⟩
      obtain ⟨h3, h4⟩ := List.mem_filter.1 hm
      rw [hP] at h4
      by_cases e : m = y
      · subst e; exact .inl rfl
      · right
        have h5 : adjS E v m = true := by simpa [e] using h4
        exact ⟨by omega, by simpa using List.mem_range.1 h3, by simpa using h5⟩
theorem nrI_first {E : List (Int × Int)} {n x y : Nat} (hx : x < n) (hy : y < n) (hn : n ≤ 1000) (hxy : x ≠ y) :
    (((List.range n).map (nrI E n)).set x (putS (nrI E n x) (y : Int))).set y (putS (nrI E n y) (x : Int)) = (List.range n).map (nrI (E ++ [((x : Int), (y : Int))]) n) := by
  rw [map_set_range, map_set_range]
  refine List.map_congr_left fun v hv => ?_
  have hv := List.mem_range.1 hv
  by_cases e1 : v = y
  · subst e1
    rw [if_pos rfl]
    refine nrI_put hx hn fun m => ?_
    rw [adj_one]; simp [Ne.symm hxy]
  · rw [if_neg e1]
    by_cases e2 : v = x
    · subst e2
      rw [if_pos rfl]
      refine nrI_put hy hn fun m => ?_
      rw [adj_one]; simp [e1]
    · rw [if_neg e2]
      unfold nrI
      congr 1
      refine List.filter_congr fun m _ => ?_
      rw [adj_one]; simp [e1, e2]
theorem getD_range_map {α : Type} (f : Nat → List α) {n i : Nat} (h : i < n) : ((List.range n).map f).getD i [] = f i := by simp [List.getD, h]

set_option maxRecDepth 100000 in
set_option maxHeartbeats 4000000 in
theorem nearR_c (w : World) {ea ma aa la : Option Addr} {en ec mn mc n ac ln lc : Nat} {G : GD} (h : IsGr (· < w.heap.size) w ⟨ea, en, ec, ma, mn, mc, aa, n, ac, la, ln, lc⟩ G) (hG : ∀ q ∈ G.E, EndP q n) (hn : n ≤ 1000) (hE : G.E.length ≤ 100000) :
    Calls Try.prog 33 #[.agg #[.slice ea en ec, .slice ma mn mc, .slice aa n ac, .slice la ln lc]] w fun e w' => ∃ g, e = .returned (.slice (some ⟨g, 0, none⟩) n n) ∧ w.heap.size ≤ g ∧ IsRows (w.heap.size ≤ ·) w' (.slice (some ⟨g, 0, none⟩) n n) ((List.range n).map (nrI G.E n)) ∧ Below w.heap.size w w' := by
  obtain ⟨he, -, -, -⟩ := h.lens
  dsimp only at he
  have hec := (sl_len h.e).2.1
  dsimp only at hec
  have hen : en ≤ 100000 := by omega
  have HH := hid_of h
  have HE := hid_of he
  have HG := hid_of hG
  clear h he hG
  go_enter Try.func33, Try.ntmps33
  have hr0 : Row (w.alloc (.cells #[.slice ea en ec, .slice ma mn mc, .slice aa n ac, .slice la ln lc] 25)) w.heap.size 25 [.slice ea en ec, .slice ma mn mc, .slice aa n ac, .slice la ln lc] := heap_alloc_eq _ _ _ rfl
  have q2 := hr0.cell (k := 2) rfl
  go_wp2_with (at_make; refine stop_here ?_)
  refine stop_go (mk_rowsI rfl _ _ rfl n rfl rfl (by omega) ?_)
  have H0 : Hid (IRow (fun b => w.heap.size + 1 < b) (w.heap.size + 1) ((List.range n).map (nrI (G.E.take 0) n)) ((w.alloc (.cells #[.slice ea en ec, .slice ma mn mc, .slice aa n ac, .slice la ln lc] 25)).alloc (.cells (List.replicate n (Value.slice none 0 0)).toArray 31)) ∧
      Row ((w.alloc (.cells #[.slice ea en ec, .slice ma mn mc, .slice aa n ac, .slice la ln lc] 25)).alloc (.cells (List.replicate n (Value.slice none 0 0)).toArray 31)) w.heap.size 25 [.slice ea en ec, .slice ma mn mc, .slice aa n ac, .slice la ln lc] ∧
      Below w.heap.size w ((w.alloc (.cells #[.slice ea en ec, .slice ma mn mc, .slice aa n ac, .slice la ln lc] 25)).alloc (.cells (List.replicate n (Value.slice none 0 0)).toArray 31))) := by
    refine ⟨?_, heap_alloc_ne _ _ _ _ hr0, bel_alloc (bel_alloc (bel_refl w) _) _⟩
    have e : (List.range n).map (nrI (G.E.take 0) n) = List.replicate n [] := by
      refine List.ext_getElem (by simp) fun i h1 h2 => ?_
      simp [nrI, adjS]
    rw [e]
    exact IRow.start (heap_alloc_eq _ _ _ (by simp)) (by omega)
  clear hr0 q2
  generalize (w.alloc (.cells #[.slice ea en ec, .slice ma mn mc, .slice aa n ac, .slice la ln lc] 25)).alloc (.cells (List.replicate n (Value.slice none 0 0)).toArray 31) = W0 at *
  go_wp2_with fail
  go_loopw [4] (fun s4 wx => ∃ k : Nat, k ≤ en ∧ s4 = .int .i64 k ∧ Hid (IRow (fun b => w.heap.size + 1 < b) (w.heap.size + 1) ((List.range n).map (nrI (G.E.take k) n)) wx ∧ Row wx w.heap.size 25 [.slice ea en ec, .slice ma mn mc, .slice aa n ac, .slice la ln lc] ∧ Below w.heap.size w wx)) (fun s4 _ => en - (intOf s4).toNat)
  case atStart => exact ⟨0, by omega, rfl, H0⟩
  case round =>
    obtain ⟨k, hk, rfl, HK⟩ := hrel
    clear H0
    obtain ⟨hI, hrw, hbl⟩ := HK.out
    have q0 := hrw.cell (k := 0) rfl
    by_cases hlt : k < en
    · have hkE : k < G.E.length := by rw [← HE.out]; exact hlt
      obtain ⟨b, off, rfl, hpb, hc⟩ := sl_at HH.out.e (by omega)
      obtain ⟨c1, c2⟩ := hc k hkE
      have c1 := (hbl.cell (p := ⟨b, off + k * 2, none⟩) hpb).trans c1
      have c2 := (hbl.cell (p := ⟨b, off + k * 2 + 1, none⟩) hpb).trans c2
      have hts : G.E.take (k + 1) = G.E.take k ++ [G.E[k]] := List.take_succ_eq_append_getElem hkE
      have hend := HG.out _ (List.getElem_mem hkE)
      obtain ⟨⟨x, y⟩, Hy⟩ : ∃ q, Hid (G.E[k] = q) := ⟨_, (rfl : G.E[k] = _)⟩
      rw [Hy.out] at c1 c2 hts hend
      unfold EndP at hend
      dsimp only at hend c1 c2
      obtain ⟨x, rfl⟩ : ∃ z : Nat, x = (z : Int) := ⟨x.toNat, by omega⟩
      obtain ⟨y, rfl⟩ : ∃ z : Nat, y = (z : Int) := ⟨y.toNat, by omega⟩
      have hxn : x < n := by omega
      have hyn : y < n := by omega
      have hxy : x ≠ y := by omega
      have HTS := hid_of hts
      have hkz : (k : Int) < (en : Int) := by omega
      have hxz : (x : Int) < (n : Int) := by omega
      have hyz : (y : Int) < (n : Int) := by omega
      have HXY := hid_of hxy
      obtain ⟨ra, rc, cr, hri⟩ := hI.get (j := x) (by simp [hxn])
      rw [getD_range_map _ hxn] at cr hri
      have HP1 := hid_of (put_c wr (y : Int) hri (Nat.le_trans (nrI_len _ _ _) (by omega)))
      obtain ⟨l1, Hl1⟩ : ∃ l, Hid ((nrI (G.E.take k) n x).length = l) := ⟨_, (rfl : (nrI (G.E.take k) n x).length = _)⟩
      rw [Hl1.out] at cr HP1
      have HI := hid_of hI
      have HR := hid_of hrw
      have HB := hid_of hbl
      have hpb' : b < w.heap.size := hpb
      clear hts hc hpb hend hI hrw hbl hri HK hxy
      go_wp2_with fail
      refine HP1.out.mono ?_
      rintro e W1 ⟨z, rfl, hz, hb1⟩
      have hI1 := HI.out.below hb1
      have hlt1 := HR.out.lt
      have hz1 : IsInts (fun b => w.heap.size + 1 < b) W1 z (putS (nrI (G.E.take k) n x) (y : Int)) := hz.mono (fun b hb => by have := HI.out.lt; omega)
      obtain ⟨za, zn, zc, rfl⟩ := ints_slice hz1
      have hI2 := hI1.set (j := x) hz1
      have hgf := hI1.frozen x
      obtain ⟨ra', rc', cg, -⟩ := hI1.get (j := x) (by simp [hxn])
      have HI2 := hid_of hI2
      have hr1 := HR.out.keep (hb1.block _ hlt1)
      have HR2 := hid_of (hr1.other (a := ⟨w.heap.size + 1, x, none⟩) (by show w.heap.size ≠ w.heap.size + 1; omega) (.slice za zn zc))
      have hbw1 := bel_call HB.out hb1
      have HB2 := hid_of (bel_setCell (a := ⟨w.heap.size + 1, x, none⟩) (u := .slice za zn zc) hbw1 (by show w.heap.size ≤ w.heap.size + 1; omega))
      have c2 := (cell_of_block (hb1.block _ (lt_of_cell c2)) (off + k * 2 + 1)).trans c2
      have c1 := (cell_of_block (hb1.block _ (lt_of_cell c1)) (off + k * 2)).trans c1
      obtain ⟨sa, sc, cs, hsi⟩ := hI2.get (j := y) (by simp [hyn])
      have hgy : (((List.range n).map (nrI (G.E.take k) n)).set x (putS (nrI (G.E.take k) n x) (y : Int))).getD y [] = nrI (G.E.take k) n y := by
        rw [getDI_set, if_neg (fun e => HXY.out e.1), getD_range_map _ hyn]
      rw [hgy] at cs hsi
      have HP2 := hid_of (put_c (W1.setCell ⟨w.heap.size + 1, x, none⟩ (.slice za zn zc)) (x : Int) hsi (Nat.le_trans (nrI_len _ _ _) (by omega)))
      obtain ⟨l2, Hl2⟩ : ∃ l, Hid ((nrI (G.E.take k) n y).length = l) := ⟨_, (rfl : (nrI (G.E.take k) n y).length = _)⟩
      rw [Hl2.out] at cs HP2
      have q0 := hr1.cell (k := 0) rfl
      clear hI1 hz hz1 hI2 hb1 hr1 hbw1 hsi hgy HI HR HB HP1
      go_wp2_with fail
      refine HP2.out.mono ?_
      rintro e W2 ⟨z2, rfl, hz2, hb2⟩
      have hI3 := HI2.out.below hb2
      have hz3 : IsInts (fun b => w.heap.size + 1 < b) W2 z2 (putS (nrI (G.E.take k) n y) (x : Int)) := hz2.mono (fun b hb => by have := HI2.out.lt; omega)
      obtain ⟨za2, zn2, zc2, rfl⟩ := ints_slice hz3
      have hI4 := hI3.set (j := y) hz3
      have hgf2 := hI3.frozen y
      obtain ⟨ra2, rc2, cg2, -⟩ := hI3.get (j := y) (by simp [hyn])
      rw [nrI_first hxn hyn hn HXY.out, ← HTS.out] at hI4
      have hr2 := HR2.out.keep (hb2.block _ HR2.out.lt)
      have HF : Hid (IRow (fun b => w.heap.size + 1 < b) (w.heap.size + 1) ((List.range n).map (nrI (G.E.take (k + 1)) n)) (W2.setCell ⟨w.heap.size + 1, y, none⟩ (.slice za2 zn2 zc2)) ∧ Row (W2.setCell ⟨w.heap.size + 1, y, none⟩ (.slice za2 zn2 zc2)) w.heap.size 25 [.slice (some ⟨b, off, none⟩) en ec, .slice ma mn mc, .slice aa n ac, .slice la ln lc] ∧ Below w.heap.size w (W2.setCell ⟨w.heap.size + 1, y, none⟩ (.slice za2 zn2 zc2))) :=
        ⟨hI4, hr2.other (by show w.heap.size ≠ w.heap.size + 1; omega) _, (bel_call HB2.out hb2).setCell (by show w.heap.size ≤ w.heap.size + 1; omega) _⟩
      clear hI3 hz2 hz3 hI4 hb2 hr2 HI2 HR2 HB2 HP2
      go_wp2_with fail
      go_roundw
      case rel => exact ⟨k + 1, by omega, by go_num, HF⟩
      case measure => simp [intOf]; omega
    · obtain rfl : en = k := by omega
      have HF : Hid (IsRows (w.heap.size ≤ ·) wr (.slice (some ⟨w.heap.size + 1, 0, none⟩) n n) ((List.range n).map (nrI G.E n))) := by
        have h1 := hI.rows (p' := (w.heap.size ≤ ·)) (by omega) (fun b hb => by omega) (by simp; omega)
        simp only [List.length_map, List.length_range] at h1
        rwa [HE.out, List.take_length] at h1
      have HB := hid_of hbl
      clear hI hrw hbl HK
      go_wp2_with fail
      go_ret
      exact ⟨_, rfl, by omega, HF.out, HB.out⟩
end Go.Proofs.Ytinbfnabngdemaa
