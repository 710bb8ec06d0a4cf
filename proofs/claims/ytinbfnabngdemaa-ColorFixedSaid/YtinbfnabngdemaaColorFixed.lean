/- 'ColorFixed' walked: it returns true. -/
import Derived.Test.YtinbfnabngdemaaCwH
namespace Go.Proofs.Ytinbfnabngdemaa
open Go.RowKit

/-- The first of the rows becomes [0]. -/
theorem RwO.first {B : Nat} {Z : Nat → Prop} {g n c : Nat} {vs : List Value} {l : List Int} {M : List (List Int)} {W : World} (h : RwO B Z (.slice (some ⟨g, 0, none⟩) n c) vs (l :: M) W) (hZ : ∀ b, Z b → b < W.heap.size) (hm : M.length ≤ 100000) :
    IsRows (· < W.heap.size + 1) ((W.alloc (.cells #[.int .i64 0] 3)).setCell ⟨g, 0, none⟩ (.slice (some ⟨W.heap.size, 0, none⟩) 1 1)) (.slice (some ⟨g, 0, none⟩) n c) ([0] :: M) := by
  have hn : n = M.length + 1 := by
    obtain ⟨a, c', e⟩ := h.sl
    simp only [Value.slice.injEq, List.length_cons] at e
    exact e.2.1
  subst hn
  have ho : W.ownsRow B 31 1 (.slice (some ⟨g, 0, none⟩) (M.length + 1) c) (M.length + 1) vs := h.ow
  obtain ⟨cur, hg, hcur, hcap, -, hcs, -, -, hlt⟩ := owns_block ho
  have hgz := hZ g (h.oz g rfl)
  have hk : ∀ b, b < W.heap.size → b ≠ g → ((W.alloc (.cells #[.int .i64 0] 3)).setCell ⟨g, 0, none⟩ (.slice (some ⟨W.heap.size, 0, none⟩) 1 1)).heap[b]? = W.heap[b]? := fun b hb hne => (Below.heap_setCell _ _ _ _ hne).trans (Below.heap_alloc _ _ _ hb)
  have hr0 : Row (W.alloc (.cells #[.int .i64 0] 3)) W.heap.size 3 [.int .i64 0] := heap_alloc_eq _ _ _ rfl
  have hr1 := hr0.other (a := ⟨g, 0, none⟩) (by show W.heap.size ≠ g; omega) (.slice (some ⟨W.heap.size, 0, none⟩) 1 1)
  have hrow : Row (W.alloc (.cells #[.int .i64 0] 3)) g 31 cur.toList := by
    unfold Row
    rw [Below.heap_alloc _ _ _ hgz, hcur]
  have hrow2 := hrow.set 0 (.slice (some ⟨W.heap.size, 0, none⟩) 1 1)
  have hvc : ∀ j (hj : j < vs.length), cur.toList[j]? = some vs[j] := fun j hj => by
    have := (RowP.of_owns ho).cell (k := j) (v := vs[j]) (by simp [hj])
    rw [cell_of_row W g j cur _ _ hcur] at this
    simpa using this
  have hvl := h.vl
  rw [List.length_cons] at hvl
  refine ⟨_, c, rfl, ⟨hcap, by simp; omega⟩, .inr ⟨g, 0, rfl, by show g < _; omega, fun j hj => ?_⟩⟩
  rw [Nat.zero_add, Nat.mul_one]
  match j, hj with
  | 0, hj =>
    have hc0 : 0 < cur.toList.length := by simp; omega
    refine ⟨_, hrow2.cell (by rw [List.getElem?_set_self hc0]), ?_⟩
    exact ints_of_row (xs := [0]) hr1 (by show W.heap.size < _; omega) (by simp)
  | j + 1, hj =>
    have hj2 : j + 1 < vs.length := by simp at hj; omega
    refine ⟨vs[j + 1], hrow2.cell (by rw [List.getElem?_set_ne (by omega)]; exact hvc (j + 1) hj2), ?_⟩
    have he := h.el (j + 1) hj2
    rw [show (l :: M).getD (j + 1) [] = ([0] :: M)[j + 1] by simp [List.getD] at hj ⊢; simp [hj]] at he
    exact he.keep (fun b hb _ => ⟨by have := hZ b hb.1; show b < _; omega, hk b (hZ b hb.1) (fun e => hb.2 (by rw [e]; rfl))⟩)
theorem star_take (i : Nat) : starE (i + 1) = starE i ++ [(0, (i : Int) + 1)] := by
  unfold starE
  rw [List.range_succ, List.map_append]
  rfl
theorem star_len (n : Nat) : (starE n).length = n := by simp [starE]
theorem star_few {n k : Nat} (hn : n ≤ 40) (hk : k ≤ 20) : Few (starG n k) :=
  ⟨by simp [starG]; omega, by simp [starG]; omega, by show (starE n).length ≤ _; rw [star_len]; omega, by simp [starG], fun l hl => by
    simp [starG] at hl
    rcases hl with rfl | ⟨-, rfl⟩
    · simp
    · rw [upI_len]; omega, fun l hl => by simp [starG] at hl; obtain ⟨c, -, rfl⟩ := hl; simp⟩

set_option maxRecDepth 100000 in
set_option maxHeartbeats 8000000 in
theorem colorFixed_c (w : World) (n k : Int) : Calls Try.prog 9 #[.int .i64 n, .int .i64 k] w fun e w' => e = .returned (.bool true) ∧ Below w.heap.size w w' := by
  go_enter Try.func9, Try.ntmps9
  go_wp2_with fail
  refine (alive_c w).mono ?_
  rintro e W0 ⟨rfl, hb0⟩
  have HB0 := hid_of hb0
  clear hb0
  by_cases h1 : n < 1
  · have e1 : decide (n < 1) = true := by simpa using h1
    clear h1
    go_wp2_with fail
    go_ret
    exact ⟨rfl, HB0.out⟩
  have e1 : decide (n < 1) = false := by simpa using h1
  by_cases h2 : n > 40
  · have e2 : decide (n > 40) = true := by simpa using h2
    have e2' : decide (40 < n) = true := by simpa using h2
    clear h1 h2
    go_wp2_with fail
    go_ret
    exact ⟨rfl, HB0.out⟩
  have e2 : decide (n > 40) = false := by simpa using h2
  have e2' : decide (40 < n) = false := by simpa using h2
  by_cases h3 : k < 2
  · have e3 : decide (k < 2) = true := by simpa using h3
    clear h1 h2 h3
    go_wp2_with fail
    go_ret
    exact ⟨rfl, HB0.out⟩
  have e3 : decide (k < 2) = false := by simpa using h3
  by_cases h4 : k > 20
  · have e4 : decide (k > 20) = true := by simpa using h4
    have e4' : decide (20 < k) = true := by simpa using h4
    clear h1 h2 h3 h4
    go_wp2_with fail
    go_ret
    exact ⟨rfl, HB0.out⟩
  have e4 : decide (k > 20) = false := by simpa using h4
  have e4' : decide (20 < k) = false := by simpa using h4
  obtain ⟨n, rfl⟩ : ∃ m : Nat, n = (m : Int) := ⟨n.toNat, by omega⟩
  obtain ⟨k, rfl⟩ : ∃ m : Nat, k = (m : Int) := ⟨k.toNat, by omega⟩
  have hn : 1 ≤ n ∧ n ≤ 40 := by omega
  have hk : 2 ≤ k ∧ k ≤ 20 := by omega
  have H0 : Hid (W0.ownsRow W0.heap.size 37 2 (.slice none 0 0) 0 (prs (starE 0)) ∧ Below W0.heap.size W0 W0) := ⟨World.ownsRow_nil _ _ _ _, bel_refl _⟩
  clear h1 h2 h3 h4
  go_wp2_with fail
  clear e1 e2 e2' e3 e4 e4'
  go_loopw [6, 7] (fun s6 s7 wx => ∃ (i : Nat) (ya : Option Addr) (yc : Nat), i ≤ n ∧ s7 = .int .i64 ((i : Int) + 1) ∧ s6 = .slice ya i yc ∧ Hid (wx.ownsRow W0.heap.size 37 2 (.slice ya i yc) i (prs (starE i)) ∧ Below W0.heap.size W0 wx)) (fun _ s7 _ => n + 1 - (intOf s7).toNat)
  case atStart => exact ⟨0, none, 0, by omega, rfl, rfl, H0⟩
  case round =>
    obtain ⟨i, ya, yc, hi, rfl, rfl, HK⟩ := hrel
    clear H0
    by_cases hlt : i < n
    · have hiz : decide ((i : Int) + 1 ≤ (n : Int)) = true := by simp; omega
      obtain ⟨ho, hbl⟩ := HK.out
      have hba : BkS wr (wr.alloc (.cells #[.int .i64 0, .int .i64 ((i : Int) + 1)] 37)) := bk_alloc (bk_refl wr) _
      have HFin : Hid (∀ v' w', w'.ownsRow W0.heap.size 37 2 v' (starE i ++ [(0, (i : Int) + 1)]).length (prs (starE i ++ [(0, (i : Int) + 1)])) → (wr.alloc (.cells #[.int .i64 0, .int .i64 ((i : Int) + 1)] 37)).grownBy w' (Value.slice ya i yc).ownBlock → ∃ za zc, v' = .slice za (i + 1) zc ∧ Hid (w'.ownsRow W0.heap.size 37 2 (.slice za (i + 1) zc) (i + 1) (prs (starE (i + 1))) ∧ Below W0.heap.size W0 w')) := fun v' w' h1 h2 => by
        rw [← star_take, star_len] at h1
        obtain ⟨za, zc, rfl, -⟩ := owns_slice h1
        exact ⟨za, zc, rfl, h1, bel_grown (bel_call hbl hba) h2 (fun b e => (ho.lt b e).1)⟩
      have HO0 : Hid ((wr.alloc (.cells #[.int .i64 0, .int .i64 ((i : Int) + 1)] 37)).ownsRow W0.heap.size 37 2 (.slice ya i yc) (starE i).length (prs (starE i))) := by
        show World.ownsRow _ _ _ _ _ _ _
        rw [star_len]; exact owns_below ho hba
      have hszb : W0.heap.size ≤ (wr.alloc (.cells #[.int .i64 0, .int .i64 ((i : Int) + 1)] 37)).heap.size := by have := hba.size; have := hbl.size; omega
      have HLz : Hid ((starE i).length + 1 ≤ 1000000) := by show _ ≤ _; rw [star_len]; omega
      clear ho hbl HK
      go_wp2_with (at_builtin; refine stop_here ?_)
      refine stop_go (app_pr rfl _ _ rfl W0.heap.size (.slice ya i yc) (starE i) rfl HO0.out _ (0, (i : Int) + 1) rfl (heap_alloc_eq _ _ _ rfl) HLz.out hszb ?_)
      intro v' w' ho1 hg1 _
      obtain ⟨za, zc, rfl, HN⟩ := HFin.out v' w' ho1 hg1
      clear ho1 hg1 HFin HO0 hba hszb HLz
      go_wp2_with fail
      go_roundw
      case rel => exact ⟨i + 1, za, zc, by omega, by go_num, rfl, HN⟩
      case measure => simp [intOf]; omega
    · obtain rfl : n = i := by omega
      have hiz : decide ((n : Int) + 1 ≤ (n : Int)) = false := by simp; omega
      obtain ⟨ho, hbl⟩ := HK.out
      have hpr := pairs_of_owns (zs := starE n) (by rw [star_len]; exact ho) (by rw [star_len]; omega)
      have HPr := hid_of hpr
      have HB1 := hid_of (HB0.out.trans (hbl.mono HB0.out.size))
      obtain ⟨N, HNN⟩ : ∃ N, Hid (n + 1 = N) := ⟨_, (rfl : n + 1 = _)⟩
      have hN41 : N ≤ 41 := by have := HNN.out; omega
      have hez : (n : Int) + 1 = (N : Int) := by have := HNN.out; omega
      have hez' : IntKind.i64.wrap ((n : Int) + 1) = (N : Int) := by rw [IntKind.wrap_i64]; omega
      clear HK ho hbl hpr
      rw [show decide ((n : Int) + 1 ≤ (n : Int)) = decide ((N : Int) ≤ (n : Int)) by rw [hez]] at hiz
      rw [hez]
      go_wp2_with fail
      refine (plain_c wr N k (by omega) (by omega)).mono ?_
      rintro e X ⟨aa, ac, la, lc, rfl, hb1, B2, Z1, Z2, vs1, vs2, l1, l2, n1, n2, hB⟩
      clear hiz
      obtain ⟨a', c', e', ha'⟩ := owns_slice n1.ow
      simp only [Value.slice.injEq] at e'
      obtain ⟨rfl, -, rfl⟩ := e'
      obtain ⟨g, rfl⟩ := ha' (by rw [List.length_replicate]; have := HNN.out; omega)
      have hgZ := n1.oz g rfl
      have hgb := n2 g hgZ
      obtain ⟨a'', c'', e'', ha''⟩ := owns_slice l1.ow
      simp only [Value.slice.injEq] at e''
      obtain ⟨rfl, -, rfl⟩ := e''
      obtain ⟨lg, rfl⟩ := ha'' (by rw [List.length_map, List.length_range]; omega)
      have hB2 := l2 lg (l1.oz lg rfl)
      have hown : X.ownsRow B2 31 1 (.slice (some ⟨g, 0, none⟩) N ac) N vs2 := by
        have := n1.ow
        rwa [List.length_replicate] at this
      obtain ⟨cur, -, hcur, -, -, -, -, -, -⟩ := owns_block hown
      have hvl : 0 < vs2.length := by rw [n1.vl, List.length_replicate]; have := HNN.out; omega
      have cg : X.cell? ⟨g, 0, none⟩ = some vs2[0] := (RowP.of_owns hown).cell (by simp [hvl])
      have fg : X.frozen? ⟨g, 0, none⟩ = false := by simp [World.frozen?, hcur]
      have hgl := hgb.2
      have hwX : Below w.heap.size w X := HB1.out.trans (hb1.mono HB1.out.size)
      have hwr := HB1.out.size
      have HFin : Hid (Row (((X.alloc (.cells #[.slice ya n yc, .slice none 0 0, .slice (some ⟨g, 0, none⟩) N ac, .slice (some ⟨lg, 0, none⟩) k lc] 25)).alloc (.cells #[.int .i64 0] 3)).setCell ⟨g, 0, none⟩ (.slice (some ⟨X.heap.size + 1, 0, none⟩) 1 1)) X.heap.size 25 [.slice ya n yc, .slice none 0 0, .slice (some ⟨g, 0, none⟩) N ac, .slice (some ⟨lg, 0, none⟩) k lc] ∧
          IsGr (· < X.heap.size + 2) (((X.alloc (.cells #[.slice ya n yc, .slice none 0 0, .slice (some ⟨g, 0, none⟩) N ac, .slice (some ⟨lg, 0, none⟩) k lc] 25)).alloc (.cells #[.int .i64 0] 3)).setCell ⟨g, 0, none⟩ (.slice (some ⟨X.heap.size + 1, 0, none⟩) 1 1)) ⟨ya, n, yc, none, 0, 0, some ⟨g, 0, none⟩, N, ac, some ⟨lg, 0, none⟩, k, lc⟩ (starG n k) ∧
          Below w.heap.size w (((X.alloc (.cells #[.slice ya n yc, .slice none 0 0, .slice (some ⟨g, 0, none⟩) N ac, .slice (some ⟨lg, 0, none⟩) k lc] 25)).alloc (.cells #[.int .i64 0] 3)).setCell ⟨g, 0, none⟩ (.slice (some ⟨X.heap.size + 1, 0, none⟩) 1 1))) := by
        have hbox : Row (X.alloc (.cells #[.slice ya n yc, .slice none 0 0, .slice (some ⟨g, 0, none⟩) N ac, .slice (some ⟨lg, 0, none⟩) k lc] 25)) X.heap.size 25 [.slice ya n yc, .slice none 0 0, .slice (some ⟨g, 0, none⟩) N ac, .slice (some ⟨lg, 0, none⟩) k lc] := heap_alloc_eq _ _ _ rfl
        have hsz1 : (X.alloc (.cells #[.slice ya n yc, .slice none 0 0, .slice (some ⟨g, 0, none⟩) N ac, .slice (some ⟨lg, 0, none⟩) k lc] 25)).heap.size = X.heap.size + 1 := by simp
        have hk : ∀ b, b < X.heap.size → b ≠ g → (((X.alloc (.cells #[.slice ya n yc, .slice none 0 0, .slice (some ⟨g, 0, none⟩) N ac, .slice (some ⟨lg, 0, none⟩) k lc] 25)).alloc (.cells #[.int .i64 0] 3)).setCell ⟨g, 0, none⟩ (.slice (some ⟨X.heap.size + 1, 0, none⟩) 1 1)).heap[b]? = X.heap[b]? := fun b hb hne => (Below.heap_setCell _ _ _ _ hne).trans ((Below.heap_alloc _ _ _ (by omega)).trans (Below.heap_alloc _ _ _ hb))
        have hst : List.replicate N (upI k) = upI k :: List.replicate n (upI k) := by rw [← HNN.out, List.replicate_succ]
        have n1' := n1
        rw [hst] at n1'
        have hf := RwO.first (W := X.alloc (.cells #[.slice ya n yc, .slice none 0 0, .slice (some ⟨g, 0, none⟩) N ac, .slice (some ⟨lg, 0, none⟩) k lc] 25)) (n1'.keep (fun b _ hlt => Below.heap_alloc _ _ _ hlt)) (fun b hb => by have := (n2 b hb).2; omega) (by rw [List.length_replicate]; omega)
        rw [hsz1] at hf
        refine ⟨?_, ⟨?_, ⟨none, 0, rfl, ⟨Nat.le_refl _, Nat.zero_le _⟩, .inl rfl⟩, ?_, ?_⟩, ?_⟩
        · exact (hbox.keep (Below.heap_alloc _ _ _ (by omega))).other (by show X.heap.size ≠ g; omega) _
        · exact HPr.out.keep (fun b hb hlt => ⟨by have := hb1.size; show b < _; omega, (hk b (by have := hb1.size; omega) (by have := hb.2; omega)).trans (hb1.block b hlt)⟩)
        · exact hf
        · have h5 : IsRows (fun b => b < B2) X (.slice (some ⟨lg, 0, none⟩) k lc) ((List.range k).map fun (c : Nat) => [(c : Int)]) := l1.rows (by rw [List.length_map, List.length_range]; omega) (fun b hb => (l2 b hb).2)
          exact h5.keep (fun b hb hlt => ⟨by have : b < B2 := hb; show b < _; omega, hk b hlt (by have : b < B2 := hb; omega)⟩)
        · exact ((bel_alloc (bel_alloc hwX _) _)).setCell (by show w.heap.size ≤ g; omega) _
      rw [World.setCell_alloc_past _ g 0 _ (by simp; omega), World.setCell_alloc_past _ g 0 _ hgl] at HFin
      obtain ⟨v0, hv0⟩ : ∃ v0, vs2[0] = v0 := ⟨_, rfl⟩
      rw [hv0] at cg
      have hok : OkG (starG n k) := star_ok (by omega)
      have hfw : Few (starG n k) := star_few (by omega) (by omega)
      have hclen : (colS (starG n k)).length = N := by rw [colS_length, ← HNN.out]; simp [starG]
      have hsg := star_good hk.1 (colS_good hok)
      have HOk := hid_of hok
      have HFw := hid_of hfw
      have HCl := hid_of hclen
      have HSg := hid_of hsg
      clear n1 n2 l1 l2 hb1 hB hown hcur hwX ha' ha'' hgZ hB2 hvl hv0 hok hfw hclen hsg hwr
      have hgx : g ≠ X.heap.size := by omega
      have hgx1 : g ≠ X.heap.size + 1 := by omega
      have hgl1 : g < X.heap.size + 1 := by omega
      have hN0 : 0 < N := by omega
      go_upto_region 11 with fail
      refine wp_at (fun Y => Row Y X.heap.size 25 [.slice ya n yc, .slice none 0 0, .slice (some ⟨g, 0, none⟩) N ac, .slice (some ⟨lg, 0, none⟩) k lc] ∧ IsGr (· < Y.heap.size) Y ⟨ya, n, yc, none, 0, 0, some ⟨g, 0, none⟩, N, ac, some ⟨lg, 0, none⟩, k, lc⟩ (starG n k) ∧ Below w.heap.size w Y) ⟨HFin.out.1, HFin.out.2.1.keep (fun b hb _ => ⟨by have : b < X.heap.size + 2 := hb; simp; omega, rfl⟩), HFin.out.2.2⟩ ?_
      rintro Y ⟨r0, hgr, hY⟩
      have q0 := r0.cell (k := 0) rfl
      have q1 := r0.cell (k := 1) rfl
      have q2 := r0.cell (k := 2) rfl
      have q3 := r0.cell (k := 3) rfl
      have HCo := hid_of (color_ok Y hgr HOk.out HFw.out)
      have HY := hid_of hY
      clear r0 hgr hY HFin cg fg hgl hgb hgx hgx1 hgl1
      go_wp2_with fail
      clear q0 q1 q2 q3
      refine HCo.out.mono ?_
      rintro e U ⟨kb, rfl, hkb, hcl, hkl, hrow, hb2⟩
      have HU := hid_of (HY.out.trans (hb2.mono HY.out.size))
      obtain ⟨C, HC⟩ : ∃ C, Hid (colS (starG n k) = C) := ⟨_, (rfl : colS (starG n k) = _)⟩
      rw [HC.out] at HCl HSg hrow
      have HCc : Hid (∀ v, v < N → U.cell? ⟨kb, v, none⟩ = some (.int .i64 (C.getD v (-1)))) := fun v hv => by
        have h1 : v < C.length := by rw [HCl.out]; exact hv
        exact hrow.cell (by simp [ints, h1, List.getD])
      have HN := num_c U 0
      clear hkb hcl hb2 HCo hrow
      go_wp2_with fail
      refine HN.mono ?_
      rintro e U' ⟨rfl, rfl⟩
      have enn : ((N : Int) == (N : Int)) = true := by simp
      go_wp2_with fail
      clear enn
      have z0 := HCc.out 0 (by omega)
      obtain ⟨x, Hx⟩ : ∃ x, Hid (C.getD 0 (-1) = x) := ⟨_, (rfl : C.getD 0 (-1) = _)⟩
      rw [Hx.out] at z0
      have hx0 : x = 0 ∨ x = -1 := by rw [← Hx.out]; exact HSg.out.2.1
      go_loopw [11] (fun s11 wx => ∃ v : Nat, 1 ≤ v ∧ v ≤ N ∧ s11 = .int .i64 v ∧ wx = U') (fun s11 _ => N - (intOf s11).toNat)
      case atStart => exact ⟨1, by omega, by omega, rfl, rfl⟩
      case round =>
        obtain ⟨v, hv1, hvN, rfl, rfl⟩ := hrel
        by_cases hlt : v < N
        · have hvz : (v : Int) < (N : Int) := by omega
          have hle : decide ((v : Int) ≤ (n : Int)) = true := by simp; have := HNN.out; omega
          obtain ⟨i, hi⟩ : ∃ i, v = i + 1 := ⟨v - 1, by omega⟩
          have hs := HSg.out.2.2 i (by have := HNN.out; omega)
          rw [← hi, Hx.out] at hs
          have z1 := HCc.out v hlt
          obtain ⟨y, Hy⟩ : ∃ x, Hid (C.getD v (-1) = x) := ⟨_, (rfl : C.getD v (-1) = _)⟩
          rw [Hy.out] at z1 hs
          have e1 : decide (y < 0) = false := by simp; omega
          clear hi
          rcases hx0 with rfl | rfl
          · have e2 : ((0 : Int) == 0) = true := rfl
            have e3 : (y == 0) = false := beq_eq_false_iff_ne.2 (fun e => hs.2 ⟨rfl, e⟩)
            clear hs
            go_wp2_with fail
            go_roundw
            case rel => exact ⟨v + 1, by omega, by omega, by go_num, trivial⟩
            case measure => simp [intOf]; omega
          · have e2 : ((-1 : Int) == 0) = false := rfl
            clear hs
            go_wp2_with fail
            go_roundw
            case rel => exact ⟨v + 1, by omega, by omega, by go_num, trivial⟩
            case measure => simp [intOf]; omega
        · obtain rfl : N = v := by omega
          have hle : decide ((N : Int) ≤ (n : Int)) = false := by simp; have := HNN.out; omega
          rcases hx0 with rfl | rfl
          · have e2 : ((0 : Int) == 0) = true := rfl
            go_wp2_with fail
            go_ret
            exact ⟨rfl, HU.out⟩
          · have e2 : ((-1 : Int) == 0) = false := rfl
            have e3 : ((-1 : Int) == -1) = true := rfl
            go_wp2_with fail
            go_ret
            exact ⟨rfl, HU.out⟩
end Go.Proofs.Ytinbfnabngdemaa
