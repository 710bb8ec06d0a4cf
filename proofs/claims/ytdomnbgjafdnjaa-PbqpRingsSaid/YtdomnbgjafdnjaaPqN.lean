/- The general solver: what is done behind, for a node and its neighbours. -/
import Derived.Test.YtdomnbgjafdnjaaPqM
import Derived.Deep.CutBlock
namespace Go.Proofs.Ytdomnbgjafdnjaa
open Go.RowKit

/-- A column. -/
def colS (M : List (List Int)) (c : Nat) : List Int := M.map fun l => l.getD c 0
theorem colS_length (M : List (List Int)) (c : Nat) : (colS M c).length = M.length := by simp [colS]
theorem turnS_get {M : List (List Int)} {m c : Nat} (h : c < m) : (turnS M m).getD c [] = colS M c := by simp [turnS, colS, List.getD, h]
theorem turnS_length (M : List (List Int)) (m : Nat) : (turnS M m).length = m := by simp [turnS]
/-- A matrix of n rows and m columns of costs. -/
structure OkM (M : List (List Int)) (n m : Nat) : Prop where
  rows : M.length = n
  cols : ∀ r, r < n → (M.getD r []).length = m
  ok : ∀ r, OkV (M.getD r [])
theorem OkM.col {M : List (List Int)} {n m : Nat} (h : OkM M n m) (c : Nat) : OkV (colS M c) := fun k => by
  have h1 := h.ok k c
  simp only [colS, List.getD_eq_getElem?_getD, List.getElem?_map] at h1 ⊢
  cases hk : M[k]? with
  | none => simp
  | some l =>
    rw [hk] at h1
    simpa using h1
/-- What a node's choices cost, its neighbours' choices being l. -/
def accS (E : Int → List (List Int)) (l : List Int) (xs : List Int) (ns : List Int) : List Int := ns.foldl (fun v m => addS v (colS (E m) (l.getD m.toNat 0).toNat)) xs
theorem accS_take {E : Int → List (List Int)} {l xs ns : List Int} {k : Nat} (h : k < ns.length) : accS E l xs (ns.take (k + 1)) = addS (accS E l xs (ns.take k)) (colS (E ns[k]) (l.getD ns[k].toNat 0).toNat) := by
  unfold accS; rw [List.take_succ_eq_append_getElem h, List.foldl_append]; rfl
theorem accS_ok {E : Int → List (List Int)} {l : List Int} {n : Nat} (ns : List Int) : ∀ xs : List Int, xs.length = n → OkV xs → (∀ m ∈ ns, ∃ c, OkM (E m) n c) → (accS E l xs ns).length = n ∧ OkV (accS E l xs ns) := by
  induction ns with
  | nil => intro xs h1 h2 _; exact ⟨h1, h2⟩
  | cons m ns ih =>
    intro xs h1 h2 h3
    obtain ⟨c, hc⟩ := h3 m (by simp)
    have hl : xs.length = (colS (E m) (l.getD m.toNat 0).toNat).length := by rw [colS_length, hc.rows, h1]
    exact ih _ (by rw [addS_length hl]; exact h1) (addS_ok h2 (hc.col _)) fun m' hm => h3 m' (by simp [hm])

set_option maxRecDepth 100000 in
set_option maxHeartbeats 8000000 in
theorem clo_k {p : Nat → Prop} (W : World) {o l e s q sb lb n j oc lc b nn : Nat} {a la : Option Addr} {xs ls ns : List Int} {f : MF} {E : Int → List (List Int)} (hp : ∀ b, p b → b < W.heap.size)
    (qo : W.cell? ⟨o, 0, none⟩ = some (.slice a xs.length oc)) (hx : IsInts p W (.slice a xs.length oc) xs) (hx0 : OkV xs) (h0 : 0 < xs.length) (hxm : xs.length ≤ 300)
    (ql : W.cell? ⟨l, 0, none⟩ = some (.slice la ns.length lc)) (hns : IsInts p W (.slice la ns.length lc) ns) (hnl : ns.length ≤ 300)
    (qe : W.cell? ⟨e, 0, none⟩ = some (.map (some b))) (hmv : IsMv W b nn f)
    (hE : ∀ m ∈ ns, (0 ≤ m ∧ m < n) ∧ ∃ ma mc cm, f m = some (.slice ma xs.length mc) ∧ IsRows p W (.slice ma xs.length mc) (E m) ∧ OkM (E m) xs.length cm ∧ cm ≤ 300 ∧ 0 ≤ ls.getD m.toNat 0 ∧ ls.getD m.toNat 0 < cm)
    (qs : W.cell? ⟨s, 0, none⟩ = some (.pointer (some ⟨sb, 0, none⟩))) (qm : W.cell? ⟨q, 0, none⟩ = some (.int .i64 (j : Int)))
    (q3 : W.cell? ⟨sb, 3, none⟩ = some (.slice (some ⟨lb, 0, none⟩) n n)) (hr : Row W lb 3 (ints ls)) (hn : ls.length = n) (hj : j < n) (hn3 : n ≤ 300) :
    Calls Try.prog 37 #[.pointer (some ⟨o, 0, none⟩), .pointer (some ⟨l, 0, none⟩), .pointer (some ⟨e, 0, none⟩), .pointer (some ⟨s, 0, none⟩), .pointer (some ⟨q, 0, none⟩)] W
      fun e w' => e = .returned (.tuple #[]) ∧ Row w' lb 3 (ints (ls.set j (leastS (accS E ls xs ns) : Nat))) ∧ (∀ b, b < W.heap.size → b ≠ lb → w'.heap[b]? = W.heap[b]?) ∧ W.heap.size ≤ w'.heap.size ∧ (∀ w0, Below w0.heap.size w0 W → w0.heap.size ≤ lb → Below w0.heap.size w0 w') := by
  have HCL := hid_of (cloneV_c W hx h0 (by omega))
  obtain ⟨z, Hz⟩ : ∃ z, Hid (leastS (accS E ls xs ns) = z) := ⟨_, (rfl : leastS (accS E ls xs ns) = _)⟩
  rw [Hz.out]
  obtain ⟨xn, Hxn⟩ : ∃ xn, Hid (xs.length = xn) := ⟨_, (rfl : xs.length = _)⟩
  obtain ⟨nk, Hnk⟩ : ∃ nk, Hid (ns.length = nk) := ⟨_, (rfl : ns.length = _)⟩
  rw [Hnk.out] at ql hnl hns
  have HE := hid_of hE
  have HNS : Hid (∀ X, Below W.heap.size W X → IsInts p X (.slice la nk lc) ns) := fun X hX => hns.keep (fun b hb hlt => ⟨hb, hX.block b (hp b hb)⟩)
  rw [Hxn.out] at qo HCL h0 hxm
  have HX0 := hid_of hx0
  have HMV := hid_of hmv
  have HR := hid_of hr
  have HN := hid_of hn
  have hjz : (j : Int) < (n : Int) := by omega
  have ho := lt_of_cell qo
  have hl := lt_of_cell ql
  have he := lt_of_cell qe
  have hs := lt_of_cell qs
  have hm := lt_of_cell qm
  have h3 := lt_of_cell q3
  dsimp only at ho hl he hs hm h3
  have hlb := hr.lt
  have hbl := hmv.lt
  have HC : Hid (∀ X, Below W.heap.size W X → X.cell? ⟨l, 0, none⟩ = some (.slice la nk lc) ∧ X.cell? ⟨e, 0, none⟩ = some (.map (some b)) ∧ X.cell? ⟨s, 0, none⟩ = some (.pointer (some ⟨sb, 0, none⟩)) ∧ X.cell? ⟨q, 0, none⟩ = some (.int .i64 (j : Int)) ∧ X.cell? ⟨sb, 3, none⟩ = some (.slice (some ⟨lb, 0, none⟩) n n) ∧ Row X lb 3 (ints ls)) := fun X hX =>
    ⟨(World.cell?_of_block (a := ⟨l, 0, none⟩) (hX.block l hl)).trans ql, (World.cell?_of_block (a := ⟨e, 0, none⟩) (hX.block e he)).trans qe, (World.cell?_of_block (a := ⟨s, 0, none⟩) (hX.block s hs)).trans qs, (World.cell?_of_block (a := ⟨q, 0, none⟩) (hX.block q hm)).trans qm, (World.cell?_of_block (a := ⟨sb, 3, none⟩) (hX.block sb h3)).trans q3, HR.out.keep (hX.block lb hlb)⟩
  clear hx hx0 hr hn hmv hE hns ql qe qs qm q3 hl he hs hm
  go_enter Try.func37, Try.ntmps37
  go_wp2_with fail
  refine HCL.out.mono ?_
  rintro e1 W1 ⟨v, rfl, hv, hb⟩
  rw [← Hxn.out] at hv
  have hvl := hv.lt
  obtain ⟨va, vc, rfl, hva⟩ := owns_slice hv
  obtain ⟨vg, rfl⟩ := hva (by rw [Hxn.out]; exact h0)
  obtain ⟨hvg, -⟩ := hvl vg rfl
  obtain ⟨_, -, -, hvc, -⟩ := owns_block hv
  have HV0 : Hid (RowP W1 vg 3 (ints (accS E ls xs (ns.take 0))) ∧ Below W.heap.size W W1) := ⟨RowP.of_owns hv, hb⟩
  rw [Hxn.out] at hvc
  rw [Hxn.out]
  obtain ⟨c1, -, -, -, -, -⟩ := HC.out W1 hb
  clear hv hb HCL hvl hva qo
  go_wp2_with fail
  clear c1
  go_loopw [12] (fun s12 wx => ∃ k : Nat, k ≤ nk ∧ s12 = .int .i64 k ∧ Hid (RowP wx vg 3 (ints (accS E ls xs (ns.take k))) ∧ Below W.heap.size W wx)) (fun s12 _ => nk - (intOf s12).toNat)
  case atStart => exact ⟨0, by omega, rfl, HV0⟩
  case round =>
    obtain ⟨k, hk, rfl, HS⟩ := hrel
    clear HV0
    have hBr := HS.out.2
    by_cases hkt : k < nk
    · have hkx : k < ns.length := by rw [Hnk.out]; exact hkt
      obtain ⟨nb, no, rfl, -, cn⟩ := ints_at (HNS.out wr hBr) hkx
      have hgk : ns.getD k 0 = ns[k] := by simp [List.getD, hkx]
      rw [hgk] at cn
      have hac := accS_take (E := E) (l := ls) (xs := xs) hkx
      obtain ⟨⟨m0, m1⟩, ma, mc, cm, hf, hMr, hOM, hcm, hl0, hl1⟩ := HE.out ns[k] (List.getElem_mem hkx)
      obtain ⟨mN, HmN⟩ : ∃ mN : Nat, Hid (ns[k] = mN) := ⟨ns[k].toNat, by show _ = _; omega⟩
      rw [HmN.out] at cn hac m0 m1 hf hMr hOM hl0 hl1
      simp only [Int.toNat_natCast] at hac hl0 hl1
      obtain ⟨cN, HcN⟩ : ∃ cN : Nat, Hid (ls.getD mN 0 = cN) := ⟨(ls.getD mN 0).toNat, by show _ = _; omega⟩
      rw [HcN.out] at hac hl0 hl1
      simp only [Int.toNat_natCast] at hac
      rw [Hxn.out] at hf hMr hOM
      obtain ⟨k1, k2, k3, k4, k5, k6⟩ := HC.out wr hBr
      have k7 := k6.cell (k := mN) (v := .int .i64 (cN : Int)) (by
        have h1 : mN < ls.length := by have := HN.out; omega
        have h2 := HcN.out
        simp only [List.getD, List.getElem?_eq_getElem h1, Option.getD_some] at h2
        simp [ints, h1, h2])
      have hIM := HMV.out.keep (hBr.block b hbl)
      have hlk0 := hIM.look (In64.of m0 (by omega)) hf
      have hlk1 := (hIM.keep (W' := wr.drew) rfl).look (In64.of m0 (by omega)) hf
      have hE0 : BkS wr wr := bel_refl wr
      have hMw : ∀ Y, BkS wr Y → IsRows p Y (.slice ma xn mc) (E mN) := fun Y hY => hMr.keep (fun b hb hlt => ⟨hb, (hY.block b (by have := hp b hb; have := hBr.size; omega)).trans (hBr.block b (hp b hb))⟩)
      have hTu : ∀ Y, BkS wr Y → Calls Try.prog 40 #[.slice ma xn mc] Y fun e Y' => ∃ ob own vals, e = .returned (.slice (some ⟨ob, 0, none⟩) cm cm) ∧ Y.heap.size ≤ ob ∧ MatO Y.heap.size own ob (turnS (E mN) cm) vals Y' ∧ Below Y.heap.size Y Y' := fun Y hY =>
        turned_c (p := p) Y (hMw Y hY) (fun b hb => by have := hp b hb; have := hBr.size; have := hY.size; omega) h0 hOM.cols (by omega) hcm
      have hlq : ∀ Y, BkS wr Y → Y.cell? ⟨s, 0, none⟩ = some (.pointer (some ⟨sb, 0, none⟩)) ∧ Y.cell? ⟨sb, 3, none⟩ = some (.slice (some ⟨lb, 0, none⟩) n n) ∧ Y.cell? ⟨lb, mN, none⟩ = some (.int .i64 (cN : Int)) := fun Y hY =>
        ⟨(World.cell?_of_block (a := ⟨s, 0, none⟩) (hY.block s (lt_of_cell k3))).trans k3, (World.cell?_of_block (a := ⟨sb, 3, none⟩) (hY.block sb (lt_of_cell k5))).trans k5, (World.cell?_of_block (a := ⟨lb, mN, none⟩) (hY.block lb (lt_of_cell k7))).trans k7⟩
      have hol := accS_ok (l := ls) (E := E) (n := xn) (ns.take k) xs Hxn.out HX0.out (fun m hm => by
        obtain ⟨-, _, _, c, -, -, h, -⟩ := HE.out m (List.mem_of_mem_take hm)
        rw [Hxn.out] at h
        exact ⟨c, h⟩)
      have hclN : cN < cm := by omega
      have hAd : ∀ (Yt : World) (ob : Nat) (own : Nat → Nat) (vals : List Value) (B : Nat), wr.heap.size ≤ B → BkS wr Yt → B ≤ ob → MatO B own ob (turnS (E mN) cm) vals Yt → ∃ ra rc, Yt.cell? ⟨ob, cN, none⟩ = some (.slice ra xn rc) ∧
          Calls Try.prog 39 #[.slice (some ⟨vg, 0, none⟩) xn vc, .slice ra xn rc] Yt fun e Y' => e = .returned (.tuple #[]) ∧ RowP Y' vg 3 (ints (accS E ls xs (ns.take (k + 1)))) ∧ Below W.heap.size W Y' := fun Yt ob own vals B hB hY hob hMO => by
        have hcv : cN < vals.length := by rw [hMO.len, turnS_length]; exact hclN
        have hel := hMO.el cN hcv
        rw [turnS_get hclN] at hel
        have hcl : (colS (E mN) cN).length = xn := by rw [colS_length, hOM.rows]
        have hvb := hMO.row.cell (k := cN) (v := vals[cN]) (by simp [hcv])
        have hii : IsInts (fun b => wr.heap.size ≤ b) Yt vals[cN] (colS (E mN) cN) := ints_of_owns hel (by omega) (fun b _ h1 _ => by omega)
        obtain ⟨ra, rc, hre, -, -⟩ := id hii
        rw [hcl] at hre
        rw [hre] at hvb hii
        refine ⟨ra, rc, hvb, ?_⟩
        have hvlt := HS.out.1.lt
        have := add_c Yt (c := vc) (HS.out.1.keep (hY.block vg hvlt)) hii (by omega) hol.1 hol.2 (hOM.col cN) (by omega)
        rw [← hac] at this
        exact this.mono (by rintro e Y' ⟨rfl, h1, h2⟩; exact ⟨rfl, h1, h2.bel _ _ (bel_call hBr hY) hvg⟩)
      have HAC := hid_of hac
      have hkz : (k : Int) < (nk : Int) := by omega
      have hmz : (mN : Int) < (n : Int) := m1
      have hcz : (cN : Int) < (cm : Int) := hl1
      have hls := lt_of_cell k3
      have hl5 := lt_of_cell k5
      have hl7 := lt_of_cell k7
      dsimp only at hls hl5 hl7
      clear hMr hf hIM hol hac hgk m0 m1 hl0 hl1 k1 k4 k6 hMw
      go_upto_block 1 with (fail)
      go_cut [] (fun wx => RowP wx vg 3 (ints (accS E ls xs (ns.take (k + 1)))) ∧ Below W.heap.size W wx)
      case first =>
        go_wp2_with fail
        clear cn
        go_region_law (first
          | (go_simp; go_at_call 40; refine (hTu _ ?_).mono ?_; (first | exact hE0 | exact bk_drew hE0); rintro e2 Yt ⟨ob, own, vals, rfl, hob, hMO, hbt⟩; have hYb : BkS wr Yt := bel_call (by first | exact hE0 | exact bk_drew hE0) hbt; obtain ⟨y1, y2, y3⟩ := hlq Yt hYb; obtain ⟨ra, rc, yc, hadd⟩ := hAd Yt ob own vals _ (Nat.le_refl _) hYb hob hMO)
          | (go_simp; go_at_call 39; refine hadd.mono ?_; rintro e3 Yf ⟨rfl, hf1, hf2⟩))
        all_goals (try go_wp2_with fail)
        all_goals go_meet
        all_goals exact ⟨hf1, hf2⟩
      case rest =>
        have HO : Hid (RowP wc vg 3 (ints (accS E ls xs (ns.take (k + 1)))) ∧ Below W.heap.size W wc) := hcut
        clear hlk0 hlk1 hTu hlq hAd hBr k2 k3 k5 k7 cn hE0
        go_wp2_with fail
        go_roundw
        case rel => exact ⟨k + 1, by omega, by go_num, HO⟩
        case measure => simp [intOf]; omega
    · obtain rfl : k = nk := by omega
      obtain ⟨k1, k2, k3, k4, k5, k6⟩ := HC.out wr hBr
      have hacc := HS.out.1
      rw [List.take_of_length_le (by rw [Hnk.out]; exact Nat.le_refl _)] at hacc
      have hol := accS_ok (l := ls) (E := E) (n := xn) ns xs Hxn.out HX0.out (fun m hm => by
        obtain ⟨-, _, _, c, -, -, h, -⟩ := HE.out m hm
        rw [Hxn.out] at h
        exact ⟨c, h⟩)
      have hii : IsInts (fun _ => True) wr (.slice (some ⟨vg, 0, none⟩) xn vc) (accS E ls xs ns) := by
        have := hacc.ints (p := fun _ => True) (c := vc) trivial (by omega) (by omega)
        rw [hol.1] at this
        exact this
      have hle : ∀ q, Calls Try.prog 41 #[.slice (some ⟨vg, 0, none⟩) xn vc] (wr.drewN q) fun e w' => e = .returned (.int .i64 (z : Nat)) ∧ ∃ m, w' = (wr.drewN q).drewN m := fun q => by
        have := least_c (wr.drewN q) (hii.keep (p' := fun _ => True) (Keep.below (bel_drewN (bel_refl wr) q)))
        rw [Hz.out] at this
        exact this
      have fr1 := k6.frozen j
      have cr1 := k6.cell (k := j) (v := .int .i64 (ls.getD j 0)) (by have := HN.out; simp [ints, List.getD, show j < ls.length by omega])
      have HR1 := hid_of k6
      have HBB := hid_of hBr
      have HROW : Hid (∀ d, Row ((wr.drewN d).setCell ⟨lb, j, none⟩ (.int .i64 z)) lb 3 (ints (ls.set j z))) := fun d => by
        have := (show Row (wr.drewN d) lb 3 (ints ls) from HR1.out).set j (.int .i64 z)
        rw [ints_set] at this
        exact this
      clear hacc hol hii k1 k2 k6 hBr
      go_wp2_with fail
      go_region_law (first
        | (go_simp; go_at_call 41; refine (hle _).mono ?_; rintro e2 Y ⟨rfl, q, rfl⟩))
      all_goals go_end0
      all_goals exact ⟨rfl, HROW.out _, fun b hb hne => (Below.heap_setCell _ _ _ _ hne).trans (HBB.out.block b hb), by have := HBB.out.size; simpa using this, fun w0 h0 hl => (bel_drewN (bel_call h0 HBB.out) _).setCell hl _⟩
end Go.Proofs.Ytdomnbgjafdnjaa
