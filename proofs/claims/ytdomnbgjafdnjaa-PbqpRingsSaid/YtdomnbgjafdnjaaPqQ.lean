/- The general solver: a node's costs are given to its one neighbour. -/
import Derived.Test.YtdomnbgjafdnjaaPqN
namespace Go.Proofs.Ytdomnbgjafdnjaa
open Go.RowKit

/-- The least number. -/
def minV (v : List Int) : Int := v.getD (leastS v) 0
theorem minV_ok {v : List Int} (h : OkV v) : 0 ≤ minV v ∧ minV v ≤ 1099511627776 := h _
/-- What each of the neighbour's choices costs then. -/
def oneV (xs : List Int) (E : List (List Int)) (y : Int) (k : Nat) : Int := min (y + minV (addS xs (colS E k))) infC
def oneK (xs : List Int) (E : List (List Int)) (ys : List Int) (k : Nat) : List Int := (List.range ys.length).map fun j => if j < k then oneV xs E (ys.getD j 0) j else ys.getD j 0
def oneS (xs : List Int) (E : List (List Int)) (ys : List Int) : List Int := oneK xs E ys ys.length
theorem oneK_length (xs : List Int) (E : List (List Int)) (ys : List Int) (k : Nat) : (oneK xs E ys k).length = ys.length := by simp [oneK]
theorem oneK_zero (xs : List Int) (E : List (List Int)) (ys : List Int) : oneK xs E ys 0 = ys := by
  refine List.ext_getElem (by simp [oneK]) fun j h1 h2 => by simp [oneK, List.getD, h2]
theorem oneK_get (xs : List Int) (E : List (List Int)) (ys : List Int) {k : Nat} (hk : k < ys.length) : (oneK xs E ys k).getD k 0 = ys.getD k 0 := by
  simp [oneK, List.getD, hk]
theorem oneK_succ (xs : List Int) (E : List (List Int)) (ys : List Int) {k : Nat} (_ : k < ys.length) : (oneK xs E ys k).set k (oneV xs E (ys.getD k 0) k) = oneK xs E ys (k + 1) := by
  refine List.ext_getElem (by simp [oneK]) fun j h1 h2 => ?_
  have hj : j < ys.length := by simpa [oneK] using h2
  rw [List.getElem_set]
  by_cases e : k = j
  · subst e; simp [oneK]
  · rw [if_neg e]
    simp only [oneK, List.getElem_map, List.getElem_range]
    by_cases h3 : j < k
    · rw [if_pos h3, if_pos (by omega)]
    · rw [if_neg h3, if_neg (by omega)]
theorem oneV_ok {xs : List Int} {E : List (List Int)} {n m : Nat} (hE : OkM E n m) (hx : OkV xs) {y : Int} (hy : 0 ≤ y ∧ y ≤ 1099511627776) (k : Nat) : 0 ≤ oneV xs E y k ∧ oneV xs E y k ≤ 1099511627776 := by
  have h1 : 0 ≤ minV (addS xs (colS E k)) ∧ minV (addS xs (colS E k)) ≤ 1099511627776 := minV_ok (addS_ok hx (hE.col k))
  unfold oneV infC
  omega
theorem oneS_ok {xs ys : List Int} {E : List (List Int)} {n m : Nat} (hE : OkM E n m) (hx : OkV xs) (hy : OkV ys) : OkV (oneS xs E ys) := fun k => by
  unfold oneS oneK
  rw [List.getD_eq_getElem?_getD, List.getElem?_map]
  by_cases h : k < ys.length
  · rw [List.getElem?_range h]
    simp only [Option.map_some, Option.getD_some]
    rw [if_pos h]
    exact oneV_ok hE hx (hy k) k
  · rw [List.getElem?_eq_none (by simpa using h)]; simp

/-- Of what lay there, nothing but block g has turned. -/
structure Only2 (g : Nat) (W W' : World) : Prop where
  lt : g < W.heap.size
  sz : W.heap.size ≤ W'.heap.size
  kq : ∀ b, b < W.heap.size → b ≠ g → W'.heap[b]? = W.heap[b]?
  bel : ∀ B w0, Below B w0 W → B ≤ g → Below B w0 W'
theorem Only2.refl {g : Nat} {W : World} (h : g < W.heap.size) : Only2 g W W := ⟨h, Nat.le_refl _, fun _ _ _ => rfl, fun _ _ h _ => h⟩
theorem Only2.below {g : Nat} {W X Y : World} (h : Only2 g W X) (hY : Below X.heap.size X Y) : Only2 g W Y :=
  ⟨h.lt, Nat.le_trans h.sz hY.size, fun b hb hne => (hY.block b (by have := h.sz; omega)).trans (h.kq b hb hne), fun B w0 hb hg => (h.bel B w0 hb hg).trans (hY.mono (by have := h.lt; have := h.sz; omega))⟩
theorem Only2.put {g : Nat} {W X : World} (h : Only2 g W X) (k : Nat) (v : Value) : Only2 g W (X.setCell ⟨g, k, none⟩ v) :=
  ⟨h.lt, by have := h.sz; simpa using this, fun b hb hne => (Below.heap_setCell _ _ _ _ hne).trans (h.kq b hb hne), fun B w0 hb hg => Below.setCell (h.bel B w0 hb hg) (by show B ≤ g; exact hg) _⟩
theorem Only2.drewN {g : Nat} {W X : World} (h : Only2 g W X) (q : Nat) : Only2 g W (X.drewN q) :=
  ⟨h.lt, h.sz, h.kq, fun B w0 hb hg => by have := h.bel B w0 hb hg; exact ⟨this.os, this.tape, this.output, this.size, this.block⟩⟩

set_option maxRecDepth 100000 in
set_option maxHeartbeats 8000000 in
theorem one_c {p : Nat → Prop} (W : World) {sb xb xc n b nn mN vg vc xn oc cm mc : Nat} {a ma : Option Addr} {xs ys : List Int} {f : MF} {E : List (List Int)} (hp : ∀ b, p b → b < W.heap.size ∧ b ≠ vg)
    (q0 : W.cell? ⟨sb, 0, none⟩ = some (.slice (some ⟨xb, 0, none⟩) n xc)) (q1 : W.cell? ⟨xb, mN, none⟩ = some (.slice (some ⟨vg, 0, none⟩) cm vc)) (hsb : sb ≠ vg) (hxb : xb ≠ vg) (hm : mN < n) (hn : n ≤ 300)
    (hx : IsInts p W (.slice a xn oc) xs) (hx0 : OkV xs) (h0 : 0 < xn) (hxm : xn ≤ 300)
    (hmv : IsMv W b nn f) (hf : f mN = some (.slice ma xn mc)) (hM : IsRows p W (.slice ma xn mc) E) (hE : OkM E xn cm) (hcm : cm ≤ 300)
    (hy : RowP W vg 3 (ints ys)) (hyl : ys.length = cm) (hy0 : OkV ys) :
    Calls Try.prog 42 #[.pointer (some ⟨sb, 0, none⟩), .slice a xn oc, .map (some b), .int .i64 (mN : Int)] W fun e w' => e = .returned (.tuple #[]) ∧ RowP w' vg 3 (ints (oneS xs E ys)) ∧ Only2 vg W w' := by
  have hvl := hy.lt
  have hxl := (sl_len hx).1
  have hTu := turned_c (p := p) W hM (fun b hb => (hp b hb).1) h0 hE.cols (by omega) hcm
  have hlk := hmv.look (In64.of (x := (mN : Int)) (by omega) (by omega)) hf
  have HXI : Hid (∀ X, Only2 vg W X → IsInts p X (.slice a xn oc) xs) := fun X hX => hx.keep (fun b hb hlt => ⟨hb, hX.kq b hlt (hp b hb).2⟩)
  have HQ : Hid (∀ X, Only2 vg W X → X.cell? ⟨sb, 0, none⟩ = some (.slice (some ⟨xb, 0, none⟩) n xc) ∧ X.cell? ⟨xb, mN, none⟩ = some (.slice (some ⟨vg, 0, none⟩) cm vc)) := fun X hX =>
    ⟨(World.cell?_of_block (a := ⟨sb, 0, none⟩) (hX.kq sb (lt_of_cell q0) hsb)).trans q0, (World.cell?_of_block (a := ⟨xb, mN, none⟩) (hX.kq xb (lt_of_cell q1) hxb)).trans q1⟩
  have HX0 := hid_of hx0
  have HY0 := hid_of hy0
  have HE := hid_of hE
  have HXL := hid_of hxl
  have HYL := hid_of hyl
  have HY := hid_of hy
  have hmz : (mN : Int) < (n : Int) := by omega
  clear hx hx0 hM hE hy0 hxl hyl hy q0 q1 hf hmv
  go_enter Try.func42, Try.ntmps42
  go_wp2_with fail
  refine hTu.mono ?_
  rintro e1 W1 ⟨ob, own, vals, rfl, hob, hMO, hb1⟩
  have HMO := hid_of hMO
  have HO1 : Hid (RowP W1 vg 3 (ints (oneK xs E ys 0)) ∧ Only2 vg W W1 ∧ Only2 vg W1 W1) := ⟨by rw [oneK_zero]; exact HY.out.keep (hb1.block vg hvl), (Only2.refl hvl).below hb1, Only2.refl (by have := hb1.size; omega)⟩
  have hs1 := hb1.size
  clear hTu hlk hMO hb1
  go_wp2_with fail
  go_loopw [16] (fun s16 wx => ∃ k : Nat, k ≤ cm ∧ s16 = .int .i64 k ∧ Hid (RowP wx vg 3 (ints (oneK xs E ys k)) ∧ Only2 vg W wx ∧ Only2 vg W1 wx)) (fun s16 _ => cm - (intOf s16).toNat)
  case atStart => exact ⟨0, by omega, rfl, HO1⟩
  case round =>
    obtain ⟨k, hk, rfl, HS⟩ := hrel
    clear HO1
    by_cases hkt : k < cm
    · have hkv : k < vals.length := by rw [HMO.out.len, turnS_length]; exact hkt
      have hol := HMO.out.row.lt
      have hrw := HMO.out.row.keep (HS.out.2.2.kq ob hol (by omega))
      have cr := hrw.cell (k := k) (v := vals[k]) (by simp [hkv])
      have hel := HMO.out.el k hkv
      rw [turnS_get hkt] at hel
      have hcl : (colS E k).length = xn := by rw [colS_length, HE.out.rows]
      have hii1 : IsInts (fun b => W.heap.size ≤ b ∧ b < W1.heap.size) W1 vals[k] (colS E k) := ints_of_owns hel (by omega) (fun b _ h1 h2 => ⟨h1, h2⟩)
      obtain ⟨ra, rc, hre, -, -⟩ := id hii1
      rw [hcl] at hre
      rw [hre] at cr hii1
      have hii : IsInts (fun b => W.heap.size ≤ b ∧ b < W1.heap.size) wr (.slice ra xn rc) (colS E k) := hii1.keep (fun b hb hlt => ⟨hb, HS.out.2.2.kq b hlt (by omega)⟩)
      have hCl := cloneV_c wr (HXI.out wr HS.out.2.1) (by rw [← HXL.out]; exact h0) (by rw [← HXL.out]; omega)
      rw [← HXL.out] at hCl
      have HCL := hid_of hCl
      have HII := hid_of hii
      have HCK := hid_of hcl
      have hkz : (k : Int) < (cm : Int) := by omega
      clear hrw hel hii1 hii hCl hcl hol
      go_wp2_with fail
      clear cr
      refine HCL.out.mono ?_
      rintro e2 W2 ⟨v, rfl, hv, hb2⟩
      have hvlt := hv.lt
      obtain ⟨va, vq, rfl, hva⟩ := owns_slice hv
      obtain ⟨ug, rfl⟩ := hva h0
      obtain ⟨hug, -⟩ := hvlt ug rfl
      obtain ⟨_, -, -, hvq, -⟩ := owns_block hv
      have hO2 := HS.out.2.1.below hb2
      have hO3 := HS.out.2.2.below hb2
      have hAd := add_c W2 (c := vq) (RowP.of_owns hv) (HII.out.keep (p' := fun b => W.heap.size ≤ b ∧ b < W1.heap.size) (fun b hb hlt => ⟨hb, hb2.block b hlt⟩)) (by have := HS.out.2.2.sz; omega) HXL.out.symm HX0.out (HE.out.col k) (by omega)
      have HAD := hid_of hAd
      have HO2 := hid_of hO2
      have HO3 := hid_of hO3
      have hyr2 := HS.out.1.keep (hb2.block vg HS.out.1.lt)
      have HYR := hid_of hyr2
      have hws := HS.out.2.1.sz
      clear hv hb2 hvlt hva hO2 hO3 hAd hyr2 HCL
      go_wp2_with fail
      refine HAD.out.mono ?_
      rintro e3 W3 ⟨rfl, hr3, hon⟩
      have hvgu : vg ≠ ug := by omega
      have hO4 : Only2 vg W W3 := ⟨hvl, by have := hon.sz; have := HO2.out.sz; omega, fun b hb hne => (hon.kq b (by omega)).trans (HO2.out.kq b hb hne), fun B w0 hb hg => hon.bel B w0 (HO2.out.bel B w0 hb hg) (by omega)⟩
      have hO5 : Only2 vg W1 W3 := ⟨by omega, by have := hon.sz; have := HO3.out.sz; omega, fun b hb hne => (hon.kq b (by have := HS.out.2.2.sz; omega)).trans (HO3.out.kq b hb hne), fun B w0 hb hg => hon.bel B w0 (HO3.out.bel B w0 hb hg) (by omega)⟩
      have hyr := HYR.out.keep (hon.kq vg hvgu)
      have hkyl : k < ys.length := by rw [HYL.out]; exact hkt
      have hlz : (addS xs (colS E k)).length = xn := by rw [addS_length (by rw [HCK.out]; exact HXL.out.symm)]; exact HXL.out.symm
      have hi3 : IsInts (fun _ => True) W3 (.slice (some ⟨ug, 0, none⟩) xn vq) (addS xs (colS E k)) := by
        have := hr3.ints (p := fun _ => True) (c := vq) trivial (by omega) (by omega)
        rw [hlz] at this
        exact this
      obtain ⟨li, Hli⟩ : ∃ li, Hid (leastS (addS xs (colS E k)) = li) := ⟨_, (rfl : leastS (addS xs (colS E k)) = _)⟩
      have hlil : li < xn := by rw [← Hli.out, ← hlz]; exact leastS_lt (by omega)
      have hle : ∀ q, Calls Try.prog 41 #[.slice (some ⟨ug, 0, none⟩) xn vq] (W3.drewN q) fun e w' => e = .returned (.int .i64 (li : Nat)) ∧ ∃ m, w' = (W3.drewN q).drewN m := fun q => by
        have := least_c (W3.drewN q) (hi3.keep (p' := fun _ => True) (Keep.below (bel_drewN (bel_refl W3) q)))
        rw [Hli.out] at this
        exact this
      obtain ⟨y, Hy⟩ : ∃ y, Hid (ys.getD k 0 = y) := ⟨_, (rfl : ys.getD k 0 = _)⟩
      obtain ⟨mv, Hmv⟩ : ∃ mv, Hid ((addS xs (colS E k)).getD li 0 = mv) := ⟨_, (rfl : (addS xs (colS E k)).getD li 0 = _)⟩
      have cv := hr3.cell (k := li) (v := .int .i64 mv) (by
        have h1 : li < (addS xs (colS E k)).length := by omega
        have h2 := Hmv.out
        simp only [List.getD, List.getElem?_eq_getElem h1, Option.getD_some] at h2
        simp [ints, h1, h2])
      have hky := oneK_get xs E ys hkyl
      rw [Hy.out] at hky
      have cy := hyr.cell (k := k) (v := .int .i64 y) (by
        have h1 : k < (oneK xs E ys k).length := by rw [oneK_length]; exact hkyl
        simp only [List.getD, List.getElem?_eq_getElem h1, Option.getD_some] at hky
        simp [ints, h1, hky])
      have fy := hyr.frozen k
      have hyo := HY0.out k
      rw [Hy.out] at hyo
      have hmo : 0 ≤ mv ∧ mv ≤ 1099511627776 := by rw [← Hmv.out]; exact addS_ok HX0.out (HE.out.col k) li
      obtain ⟨nv, Hnv⟩ : ∃ nv, Hid (min (y + mv) 1099511627776 = nv) := ⟨_, (rfl : min (y + mv) 1099511627776 = _)⟩
      have hpl : ∀ X : World, Calls Try.prog 22 #[.int .i64 y, .int .i64 mv] X fun e w' => e = .returned (.int .i64 nv) ∧ w' = X := fun X => by
        have := plus_c X y mv ⟨hyo.1, by omega⟩ hmo
        rw [Hnv.out] at this
        exact this
      have hsu := oneK_succ xs E ys hkyl
      rw [Hy.out, show oneV xs E y k = nv by rw [← Hnv.out, ← Hmv.out, ← Hli.out]; rfl] at hsu
      have HF : Hid (∀ q, RowP ((W3.drewN q).setCell ⟨vg, k, none⟩ (.int .i64 nv)) vg 3 (ints (oneK xs E ys (k + 1))) ∧ Only2 vg W ((W3.drewN q).setCell ⟨vg, k, none⟩ (.int .i64 nv)) ∧ Only2 vg W1 ((W3.drewN q).setCell ⟨vg, k, none⟩ (.int .i64 nv))) := fun q => by
        have h1 := (show RowP (W3.drewN q) vg 3 (ints (oneK xs E ys k)) from hyr).set (k := k) (by simp [ints, oneK_length]; exact hkyl) (.int .i64 nv)
        rw [ints_set, hsu] at h1
        exact ⟨h1, (hO4.drewN q).put k _, (hO5.drewN q).put k _⟩
      obtain ⟨d0, d1⟩ := HQ.out W3 hO4
      have hlz2 : (li : Int) < (xn : Int) := by omega
      clear hr3 hon hO4 hO5 hyr hlz hi3 hky hyo hmo hsu HAD HO2 HO3 HYR HS
      go_wp2_with fail
      have hS0 : ∀ d, (W3.drewN d).cell? ⟨sb, 0, none⟩ = some (.slice (some ⟨xb, 0, none⟩) n xc) ∧ (W3.drewN d).cell? ⟨xb, mN, none⟩ = some (.slice (some ⟨vg, 0, none⟩) cm vc) ∧ (W3.drewN d).cell? ⟨ug, li, none⟩ = some (.int .i64 mv) := fun d => ⟨d0, d1, cv⟩
      have hS1 : ∀ d, ((W3.drewN d).setCell ⟨vg, k, none⟩ (.int .i64 nv)).cell? ⟨sb, 0, none⟩ = some (.slice (some ⟨xb, 0, none⟩) n xc) ∧ ((W3.drewN d).setCell ⟨vg, k, none⟩ (.int .i64 nv)).cell? ⟨xb, mN, none⟩ = some (.slice (some ⟨vg, 0, none⟩) cm vc) ∧ ((W3.drewN d).setCell ⟨vg, k, none⟩ (.int .i64 nv)).cell? ⟨ug, li, none⟩ = some (.int .i64 mv) := fun d => ⟨(World.cell?_of_block (a := ⟨sb, 0, none⟩) (Below.heap_setCell _ _ _ _ hsb)).trans d0, (World.cell?_of_block (a := ⟨xb, mN, none⟩) (Below.heap_setCell _ _ _ _ hxb)).trans d1, (World.cell?_of_block (a := ⟨ug, li, none⟩) (Below.heap_setCell _ _ _ _ (Ne.symm hvgu))).trans cv⟩
      clear d0 d1 cv
      refine wp_region_noPanic ?_
      refine wp_region_held_drew (S := fun Y => Y.cell? ⟨sb, 0, none⟩ = some (.slice (some ⟨xb, 0, none⟩) n xc) ∧ Y.cell? ⟨xb, mN, none⟩ = some (.slice (some ⟨vg, 0, none⟩) cm vc) ∧ Y.cell? ⟨ug, li, none⟩ = some (.int .i64 mv)) (by kernel_rfl) (by first | exact hS0 0 | exact hS0 1 | exact hS0 _) (fun hHeld => ?_)
      refine wpAnyH_take (i := 0) (v := ?_) rfl (by kernel_rfl) (by kernel_rfl) (by kernel_rfl) (fun _ _ _ h => h) (Or.inl ⟨by rfl, ?_⟩) (by assumption) ?_
      rotate_left
      · intro w hSw; (try dsimp only at hSw); go_simp; all_goals (with_reducible rfl)
      refine wpAnyH_take (i := 1) (v := ?_) rfl (by kernel_rfl) (by kernel_rfl) (by kernel_rfl) (fun _ _ _ h => h) (Or.inl ⟨by rfl, ?_⟩) (by assumption) ?_
      rotate_left
      · intro w hSw; (try dsimp only at hSw); go_simp; all_goals (with_reducible rfl)
      refine wpAnyH_take (i := 2) (v := ?_) rfl (by kernel_rfl) (by kernel_rfl) (by kernel_rfl) (fun _ _ _ h => h) (Or.inl ⟨by rfl, ?_⟩) (by assumption) ?_
      rotate_left
      · intro w hSw; (try dsimp only at hSw); go_simp; all_goals (with_reducible rfl)
      refine wpAnyH_take (i := 3) (v := ?_) rfl (by kernel_rfl) (by kernel_rfl) (by kernel_rfl) (fun _ _ _ h => h) (Or.inl ⟨by rfl, ?_⟩) (by assumption) ?_
      rotate_left
      · intro w hSw; (try dsimp only at hSw); go_simp; all_goals (with_reducible rfl)
      refine wpAnyH_take (i := 4) (v := ?_) rfl (by kernel_rfl) (by kernel_rfl) (by kernel_rfl) (fun _ _ _ h => h) (Or.inl ⟨by rfl, ?_⟩) (by assumption) ?_
      rotate_left
      · intro w hSw; (try dsimp only at hSw); go_simp; all_goals (with_reducible rfl)
      refine wpAnyH_take (i := 5) (v := ?_) rfl (by kernel_rfl) (by kernel_rfl) (by kernel_rfl) (fun _ _ _ h => h) (Or.inl ⟨by rfl, ?_⟩) (by assumption) ?_
      rotate_left
      · intro w hSw; (try dsimp only at hSw); go_simp; all_goals (with_reducible rfl)
      refine wpAnyH_take (i := 6) (v := ?_) rfl (by kernel_rfl) (by kernel_rfl) (by kernel_rfl) (fun _ _ _ h => h) (Or.inl ⟨by rfl, ?_⟩) (by assumption) ?_
      rotate_left
      · intro w hSw; (try dsimp only at hSw); go_simp; all_goals (with_reducible rfl)
      refine wpAnyH_take (i := 7) (v := ?_) rfl (by kernel_rfl) (by kernel_rfl) (by kernel_rfl) (fun _ _ _ h => h) (Or.inl ⟨by rfl, ?_⟩) (by assumption) ?_
      rotate_left
      · intro w hSw; (try dsimp only at hSw); go_simp; all_goals (with_reducible rfl)
      refine wpAnyH_take (i := 8) (v := ?_) rfl (by kernel_rfl) (by kernel_rfl) (by kernel_rfl) (fun _ _ _ h => h) (Or.inl ⟨by rfl, ?_⟩) (by assumption) ?_
      rotate_left
      · intro w hSw; (try dsimp only at hSw); go_simp; all_goals (with_reducible rfl)
      refine wpAnyH_take (i := 9) (v := ?_) rfl (by kernel_rfl) (by kernel_rfl) (by kernel_rfl) (fun _ _ _ h => h) (Or.inl ⟨by rfl, ?_⟩) (by assumption) ?_
      rotate_left
      · intro w hSw; (try dsimp only at hSw); go_simp; all_goals (with_reducible rfl)
      refine wpAnyH_take (i := 10) (v := ?_) rfl (by kernel_rfl) (by kernel_rfl) (by kernel_rfl) (fun _ _ _ h => h) (Or.inl ⟨by rfl, ?_⟩) (by assumption) ?_
      rotate_left
      · intro w hSw; (try dsimp only at hSw); go_simp; all_goals (with_reducible rfl)
      refine wpAnyH_take (i := 11) (v := ?_) rfl (by kernel_rfl) (by kernel_rfl) (by kernel_rfl) (fun _ _ _ h => h) (Or.inl ⟨by rfl, ?_⟩) (by assumption) ?_
      rotate_left
      · intro w hSw; (try dsimp only at hSw); go_simp; all_goals (with_reducible rfl)
      refine wpAnyH_take (i := 12) (v := ?_) rfl (by kernel_rfl) (by kernel_rfl) (by kernel_rfl) (fun _ _ _ h => h) (Or.inl ⟨by rfl, ?_⟩) (by assumption) ?_
      rotate_left
      · intro w hSw; (try dsimp only at hSw); go_simp; all_goals (with_reducible rfl)
      refine wpAnyH_take (i := 13) (v := ?_) rfl (by kernel_rfl) (by kernel_rfl) (by kernel_rfl) (fun _ _ _ h => h) (Or.inl ⟨by rfl, ?_⟩) (by assumption) ?_
      rotate_left
      · intro w hSw; (try dsimp only at hSw); go_simp; all_goals (with_reducible rfl)
      refine wpAnyH_take (i := 14) (v := ?_) rfl (by kernel_rfl) (by kernel_rfl) (by kernel_rfl) (fun _ _ _ h => h) (Or.inl ⟨by rfl, ?_⟩) (by assumption) ?_
      rotate_left
      · intro w hSw; (try dsimp only at hSw); go_simp; all_goals (with_reducible rfl)
      refine wpAnyH_take (i := 15) (v := ?_) rfl (by kernel_rfl) (by kernel_rfl) (by kernel_rfl) (fun _ _ _ h => h) (Or.inl ⟨by rfl, ?_⟩) (by assumption) ?_
      rotate_left
      · intro w hSw; (try dsimp only at hSw); go_simp; all_goals (with_reducible rfl)
      refine wpAnyH_take (i := 16) (v := ?_) rfl (by kernel_rfl) (by kernel_rfl) (by kernel_rfl) (fun _ _ _ h => h) (Or.inl ⟨by rfl, ?_⟩) (by assumption) ?_
      rotate_left
      · intro w hSw; (try dsimp only at hSw); go_simp; all_goals (with_reducible rfl)
      refine wpAnyH_take (i := 18) (v := ?_) rfl (by kernel_rfl) (by kernel_rfl) (by kernel_rfl) (fun _ _ _ h => h) (Or.inl ⟨by rfl, ?_⟩) (by assumption) ?_
      rotate_left
      · intro w hSw; (try dsimp only at hSw); go_simp; all_goals (with_reducible rfl)
      refine wpAnyH_take (i := 19) (v := ?_) rfl (by kernel_rfl) (by kernel_rfl) (by kernel_rfl) (fun _ _ _ h => h) (Or.inl ⟨by rfl, ?_⟩) (by assumption) ?_
      rotate_left
      · intro w hSw; (try dsimp only at hSw); go_simp; all_goals (with_reducible rfl)
      try simp only [Act.put, List.setIfInBounds_toArray]
      refine wpAnyH_ready (rs := [17, 20]) (by kernel_rfl) (by simp) ?_
      refine AllReadyH.cons rfl (fun K hK => ?_) (AllReadyH.cons rfl (fun K hK => ?_) AllReadyH.nil)
      · skip
        go_simp
        refine hK.out _ _ (by (first | exact hS0 0 | exact hS0 1 | exact hS0 _ | exact hS1 _)) (fun hHeld => ?_)
        clear hK K
        try simp only [Act.put, List.setIfInBounds_toArray, List.set_cons_zero, List.set_cons_succ]
        refine wpAnyH_ready (rs := [20]) (by kernel_rfl) (by simp) ?_
        refine AllReadyH.cons rfl (fun K hK => ?_) AllReadyH.nil
        go_simp
        (go_at_call 41; refine (hle _).mono ?_; rintro e4 Y ⟨rfl, q, rfl⟩; go_wp2_with fail)
        refine hK.out _ _ (by (first | exact hS0 0 | exact hS0 1 | exact hS0 _ | exact hS1 _)) (fun hHeld => ?_)
        clear hK K
        try simp only [Act.put, List.setIfInBounds_toArray, List.set_cons_zero, List.set_cons_succ]
        refine wpAnyH_take (i := 21) (v := ?_) rfl (by kernel_rfl) (by kernel_rfl) (by kernel_rfl) (fun _ _ _ h => h) (Or.inl ⟨by rfl, ?_⟩) (by assumption) ?_
        rotate_left
        · intro w hSw; (try dsimp only at hSw); go_simp; all_goals (with_reducible rfl)
        refine wpAnyH_take (i := 22) (v := ?_) rfl (by kernel_rfl) (by kernel_rfl) (by kernel_rfl) (fun _ _ _ h => h) (Or.inl ⟨by rfl, ?_⟩) (by assumption) ?_
        rotate_left
        · intro w hSw; (try dsimp only at hSw); go_simp; all_goals (with_reducible rfl)
        refine wpAnyH_ready (rs := [23]) (by kernel_rfl) (by simp) ?_
        refine AllReadyH.cons rfl (fun K hK => ?_) AllReadyH.nil
        go_simp
        (go_at_call 22; refine (hpl _).mono ?_; rintro e5 Y ⟨rfl, rfl⟩; go_wp2_with fail)
        refine hK.out _ _ (by (first | exact hS0 0 | exact hS0 1 | exact hS0 _ | exact hS1 _)) (fun hHeld => ?_)
        clear hK K
        try simp only [Act.put, List.setIfInBounds_toArray, List.set_cons_zero, List.set_cons_succ]
        refine wpAnyH_take (i := 24) (v := ?_) rfl (by kernel_rfl) (by kernel_rfl) (by kernel_rfl) (fun _ _ _ h => h) (Or.inl ⟨by rfl, ?_⟩) (by assumption) ?_
        rotate_left
        · intro w hSw; (try dsimp only at hSw); go_simp; all_goals (with_reducible rfl)
        refine wpAnyH_ready (rs := [25]) (by kernel_rfl) (by simp) ?_
        refine AllReadyH.cons rfl (fun K hK => ?_) AllReadyH.nil
        go_simp
        refine hK.out _ _ (by (first | exact hS0 0 | exact hS0 1 | exact hS0 _ | exact hS1 _)) (fun hHeld => ?_)
        clear hK K
        try simp only [Act.put, List.setIfInBounds_toArray, List.set_cons_zero, List.set_cons_succ]
        refine wpAnyH_done (by kernel_rfl) ?_ _
        refine NoPanic.normal ?_
        clear hS0 hS1 cy fy hle hpl
        go_wp2_with fail
        go_roundw
        all_goals first | exact ⟨k + 1, by omega, by go_num, HF.out _⟩ | (simp [intOf]; omega)
      · skip
        go_simp
        (go_at_call 41; refine (hle _).mono ?_; rintro e4 Y ⟨rfl, q, rfl⟩; go_wp2_with fail)
        refine hK.out _ _ (by (first | exact hS0 0 | exact hS0 1 | exact hS0 _ | exact hS1 _)) (fun hHeld => ?_)
        clear hK K
        try simp only [Act.put, List.setIfInBounds_toArray, List.set_cons_zero, List.set_cons_succ]
        refine wpAnyH_take (i := 21) (v := ?_) rfl (by kernel_rfl) (by kernel_rfl) (by kernel_rfl) (fun _ _ _ h => h) (Or.inl ⟨by rfl, ?_⟩) (by assumption) ?_
        rotate_left
        · intro w hSw; (try dsimp only at hSw); go_simp; all_goals (with_reducible rfl)
        refine wpAnyH_take (i := 22) (v := ?_) rfl (by kernel_rfl) (by kernel_rfl) (by kernel_rfl) (fun _ _ _ h => h) (Or.inl ⟨by rfl, ?_⟩) (by assumption) ?_
        rotate_left
        · intro w hSw; (try dsimp only at hSw); go_simp; all_goals (with_reducible rfl)
        refine wpAnyH_ready (rs := [17]) (by kernel_rfl) (by simp) ?_
        refine AllReadyH.cons rfl (fun K hK => ?_) AllReadyH.nil
        go_simp
        refine hK.out _ _ (by (first | exact hS0 0 | exact hS0 1 | exact hS0 _ | exact hS1 _)) (fun hHeld => ?_)
        clear hK K
        try simp only [Act.put, List.setIfInBounds_toArray, List.set_cons_zero, List.set_cons_succ]
        refine wpAnyH_ready (rs := [23]) (by kernel_rfl) (by simp) ?_
        refine AllReadyH.cons rfl (fun K hK => ?_) AllReadyH.nil
        go_simp
        (go_at_call 22; refine (hpl _).mono ?_; rintro e5 Y ⟨rfl, rfl⟩; go_wp2_with fail)
        refine hK.out _ _ (by (first | exact hS0 0 | exact hS0 1 | exact hS0 _ | exact hS1 _)) (fun hHeld => ?_)
        clear hK K
        try simp only [Act.put, List.setIfInBounds_toArray, List.set_cons_zero, List.set_cons_succ]
        refine wpAnyH_take (i := 24) (v := ?_) rfl (by kernel_rfl) (by kernel_rfl) (by kernel_rfl) (fun _ _ _ h => h) (Or.inl ⟨by rfl, ?_⟩) (by assumption) ?_
        rotate_left
        · intro w hSw; (try dsimp only at hSw); go_simp; all_goals (with_reducible rfl)
        refine wpAnyH_ready (rs := [25]) (by kernel_rfl) (by simp) ?_
        refine AllReadyH.cons rfl (fun K hK => ?_) AllReadyH.nil
        go_simp
        refine hK.out _ _ (by (first | exact hS0 0 | exact hS0 1 | exact hS0 _ | exact hS1 _)) (fun hHeld => ?_)
        clear hK K
        try simp only [Act.put, List.setIfInBounds_toArray, List.set_cons_zero, List.set_cons_succ]
        refine wpAnyH_done (by kernel_rfl) ?_ _
        refine NoPanic.normal ?_
        clear hS0 hS1 cy fy hle hpl
        go_wp2_with fail
        go_roundw
        all_goals first | exact ⟨k + 1, by omega, by go_num, HF.out _⟩ | (simp [intOf]; omega)
    · obtain rfl : k = cm := by omega
      have hfin : RowP wr vg 3 (ints (oneS xs E ys)) := by
        have := HS.out.1
        unfold oneS
        rw [HYL.out]
        exact this
      have HFI := hid_of hfin
      clear hfin
      go_wp2_with fail
      go_end0
      exact ⟨rfl, HFI.out, HS.out.2.1⟩
end Go.Proofs.Ytdomnbgjafdnjaa
