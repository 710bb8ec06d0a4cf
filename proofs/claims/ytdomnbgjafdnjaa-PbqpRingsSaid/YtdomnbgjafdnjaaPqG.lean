/- The general solver: rows that are written in place; a vector is added to one. -/
import Derived.Test.YtdomnbgjafdnjaaPqX
namespace Go.Proofs.Ytdomnbgjafdnjaa
open Go.RowKit

/-- Block b begins with these cells. -/
def RowP (W : World) (b : Nat) (e : TypeId) (vs : List Value) : Prop := ∃ tl : List Value, W.heap[b]? = some (.cells (vs ++ tl).toArray e (0, 0))
theorem RowP.lt {W : World} {b : Nat} {e : TypeId} {vs : List Value} (h : RowP W b e vs) : b < W.heap.size := let ⟨_, h⟩ := h; lt_of_block h
theorem RowP.cell {W : World} {b : Nat} {e : TypeId} {vs : List Value} (h : RowP W b e vs) {k : Nat} {v : Value} (hk : vs[k]? = some v) : W.cell? ⟨b, k, none⟩ = some v := by
  obtain ⟨tl, h⟩ := h
  refine Row.cell (W := W) (b := b) (e := e) (vs := vs ++ tl) h ?_
  rw [List.getElem?_append_left (List.getElem?_eq_some_iff.1 hk).1]
  exact hk
theorem RowP.frozen {W : World} {b : Nat} {e : TypeId} {vs : List Value} (h : RowP W b e vs) (k : Nat) : W.frozen? ⟨b, k, none⟩ = false := let ⟨_, h⟩ := h; Row.frozen (vs := _) h k
theorem RowP.set {W : World} {b : Nat} {e : TypeId} {vs : List Value} (h : RowP W b e vs) {k : Nat} (hk : k < vs.length) (v : Value) : RowP (W.setCell ⟨b, k, none⟩ v) b e (vs.set k v) := by
  obtain ⟨tl, h⟩ := h
  refine ⟨tl, ?_⟩
  have := Row.set (W := W) (b := b) (e := e) (vs := vs ++ tl) h k v
  unfold Row at this
  rw [List.set_append_left _ _ hk] at this
  exact this
theorem RowP.keep {W W' : World} {b : Nat} {e : TypeId} {vs : List Value} (h : RowP W b e vs) (hk : W'.heap[b]? = W.heap[b]?) : RowP W' b e vs := let ⟨tl, h⟩ := h; ⟨tl, hk.trans h⟩
theorem RowP.of_row {W : World} {b : Nat} {e : TypeId} {vs : List Value} (h : Row W b e vs) : RowP W b e vs := ⟨[], by rw [List.append_nil]; exact h⟩
theorem RowP.of_owns {W : World} {base g n cap : Nat} {e : TypeId} {xs : List Value} (h : W.ownsRow base e 1 (.slice (some ⟨g, 0, none⟩) n cap) n xs) : RowP W g e xs := by
  obtain ⟨cur, -, hc, -, -, -, ht, -, -⟩ := owns_block h
  rw [Nat.mul_one] at ht
  refine ⟨cur.toList.drop n, ?_⟩
  rw [hc, ← ht, List.take_append_drop]
theorem RowP.ints {W : World} {g c : Nat} {e : TypeId} {xs : List Int} {p : Nat → Prop} (h : RowP W g e (ints xs)) (hp : p g) (hl : xs.length ≤ 140737488351232) (hc : xs.length ≤ c) : IsInts p W (.slice (some ⟨g, 0, none⟩) xs.length c) xs :=
  ⟨_, c, rfl, ⟨hc, hl⟩, .inr ⟨g, 0, rfl, hp, fun j hj => by
    unfold CInt
    rw [Nat.zero_add, Nat.mul_one]
    exact h.cell (by simp [hj])⟩⟩

def addS (xs ys : List Int) : List Int := List.zipWith (fun a b => min (a + b) infC) xs ys
def addK (xs ys : List Int) (k : Nat) : List Int := addS (xs.take k) ys ++ xs.drop k
theorem addS_length {xs ys : List Int} (h : xs.length = ys.length) : (addS xs ys).length = xs.length := by unfold addS; simp; omega
theorem addK_zero (xs ys : List Int) : addK xs ys 0 = xs := by simp [addK, addS]
theorem addK_all {xs ys : List Int} : addK xs ys xs.length = addS xs ys := by simp [addK]
theorem addK_length {xs ys : List Int} (h : xs.length = ys.length) {k : Nat} (hk : k ≤ xs.length) : (addK xs ys k).length = xs.length := by unfold addK addS; simp; omega
theorem addK_getD {xs ys : List Int} (h : xs.length = ys.length) {k : Nat} (hk : k ≤ xs.length) {j : Nat} (hj : k ≤ j) : (addK xs ys k).getD j 0 = xs.getD j 0 := by
  unfold addK addS
  have hl : (List.zipWith (fun a b => min (a + b) infC) (List.take k xs) ys).length = k := by simp; omega
  rw [List.getD_eq_getElem?_getD, List.getElem?_append_right (by omega), hl, List.getElem?_drop, List.getD_eq_getElem?_getD]
  congr 2
  omega
theorem addK_succ {xs ys : List Int} (h : xs.length = ys.length) {k : Nat} (hk : k < xs.length) : (addK xs ys k).set k (min (xs.getD k 0 + ys.getD k 0) infC) = addK xs ys (k + 1) := by
  have hk2 : k < ys.length := by omega
  have hl : (addS (xs.take k) ys).length = k := by unfold addS; simp; omega
  unfold addK
  rw [List.set_append_right _ _ (by omega), hl, Nat.sub_self, List.drop_eq_getElem_cons hk, List.set_cons_zero]
  have e : addS (xs.take (k + 1)) ys = addS (xs.take k) ys ++ [min (xs.getD k 0 + ys.getD k 0) infC] := by
    apply List.ext_getElem?
    intro j
    rw [List.getElem?_append, hl]
    unfold addS
    rw [List.getElem?_zipWith, List.getElem?_zipWith, List.getElem?_take, List.getElem?_take]
    by_cases hj : j < k
    · simp [hj, show j < k + 1 by omega]
    · by_cases hje : j = k
      · subst hje; simp [List.getD, hk, hk2]
      · have h3 : j - k ≠ 0 := by omega
        have h4 : ¬ j < k + 1 := by omega
        obtain ⟨q, hq⟩ : ∃ q, j - k = q + 1 := ⟨j - k - 1, by omega⟩
        simp [hj, h4, hq]
  rw [e, List.append_assoc]
  rfl
theorem addS_ok {xs ys : List Int} (hx : ∀ k : Nat, 0 ≤ xs.getD k 0 ∧ xs.getD k 0 ≤ infC) (hy : ∀ k : Nat, 0 ≤ ys.getD k 0 ∧ ys.getD k 0 ≤ infC) (k : Nat) : 0 ≤ (addS xs ys).getD k 0 ∧ (addS xs ys).getD k 0 ≤ infC := by
  unfold addS
  rw [List.getD_eq_getElem?_getD, List.getElem?_zipWith]
  have h1 := hx k
  have h2 := hy k
  rw [List.getD_eq_getElem?_getD] at h1 h2
  unfold infC at *
  cases ha : xs[k]? with
  | none => simp
  | some a =>
    cases hb : ys[k]? with
    | none => simp
    | some b =>
      rw [ha] at h1; rw [hb] at h2
      simp at h1 h2 ⊢
      omega
def OkV (xs : List Int) : Prop := ∀ k : Nat, 0 ≤ xs.getD k 0 ∧ xs.getD k 0 ≤ 1099511627776

/-- Nothing but block g has turned. -/
structure Only (g : Nat) (W W' : World) : Prop where
  sz : W.heap.size = W'.heap.size
  kq : ∀ b, b ≠ g → W'.heap[b]? = W.heap[b]?
  bel : ∀ B w0, Below B w0 W → B ≤ g → Below B w0 W'
theorem Only.refl (g : Nat) (W : World) : Only g W W := ⟨rfl, fun _ _ => rfl, fun _ _ h _ => h⟩
theorem Only.put {g : Nat} {W W' : World} (h : Only g W W') (q k : Nat) (v : Value) : Only g W ((W'.drewN q).setCell ⟨g, k, none⟩ v) :=
  ⟨by rw [h.sz]; simp, fun b hb => (Below.heap_setCell _ _ _ _ hb).trans (h.kq b hb), fun B w0 hb hg => Below.setCell (by have := h.bel B w0 hb hg; exact ⟨this.os, this.tape, this.output, this.size, this.block⟩) (by show B ≤ g; exact hg) _⟩

set_option maxRecDepth 100000 in
set_option maxHeartbeats 4000000 in
theorem add_c {p : Nat → Prop} (W : World) {g n c cb : Nat} {a : Option Addr} {xs ys : List Int} (hx : RowP W g 3 (ints xs)) (hy : IsInts p W (.slice a n cb) ys) (hp : ¬ p g) (hn : xs.length = n) (hx0 : OkV xs) (hy0 : OkV ys) (hm : n ≤ 1000000) :
    Calls Try.prog 39 #[.slice (some ⟨g, 0, none⟩) n c, .slice a n cb] W fun e w' => e = .returned (.tuple #[]) ∧ RowP w' g 3 (ints (addS xs ys)) ∧ Only g W w' := by
  have hyn := (sl_len hy).1
  have HXY : Hid (xs.length = ys.length) := by show _ = _; omega
  have HXN := hid_of hn
  have HY := hid_of hy
  have HX0 : Hid (RowP W g 3 (ints (addK xs ys 0)) ∧ Only g W W) := ⟨by rw [addK_zero]; exact hx, Only.refl _ _⟩
  clear hx hy hn hyn
  go_enter Try.func39, Try.ntmps39
  go_wp2_with fail
  go_loopw [7] (fun s7 wx => ∃ k : Nat, k ≤ n ∧ s7 = .int .i64 k ∧ Hid (RowP wx g 3 (ints (addK xs ys k)) ∧ Only g W wx)) (fun s7 _ => n - (intOf s7).toNat)
  case atStart => exact ⟨0, by omega, rfl, HX0⟩
  case round =>
    obtain ⟨k, hk, rfl, HS⟩ := hrel
    clear HX0
    by_cases hlt : k < n
    · have hkx : k < xs.length := by have := HXN.out; omega
      have hal := addK_length HXY.out (Nat.le_of_lt hkx)
      have hag := addK_getD HXY.out (Nat.le_of_lt hkx) (Nat.le_refl k)
      have hsu := addK_succ HXY.out hkx
      obtain ⟨yb, yo, rfl, hpy, cy⟩ := ints_at HY.out (show k < ys.length by have := HXY.out; omega)
      have hyg : yb ≠ g := fun e => hp (e ▸ hpy)
      have cy2 := (World.cell?_of_block (a := ⟨yb, yo + k, none⟩) (HS.out.2.kq yb hyg)).trans cy
      obtain ⟨x, Hx⟩ : ∃ x, Hid (xs.getD k 0 = x) := ⟨_, (rfl : xs.getD k 0 = _)⟩
      obtain ⟨y, Hy⟩ : ∃ y, Hid (ys.getD k 0 = y) := ⟨_, (rfl : ys.getD k 0 = _)⟩
      have hxo := hx0 k
      have hyo := hy0 k
      rw [Hx.out] at hag hsu hxo
      rw [Hy.out] at hsu hyo cy2
      obtain ⟨z, Hz⟩ : ∃ z, Hid (min (x + y) 1099511627776 = z) := ⟨_, (rfl : min (x + y) 1099511627776 = _)⟩
      rw [show min (x + y) infC = z from Hz.out] at hsu
      have cx := HS.out.1.cell (k := k) (v := .int .i64 x) (by
        have : k < (addK xs ys k).length := by omega
        simp only [List.getD, List.getElem?_eq_getElem this, Option.getD_some] at hag
        simp [Go.Proofs.Ytdomnbgjafdnjaa.ints, this, hag])
      have fx := HS.out.1.frozen k
      have hpl : ∀ q, Calls Try.prog 22 #[.int .i64 x, .int .i64 y] (wr.drewN q) fun e w' => e = .returned (.int .i64 z) ∧ w' = wr.drewN q := fun q => by
        have := plus_c (wr.drewN q) x y ⟨hxo.1, by omega⟩ hyo
        rw [Hz.out] at this
        exact this
      have HF : Hid (∀ q, RowP ((wr.drewN q).setCell ⟨g, k, none⟩ (.int .i64 z)) g 3 (ints (addK xs ys (k + 1))) ∧ Only g W ((wr.drewN q).setCell ⟨g, k, none⟩ (.int .i64 z))) := fun q => by
        have h1 := (show RowP (wr.drewN q) g 3 (ints (addK xs ys k)) from HS.out.1).set (k := k) (by simp [Go.Proofs.Ytdomnbgjafdnjaa.ints]; omega) (.int .i64 z)
        rw [ints_set, hsu] at h1
        exact ⟨h1, HS.out.2.put q k _⟩
      have hkz : (k : Int) < (n : Int) := by omega
      clear hal hag hsu hxo hyo cy hkx
      go_wp2_with fail
      go_region_law (first
        | (go_simp; go_at_call 22; refine (hpl _).mono ?_; rintro e2 Y ⟨rfl, rfl⟩))
      all_goals clear cx fx cy2 hpl HS
      all_goals go_wp2_with fail
      all_goals go_roundw
      all_goals first | exact ⟨k + 1, by omega, by go_num, HF.out _⟩ | (simp [intOf]; omega)
    · obtain rfl : k = n := by omega
      go_wp2_with fail
      go_end0
      exact ⟨rfl, by rw [← addK_all, HXN.out]; exact HS.out.1, HS.out.2⟩
end Go.Proofs.Ytdomnbgjafdnjaa
