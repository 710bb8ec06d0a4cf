/- slices.SortStableFunc over numbers: ranges are exchanged, rotated. -/
import Derived.Test.YtcihobmjohpnkaaStP
import Derived.Test.YtcihobmjohpnkaaOwn
import Derived.Deep.LoopGhost
import Derived.Deep.QuietTactic
import Derived.BigRegion
import Derived.Deep.RegionLaw
namespace Go.Proofs.Ytcihobmjohpnkaa
open Go.RowKit

theorem hid_st {p : Prop} (h : p) : Hid p := h
/-- Block b begins with these cells. -/
def RowP (W : World) (b : Nat) (e : TypeId) (vs : List Value) : Prop := ∃ tl : List Value, W.heap[b]? = some (.cells (vs ++ tl).toArray e (0, 0))
theorem RowP.lt {W : World} {b : Nat} {e : TypeId} {vs : List Value} (h : RowP W b e vs) : b < W.heap.size := let ⟨_, h⟩ := h; lt_of_block h
theorem RowP.cell {W : World} {b : Nat} {e : TypeId} {vs : List Value} (h : RowP W b e vs) {k : Nat} {v : Value} (hk : vs[k]? = some v) : W.cell? ⟨b, k, none⟩ = some v := by
  obtain ⟨tl, h⟩ := h
  refine Row.cell (W := W) (b := b) (e := e) (vs := vs ++ tl) h ?_
  rw [List.getElem?_append_left (List.getElem?_eq_some_iff.1 hk).1]
  exact hk
theorem RowP.frozen {W : World} {b : Nat} {e : TypeId} {vs : List Value} (h : RowP W b e vs) (k : Nat) : W.frozen? ⟨b, k, none⟩ = false := let ⟨_, h⟩ := h; Row.frozen (vs := _) h k
theorem RowP.set {W : World} {b : Nat} {e : TypeId} {vs : List Value} (h : RowP W b e vs) {k : Nat} (hk : k < vs.length) (v : Value) : RowP (W.setCell ⟨b, k, none⟩ v) b e (vs.set k v) := by
  obtain ⟨tl, h⟩ := h
  refine ⟨tl, ?_⟩
  have := Row.set (W := W) (b := b) (e := e) (vs := vs ++ tl) h k v
  unfold Row at this
  rw [List.set_append_left _ _ hk] at this
  exact this
theorem RowP.keep {W W' : World} {b : Nat} {e : TypeId} {vs : List Value} (h : RowP W b e vs) (hk : W'.heap[b]? = W.heap[b]?) : RowP W' b e vs := let ⟨tl, h⟩ := h; ⟨tl, hk.trans h⟩
theorem RowP.of_owns {W : World} {base g n cap : Nat} {e : TypeId} {xs : List Value} (h : W.ownsRow base e 1 (.slice (some ⟨g, 0, none⟩) n cap) n xs) : RowP W g e xs := by
  obtain ⟨cur, -, hc, -, -, -, ht, -, -⟩ := owns_block h
  rw [Nat.mul_one] at ht
  refine ⟨cur.toList.drop n, ?_⟩
  rw [hc, ← ht, List.take_append_drop]
/-- Nothing but block g has turned. -/
structure Only (g : Nat) (W W' : World) : Prop where
  sz : W.heap.size = W'.heap.size
  kq : ∀ b, b ≠ g → W'.heap[b]? = W.heap[b]?
  bel : ∀ B w0, Below B w0 W → B ≤ g → Below B w0 W'
theorem Only.refl (g : Nat) (W : World) : Only g W W := ⟨rfl, fun _ _ => rfl, fun _ _ h _ => h⟩
theorem Only.trans {g : Nat} {W X Y : World} (h : Only g W X) (k : Only g X Y) : Only g W Y := ⟨h.sz.trans k.sz, fun b hb => (k.kq b hb).trans (h.kq b hb), fun B w0 hb hg => k.bel B w0 (h.bel B w0 hb hg) hg⟩
theorem Only.drewN {g : Nat} {W X : World} (h : Only g W X) (q : Nat) : Only g W (X.drewN q) := ⟨h.sz, h.kq, fun B w0 hb hg => by have := h.bel B w0 hb hg; exact ⟨this.os, this.tape, this.output, this.size, this.block⟩⟩
theorem Only.put {g : Nat} {W X : World} (h : Only g W X) (k : Nat) (v : Value) : Only g W (X.setCell ⟨g, k, none⟩ v) :=
  ⟨by rw [h.sz]; simp, fun b hb => (Below.heap_setCell _ _ _ _ hb).trans (h.kq b hb), fun B w0 hb hg => Below.setCell (h.bel B w0 hb hg) (by show B ≤ g; exact hg) _⟩
/-- The row that is sorted. -/
structure Rw (g n : Nat) (W : World) (D : Nat → Int) (X : World) : Prop where
  row : RowP X g 3 (ints (rowF n D))
  on : Only g W X
theorem Rw.cell {g n : Nat} {W X : World} {D : Nat → Int} (h : Rw g n W D X) {k : Nat} (hk : k < n) : X.cell? ⟨g, k, none⟩ = some (.int .i64 (D k)) := h.row.cell (by simp [ints, rowF, hk])
theorem Rw.drewN {g n : Nat} {W X : World} {D : Nat → Int} (h : Rw g n W D X) (q : Nat) : Rw g n W D (X.drewN q) := ⟨h.row, h.on.drewN q⟩
theorem Rw.put {g n : Nat} {W X : World} {D : Nat → Int} (h : Rw g n W D X) {k : Nat} (hk : k < n) (x : Int) : Rw g n W (updN D k x) (X.setCell ⟨g, k, none⟩ (.int .i64 x)) :=
  ⟨by have := h.row.set (k := k) (by simp [ints, rowF]; exact hk) (.int .i64 x); rw [ints_set, rowF_set] at this; exact this, h.on.put k _⟩
/-- Two numbers are exchanged. -/
theorem Rw.swap {g n : Nat} {W X : World} {D : Nat → Int} (h : Rw g n W D X) {i j : Nat} (hi : i < n) (hj : j < n) : Rw g n W (swpF D i j) ((X.setCell ⟨g, i, none⟩ (.int .i64 (D j))).setCell ⟨g, j, none⟩ (.int .i64 (D i))) := by
  have := (h.put hi (D j)).put hj (D i)
  rw [upd_swap] at this
  exact this
theorem Rw.re {g n : Nat} {W X Y : World} {D D' : Nat → Int} (h : Rw g n W D X) (k : Rw g n X D' Y) : Rw g n W D' Y := ⟨k.row, h.on.trans k.on⟩

set_option maxRecDepth 100000 in
set_option maxHeartbeats 4000000 in
theorem swapRange_c {g n cc : Nat} (W : World) (D : Nat → Int) (fv : Value) (a b k : Nat) (h : Rw g n W D W) (h1 : a + k ≤ b) (h2 : b + k ≤ n) (hn : n ≤ 1000000) :
    Calls Try.prog 150 #[.slice (some ⟨g, 0, none⟩) n cc, .int .i64 (a : Int), .int .i64 (b : Int), .int .i64 (k : Int), fv] W fun e w' => e = .returned (.tuple #[]) ∧ Rw g n W (swR D a b k) w' := by
  have H0 : Hid (Rw g n W (swR D a b 0) W) := by show Rw _ _ _ _ _; rw [swR_zero]; exact h
  clear h
  go_enter Try.func150, Try.ntmps150
  go_wp2_with fail
  go_loopw [10] (fun s10 wx => ∃ i : Nat, i ≤ k ∧ s10 = .int .i64 i ∧ Hid (Rw g n W (swR D a b i) wx)) (fun s10 _ => k - (intOf s10).toNat)
  case atStart => exact ⟨0, by omega, rfl, H0⟩
  case round =>
    obtain ⟨i, hi, rfl, HI⟩ := hrel
    clear H0
    by_cases hit : i < k
    · have hR := HI.out
      have c1 := hR.cell (k := a + i) (by omega)
      have c2 := hR.cell (k := b + i) (by omega)
      obtain ⟨x, Hx⟩ : ∃ x, Hid (swR D a b i (a + i) = x) := ⟨_, (rfl : swR D a b i (a + i) = _)⟩
      obtain ⟨y, Hy⟩ : ∃ y, Hid (swR D a b i (b + i) = y) := ⟨_, (rfl : swR D a b i (b + i) = _)⟩
      have HN : Hid (∀ q, Rw g n W (swR D a b (i + 1)) (((wr.drewN q).setCell ⟨g, a + i, none⟩ (.int .i64 y)).setCell ⟨g, b + i, none⟩ (.int .i64 x))) := fun q => by
        have := (hR.drewN q).swap (i := a + i) (j := b + i) (by omega) (by omega)
        rw [swR_succ D h1 hit, Hx.out, Hy.out] at this
        exact this
      have f1 := hR.row.frozen (a + i)
      have f2 := hR.row.frozen (b + i)
      rw [Hx.out] at c1
      rw [Hy.out] at c2
      have hne : a + i ≠ b + i := by omega
      have haz : (a : Int) + (i : Int) < (n : Int) := by omega
      have hbz : (b : Int) + (i : Int) < (n : Int) := by omega
      clear hR HI
      go_wp2_with fail
      go_region
      all_goals clear c1 c2 f1 f2
      all_goals go_wp2_with fail
      all_goals go_roundw
      all_goals first | exact ⟨i + 1, by omega, by go_num, HN.out _⟩ | (simp [intOf]; omega)
    · obtain rfl : i = k := by omega
      go_wp2_with fail
      go_end0
      exact ⟨rfl, HI.out⟩

set_option maxRecDepth 100000 in
set_option maxHeartbeats 4000000 in
theorem rotate_c {g n cc : Nat} (W : World) (D : Nat → Int) (fv : Value) (a m b : Nat) (h : Rw g n W D W) (h1 : a < m) (h2 : m < b) (h3 : b ≤ n) (hn : n ≤ 1000000) :
    Calls Try.prog 144 #[.slice (some ⟨g, 0, none⟩) n cc, .int .i64 (a : Int), .int .i64 (m : Int), .int .i64 (b : Int), fv] W fun e w' => e = .returned (.tuple #[]) ∧ Rw g n W (rotF D a m b) w' := by
  obtain ⟨i0, Hi0⟩ : ∃ i0, Hid (m - a = i0) := ⟨_, (rfl : m - a = _)⟩
  obtain ⟨j0, Hj0⟩ : ∃ j0, Hid (b - m = j0) := ⟨_, (rfl : b - m = _)⟩
  have hi0 : (m : Int) - (a : Int) = (i0 : Int) := by have := Hi0.out; omega
  have hj0 : (b : Int) - (m : Int) = (j0 : Int) := by have := Hj0.out; omega
  have hb0 : 0 < i0 ∧ 0 < j0 ∧ i0 ≤ m ∧ m + j0 ≤ n := by have := Hi0.out; have := Hj0.out; omega
  have HF : Hid (rotF D (m - i0) m (m + j0) = rotF D a m b) := by show _ = _; rw [← Hi0.out, ← Hj0.out]; congr 1 <;> omega
  obtain ⟨b1, b2, b3, b4⟩ := hb0
  obtain ⟨F, HFF⟩ : ∃ F, Hid (rotF D a m b = F) := ⟨_, (rfl : rotF D a m b = _)⟩
  have HS : Hid (∃ D1, Rw g n W D1 W ∧ rotF D1 (m - i0) m (m + j0) = F) := ⟨D, h, HF.out.trans HFF.out⟩
  rw [HFF.out]
  have hmn : m ≤ n := by omega
  clear h HF h1 h2 h3 HFF Hi0 Hj0
  go_enter Try.func144, Try.ntmps144
  go_wp2_with fail
  clear hi0 hj0
  go_loopw [10, 11] (fun s10 s11 wx => ∃ i j : Nat, 0 < i ∧ 0 < j ∧ i ≤ m ∧ m + j ≤ n ∧ s10 = .int .i64 i ∧ s11 = .int .i64 j ∧ Hid (∃ D1, Rw g n W D1 wx ∧ rotF D1 (m - i) m (m + j) = F)) (fun s10 s11 _ => (intOf s10).toNat + (intOf s11).toNat)
  case atStart => exact ⟨i0, j0, b1, b2, b3, b4, rfl, rfl, HS⟩
  case round =>
    obtain ⟨i, j, i1, j1, im, jn, rfl, rfl, HI⟩ := hrel
    clear HS
    obtain ⟨D1, hR, hF⟩ := HI.out
    clear HI
    have hmi : (m : Int) - (i : Int) = ((m - i : Nat) : Int) := by omega
    by_cases hgt : j < i
    · have d1 : ((i : Int) != (j : Int)) = true := by simp; omega
      have d1' : (i != j) = true := by simp; omega
      have d2 : decide ((i : Int) > (j : Int)) = true := by simp; omega
      have d2' : decide (j < i) = true := by simpa using hgt
      have hC := swapRange_c (cc := cc) wr D1 fv (m - i) m j ⟨hR.row, Only.refl _ _⟩ (by omega) (by omega) hn
      rw [← hmi] at hC
      have hij : (i : Int) - (j : Int) = ((i - j : Nat) : Int) := by omega
      have HK : Hid (∀ X, Rw g n wr (swR D1 (m - i) m j) X → ∃ D1, Rw g n W D1 X ∧ rotF D1 (m - (i - j)) m (m + j) = F) := fun X hX => ⟨_, hR.re hX, (rot_big D1 im hgt).trans hF⟩
      have HC := hid_st hC
      have HGT := hid_st hgt
      clear hC hR hF hmi hgt
      go_wp2_with fail
      refine HC.out.mono ?_
      rintro e X ⟨rfl, hX⟩
      have HN := hid_st (HK.out X hX)
      clear HC HK hX d1 d1' d2 d2'
      go_wp2_with fail
      go_roundw
      case rel => exact ⟨i - j, j, by have := HGT.out; omega, by omega, by omega, by omega, by rw [← hij], rfl, HN⟩
      case measure => have := HGT.out; simp [intOf]; omega
    · by_cases hlt : i < j
      · have d1 : ((i : Int) != (j : Int)) = true := by simp; omega
        have d1' : (i != j) = true := by simp; omega
        have d2 : decide ((i : Int) > (j : Int)) = false := by simp; omega
        have d2' : decide (j < i) = false := by simpa using hgt
        have hC := swapRange_c (cc := cc) wr D1 fv (m - i) (m + j - i) i ⟨hR.row, Only.refl _ _⟩ (by omega) (by omega) hn
        rw [← hmi, show ((m + j - i : Nat) : Int) = (m : Int) + (j : Int) - (i : Int) by omega] at hC
        have hij : (j : Int) - (i : Int) = ((j - i : Nat) : Int) := by omega
        have HK : Hid (∀ X, Rw g n wr (swR D1 (m - i) (m + j - i) i) X → ∃ D1, Rw g n W D1 X ∧ rotF D1 (m - i) m (m + (j - i)) = F) := fun X hX => ⟨_, hR.re hX, (rot_small D1 im hlt).trans hF⟩
        have HC := hid_st hC
        have HGT := hid_st hlt
        clear hC hR hF hmi hgt hlt
        go_wp2_with fail
        refine HC.out.mono ?_
        rintro e X ⟨rfl, hX⟩
        have HN := hid_st (HK.out X hX)
        clear HC HK hX d1 d1' d2 d2'
        go_wp2_with fail
        go_roundw
        case rel => exact ⟨i, j - i, by omega, by have := HGT.out; omega, by omega, by omega, rfl, by rw [← hij], HN⟩
        case measure => have := HGT.out; simp [intOf]; omega
      · obtain rfl : i = j := by omega
        have d1 : ((i : Int) != (i : Int)) = false := by simp
        have hC := swapRange_c (cc := cc) wr D1 fv (m - i) m i ⟨hR.row, Only.refl _ _⟩ (by omega) (by omega) hn
        rw [← hmi] at hC
        have HK : Hid (∀ X, Rw g n wr (swR D1 (m - i) m i) X → Rw g n W F X) := fun X hX => by
          have := hR.re hX
          rw [rot_same D1 im, hF] at this
          exact this
        have HC := hid_st hC
        clear hC hR hF hmi hgt hlt
        go_wp2_with fail
        refine HC.out.mono ?_
        rintro e X ⟨rfl, hX⟩
        have HN := hid_st (HK.out X hX)
        clear HC HK hX d1
        go_wp2_with fail
        go_end0
        exact ⟨rfl, HN.out⟩
end Go.Proofs.Ytcihobmjohpnkaa
