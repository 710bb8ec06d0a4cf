/- 'CostTells': the walk. -/
import Derived.Test.YtcihobmjohpnkaaCostB
import Derived.Test.YtcihobmjohpnkaaCost19
import Derived.Test.YtcihobmjohpnkaaBig17
import Derived.Deep.RegionHeld3
namespace Go.Proofs.Ytcihobmjohpnkaa
open Go.RowKit

theorem ord_ints {B n : Nat} {C : List Int} {D : Nat → Int} {a : Option Addr} {c : Nat} {W : World} (h : OrdAt B n C D a c W) (hl : n ≤ 1000000) : IsInts (fun _ => True) W (.slice a n c) (rowF n D) := by
  obtain ⟨-, hc, hg⟩ := h
  have hlen := rowF_length n D
  refine ⟨a, c, by rw [hlen], ⟨by rw [hlen]; exact hc, by rw [hlen]; omega⟩, ?_⟩
  rcases hg with rfl | ⟨g, rfl, -, hr⟩
  · left; rw [← List.length_eq_zero_iff]; exact hlen
  · exact .inr ⟨g, 0, rfl, trivial, fun j hj => hr.cell (by simp [ints, hj])⟩
theorem ord_below {B n : Nat} {C : List Int} {D : Nat → Int} {a : Option Addr} {c : Nat} {W X : World} (h : OrdAt B n C D a c W) (hb : Below W.heap.size W X) : OrdAt B n C D a c X := by
  obtain ⟨h1, hc, hg⟩ := h
  refine ⟨h1, hc, ?_⟩
  rcases hg with h | ⟨g, ha, hB, hr⟩
  · exact .inl h
  · exact .inr ⟨g, ha, hB, hr.keep (hb.block g hr.lt)⟩
/-- A row whose cells are written over. -/
def OvR (b n : Nat) (W : World) : Prop := ∃ vs : List Value, vs.length = n ∧ RowP W b 3 vs
theorem OvR.cell {b n k : Nat} {W : World} (h : OvR b n W) (hk : k < n) : ∃ v, W.cell? ⟨b, k, none⟩ = some v ∧ W.frozen? ⟨b, k, none⟩ = false := by
  obtain ⟨vs, hl, hr⟩ := h
  exact ⟨vs[k]'(by omega), hr.cell (by simp [hl, hk]), hr.frozen k⟩
theorem OvR.set {b n k : Nat} {W : World} (h : OvR b n W) (hk : k < n) (v : Value) : OvR b n (W.setCell ⟨b, k, none⟩ v) := by
  obtain ⟨vs, hl, hr⟩ := h
  exact ⟨vs.set k v, by simp [hl], hr.set (by omega) v⟩
theorem OvR.keep {b n : Nat} {W W' : World} (h : OvR b n W) (hk : W'.heap[b]? = W.heap[b]?) : OvR b n W' := let ⟨vs, hl, hr⟩ := h; ⟨vs, hl, hr.keep hk⟩
theorem OvR.other {b n g k : Nat} {W : World} (h : OvR b n W) (hg : b ≠ g) (v : Value) : OvR b n (W.setCell ⟨g, k, none⟩ v) := h.keep (Below.heap_setCell _ _ _ _ hg)

set_option maxRecDepth 100000 in
set_option maxHeartbeats 20000000 in
theorem costTells_c (w : World) (nm : ByteArray) (va : Option Addr) (vn vc : Nat) (pa : Option Addr) (pn pc : Nat) (re : ByteArray) (ba : Option Addr) (n bc : Nat) {vs : List ByteArray} {ps : List Int} {L : List (List InsD)}
    (hv : IsStrs (· < w.heap.size) w (.slice va vn vc) vs) (hp : IsInts (· < w.heap.size) w (.slice pa pn pc) ps) (h : IsBlocks (· < w.heap.size) w (.slice ba n bc) L) (hN : ∀ l ∈ L, ∀ i ∈ l, i.name.size ≤ 9223372036854775807) (hnm : nm.size ≤ 9223372036854775807) (hre : re.size ≤ 9223372036854775807) (dp : Int) :
    Calls Try.prog 21 #[funcV nm va vn vc pa pn pc re ba n bc, .int .i64 dp] w fun e w' => e = .returned (.bool true) ∧ Below w.heap.size w w' := by
  have hnL : n = L.length := by obtain ⟨_, _, hv0, hl0, hx⟩ := id h; simp only [Value.slice.injEq] at hv0; exact hv0.2.1
  have HNL := hid_of hnL
  have hB := bel_alloc (bel_refl w) (.cells #[.string nm, .slice va vn vc, .slice pa pn pc, .string re, .slice ba n bc] 44)
  have HAL := hid_of (alive19_c (w.alloc (.cells #[.string nm, .slice va vn vc, .slice pa pn pc, .string re, .slice ba n bc] 44)))
  have HK0 : Hid (Row (w.alloc (.cells #[.string nm, .slice va vn vc, .slice pa pn pc, .string re, .slice ba n bc] 44)) w.heap.size 44 (funcC nm va vn vc pa pn pc re ba n bc)) := heap_alloc_eq _ _ _ rfl
  have hK : ∀ W, Below w.heap.size w W → Keep (· < w.heap.size) (· < W.heap.size) w W := fun W hW b hb hlt => ⟨Nat.lt_of_lt_of_le hb hW.size, hW.block b hlt⟩
  have HBg := hid_of (fun W (hW : Below w.heap.size w W) => big17v_c W nm va vn vc pa pn pc re ba n bc (hv.keep (hK W hW)) (hp.keep (hK W hW)) (h.keep (hK W hW)) hN hnm hre)
  have HH := hid_of h
  have HB := hid_of hB
  unfold funcV at HBg ⊢
  clear hnL hv hp h hN hnm hre hB hK
  go_enter Try.func21, Try.ntmps21
  go_wp2_with fail
  refine HAL.out.mono ?_
  rintro e W ⟨rfl, hb⟩
  have r1 : Row W w.heap.size 44 (funcC nm va vn vc pa pn pc re ba n bc) := Row.keep HK0.out (hb.block w.heap.size (by simp))
  have hB1 := bel_call HB.out hb
  have R1 := hid_of r1
  have HB1 := hid_of hB1
  have c0 := r1.cell (k := 0) (v := .string nm) rfl
  have c1 := r1.cell (k := 1) (v := .slice va vn vc) rfl
  have c2 := r1.cell (k := 2) (v := .slice pa pn pc) rfl
  have c3 := r1.cell (k := 3) (v := .string re) rfl
  have c4 := r1.cell (k := 4) (v := .slice ba n bc) rfl
  clear HAL HK0 HB hb r1 hB1
  go_wp2_with fail
  refine (HBg.out W HB1.out).mono ?_
  rintro e W1 ⟨r, rfl, hb1, hr⟩
  have HR := hid_of hr
  have HB2 := hid_of (bel_call HB1.out hb1)
  have R2 : Hid (Row W1 w.heap.size 44 (funcC nm va vn vc pa pn pc re ba n bc)) := Row.keep R1.out (hb1.block w.heap.size R1.out.lt)
  clear HBg hr hb1 R1 HB1 c0 c1 c2 c3 c4
  cases r with
  | true =>
    go_wp2_with fail
    go_ret
    exact ⟨rfl, HB2.out⟩
  | false =>
    have HA := hid_of (HR.out rfl)
    have c0 := R2.out.cell (k := 0) (v := .string nm) rfl
    have c1 := R2.out.cell (k := 1) (v := .slice va vn vc) rfl
    have c2 := R2.out.cell (k := 2) (v := .slice pa pn pc) rfl
    have c3 := R2.out.cell (k := 3) (v := .string re) rfl
    have c4 := R2.out.cell (k := 4) (v := .slice ba n bc) rfl
    clear HR
    have hn60 : n ≤ 60 := by rw [HNL.out]; exact HA.out.1.1
    have hvn3 : vn ≤ 3000 := HA.out.2
    have hbd : ∀ l ∈ L, l.length ≤ 100000 ∧ ∀ i ∈ l, (usesS i).length ≤ 1000002 := fun l hl => ⟨by have := (HA.out.1.2 l hl).1; omega, fun i hi => by have := (HA.out.1.2 l hl).2 i hi; have := usesS_length i; omega⟩
    have hkp : ∀ W, Below w.heap.size w W → IsBlocks (· < W.heap.size) W (.slice ba n bc) L := fun W hW => HH.out.keep (fun b hb hlt => ⟨Nat.lt_of_lt_of_le hb hW.size, hW.block b hlt⟩)
    have HCo := hid_of (costs_c W1 nm va vn vc pa pn pc re ba n bc (hkp W1 HB2.out) (by omega) (by omega) hbd)
    have HOr := hid_of (fun W hW => order_cost_c W nm va vn vc pa pn pc re ba n bc (hkp W hW) (by omega) (by omega) hbd)
    have hbdR : ∀ l ∈ L, l.length ≤ 100000 ∧ ∀ i ∈ l, i.args.length ≤ 1000000 := fun l hl => ⟨by have := (HA.out.1.2 l hl).1; omega, fun i hi => by have := (HA.out.1.2 l hl).2 i hi; omega⟩
    have HCoA := hid_of (fun W hW => costs_c W nm va vn vc pa pn pc re ba n bc (hkp W hW) (by omega) (by omega) hbd)
    have HCoR := hid_of (fun W hW => costsR_c W nm va vn vc pa pn pc re ba n bc (hkp W hW) (by omega) (by omega) hbdR)
    have HByR := hid_of (fun W hW => byCost_c W nm va vn vc pa pn pc re ba n bc (hkp W hW) (by omega) (by omega) hbdR)
    have HCL : Hid ((costS vn L).length = vn) := costK_length vn L L.length
    obtain ⟨C, HCC⟩ : ∃ C, Hid (costS vn L = C) := ⟨_, (rfl : costS vn L = _)⟩
    rw [HCC.out] at HCo HOr HCL HCoA HCoR HByR
    unfold funcV at HCo HOr HCoA HCoR HByR
    clear hkp hbd hbdR HA HH HNL HCC
    by_cases h40 : 40 < n
    · have d1 : decide ((n : Int) > 40) = true := by simp; omega
      have d1' : decide (40 < (n : Int)) = true := by simp; omega
      have d1n : decide (40 < n) = true := by simp; omega
      clear HCo HOr HCoA HCoR HByR
      go_wp2_with fail
      go_ret
      exact ⟨rfl, HB2.out⟩
    have d1 : decide ((n : Int) > 40) = false := by simp; omega
    have d1' : decide (40 < (n : Int)) = false := by simp; omega
    have d1n : decide (40 < n) = false := by simp; omega
    go_wp2_with fail
    refine HCo.out.mono ?_
    rintro e W2 ⟨gc, rfl, hgc, hrc, hb2⟩
    have HB3 := hid_of (bel_call HB2.out hb2)
    have R3 : Hid (Row W2 w.heap.size 44 (funcC nm va vn vc pa pn pc re ba n bc)) := Row.keep R2.out (hb2.block w.heap.size R2.out.lt)
    have HRC := hid_of hrc
    have HGC : Hid (w.heap.size < gc) := Nat.lt_of_lt_of_le R2.out.lt hgc
    clear c0 c1 c2 c3 c4 HCo hgc hrc hb2 R2 HB2
    have c0 := R3.out.cell (k := 0) (v := .string nm) rfl
    have c1 := R3.out.cell (k := 1) (v := .slice va vn vc) rfl
    have c2 := R3.out.cell (k := 2) (v := .slice pa pn pc) rfl
    have c3 := R3.out.cell (k := 3) (v := .string re) rfl
    have c4 := R3.out.cell (k := 4) (v := .slice ba n bc) rfl
    go_wp2_with fail
    refine (HOr.out W2 HB3.out).mono ?_
    rintro e W3 ⟨D, oa, oc, rfl, hO, hb3⟩
    have HB4 := hid_of (bel_call HB3.out hb3)
    have HO := hid_of hO
    have HRC2 := hid_of (HRC.out.keep (hb3.block gc HRC.out.lt))
    have HGW : Hid (w.heap.size < gc ∧ gc < W2.heap.size) := ⟨HGC.out, HRC.out.lt⟩
    have R4 : Hid (Row W3 w.heap.size 44 (funcC nm va vn vc pa pn pc re ba n bc)) := Row.keep R3.out (hb3.block w.heap.size R3.out.lt)
    clear c0 c1 c2 c3 c4 HOr hO hb3 HRC R3 HB3
    have c0 := R4.out.cell (k := 0) (v := .string nm) rfl
    have c1 := R4.out.cell (k := 1) (v := .slice va vn vc) rfl
    have c2 := R4.out.cell (k := 2) (v := .slice pa pn pc) rfl
    have c3 := R4.out.cell (k := 3) (v := .string re) rfl
    have c4 := R4.out.cell (k := 4) (v := .slice ba n bc) rfl
    have HRI : Hid (∀ W g, Row W g 3 (ints C) → IsInts (fun _ => True) W (.slice (some ⟨g, 0, none⟩) vn vn) C) := fun W g h => by
      have h1 := ints_of_row (p := fun _ => True) h trivial (by rw [HCL.out]; omega)
      rw [HCL.out] at h1
      exact h1
    go_wp2_with fail
    refine (HCoR.out W3 HB4.out).mono ?_
    rintro e W4 ⟨g4, rfl, -, hr4, hb4⟩
    have HB5 := hid_of (bel_call HB4.out hb4)
    have R5 : Hid (Row W4 w.heap.size 44 (funcC nm va vn vc pa pn pc re ba n bc)) := Row.keep R4.out (hb4.block w.heap.size R4.out.lt)
    have HRC3 := hid_of (HRC2.out.keep (hb4.block gc HRC2.out.lt))
    have HO2 := hid_of (ord_below HO.out hb4)
    have HS := hid_of (sameInts_c W4 (HRI.out W4 gc HRC3.out) (HRI.out W4 g4 hr4))
    clear c0 c1 c2 c3 c4 hr4 hb4 R4 HB4 HRC2 HO
    go_wp2_with fail
    refine HS.out.mono ?_
    rintro e W5 ⟨rfl, q, rfl⟩
    rw [sameS_self]
    have hbq : Below W4.heap.size W4 (W4.drewN q) := bel_drewN (bel_refl W4) q
    have HB6 := hid_of (bel_call HB5.out hbq)
    have R6 : Hid (Row (W4.drewN q) w.heap.size 44 (funcC nm va vn vc pa pn pc re ba n bc)) := R5.out
    have HRC4 : Hid (Row (W4.drewN q) gc 3 (ints C)) := HRC3.out
    have HO3 := hid_of (ord_below HO2.out hbq)
    have c0 := R6.out.cell (k := 0) (v := .string nm) rfl
    have c1 := R6.out.cell (k := 1) (v := .slice va vn vc) rfl
    have c2 := R6.out.cell (k := 2) (v := .slice pa pn pc) rfl
    have c3 := R6.out.cell (k := 3) (v := .string re) rfl
    have c4 := R6.out.cell (k := 4) (v := .slice ba n bc) rfl
    clear HS hbq HB5 R5 HRC3 HO2
    generalize W4.drewN q = W5 at *
    go_wp2_with fail
    refine (HByR.out W5 HB6.out).mono ?_
    rintro e W6 ⟨D', oa', oc', rfl, hO', hb6⟩
    have HB7 := hid_of (bel_call HB6.out hb6)
    have R7 : Hid (Row W6 w.heap.size 44 (funcC nm va vn vc pa pn pc re ba n bc)) := Row.keep R6.out (hb6.block w.heap.size R6.out.lt)
    have HRC5 := hid_of (HRC4.out.keep (hb6.block gc HRC4.out.lt))
    have HO4 := hid_of (ord_below HO3.out hb6)
    have hoo : rowF vn D' = rowF vn D := rowF_congr fun k hk => hO'.1.uniq HO4.out.1 k hk
    have HS := hid_of (sameInts_c W6 (ord_ints HO4.out (by omega)) (hoo ▸ ord_ints hO' (by omega)))
    clear c0 c1 c2 c3 c4 hO' hb6 R6 HB6 HRC4 HO3 hoo
    go_wp2_with fail
    refine HS.out.mono ?_
    rintro e W7 ⟨rfl, q2, rfl⟩
    rw [sameS_self]
    have HB8 : Hid (Below w.heap.size w (W6.drewN q2)) := bel_drewN HB7.out q2
    have R8 : Hid (Row (W6.drewN q2) w.heap.size 44 (funcC nm va vn vc pa pn pc re ba n bc)) := R7.out
    have HV1 : Hid (OvR gc vn (W6.drewN q2)) := ⟨ints C, by simp [ints, HCL.out], [], by rw [List.append_nil]; exact HRC5.out⟩
    have HV2 : Hid (vn = 0 ∨ ∃ go, oa = some ⟨go, 0, none⟩ ∧ W2.heap.size ≤ go ∧ OvR go vn (W6.drewN q2)) := by
      rcases HO4.out.2.2 with h | ⟨go, h1, h2, h3⟩
      · exact .inl h
      · exact .inr ⟨go, h1, h2, ints (rowF vn D), by simp [ints, rowF_length], h3⟩
    have HOC := hid_of HO4.out.2.1
    clear HS R7 HB7 HRC5 HO4
    generalize W6.drewN q2 = W7 at *
    go_wp2_with fail
    go_loopw [10] (fun s10 wx => ∃ i : Nat, i ≤ vn ∧ s10 = .int .i64 i ∧ Hid (OvR gc vn wx ∧ (vn = 0 ∨ ∃ go, oa = some ⟨go, 0, none⟩ ∧ W2.heap.size ≤ go ∧ OvR go vn wx) ∧ Row wx w.heap.size 44 (funcC nm va vn vc pa pn pc re ba n bc) ∧ Below w.heap.size w wx)) (fun s10 _ => vn - (intOf s10).toNat)
    case atStart => exact ⟨0, by omega, rfl, HV1.out, HV2.out, R8.out, HB8.out⟩
    case round =>
      obtain ⟨i, hi, rfl, HI⟩ := hrel
      clear HV1 HV2 R8 HB8
      by_cases hlt : i < vn
      · obtain ⟨h1, h2, h3, h4⟩ := HI.out
        rcases h2 with h2 | ⟨go, rfl, hgo, h2⟩
        · omega
        obtain ⟨x1, e1, f1⟩ := h1.cell hlt
        have hne : go ≠ gc := by have := HGW.out; omega
        have hw1 : w.heap.size ≠ gc := by have := HGW.out; omega
        have hw2 : w.heap.size ≠ go := by have := HGW.out; omega
        obtain ⟨x2, e2, f2⟩ := h2.cell hlt
        have hiz : (i : Int) < (vn : Int) := by omega
        have hcap : i < oc := by have := HOC.out; omega
        have HN : Hid (∀ W, W = (wr.setCell ⟨gc, i, none⟩ (.int .i64 (-1))).setCell ⟨go, i, none⟩ (.int .i64 (-1)) → OvR gc vn W ∧ (vn = 0 ∨ ∃ go', some (⟨go, 0, none⟩ : Addr) = some ⟨go', 0, none⟩ ∧ W2.heap.size ≤ go' ∧ OvR go' vn W) ∧ Row W w.heap.size 44 (funcC nm va vn vc pa pn pc re ba n bc) ∧ Below w.heap.size w W) := by
          rintro W rfl
          refine ⟨(h1.set hlt _).other hne.symm _, .inr ⟨go, rfl, hgo, (h2.other hne _).set hlt _⟩, ?_, ?_⟩
          · exact (h3.keep (Below.heap_setCell _ _ _ _ hw1)).keep (Below.heap_setCell _ _ _ _ hw2)
          · exact (h4.setCell (by show _ ≤ gc; have := HGW.out; omega) _).setCell (by show _ ≤ go; have := HGW.out; omega) _
        have e2' : (wr.setCell ⟨gc, i, none⟩ (.int .i64 (-1))).cell? ⟨go, i, none⟩ = some x2 := (World.cell?_of_block (a := ⟨go, i, none⟩) (Below.heap_setCell _ _ _ _ hne)).trans e2
        obtain ⟨y2, -, f2'⟩ := (h2.other (k := i) hne (.int .i64 (-1))).cell hlt
        clear h1 h2 h3 h4 HI
        go_wp2_with fail
        go_roundw
        case rel => exact ⟨i + 1, by omega, by go_num, HN.out _ rfl⟩
        case measure => simp [intOf]; omega
      · obtain rfl : vn = i := by omega
        obtain ⟨-, -, h3, h4⟩ := HI.out
        have H4 := hid_of h4
        have hS : ∀ X, BkS wr X → (X.cell? ⟨w.heap.size, 0, none⟩ = some (.string nm) ∧ X.cell? ⟨w.heap.size, 1, none⟩ = some (.slice va vn vc) ∧ X.cell? ⟨w.heap.size, 2, none⟩ = some (.slice pa pn pc) ∧ X.cell? ⟨w.heap.size, 3, none⟩ = some (.string re) ∧ X.cell? ⟨w.heap.size, 4, none⟩ = some (.slice ba n bc)) := fun X hX => by
          have r := h3.keep (hX.block _ h3.lt)
          exact ⟨r.cell rfl, r.cell rfl, r.cell rfl, r.cell rfl, r.cell rfl⟩
        have hCs : ∀ X, BkS wr X → Calls Try.prog 64 _ X fun e X' => ∃ g, e = .returned (.slice (some ⟨g, 0, none⟩) vn vn) ∧ IsInts (fun _ => True) X' (.slice (some ⟨g, 0, none⟩) vn vn) C ∧ BkS wr X' ∧ Below X.heap.size X X' := fun X hX =>
          (HCoA.out X (bel_call H4.out hX)).mono (by rintro e X' ⟨g, rfl, -, hr, hb⟩; exact ⟨g, rfl, HRI.out X' g hr, bel_call hX hb, hb⟩)
        have hRs : ∀ X, BkS wr X → Calls Try.prog 66 _ X fun e X' => ∃ g, e = .returned (.slice (some ⟨g, 0, none⟩) vn vn) ∧ IsInts (fun _ => True) X' (.slice (some ⟨g, 0, none⟩) vn vn) C ∧ BkS wr X' ∧ Below X.heap.size X X' := fun X hX =>
          (HCoR.out X (bel_call H4.out hX)).mono (by rintro e X' ⟨g, rfl, -, hr, hb⟩; exact ⟨g, rfl, HRI.out X' g hr, bel_call hX hb, hb⟩)
        have hSm : ∀ X z1 z2, BkS wr X → IsInts (fun _ => True) X z1 C → IsInts (fun _ => True) X z2 C → Calls Try.prog 26 #[z1, z2] X fun e X' => e = .returned (.bool true) ∧ BkS wr X' := fun X z1 z2 hX h1 h2 =>
          (sameInts_c X h1 h2).mono (by rintro e X' ⟨rfl, n, rfl⟩; rw [sameS_self]; exact ⟨rfl, bel_drewN hX n⟩)
        obtain ⟨wt, HWT⟩ : ∃ wt, Hid (wtS dp = wt) := ⟨_, (rfl : wtS dp = _)⟩
        have hWa : ∀ X, BkS wr X → Calls Try.prog 68 #[.int .i64 dp] X fun e X' => e = .returned (.int .i64 (wt : Int)) ∧ BkS wr X' := fun X hX => (weight_c X dp).mono (by rintro e X' ⟨rfl, rfl⟩; rw [HWT.out]; exact ⟨rfl, hX⟩)
        have hWb : ∀ X, BkS wr X → Calls Try.prog 69 #[.int .i64 dp] X fun e X' => e = .returned (.int .i64 (wt : Int)) ∧ BkS wr X' := fun X hX => (weightR_c X dp).mono (by rintro e X' ⟨rfl, rfl⟩; rw [HWT.out]; exact ⟨rfl, hX⟩)
        have hE0 : BkS wr wr := bel_refl wr
        have hE1 : BkS wr wr.drew := (bel_refl wr).drew
        have hWW : ((wt : Int) == (wt : Int)) = true := by simp
        clear h3 h4 HI HCoA HCoR HByR
        go_wp2_with fail
        go_region_held3 (fun X => X.cell? ⟨w.heap.size, 0, none⟩ = some (.string nm) ∧ X.cell? ⟨w.heap.size, 1, none⟩ = some (.slice va vn vc) ∧ X.cell? ⟨w.heap.size, 2, none⟩ = some (.slice pa pn pc) ∧ X.cell? ⟨w.heap.size, 3, none⟩ = some (.string re) ∧ X.cell? ⟨w.heap.size, 4, none⟩ = some (.slice ba n bc))
          ((refine hS _ ?_; with_reducible assumption))
          (first
            | (go_at_call 64; (with_reducible refine (hCs _ ?_).mono ?_); (with_reducible assumption); rintro e Yu ⟨gu, rfl, hzu, hEu, hbu⟩)
            | (go_at_call 66; (with_reducible refine (hRs _ ?_).mono ?_); (with_reducible assumption); rintro e Yr ⟨gr, rfl, hzr, hEr, hbr⟩)
            | (go_at_call 26; (with_reducible refine (hSm _ _ _ ?_ ?_ ?_).mono ?_); (with_reducible assumption); (first | exact hzu.keep (Keep.below hbr) | exact hzu); (first | exact hzr.keep (Keep.below hbu) | exact hzr); rintro e Ys ⟨rfl, hEs2⟩)
            | (go_at_call 68; (with_reducible refine (hWa _ ?_).mono ?_); (with_reducible assumption); rintro e Yd ⟨rfl, hEd⟩)
            | (go_at_call 69; (with_reducible refine (hWb _ ?_).mono ?_); (with_reducible assumption); rintro e Yf ⟨rfl, hEf⟩))
        all_goals
          try go_wp2_with fail
          go_ret
          refine ⟨by first | rfl | simp, bel_call H4.out ?_⟩
          first | exact hEs2 | exact hEd | exact hEf
end Go.Proofs.Ytcihobmjohpnkaa
