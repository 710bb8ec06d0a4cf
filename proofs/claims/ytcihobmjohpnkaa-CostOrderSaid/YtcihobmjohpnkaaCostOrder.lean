/- 'CostOrder': the walk. -/
import Derived.Test.YtcihobmjohpnkaaCostO
import Derived.Test.YtcihobmjohpnkaaCost19
import Derived.Test.YtcihobmjohpnkaaBig17
namespace Go.Proofs.Ytcihobmjohpnkaa
open Go.RowKit

/-- Has one of the first i been this number? -/
def seenB (D : Nat → Int) (i v : Nat) : Bool := (List.range i).any fun j => D j == (v : Int)
def seenL (D : Nat → Int) (n i : Nat) : List Bool := (List.range n).map (seenB D i)
theorem seenL_length (D : Nat → Int) (n i : Nat) : (seenL D n i).length = n := by simp [seenL]
theorem seenL_zero (D : Nat → Int) (n : Nat) : seenL D n 0 = List.replicate n false := by
  refine List.ext_getElem (by simp [seenL]) fun k h1 h2 => by simp [seenL, seenB]
theorem seenL_get {D : Nat → Int} {n i v : Nat} (h : v < n) : (bools (seenL D n i))[v]? = some (.bool (seenB D i v)) := by simp [bools, seenL, h]
theorem seenL_succ {D : Nat → Int} {n i v : Nat} (h : D i = (v : Int)) : (seenL D n i).set v true = seenL D n (i + 1) := by
  refine List.ext_getElem (by simp [seenL]) fun k h1 h2 => ?_
  rw [List.getElem_set]
  unfold seenL seenB
  simp only [List.getElem_map, List.getElem_range, List.range_succ, List.any_append, List.any_cons, List.any_nil, Bool.or_false]
  by_cases e : v = k
  · subst e; simp [h]
  · have : ¬ (v : Int) = (k : Int) := by omega
    simp [e, h, this]
theorem seen_no {c : Int → Int} {D : Nat → Int} {n i v : Nat} (hs : SegS c D 0 n) (hi : i < n) (h : D i = (v : Int)) : seenB D i v = false := by
  unfold seenB
  rw [← Bool.not_eq_true, List.any_eq_true]
  rintro ⟨j, hj, he⟩
  have hj := List.mem_range.1 hj
  have := hs j i (Nat.zero_le _) hj hi
  rw [h, show D j = (v : Int) by simpa using he] at this
  exact this.irrefl
theorem cS_nat (C : List Int) (k : Nat) : cS C (k : Int) = C.getD k 0 := by unfold cS; rw [Int.toNat_natCast]

set_option maxRecDepth 100000 in
set_option maxHeartbeats 20000000 in
theorem costOrder_c (w : World) (nm : ByteArray) (va : Option Addr) (vn vc : Nat) (pa : Option Addr) (pn pc : Nat) (re : ByteArray) (ba : Option Addr) (n bc : Nat) {vs : List ByteArray} {ps : List Int} {L : List (List InsD)}
    (hv : IsStrs (· < w.heap.size) w (.slice va vn vc) vs) (hp : IsInts (· < w.heap.size) w (.slice pa pn pc) ps) (h : IsBlocks (· < w.heap.size) w (.slice ba n bc) L) (hN : ∀ l ∈ L, ∀ i ∈ l, i.name.size ≤ 9223372036854775807) (hnm : nm.size ≤ 9223372036854775807) (hre : re.size ≤ 9223372036854775807) :
    Calls Try.prog 22 #[funcV nm va vn vc pa pn pc re ba n bc] w fun e w' => e = .returned (.bool true) ∧ Below w.heap.size w w' := by
  have hnL : n = L.length := by obtain ⟨_, _, hv0, hl0, hx⟩ := id h; simp only [Value.slice.injEq] at hv0; exact hv0.2.1
  have HNL := hid_of hnL
  have hB := bel_alloc (bel_refl w) (.cells #[.string nm, .slice va vn vc, .slice pa pn pc, .string re, .slice ba n bc] 44)
  have HAL := hid_of (alive19_c (w.alloc (.cells #[.string nm, .slice va vn vc, .slice pa pn pc, .string re, .slice ba n bc] 44)))
  have HK0 : Hid (Row (w.alloc (.cells #[.string nm, .slice va vn vc, .slice pa pn pc, .string re, .slice ba n bc] 44)) w.heap.size 44 (funcC nm va vn vc pa pn pc re ba n bc)) := heap_alloc_eq _ _ _ rfl
  have hK : ∀ W, Below w.heap.size w W → Keep (· < w.heap.size) (· < W.heap.size) w W := fun W hW b hb hlt => ⟨Nat.lt_of_lt_of_le hb hW.size, hW.block b hlt⟩
  have HBg := hid_of (fun W (hW : Below w.heap.size w W) => big17v_c W nm va vn vc pa pn pc re ba n bc (hv.keep (hK W hW)) (hp.keep (hK W hW)) (h.keep (hK W hW)) hN hnm hre)
  have HH := hid_of h
  have HB := hid_of hB
  unfold funcV at HBg ⊢
  clear hnL hv hp h hN hnm hre hB hK
  go_enter Try.func22, Try.ntmps22
  go_wp2_with fail
  refine HAL.out.mono ?_
  rintro e W ⟨rfl, hb⟩
  have r1 : Row W w.heap.size 44 (funcC nm va vn vc pa pn pc re ba n bc) := Row.keep HK0.out (hb.block w.heap.size (by simp))
  have hB1 := bel_call HB.out hb
  have R1 := hid_of r1
  have HB1 := hid_of hB1
  have c0 := r1.cell (k := 0) (v := .string nm) rfl
  have c1 := r1.cell (k := 1) (v := .slice va vn vc) rfl
  have c2 := r1.cell (k := 2) (v := .slice pa pn pc) rfl
  have c3 := r1.cell (k := 3) (v := .string re) rfl
  have c4 := r1.cell (k := 4) (v := .slice ba n bc) rfl
  clear HAL HK0 HB hb r1 hB1
  go_wp2_with fail
  refine (HBg.out W HB1.out).mono ?_
  rintro e W1 ⟨r, rfl, hb1, hr⟩
  have HR := hid_of hr
  have HB2 := hid_of (bel_call HB1.out hb1)
  have R2 : Hid (Row W1 w.heap.size 44 (funcC nm va vn vc pa pn pc re ba n bc)) := Row.keep R1.out (hb1.block w.heap.size R1.out.lt)
  clear HBg hr hb1 R1 HB1 c0 c1 c2 c3 c4
  cases r with
  | true =>
    go_wp2_with fail
    go_ret
    exact ⟨rfl, HB2.out⟩
  | false =>
    have HA := hid_of (HR.out rfl)
    have c0 := R2.out.cell (k := 0) (v := .string nm) rfl
    have c1 := R2.out.cell (k := 1) (v := .slice va vn vc) rfl
    have c2 := R2.out.cell (k := 2) (v := .slice pa pn pc) rfl
    have c3 := R2.out.cell (k := 3) (v := .string re) rfl
    have c4 := R2.out.cell (k := 4) (v := .slice ba n bc) rfl
    clear HR
    have hn60 : n ≤ 60 := by rw [HNL.out]; exact HA.out.1.1
    have hvn3 : vn ≤ 3000 := HA.out.2
    have hbd : ∀ l ∈ L, l.length ≤ 100000 ∧ ∀ i ∈ l, (usesS i).length ≤ 1000002 := fun l hl => ⟨by have := (HA.out.1.2 l hl).1; omega, fun i hi => by have := (HA.out.1.2 l hl).2 i hi; have := usesS_length i; omega⟩
    have hkp : ∀ W, Below w.heap.size w W → IsBlocks (· < W.heap.size) W (.slice ba n bc) L := fun W hW => HH.out.keep (fun b hb hlt => ⟨Nat.lt_of_lt_of_le hb hW.size, hW.block b hlt⟩)
    have HCo := hid_of (costs_c W1 nm va vn vc pa pn pc re ba n bc (hkp W1 HB2.out) (by omega) (by omega) hbd)
    have HOr := hid_of (fun W hW => order_cost_c W nm va vn vc pa pn pc re ba n bc (hkp W hW) (by omega) (by omega) hbd)
    have HCL : Hid ((costS vn L).length = vn) := costK_length vn L L.length
    obtain ⟨C, HCC⟩ : ∃ C, Hid (costS vn L = C) := ⟨_, (rfl : costS vn L = _)⟩
    rw [HCC.out] at HCo HOr HCL
    unfold funcV at HCo HOr
    clear hkp hbd HA HH HNL HCC
    go_wp2_with fail
    refine HCo.out.mono ?_
    rintro e W2 ⟨gc, rfl, hgc, hrc, hb2⟩
    have HB3 := hid_of (bel_call HB2.out hb2)
    have R3 : Hid (Row W2 w.heap.size 44 (funcC nm va vn vc pa pn pc re ba n bc)) := Row.keep R2.out (hb2.block w.heap.size R2.out.lt)
    have HRC := hid_of hrc
    have HGC : Hid (w.heap.size ≤ gc) := by show _ ≤ _; have := HB2.out.size; omega
    clear c0 c1 c2 c3 c4 HCo hgc hrc hb2 R2 HB2
    have c0 := R3.out.cell (k := 0) (v := .string nm) rfl
    have c1 := R3.out.cell (k := 1) (v := .slice va vn vc) rfl
    have c2 := R3.out.cell (k := 2) (v := .slice pa pn pc) rfl
    have c3 := R3.out.cell (k := 3) (v := .string re) rfl
    have c4 := R3.out.cell (k := 4) (v := .slice ba n bc) rfl
    go_wp2_with fail
    refine (HOr.out W2 HB3.out).mono ?_
    rintro e W3 ⟨D, oa, oc, rfl, hO, hb3⟩
    have HB4 := hid_of (bel_call HB3.out hb3)
    have HO := hid_of hO
    have HRC2 := hid_of (HRC.out.keep (hb3.block gc HRC.out.lt))
    have R4 : Hid (Row W3 w.heap.size 44 (funcC nm va vn vc pa pn pc re ba n bc)) := Row.keep R3.out (hb3.block w.heap.size R3.out.lt)
    clear c0 c1 c2 c3 c4 HOr hO hb3 HRC R3 HB3
    have c1 := R4.out.cell (k := 1) (v := .slice va vn vc) rfl
    have hvv : ((vn : Int) != (vn : Int)) = false := by simp
    go_wp2_with (at_make; refine stop_here ?_)
    refine stop_go (mk_bools rfl _ _ rfl vn rfl rfl (by omega) ?_)
    go_upto_region 10 with fail
    refine wp_at (fun X => Row X W3.heap.size 4 (bools (seenL D vn 0)) ∧ Below W3.heap.size W3 X) ⟨(by rw [seenL_zero]; exact (heap_alloc_eq W3 (.cells (Array.replicate vn (Value.bool false)) 4) _ rfl).trans (by simp [bools])), bel_alloc (bel_refl W3) _⟩ ?_
    rintro X0 ⟨hx0, hx1⟩
    have H0 : Hid (Row X0 W3.heap.size 4 (bools (seenL D vn 0)) ∧ Below W3.heap.size W3 X0) := ⟨hx0, hx1⟩
    clear hx0 hx1
    obtain ⟨gs, Hgs⟩ : ∃ gs, Hid (W3.heap.size = gs) := ⟨_, (rfl : W3.heap.size = _)⟩
    rw [Hgs.out] at H0 ⊢
    clear c1 R4
    go_wp2_with fail
    go_loopw [8] (fun s8 wx => ∃ i : Nat, i ≤ vn ∧ s8 = .int .i64 i ∧ Hid (Row wx gs 4 (bools (seenL D vn i)) ∧ Below gs W3 wx)) (fun s8 _ => vn - (intOf s8).toNat)
    case atStart => exact ⟨0, by omega, rfl, H0⟩
    case round =>
      obtain ⟨i, hi, rfl, HI⟩ := hrel
      clear H0
      by_cases hlt : i < vn
      · obtain ⟨hs, hb5⟩ := HI.out
        obtain ⟨hbk, hcap, hog⟩ := HO.out
        rcases hog with hog | ⟨go, rfl, hgo, hro⟩
        · omega
        have hgoW : go < W3.heap.size := hro.lt
        have hgcW : gc < W3.heap.size := HRC2.out.lt
        have hne1 : gs ≠ go := by have := Hgs.out; omega
        have hro2 := hro.keep (hb5.block go (by have := Hgs.out; omega))
        have hrc2 := HRC2.out.keep (hb5.block gc (by have := Hgs.out; omega))
        have hrg := hbk.rg i (Nat.zero_le _) hlt
        obtain ⟨xN, hxN⟩ : ∃ xN : Nat, D i = (xN : Int) := ⟨(D i).toNat, by omega⟩
        have hx1 : xN < vn := by omega
        have hxz : (xN : Int) < (vn : Int) := by omega
        have hiz : (i : Int) < (vn : Int) := by omega
        have hno := seen_no hbk.so hlt hxN
        have o1 := hro2.cell (k := i) (v := .int .i64 (xN : Int)) (by simp [ints, rowF, hlt, hxN])
        have s1 := hs.cell (seenL_get (D := D) (i := i) hx1)
        have fs := hs.frozen xN
        rw [hno] at s1
        have hcg : ∀ k : Nat, k < vn → wr.cell? ⟨gc, k, none⟩ = some (.int .i64 (C.getD k 0)) := fun k hk => hrc2.cell (by
          have h1 : k < C.length := by rw [HCL.out]; exact hk
          simp [ints, List.getD, h1])
        have q1 := hcg xN hx1
        have hle := seenL_succ (D := D) (n := vn) (i := i) hxN
        have HN : Hid (∀ q, Row ((wr.drewN q).setCell ⟨gs, xN, none⟩ (.bool true)) gs 4 (bools (seenL D vn (i + 1))) ∧ Below gs W3 ((wr.drewN q).setCell ⟨gs, xN, none⟩ (.bool true))) := fun q => by
          have h1 := (show Row (wr.drewN q) gs 4 _ from hs).set xN (.bool true)
          rw [bools_set, hle] at h1
          exact ⟨h1, (show Below gs W3 (wr.drewN q) from ⟨hb5.os, hb5.tape, hb5.output, hb5.size, hb5.block⟩).setCell (Nat.le_refl _) _⟩
        obtain ⟨u, Hu⟩ : ∃ u, Hid (C.getD xN 0 = u) := ⟨_, (rfl : C.getD xN 0 = _)⟩
        rw [Hu.out] at q1
        have g1 : decide ((xN : Int) < 0) = false := by simp
        have g2 : decide ((xN : Int) ≥ (vn : Int)) = false := by simp; omega
        have g2' : decide ((vn : Int) ≤ (xN : Int)) = false := by simp; omega
        have g2n : decide (vn ≤ xN) = false := by simp; omega
        by_cases h0 : i = 0
        · have g3 : decide ((i : Int) > 0) = false := by simp; omega
          have g3' : decide (0 < (i : Int)) = false := by simp; omega
          have g3n : decide (0 < i) = false := by simp; omega
          clear hs hb5 hbk hcap hro hro2 hrc2 hrg hno hcg hle HI h0 hxN
          go_wp2_with fail
          dsimp only [List.append]
          go_big_quiet (fail)
          go_wp2_with fail
          clear o1 s1 fs q1
          go_roundw
          case rel => exact ⟨i + 1, by omega, by go_num, HN.out _⟩
          case measure => simp [intOf] <;> omega
        · obtain ⟨ip, Hip⟩ : ∃ ip, Hid (i - 1 = ip) := ⟨_, (rfl : i - 1 = _)⟩
          have hipz : (i : Int) - 1 = (ip : Int) := by have := Hip.out; omega
          have hipi : ip < i := by have := Hip.out; omega
          have hrg2 := hbk.rg ip (Nat.zero_le _) (by omega)
          obtain ⟨yN, hyN⟩ : ∃ yN : Nat, D ip = (yN : Int) := ⟨(D ip).toNat, by omega⟩
          have hy1 : yN < vn := by omega
          have hyz : (yN : Int) < (vn : Int) := by omega
          have o2 := hro2.cell (k := ip) (v := .int .i64 (yN : Int)) (by
            have h9 : ip < vn := by omega
            simp [ints, rowF, h9, hyN])
          have q2 := hcg yN hy1
          have hlc := hbk.so ip i (Nat.zero_le _) hipi hlt
          unfold ltC at hlc
          rw [hxN, hyN, cS_nat, cS_nat] at hlc
          obtain ⟨v, Hv⟩ : ∃ v, Hid (C.getD yN 0 = v) := ⟨_, (rfl : C.getD yN 0 = _)⟩
          rw [Hv.out] at q2
          rw [Hu.out, Hv.out] at hlc
          have g3 : decide ((i : Int) > 0) = true := by simp; omega
          have g3' : decide (0 < (i : Int)) = true := by simp; omega
          have g3n : decide (0 < i) = true := by simp; omega
          have hipn : (ip : Int) < (vn : Int) := by omega
          clear hs hb5 hbk hcap hro hro2 hrc2 hrg hno hcg hle HI hrg2 hxN hyN
          rcases hlc with hlc | ⟨hlc, hlc2⟩
          · have g4 : decide (v > u) = false := by simp; omega
            have g4' : decide (u < v) = false := by simp; omega
            have g5 : (v == u) = false := by simp; omega
            clear hlc h0
            go_wp2_with fail
            dsimp only [List.append]
            go_big_quiet (fail)
            go_wp2_with fail
            clear o1 s1 fs q1 o2 q2
            go_roundw
            case rel => exact ⟨i + 1, by omega, by go_num, HN.out _⟩
            case measure => simp [intOf] <;> omega
          · subst hlc
            have g4 : decide (v > v) = false := by simp
            have g5 : (v == v) = true := by simp
            have g6 : decide ((yN : Int) > (xN : Int)) = false := by simp; omega
            have g6' : decide ((xN : Int) < (yN : Int)) = false := by simp; omega
            have g6n : decide (xN < yN) = false := by simp; omega
            clear hlc2 h0
            go_wp2_with fail
            dsimp only [List.append]
            go_big_quiet (fail)
            go_wp2_with fail
            clear o1 s1 fs q1 o2 q2
            go_roundw
            case rel => exact ⟨i + 1, by omega, by go_num, HN.out _⟩
            case measure => simp [intOf] <;> omega
      · obtain rfl : i = vn := by omega
        have HF : Hid (Below w.heap.size w wr) := by
          have h1 := HI.out.2
          rw [← Hgs.out] at h1
          exact bel_call HB4.out h1
        clear HI
        go_wp2_with fail
        go_ret
        exact ⟨rfl, HF.out⟩
end Go.Proofs.Ytcihobmjohpnkaa
