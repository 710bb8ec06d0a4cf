/- 'LiveTells': the walk. -/
import Derived.Test.YtcihobmjohpnkaaLv17
import Derived.Test.YtcihobmjohpnkaaLvA
import Derived.Test.YtcihobmjohpnkaaBig17
import Derived.Test.YtcihobmjohpnkaaSame17
import Derived.Test.YtcihobmjohpnkaaRfA
import Derived.BigQuiet
namespace Go.Proofs.Ytcihobmjohpnkaa
open Go.RowKit Go.Sort

theorem same17_self {B : Nat} {own : Nat → Nat} {ll : List (List Int)} {v u : Value} {vals : List Value} (w : World) (h : RowsOwn B own ll v vals w) (hB : B ≤ w.heap.size) (h2 : IsRows (· < B) w u ll) (hl : ll.length ≤ 100000) (hx : ∀ xs ∈ ll, xs.length ≤ 1000000) :
    Calls Try.prog 46 #[v, u] w fun e w' => e = .returned (.bool true) ∧ Below B w w' :=
  (same17_c w h hB h2 hl hx).mono (by rintro e w' ⟨rfl, hb⟩; exact ⟨by simp, hb⟩)

set_option maxRecDepth 100000 in
set_option maxHeartbeats 20000000 in
theorem liveTells_c (w : World) (nm : ByteArray) (va : Option Addr) (vn vc : Nat) (pa : Option Addr) (pn pc : Nat) (re : ByteArray) (ba : Option Addr) (n bc : Nat) {vs : List ByteArray} {ps : List Int} {L : List (List InsD)}
    (hv : IsStrs (· < w.heap.size) w (.slice va vn vc) vs) (hp : IsInts (· < w.heap.size) w (.slice pa pn pc) ps) (h : IsBlocks (· < w.heap.size) w (.slice ba n bc) L) (hN : ∀ l ∈ L, ∀ i ∈ l, i.name.size ≤ 9223372036854775807) (hnm : nm.size ≤ 9223372036854775807) (hre : re.size ≤ 9223372036854775807) (b i : Int) :
    Calls Try.prog 9 #[funcV nm va vn vc pa pn pc re ba n bc, .int .i64 b, .int .i64 i] w fun e w' => e = .returned (.bool true) ∧ Below w.heap.size w w' := by
  have hnL : n = L.length := by obtain ⟨_, _, hv0, hl0, hx⟩ := id h; simp only [Value.slice.injEq] at hv0; exact hv0.2.1
  have HNL := hid_of hnL
  have hB := bel_alloc (bel_refl w) (.cells #[.string nm, .slice va vn vc, .slice pa pn pc, .string re, .slice ba n bc] 44)
  have HAL := hid_of (alive17_c (w.alloc (.cells #[.string nm, .slice va vn vc, .slice pa pn pc, .string re, .slice ba n bc] 44)))
  have HK0 : Hid (Row (w.alloc (.cells #[.string nm, .slice va vn vc, .slice pa pn pc, .string re, .slice ba n bc] 44)) w.heap.size 44 (funcC nm va vn vc pa pn pc re ba n bc)) := heap_alloc_eq _ _ _ rfl
  have hK : ∀ W, Below w.heap.size w W → Keep (· < w.heap.size) (· < W.heap.size) w W := fun W hW b hb hlt => ⟨Nat.lt_of_lt_of_le hb hW.size, hW.block b hlt⟩
  have HBg := hid_of (fun W (hW : Below w.heap.size w W) => big17_c W nm va vn vc pa pn pc re ba n bc (hv.keep (hK W hW)) (hp.keep (hK W hW)) (h.keep (hK W hW)) hN hnm hre)
  have HH := hid_of h
  have HB := hid_of hB
  unfold funcV at HBg ⊢
  clear hnL hv hp h hN hnm hre hB hK
  go_enter Try.func9, Try.ntmps9
  go_wp2_with fail
  refine HAL.out.mono ?_
  rintro e W ⟨rfl, hb⟩
  have r1 : Row W w.heap.size 44 (funcC nm va vn vc pa pn pc re ba n bc) := Row.keep HK0.out (hb.block w.heap.size (by simp))
  have hB1 := bel_call HB.out hb
  have R1 := hid_of r1
  have HB1 := hid_of hB1
  have c0 := r1.cell (k := 0) (v := .string nm) rfl
  have c1 := r1.cell (k := 1) (v := .slice va vn vc) rfl
  have c2 := r1.cell (k := 2) (v := .slice pa pn pc) rfl
  have c3 := r1.cell (k := 3) (v := .string re) rfl
  have c4 := r1.cell (k := 4) (v := .slice ba n bc) rfl
  clear HAL HK0 HB hb r1 hB1
  go_wp2_with fail
  refine (HBg.out W HB1.out).mono ?_
  rintro e W1 ⟨r, rfl, hb1, hr⟩
  have HR := hid_of hr
  have HB2 := hid_of (bel_call HB1.out hb1)
  have R2 : Hid (Row W1 w.heap.size 44 (funcC nm va vn vc pa pn pc re ba n bc)) := Row.keep R1.out (hb1.block w.heap.size R1.out.lt)
  clear HBg hr hb1 R1 HB1 c0 c1 c2 c3 c4
  cases r with
  | true =>
    go_wp2_with fail
    go_ret
    exact ⟨rfl, HB2.out⟩
  | false =>
    have HA := hid_of (HR.out rfl)
    have c0 := R2.out.cell (k := 0) (v := .string nm) rfl
    have c1 := R2.out.cell (k := 1) (v := .slice va vn vc) rfl
    have c2 := R2.out.cell (k := 2) (v := .slice pa pn pc) rfl
    have c3 := R2.out.cell (k := 3) (v := .string re) rfl
    have c4 := R2.out.cell (k := 4) (v := .slice ba n bc) rfl
    clear HR
    have hn60 : n ≤ 60 := by rw [HNL.out]; exact HA.out.1
    have HBD : Hid (∀ l ∈ L, l.length ≤ 100000 ∧ ∀ i ∈ l, i.args.length ≤ 400000) := fun l hl => ⟨by have := (HA.out.2 l hl).1; omega, fun i hi => by have := (HA.out.2 l hl).2 i hi; omega⟩
    have hkp : ∀ W, Below w.heap.size w W → IsBlocks (· < W.heap.size) W (.slice ba n bc) L := fun W hW => HH.out.keep (fun b hb hlt => ⟨Nat.lt_of_lt_of_le hb hW.size, hW.block b hlt⟩)
    have HKP := hid_of hkp
    have HLv := hid_of (liveR_c W1 nm va vn vc pa pn pc re ba n bc (hkp W1 HB2.out) (by omega) HBD.out)
    have HAf := hid_of (fun W hW => afters_c W nm va vn vc pa pn pc re ba n bc (hkp W hW) (by omega) HBD.out)
    unfold funcV at HLv HAf
    clear hkp
    go_wp2_with fail
    refine HLv.out.mono ?_
    rintro e W2 ⟨I, O, vi, vo, rfl, hL, hi, ho, hb2⟩
    have HL := hid_of hL
    have HI := hid_of hi
    have HO := hid_of ho
    have R3 : Hid (Row W2 w.heap.size 44 (funcC nm va vn vc pa pn pc re ba n bc)) := Row.keep R2.out (hb2.block w.heap.size R2.out.lt)
    have HB3 := hid_of (bel_call HB2.out hb2)
    clear HLv hL hi ho hb2 R2 c0 c1 c2 c3 c4
    have c0 := R3.out.cell (k := 0) (v := .string nm) rfl
    have c1 := R3.out.cell (k := 1) (v := .slice va vn vc) rfl
    have c2 := R3.out.cell (k := 2) (v := .slice pa pn pc) rfl
    have c3 := R3.out.cell (k := 3) (v := .string re) rfl
    have c4 := R3.out.cell (k := 4) (v := .slice ba n bc) rfl
    go_wp2_with fail
    refine (HAf.out W2 HB3.out).mono ?_
    rintro e W3 ⟨I2, O2, vall, rfl, hL2, hall, hb3⟩
    obtain ⟨ala, aln, alc, rfl⟩ : ∃ a n c, vall = .slice a n c := by obtain ⟨_, _, h, -⟩ := hall; exact ⟨_, _, _, h⟩
    obtain ⟨rfl, rfl⟩ := hL2.uniq HL.out
    have HALL := hid_of hall
    have hi3 := HI.out.keep (p' := fun _ => True) (fun b hb hlt => ⟨trivial, hb3.block b hlt⟩)
    have ho3 := HO.out.keep (p' := fun _ => True) (fun b hb hlt => ⟨trivial, hb3.block b hlt⟩)
    have HI3 := hid_of hi3
    have HO3 := hid_of ho3
    have R4 : Hid (Row W3 w.heap.size 44 (funcC nm va vn vc pa pn pc re ba n bc)) := Row.keep R3.out (hb3.block w.heap.size R3.out.lt)
    have HB4 := hid_of (bel_call HB3.out hb3)
    have HIn := hid_of (liveIn_c W3 nm va vn vc pa pn pc re ba n bc (HKP.out W3 HB4.out) (by omega) (fun l hl => ⟨(HBD.out l hl).1, fun i hi => by have := (HBD.out l hl).2 i hi; omega⟩))
    unfold funcV at HIn
    clear HAf hL2 hall hi3 ho3 HI HO R3 HB3 hb3 c0 c1 c2 c3 c4
    have c0 := R4.out.cell (k := 0) (v := .string nm) rfl
    have c1 := R4.out.cell (k := 1) (v := .slice va vn vc) rfl
    have c2 := R4.out.cell (k := 2) (v := .slice pa pn pc) rfl
    have c3 := R4.out.cell (k := 3) (v := .string re) rfl
    have c4 := R4.out.cell (k := 4) (v := .slice ba n bc) rfl
    go_wp2_with fail
    refine HIn.out.mono ?_
    rintro e W5 ⟨u, own, vals, I3, O3, rfl, hL3, hr5, hb5⟩
    obtain ⟨rfl, rfl⟩ := hL3.uniq HL.out
    have hs5 := hb5.size
    have hlI := HL.out.lI
    have hlO := HL.out.lO
    have hgI := HL.out.gI
    have hgO := HL.out.gO
    have HS1 := hid_of (same17_self W5 hr5 hs5 (HI3.out.keep (p' := (· < W3.heap.size)) (fun b hb hlt => ⟨hlt, hb5.block b hlt⟩)) (by rw [List.length_map, hlI, ← HNL.out]; omega) (fun xs hx => by obtain ⟨ws, hw, rfl⟩ := List.mem_map.1 hx; have := listI_good (hgI ws hw); omega))
    clear HIn hr5 HI3 c0 c1 c2 c3 c4
    go_wp2_with fail
    refine HS1.out.mono ?_
    rintro e W6 ⟨rfl, hb6⟩
    have hb36 := hb5.trans hb6
    have HB6 := hid_of (bel_call HB4.out hb36)
    have R6 : Hid (Row W6 w.heap.size 44 (funcC nm va vn vc pa pn pc re ba n bc)) := Row.keep R4.out (hb36.block w.heap.size R4.out.lt)
    have HOt := hid_of (liveOut_c W6 nm va vn vc pa pn pc re ba n bc (HKP.out W6 HB6.out) (by omega) (fun l hl => ⟨(HBD.out l hl).1, fun i hi => by have := (HBD.out l hl).2 i hi; omega⟩))
    have HO6 := hid_of (HO3.out.keep (p' := (· < W6.heap.size)) (fun b hb hlt => ⟨Nat.lt_of_lt_of_le hlt hb36.size, hb36.block b hlt⟩))
    have HA6 := hid_of (HALL.out.keep (p' := (· < W6.heap.size)) (fun b hb hlt => ⟨Nat.lt_of_lt_of_le hlt hb36.size, hb36.block b hlt⟩))
    unfold funcV at HOt
    clear HS1 hb5 hb6 hb36 HALL HO3 HB4 R4 hs5 hL3
    have c0 := R6.out.cell (k := 0) (v := .string nm) rfl
    have c1 := R6.out.cell (k := 1) (v := .slice va vn vc) rfl
    have c2 := R6.out.cell (k := 2) (v := .slice pa pn pc) rfl
    have c3 := R6.out.cell (k := 3) (v := .string re) rfl
    have c4 := R6.out.cell (k := 4) (v := .slice ba n bc) rfl
    go_wp2_with fail
    refine HOt.out.mono ?_
    rintro e W7 ⟨u2, own2, vals2, I4, O4, rfl, hL4, hr7, hb7⟩
    obtain ⟨rfl, rfl⟩ := hL4.uniq HL.out
    have hs7 := hb7.size
    have HS2 := hid_of (same17_self W7 hr7 hs7 (HO6.out.keep (p' := (· < W6.heap.size)) (fun b hb hlt => ⟨hlt, hb7.block b hlt⟩)) (by rw [List.length_map, hlO, ← HNL.out]; omega) (fun xs hx => by obtain ⟨ws, hw, rfl⟩ := List.mem_map.1 hx; have := listI_good (hgO ws hw); omega))
    clear HOt hr7 HO6 c0 c1 c2 c3 c4
    go_wp2_with fail
    refine HS2.out.mono ?_
    rintro e W8 ⟨rfl, hb8⟩
    have hb68 := hb7.trans hb8
    have HB8 := hid_of (bel_call HB6.out hb68)
    have R8 : Hid (Row W8 w.heap.size 44 (funcC nm va vn vc pa pn pc re ba n bc)) := Row.keep R6.out (hb68.block w.heap.size R6.out.lt)
    have HA8 := hid_of (HA6.out.keep (p' := (· < W8.heap.size)) (fun b hb hlt => ⟨Nat.lt_of_lt_of_le hlt hb68.size, hb68.block b hlt⟩))
    clear HS2 hb7 hb8 hb68 HA6 HB6 R6 hs7 hL4 hgI
    go_wp2_with fail
    go_loopw [12] (fun s12 wx => ∃ k : Nat, k ≤ n ∧ s12 = .int .i64 k ∧ Below W8.heap.size W8 wx) (fun s12 _ => n - (intOf s12).toNat)
    case atStart => exact ⟨0, by omega, rfl, bel_refl _⟩
    case round =>
      obtain ⟨k, hk, rfl, hB⟩ := hrel
      have HBw := hid_of (bel_call HB8.out hB)
      have r := R8.out.keep (hB.block _ R8.out.lt)
      have c0 := r.cell (k := 0) (v := .string nm) rfl
      have c1 := r.cell (k := 1) (v := .slice va vn vc) rfl
      have c2 := r.cell (k := 2) (v := .slice pa pn pc) rfl
      have c3 := r.cell (k := 3) (v := .string re) rfl
      have c4 := r.cell (k := 4) (v := .slice ba n bc) rfl
      by_cases hlt : k < n
      · --[[
        have hlq : k < L.length := by rw [← HNL.out]; omega
        obtain ⟨_, _, hv0, -, hx⟩ := id HH.out
        simp only [Value.slice.injEq] at hv0
        obtain ⟨rfl, -, rfl⟩ := hv0
        rcases hx with hx | ⟨bb, off, rfl, hpb, hx⟩
        · rw [hx] at hlq; simp at hlq
        obtain ⟨vi, e1, ai, capi, rfl, ⟨hli0, hli⟩, -⟩ := hx k hlq
        rw [Nat.mul_one] at e1
        have hLk : L.getD k [] = L[k] := by simp [List.getD, hlq]
        obtain ⟨l, hl1, HLk⟩ : ∃ l, L[k] = l ∧ Hid (L.getD k [] = l) := ⟨L[k], rfl, hLk⟩
        rw [hl1] at e1 hli0 hli
        have E1 := hid_of e1
        have hall := HA8.out
        obtain ⟨_, _, hv1, -, hy⟩ := id hall
        simp only [Value.slice.injEq] at hv1
        obtain ⟨rfl, haln, rfl⟩ := hv1
        have hal : (aftersA L O4).length = L.length := by simp [aftersA]
        have haln2 : n = aln := by rw [haln, hal]; exact HNL.out
        subst haln2
        rcases hy with hy | ⟨ga, oa, rfl, hpa, hy⟩
        · exfalso; rw [hy] at hal; simp at hal; omega
        obtain ⟨vr, e2, hvr⟩ := hy k (by omega)
        rw [Nat.mul_one] at e2
        have er : (aftersA L O4)[k]'(by omega) = aftersL l (O4.getD k []) := by simp only [aftersA, List.getElem_map, List.getElem_range]; rw [HLk.out]
        rw [er] at hvr
        obtain ⟨ra, rc, rfl, -, hz⟩ := id hvr
        have hrl : (aftersL l (O4.getD k [])).length = l.length := by simp [aftersL]
        rw [hrl] at e2
        have E2 := hid_of e2
        have HPB := hid_of hpb
        have HPA := hid_of hpa
        have HZ := hid_of hz
        have HRL := hid_of hrl
        have hgk : Good1 (O4.getD k []) := good_getD hgO k
        have HGK := hid_of hgk
        have hk0 : (0 : Int) ≤ (k : Int) := by omega
        have hkn : (k : Int) < (n : Int) := by omega
        obtain ⟨ob, Hob⟩ : ∃ ob, Hid (O4.getD k [] = ob) := ⟨_, (rfl : O4.getD k [] = _)⟩
        rw [Hob.out] at HZ HRL HGK hvr
        have HHB := hid_of hB
        clear r hx hy hall e1 e2 hl1 hLk haln hal er hvr hz hrl hgk hB hpa hpb c0 c1 c2 c3 HBw
        go_wp2_with fail
        clear c4
        obtain ⟨wo, rfl⟩ : ∃ wo : World, wo = wr := ⟨_, rfl⟩
        go_loopw [13] (fun s13 wx => ∃ j : Nat, j ≤ l.length ∧ s13 = .int .i64 j ∧ Below W8.heap.size W8 wx) (fun s13 _ => l.length - (intOf s13).toNat)
        case atStart => exact ⟨0, by omega, rfl, HHB.out⟩
        case round =>
          obtain ⟨j, hj, rfl, hB2⟩ := hrel
          have hBw2 := bel_call HB8.out hB2
          have r := R8.out.keep (hB2.block _ R8.out.lt)
          have c4 := r.cell (k := 4) (v := .slice (some ⟨bb, off, none⟩) n bc) rfl
          have e1 := (hBw2.cell (p := ⟨bb, off + k, none⟩) HPB.out).trans E1.out
          by_cases hjl : j < l.length
          · have hjz : (j : Int) < (l.length : Int) := by omega
            have hj0 : (0 : Int) ≤ (j : Int) := by omega
            rcases HZ.out with hz | ⟨gr, orr, rfl, hpr, hz⟩
            · exfalso; have h1 := HRL.out; rw [hz] at h1; simp at h1; omega
            obtain ⟨vj, e3, hvj⟩ := hz j (by have := HRL.out; omega)
            rw [Nat.mul_one] at e3
            have ej : (aftersL l ob)[j]'(by have := HRL.out; omega) = listI (backD l (j + 1) ob) := by simp only [aftersL, List.getElem_map, List.getElem_range]
            rw [ej] at hvj
            obtain ⟨U, HU⟩ : ∃ U, Hid (listI (backD l (j + 1) ob) = U) := ⟨_, (rfl : listI (backD l (j + 1) ob) = _)⟩
            rw [HU.out] at hvj
            obtain ⟨ja, jc, rfl, -, -⟩ := id hvj
            have hU : U.length ≤ 65536 := by rw [← HU.out]; exact listI_good (backD_good l (j + 1) HGK.out)
            have hS : ∀ X, BkS wr X → (X.cell? ⟨w.heap.size, 0, none⟩ = some (.string nm) ∧ X.cell? ⟨w.heap.size, 1, none⟩ = some (.slice va vn vc) ∧ X.cell? ⟨w.heap.size, 2, none⟩ = some (.slice pa pn pc) ∧ X.cell? ⟨w.heap.size, 3, none⟩ = some (.string re) ∧ X.cell? ⟨w.heap.size, 4, none⟩ = some (.slice (some ⟨bb, off, none⟩) n bc) ∧ X.cell? ⟨ga, oa + k, none⟩ = some (.slice (some ⟨gr, orr, none⟩) l.length rc) ∧ X.cell? ⟨gr, orr + j, none⟩ = some (.slice ja U.length jc)) := fun X hX => by
              have hb := bel_call hB2 hX
              have r := R8.out.keep (hb.block _ R8.out.lt)
              exact ⟨r.cell (k := 0) rfl, r.cell (k := 1) rfl, r.cell (k := 2) rfl, r.cell (k := 3) rfl, r.cell (k := 4) rfl, (hb.cell (p := ⟨ga, oa + k, none⟩) HPA.out).trans E2.out, (hb.cell (p := ⟨gr, orr + j, none⟩) hpr).trans e3⟩
            have hJ : ∀ X, BkS wr X → IsInts (fun _ => True) X (.slice ja U.length jc) U := fun X hX => hvj.keep (fun b hb hlt => ⟨trivial, (bel_call hB2 hX).block b hlt⟩)
            have hAf : ∀ X, BkS wr X → Calls Try.prog 48 #[.agg #[.string nm, .slice va vn vc, .slice pa pn pc, .string re, .slice (some ⟨bb, off, none⟩) n bc], .int .i64 (k : Int), .int .i64 (j : Int)] X fun e X' => ∃ z, e = .returned z ∧ IsInts (fun _ => True) X' z U ∧ BkS wr X' := fun X hX => by
              have h := after_in X nm va vn vc pa pn pc re (some ⟨bb, off, none⟩) n bc k j (HKP.out X (bel_call hBw2 hX)) (by omega) HBD.out hlq (by rw [HLk.out]; exact hjl)
              unfold funcV at h
              refine h.mono ?_
              rintro e X' ⟨I5, O5, z, rfl, hL5, hz5, hb5⟩
              obtain ⟨rfl, rfl⟩ := hL5.uniq HL.out
              have hU2 : listI (aftW (L.getD k []) j (O5.getD k [])) = U := by rw [HLk.out, Hob.out]; exact HU.out
              rw [hU2] at hz5
              exact ⟨z, rfl, ints_of_owns hz5 (by omega) (fun _ _ _ _ => trivial), bel_call hX hb5⟩
            have hSm : ∀ X z1 z2, BkS wr X → IsInts (fun _ => True) X z1 U → IsInts (fun _ => True) X z2 U → Calls Try.prog 26 #[z1, z2] X fun e X' => e = .returned (.bool true) ∧ BkS wr X' := fun X z1 z2 hX h1 h2 =>
              (sameInts_c X h1 h2).mono (by rintro e X' ⟨rfl, n, rfl⟩; rw [sameS_self]; exact ⟨rfl, bel_drewN hX n⟩)
            have hE0 : BkS wr wr := bel_refl wr
            have hE1 : BkS wr wr.drew := (bel_refl wr).drew
            have HB2 := hid_of hB2
            clear r hBw2 hB2 hz e3 hvj ej
            go_wp2_with fail
            clear c4 e1
            go_region_held3 (fun X => X.cell? ⟨w.heap.size, 0, none⟩ = some (.string nm) ∧ X.cell? ⟨w.heap.size, 1, none⟩ = some (.slice va vn vc) ∧ X.cell? ⟨w.heap.size, 2, none⟩ = some (.slice pa pn pc) ∧ X.cell? ⟨w.heap.size, 3, none⟩ = some (.string re) ∧ X.cell? ⟨w.heap.size, 4, none⟩ = some (.slice (some ⟨bb, off, none⟩) n bc) ∧ X.cell? ⟨ga, oa + k, none⟩ = some (.slice (some ⟨gr, orr, none⟩) l.length rc) ∧ X.cell? ⟨gr, orr + j, none⟩ = some (.slice ja U.length jc))
              ((refine hS _ ?_; with_reducible assumption))
              (first
                | (go_at_call 48; (with_reducible refine (hAf _ ?_).mono ?_); (with_reducible assumption); rintro e Ya ⟨za, rfl, hza, hEa⟩)
                | (go_at_call 26; (with_reducible refine (hSm _ za _ ?_ hza (hJ _ ?_)).mono ?_); (with_reducible assumption); (with_reducible assumption); rintro e Yb ⟨rfl, hEb⟩))
            all_goals
              go_wp2_with fail
              go_roundw
              case rel => exact ⟨j + 1, by omega, by go_num, bel_call HB2.out hEb⟩
              case measure => simp [intOf]; omega
          · obtain rfl : j = l.length := by omega
            have HB2 := hid_of hB2
            clear r hBw2 hB2
            go_wp2_with fail
            go_roundw
            case rel => exact ⟨k + 1, by omega, by go_num, HB2.out⟩
            case measure => simp [intOf]; omega
        --]]
      · obtain rfl : k = n := by omega
        have HAO := hid_of (fun (hout : ¬ (0 ≤ b ∧ b < L.length ∧ 0 ≤ i ∧ i < (L.getD b.toNat []).length)) => after_out wr nm va vn vc pa pn pc re ba k bc b i (HKP.out wr HBw.out) hout)
        unfold funcV at HAO
        have HNK := hid_of HNL.out
        clear r HNL hk hlt hB
        by_cases h1 : b < 0
        · have d1 : decide (b ≥ 0) = false := by simpa using h1
          have d1' : decide (0 ≤ b) = false := by simpa using h1
          have HC := hid_of (HAO.out (by omega))
          clear HAO h1
          go_wp2_with fail
          refine HC.out.mono ?_
          rintro e W9 ⟨rfl, hb9⟩
          have HB9 := hid_of (bel_call HBw.out hb9)
          clear hb9 HC c0 c1 c2 c3 c4
          go_wp2_with fail
          go_ret
          exact ⟨rfl, HB9.out⟩
        · obtain ⟨bn, rfl⟩ : ∃ bn : Nat, b = bn := ⟨b.toNat, by omega⟩
          have d1 : decide ((bn : Int) ≥ 0) = true := by simp
          have d1' : decide (0 ≤ (bn : Int)) = true := by simp
          by_cases h2 : k ≤ bn
          · have d2 : decide ((bn : Int) < (k : Int)) = false := by simpa using h2
            have d2' : decide (bn < k) = false := by simpa using h2
            have HC := hid_of (HAO.out (by have := HNK.out; omega))
            clear HAO h1 h2
            go_wp2_with fail
            refine HC.out.mono ?_
            rintro e W9 ⟨rfl, hb9⟩
            have HB9 := hid_of (bel_call HBw.out hb9)
            clear hb9 HC c0 c1 c2 c3 c4
            go_wp2_with fail
            go_ret
            exact ⟨rfl, HB9.out⟩
          · have d2 : decide ((bn : Int) < (k : Int)) = true := by simp; omega
            have d2' : decide (bn < k) = true := by simp; omega
            by_cases h3 : i < 0
            · have d3 : decide (i ≥ 0) = false := by simpa using h3
              have d3' : decide (0 ≤ i) = false := by simpa using h3
              have HC := hid_of (HAO.out (by omega))
              clear HAO h1 h2 h3
              go_wp2_with fail
              refine HC.out.mono ?_
              rintro e W9 ⟨rfl, hb9⟩
              have HB9 := hid_of (bel_call HBw.out hb9)
              clear hb9 HC c0 c1 c2 c3 c4
              go_wp2_with fail
              go_ret
              exact ⟨rfl, HB9.out⟩
            · obtain ⟨iN, rfl⟩ : ∃ iN : Nat, i = iN := ⟨i.toNat, by omega⟩
              have d3 : decide ((iN : Int) ≥ 0) = true := by simp
              have d3' : decide (0 ≤ (iN : Int)) = true := by simp
              have hbL : bn < L.length := by have := HNK.out; omega
              obtain ⟨_, _, hv0, -, hx⟩ := id HH.out
              simp only [Value.slice.injEq] at hv0
              obtain ⟨rfl, -, rfl⟩ := hv0
              rcases hx with hx | ⟨bb, off, rfl, hpb, hx⟩
              · rw [hx] at hbL; simp at hbL
              obtain ⟨vi, e1, ai, capi, rfl, ⟨hli0, hli⟩, -⟩ := hx bn hbL
              rw [Nat.mul_one] at e1
              have hLk : L.getD bn [] = L[bn] := by simp [List.getD, hbL]
              have e2 := (HBw.out.cell (p := ⟨bb, off + bn, none⟩) hpb).trans e1
              obtain ⟨ln, Hln⟩ : ∃ ln, Hid (L[bn].length = ln) := ⟨_, (rfl : L[bn].length = _)⟩
              rw [Hln.out] at e2 hli hli0
              have hb1 : (bn : Int) < (k : Int) := by omega
              have hb0 : (0 : Int) ≤ (bn : Int) := by omega
              by_cases h4 : ln ≤ iN
              · have d4 : decide ((iN : Int) < (ln : Int)) = false := by simpa using h4
                have d4' : decide (iN < ln) = false := by simpa using h4
                have HC := hid_of (HAO.out (by rw [Int.toNat_natCast, hLk, Hln.out]; omega))
                clear HAO h1 h2 h3 h4 hx hLk e1
                go_wp2_with fail
                refine HC.out.mono ?_
                rintro e W9 ⟨rfl, hb9⟩
                have HB9 := hid_of (bel_call HBw.out hb9)
                clear hb9 HC c0 c1 c2 c3 c4 e2
                go_wp2_with fail
                go_ret
                exact ⟨rfl, HB9.out⟩
              · have d4 : decide ((iN : Int) < (ln : Int)) = true := by simp; omega
                have d4' : decide (iN < ln) = true := by simp; omega
                clear HAO h1 h2 h3 h4 hx hLk e1
                go_wp2_with fail
                go_ret
                exact ⟨rfl, HBw.out⟩
end Go.Proofs.Ytcihobmjohpnkaa
