/- The reference's 'Sure'. -/
import Derived.Test.YtinbfnabngdemaaCrG
import Derived.Test.YtinbfnabngdemaaCrC
import Derived.Test.YtinbfnabngdemaaCqC
import Derived.Deep.RegionHeld3
import Derived.OrdersHeld
namespace Go.Proofs.Ytinbfnabngdemaa
open Go.RowKit

theorem gr_keepS {X U : World} {V : GV} {G : GD} (h : IsGr (· < X.heap.size) X V G) (hU : Below X.heap.size X U) : IsGr (· < U.heap.size) U V G := h.keep (fun b hb hlt => ⟨by have := hU.size; omega, hU.block b hlt⟩)
/-- What stands while nodes are taken away. -/
structure SrM (G : GD) (w : World) (V : GV) (g gb : Nat) (gn : Nat → Bool) (W : World) : Prop where
  row : Row W w.heap.size 25 V.cs
  gr : IsGr (· < w.heap.size) W V G
  nr : IsRows (· < gb) W (.slice (some ⟨g, 0, none⟩) V.an V.an) ((List.range V.an).map (nrI G.E V.an))
  gone : Row W gb 4 (bools ((List.range V.an).map gn))
  bl : Below w.heap.size w W
  ge : w.heap.size < gb
section
variable {G : GD} {w W X : World} {V : GV} {g gb : Nat} {gn : Nat → Bool}
theorem SrM.lt (h : SrM G w V g gb gn W) : gb < W.heap.size := h.gone.lt
theorem SrM.below (h : SrM G w V g gb gn W) (hb : BkS W X) : SrM G w V g gb gn X :=
  have hl := h.lt
  have hg := h.ge
  ⟨h.row.keep (hb.block _ (by omega)), h.gr.keep (fun b hb2 _ => ⟨hb2, hb.block b (by omega)⟩), h.nr.keep (fun b hb2 _ => ⟨hb2, hb.block b (by omega)⟩), h.gone.keep (hb.block _ hl), bel_call h.bl hb, hg⟩
theorem SrM.set (h : SrM G w V g gb gn W) (v : Nat) : SrM G w V g gb (fun u => if u = v then true else gn u) (W.setCell ⟨gb, v, none⟩ (.bool true)) := by
  have hg := h.ge
  refine ⟨h.row.other (by show w.heap.size ≠ gb; omega) _, h.gr.keep (fun b hb2 _ => ⟨hb2, Below.heap_setCell _ _ _ _ (by show b ≠ gb; omega)⟩), h.nr.keep (fun b hb2 _ => ⟨hb2, Below.heap_setCell _ _ _ _ (by show b ≠ gb; omega)⟩), ?_, h.bl.setCell (Nat.le_of_lt hg) _, hg⟩
  have := h.gone.set v (.bool true)
  rw [bools_set, map_set_range] at this
  exact this
theorem SrM.gr' (h : SrM G w V g gb gn W) : IsGr (· < W.heap.size) W V G := h.gr.keep (fun _ _ hlt => ⟨hlt, rfl⟩)
theorem SrM.al (h : SrM G w V g gb gn W) {v : Nat} (hv : v < G.A.length) : ∃ b o ra rc, V.aa = some ⟨b, o, none⟩ ∧ W.cell? ⟨b, o + v, none⟩ = some (.slice ra (alw G v).length rc) ∧ IsInts (· < W.heap.size) W (.slice ra (alw G v).length rc) (alw G v) := by
  obtain ⟨b, o, ha, hab, hcc⟩ := sl_at h.gr'.a (by omega)
  obtain ⟨u, c1, hu⟩ := hcc v hv
  rw [Nat.mul_one] at c1
  obtain ⟨ra, rc, rfl, -⟩ := id hu
  rw [← alw_get hv] at c1 hu
  exact ⟨b, o, ra, rc, ha, c1, hu⟩
end
def lfS (G : GD) (g : Nat → Bool) : Nat := leftS G ⟨g, fun _ => 0, [], []⟩
theorem lfS_lt {G : GD} {g : Nat → Bool} {v : Nat} (hv : v < G.A.length) (h : g v = false) : lfS G (fun u => if u = v then true else g u) < lfS G g := left_gone (S := ⟨g, fun _ => 0, [], []⟩) hv h
/-- What a round has brought so far. -/
def AgS (G : GD) (gn g0 : Nat → Bool) (v : Nat) (a : Bool) : Prop := (a = true → lfS G gn < lfS G g0) ∧ (a = false → gn = g0 ∧ ∀ u, u < v → g0 u = false → (alw G u).length ≤ sumG G g0 u)
theorem sum_take {f : Nat → Nat} {l : List Nat} {p : Nat → Bool} {i : Nat} (h : i < l.length) : sumL f ((l.take (i + 1)).filter p) = sumL f ((l.take i).filter p) + if p l[i] = true then f l[i] else 0 := by
  rw [List.take_succ_eq_append_getElem h, List.filter_append]
  unfold sumL
  rw [List.foldl_append]
  cases e : p l[i] <;> simp [List.filter, e]
theorem maxK_take {f : Int → Nat} {l : List Int} {k : Nat} (h : k < l.length) : maxK f (l.take (k + 1)) = max (maxK f (l.take k)) (f l[k]) := by
  rw [List.take_succ_eq_append_getElem h, maxK_snoc]

set_option maxRecDepth 100000 in
set_option maxHeartbeats 16000000 in
theorem sureR_c (w : World) {ea ma aa la : Option Addr} {en ec mn mc n ac ln lc : Nat} {G : GD} (h : IsGr (· < w.heap.size) w ⟨ea, en, ec, ma, mn, mc, aa, n, ac, la, ln, lc⟩ G) (hF : Few G) :
    Calls Try.prog 15 #[.agg #[.slice ea en ec, .slice ma mn mc, .slice aa n ac, .slice la ln lc]] w fun e w' => e = .returned (.bool (sureB G)) ∧ Below w.heap.size w w' := by
  obtain ⟨he, hm, ha, hl⟩ := h.lens
  dsimp only at he hm ha hl
  have hac := (sl_len h.a).2.1
  dsimp only at hac
  have hn1 : n ≤ 100 := by rw [ha]; exact hF.n
  have HCh := hid_of (fun (Y : World) (hY : Below w.heap.size w Y) => checkR_c Y (gr_keepS h hY) hF)
  have HNr := hid_of (fun (hG : OkG G) (Y : World) (hY : Below w.heap.size w Y) => nearR_c Y (gr_keepS h hY) (by rw [ha]; exact hG.e) (by omega) (by have := hF.e; omega))
  have hmb := fun W => run_mk_bool W n (by omega)
  have Hn := hid_of ha
  have HH := hid_of h
  clear he hm ha hl h
  by_cases hG : OkG G
  · rw [chk_ok hG] at HCh
    have HNr := hid_of (HNr.out hG)
    have HSB : Hid (sureB G = sureS G) := by show _ = _; unfold sureB; rw [if_pos hG]
    go_enter Try.func15, Try.ntmps15
    go_upto_region 1 with fail
    refine wp_at (fun X => Row X w.heap.size 25 [.slice ea en ec, .slice ma mn mc, .slice aa n ac, .slice la ln lc] ∧ Below w.heap.size w X) ⟨heap_alloc_eq _ _ _ rfl, bel_alloc (bel_refl w) _⟩ ?_
    rintro X ⟨r0, hX⟩
    have HCX := hid_of (HCh.out X hX)
    have HR := hid_of r0
    have HX := hid_of hX
    have q0 := r0.cell (k := 0) rfl
    have q1 := r0.cell (k := 1) rfl
    have q2 := r0.cell (k := 2) rfl
    have q3 := r0.cell (k := 3) rfl
    clear HCh r0 hX
    go_wp2_with fail
    clear q0 q1 q2 q3
    refine HCX.out.mono ?_
    rintro e X1 ⟨rfl, hX1⟩
    have HNX := hid_of (HNr.out X1 (bel_call HX.out hX1))
    have HR1 := hid_of (HR.out.keep (hX1.block _ HR.out.lt))
    have HX1 : Hid (Below w.heap.size w X1) := bel_call HX.out hX1
    have q0 := HR1.out.cell (k := 0) rfl
    have q1 := HR1.out.cell (k := 1) rfl
    have q2 := HR1.out.cell (k := 2) rfl
    have q3 := HR1.out.cell (k := 3) rfl
    clear HCX HNr hX1
    go_wp2_with fail
    clear q0 q1 q2 q3
    refine HNX.out.mono ?_
    rintro e W1 ⟨g, rfl, hgx, hN, hb1⟩
    have HR2 := hid_of (HR1.out.keep (hb1.block _ HR1.out.lt))
    have q2 := HR2.out.cell (k := 2) rfl
    have hrl := HR2.out.lt
    have HS0 : Hid (SrM G w ⟨ea, en, ec, ma, mn, mc, aa, n, ac, la, ln, lc⟩ g W1.heap.size (fun _ => false) (W1.alloc (.cells (List.replicate n (Value.bool false)).toArray 4))) := by
      have hbw : Below w.heap.size w W1 := bel_call HX1.out hb1
      have hba : BkS W1 (W1.alloc (.cells (List.replicate n (Value.bool false)).toArray 4)) := bk_alloc (bk_refl W1) _
      refine ⟨HR2.out.keep (hba.block _ hrl), HH.out.keep (fun b hb hlt => ⟨hb, (hba.block b (by have := hbw.size; omega)).trans (hbw.block b hlt)⟩), hN.keep (fun b _ hlt => ⟨hlt, hba.block b hlt⟩), ?_, bel_call hbw hba, hrl⟩
      have e : bools ((List.range n).map fun _ => false) = List.replicate n (.bool false) := by
        rw [List.eq_replicate_iff]
        exact ⟨by simp [bools], fun x hx => by simp [bools] at hx; exact hx.2.symm⟩
      show Row _ _ _ (bools ((List.range n).map fun _ => false))
      rw [e]
      exact heap_alloc_eq _ _ _ rfl
    obtain ⟨gb, Hgb⟩ : ∃ gb, Hid (W1.heap.size = gb) := ⟨_, (rfl : W1.heap.size = _)⟩
    clear hN hb1 hgx HNX HR HX HR1 HX1 HR2 HH hrl
    go_wp2_with fail
    clear q2
    rw [Hgb.out] at HS0 ⊢
    go_loopg [5] (2 * lfS G (fun _ => false) + 1) (fun gh s5 wx => ∃ (a : Bool) (gn : Nat → Bool), gh = 2 * lfS G gn + (if a = true then 1 else 0) ∧ s5 = .bool a ∧ Hid (SrM G w ⟨ea, en, ec, ma, mn, mc, aa, n, ac, la, ln, lc⟩ g gb gn wx ∧ Rch G gn ∧ (a = false → StuckP G gn)))
    case atStart => exact ⟨true, fun _ => false, by simp, rfl, HS0.out, Rch.nil, fun h => by cases h⟩
    case round =>
      obtain ⟨a, g0, hgm, rfl, HK⟩ := hrel
      clear HS0
      cases a with
      | false =>
        have hst := HK.out.2.2 rfl
        have hsu := sure_of hG HK.out.2.1 hst
        have HSu : Hid (sureS G = true ↔ ∀ v, v < n → g0 v = true) := by
          show _ ↔ _
          rw [hsu, Hn.out]
        have HGo := hid_of HK.out.1.gone
        have HBl := hid_of HK.out.1.bl
        have hT0 : Hid (∀ u, u < 0 → g0 u = true) := fun u h => by omega
        clear hst hsu HK hgm
        go_wp2_with fail
        go_loopw [13] (fun s13 wx => ∃ v : Nat, v ≤ n ∧ s13 = .int .i64 v ∧ wx = wr ∧ Hid (∀ u, u < v → g0 u = true)) (fun s13 _ => n - (intOf s13).toNat)
        case atStart => exact ⟨0, by omega, rfl, rfl, hT0⟩
        case round =>
          obtain ⟨v, hv, rfl, rfl, HT⟩ := hrel
          by_cases hlt : v < n
          · have hvz : (v : Int) < (n : Int) := by omega
            have cv := HGo.out.cell (k := v) (v := .bool (g0 v)) (by simp [bools, hlt])
            obtain ⟨b, Hb⟩ : ∃ b, Hid (g0 v = b) := ⟨_, (rfl : g0 v = _)⟩
            rw [Hb.out] at cv
            cases b with
            | false =>
              have HF : Hid (sureB G = false) := by
                show _ = _
                rw [HSB.out]
                cases e : sureS G with
                | false => rfl
                | true => have := HSu.out.1 e v hlt; rw [Hb.out] at this; cases this
              go_wp2_with fail
              go_ret
              exact ⟨ret_bool HF.out.symm, HBl.out⟩
            | true =>
              have HT2 : Hid (∀ u, u < v + 1 → g0 u = true) := fun u hu => by
                by_cases e : u = v
                · subst e; exact Hb.out
                · exact HT.out u (by omega)
              go_wp2_with fail
              go_roundw
              case rel => exact ⟨v + 1, by omega, by go_num, trivial, HT2⟩
              case measure => simp [intOf]; omega
          · obtain rfl : n = v := by omega
            have HF : Hid (sureB G = true) := by show _ = _; rw [HSB.out]; exact HSu.out.2 HT.out
            go_wp2_with fail
            go_ret
            exact ⟨ret_bool HF.out.symm, HBl.out⟩
      | true =>
        have HV0 : Hid (SrM G w ⟨ea, en, ec, ma, mn, mc, aa, n, ac, la, ln, lc⟩ g gb g0 wr ∧ Rch G g0 ∧ AgS G g0 g0 0 false) := ⟨HK.out.1, HK.out.2.1, (fun h => by cases h), (fun _ => ⟨rfl, fun u h => by omega⟩)⟩
        clear HK
        go_wp2_with fail
        go_loopw [5, 6] (fun s5 s6 wx => ∃ (v : Nat) (a : Bool) (gn : Nat → Bool), v ≤ n ∧ s6 = .int .i64 v ∧ s5 = .bool a ∧ Hid (SrM G w ⟨ea, en, ec, ma, mn, mc, aa, n, ac, la, ln, lc⟩ g gb gn wx ∧ Rch G gn ∧ AgS G gn g0 (v) a)) (fun _ s6 _ => n - (intOf s6).toNat)
        case atStart => exact ⟨0, false, g0, by omega, rfl, rfl, HV0⟩
        case round =>
          obtain ⟨v, a, gn, hv, rfl, rfl, HV⟩ := hrel
          clear HV0
          by_cases hlt : v < n
          · have hvz : (v : Int) < (n : Int) := by omega
            have hvA : v < G.A.length := by rw [← Hn.out]; exact hlt
            have cv := HV.out.1.gone.cell (k := v) (v := .bool (gn v)) (by simp [bools, hlt])
            obtain ⟨b, Hb⟩ : ∃ b, Hid (gn v = b) := ⟨_, (rfl : gn v = _)⟩
            rw [Hb.out] at cv
            cases b with
            | true =>
              have HV2 : Hid (SrM G w ⟨ea, en, ec, ma, mn, mc, aa, n, ac, la, ln, lc⟩ g gb gn wr ∧ Rch G gn ∧ AgS G gn g0 (v + 1) a) := ⟨HV.out.1, HV.out.2.1, HV.out.2.2.1, fun h => by
                obtain ⟨h1, h2⟩ := HV.out.2.2.2 h
                refine ⟨h1, fun u hu hg => ?_⟩
                by_cases e : u = v
                · subst e; rw [← h1, Hb.out] at hg; cases hg
                · exact h2 u (by omega) hg⟩
              clear HV
              go_wp2_with fail
              go_roundw
              case rel => exact ⟨v + 1, a, gn, by omega, by go_num, rfl, HV2⟩
              case measure => simp [intOf]; omega
            | false =>
              obtain ⟨ab, ao, ra, rc, haa, -, -⟩ := HV.out.1.al hvA
              dsimp only at haa
              subst haa
              obtain ⟨am, Ham⟩ : ∃ x, Hid ((alw G v).length = x) := ⟨_, (rfl : (alw G v).length = _)⟩
              have ham : am ≤ 60 := by rw [← Ham.out]; exact alw_len hG hF v
              have hnl : (nearL G v).length ≤ 100 := Nat.le_trans (List.length_filter_le _ _) (by rw [List.length_range, ← Hn.out]; exact hn1)
              obtain ⟨NL, HNL⟩ : ∃ x, Hid (nearL G v = x) := ⟨_, (rfl : nearL G v = _)⟩
              have HNI : Hid (nrI G.E n v = NL.map fun (m : Nat) => (m : Int)) := by show _ = _; rw [← HNL.out, Hn.out]; rfl
              rw [HNL.out] at hnl
              obtain ⟨m, Hm⟩ : ∃ x, Hid (NL.length = x) := ⟨_, (rfl : NL.length = _)⟩
              rw [Hm.out] at hnl
              have HI0 : Hid (SrM G w ⟨ea, en, ec, ma, mn, mc, some ⟨ab, ao, none⟩, n, ac, la, ln, lc⟩ g gb gn wr ∧ 0 = sumL (mostS G v) ((NL.take 0).filter fun k => !gn k)) := ⟨HV.out.1, rfl⟩
              have HVR := hid_of HV.out.2
              clear HV
              go_wp2_with fail
              clear cv
              go_loopw [7, 8] (fun s7 s8 wx => ∃ i s : Nat, i ≤ m ∧ s8 = .int .i64 i ∧ s7 = .int .i64 s ∧ Hid (SrM G w ⟨ea, en, ec, ma, mn, mc, some ⟨ab, ao, none⟩, n, ac, la, ln, lc⟩ g gb gn wx ∧ s = sumL (mostS G v) ((NL.take i).filter fun k => !gn k))) (fun _ s8 _ => m - (intOf s8).toNat)
              case atStart => exact ⟨0, 0, by omega, rfl, rfl, HI0⟩
              case round =>
                obtain ⟨i, s, hi, rfl, rfl, HI⟩ := hrel
                clear HI0
                obtain ⟨na, nc, cn, hnI⟩ := rows_get HI.out.1.nr (v := v) (by simpa using hlt)
                simp only [List.getElem_map, List.getElem_range] at cn hnI
                rw [HNI.out] at cn hnI
                rw [List.length_map, Hm.out] at cn hnI
                have hsb : s ≤ 6000 := by
                  have h1 := sumL_bd (f := mostS G v) (B := 60) (fun x => Nat.le_trans (mostS_le G v x) (alw_len hG hF v)) ((NL.take i).filter fun k => !gn k)
                  have h2 : ((NL.take i).filter fun k => !gn k).length ≤ 100 := Nat.le_trans (List.length_filter_le _ _) (by rw [List.length_take]; have := Hm.out; omega)
                  have := HI.out.2
                  omega
                by_cases him : i < m
                · have hil : i < NL.length := by rw [Hm.out]; exact him
                  obtain ⟨nb, no, rfl, -, t1⟩ := ints_cell hnI (k := i) (by simpa using hil)
                  simp only [List.getElem_map] at t1
                  have hum : NL[i] ∈ nearL G v := by rw [HNL.out]; exact List.getElem_mem hil
                  have hst := sum_take (f := mostS G v) (p := fun k => !gn k) hil
                  obtain ⟨u, Hu⟩ : ∃ u, Hid (NL[i] = u) := ⟨_, (rfl : NL[i] = _)⟩
                  rw [Hu.out] at t1 hum hst
                  have huA := (mem_nearL.1 hum).1
                  have hun : u < n := by rw [Hn.out]; exact huA
                  have cu := HI.out.1.gone.cell (k := u) (v := .bool (gn u)) (by simp [bools, hun])
                  obtain ⟨b, Hbu⟩ : ∃ b, Hid (gn u = b) := ⟨_, (rfl : gn u = _)⟩
                  rw [Hbu.out] at cu hst
                  have hiz : (i : Int) < (m : Int) := by omega
                  have huz : (u : Int) < (n : Int) := by omega
                  have HST := hid_of hst
                  clear hnI hum hst
                  cases b with
                  | true =>
                    have HI2 : Hid (SrM G w ⟨ea, en, ec, ma, mn, mc, some ⟨ab, ao, none⟩, n, ac, la, ln, lc⟩ g gb gn wr ∧ s = sumL (mostS G v) ((NL.take (i + 1)).filter fun k => !gn k)) := ⟨HI.out.1, by rw [HST.out]; simp; exact HI.out.2⟩
                    clear HI
                    go_wp2_with fail
                    go_roundw
                    case rel => exact ⟨i + 1, s, by omega, by go_num, rfl, HI2⟩
                    case measure => simp [intOf]; omega
                  | false =>
                    obtain ⟨um, Hum⟩ : ∃ x, Hid ((alw G u).length = x) := ⟨_, (rfl : (alw G u).length = _)⟩
                    have hum60 : um ≤ 60 := by rw [← Hum.out]; exact alw_len hG hF u
                    have HJ0 : Hid (SrM G w ⟨ea, en, ec, ma, mn, mc, some ⟨ab, ao, none⟩, n, ac, la, ln, lc⟩ g gb gn wr ∧ 0 = maxK (cntS G (alw G v)) ((alw G u).take 0)) := ⟨HI.out.1, rfl⟩
                    have HIS := hid_of HI.out.2
                    clear HI
                    go_wp2_with fail
                    clear cn t1 cu
                    go_loopw [10, 11] (fun s10 s11 wx => ∃ k ms : Nat, k ≤ um ∧ s11 = .int .i64 k ∧ s10 = .int .i64 ms ∧ Hid (SrM G w ⟨ea, en, ec, ma, mn, mc, some ⟨ab, ao, none⟩, n, ac, la, ln, lc⟩ g gb gn wx ∧ ms = maxK (cntS G (alw G v)) ((alw G u).take k))) (fun _ s11 _ => um - (intOf s11).toNat)
                    case atStart => exact ⟨0, 0, by omega, rfl, rfl, HJ0⟩
                    case round =>
                      obtain ⟨k, ms, hk, rfl, rfl, HJ⟩ := hrel
                      clear HJ0
                      obtain ⟨ab', ao', sa, sc, haa, cu, hAu⟩ := HJ.out.1.al huA
                      simp only [Option.some.injEq, Addr.mk.injEq, and_true] at haa
                      obtain ⟨rfl, rfl⟩ := haa
                      rw [Hum.out] at cu hAu
                      have q2 := HJ.out.1.row.cell (k := 2) rfl
                      have hms : ms ≤ 60 := by rw [HJ.out.2]; exact Nat.le_trans (maxK_le_of (cntS_le G _) _) (alw_len hG hF v)
                      by_cases hku : k < um
                      · have hkz : (k : Int) < (um : Int) := by omega
                        have hkA : k < (alw G u).length := by rw [Hum.out]; exact hku
                        obtain ⟨tb, tf, rfl, -, tk⟩ := ints_cell hAu hkA
                        have hmem : (alw G u)[k] ∈ alw G u := List.getElem_mem hkA
                        have hmk := maxK_take (f := cntS G (alw G v)) hkA
                        obtain ⟨c, Hc⟩ : ∃ c, Hid ((alw G u)[k] = c) := ⟨_, (rfl : (alw G u)[k] = _)⟩
                        rw [Hc.out] at tk hmem hmk
                        have hcr := hG.alw_rng hmem
                        obtain ⟨c, rfl⟩ : ∃ z : Nat, c = (z : Int) := ⟨c.toNat, by omega⟩
                        have hcL : c < G.Lp.length := by omega
                        obtain ⟨ab', ao', ra, rc, haa, cv, hAv⟩ := HJ.out.1.al hvA
                        simp only [Option.some.injEq, Addr.mk.injEq, and_true] at haa
                        obtain ⟨rfl, rfl⟩ := haa
                        obtain ⟨x, Hx⟩ : ∃ x, Hid (cntS G (alw G v) (c : Int) = x) := ⟨_, (rfl : cntS G (alw G v) (c : Int) = _)⟩
                        have hLpF : ∀ Z, BkS wr Z → Calls Try.prog 34 #[.agg #[.slice ea en ec, .slice ma mn mc, .slice (some ⟨ab, ao, none⟩) n ac, .slice la ln lc], .slice ra am rc, .int .i64 (c : Int)] Z fun e Z' => e = .returned (.int .i64 (x : Int)) ∧ BkS wr Z' := fun Z hZ => by
                          have hZ2 := HJ.out.1.below hZ
                          have h1 := lapsR_c Z hZ2.gr' (hAv.keep (p' := (· < Z.heap.size)) (fun b _ hlt => ⟨by have := hZ.size; omega, hZ.block b hlt⟩)) hcL (by rw [Ham.out]; omega)
                          rw [Hx.out, Ham.out] at h1
                          exact h1.mono (by rintro e Z' ⟨rfl, hb⟩; exact ⟨rfl, bel_call hZ hb⟩)
                        rw [Ham.out] at cv
                        have hS : ∀ Y, BkS wr Y → (Y.cell? ⟨w.heap.size, 0, none⟩ = some (.slice ea en ec) ∧ Y.cell? ⟨w.heap.size, 1, none⟩ = some (.slice ma mn mc) ∧ Y.cell? ⟨w.heap.size, 2, none⟩ = some (.slice (some ⟨ab, ao, none⟩) n ac) ∧ Y.cell? ⟨w.heap.size, 3, none⟩ = some (.slice la ln lc) ∧ Y.cell? ⟨ab, ao + v, none⟩ = some (.slice ra am rc) ∧ Y.cell? ⟨ab, ao + u, none⟩ = some (.slice (some ⟨tb, tf, none⟩) um sc) ∧ Y.cell? ⟨tb, tf + k, none⟩ = some (.int .i64 (c : Int))) := fun Y hY => by
                          have hY2 := HJ.out.1.below hY
                          exact ⟨hY2.row.cell rfl, hY2.row.cell rfl, hY2.row.cell rfl, hY2.row.cell rfl, (cell_of_block (hY.block _ (lt_of_cell cv)) (ao + v)).trans cv, (cell_of_block (hY.block _ (lt_of_cell cu)) (ao + u)).trans cu, (cell_of_block (hY.block _ (lt_of_cell tk)) (tf + k)).trans tk⟩
                        have HMK := hid_of hmk
                        have HJM := hid_of HJ.out.1
                        have HJ2 := hid_of HJ.out.2
                        clear hAu hAv hmem hmk hcr HJ tk
                        go_wp2_with fail
                        clear cu cv q2
                        refine wp_region_held_drew (S := fun Y => (Y.cell? ⟨w.heap.size, 0, none⟩ = some (.slice ea en ec) ∧ Y.cell? ⟨w.heap.size, 1, none⟩ = some (.slice ma mn mc) ∧ Y.cell? ⟨w.heap.size, 2, none⟩ = some (.slice (some ⟨ab, ao, none⟩) n ac) ∧ Y.cell? ⟨w.heap.size, 3, none⟩ = some (.slice la ln lc) ∧ Y.cell? ⟨ab, ao + v, none⟩ = some (.slice ra am rc) ∧ Y.cell? ⟨ab, ao + u, none⟩ = some (.slice (some ⟨tb, tf, none⟩) um sc) ∧ Y.cell? ⟨tb, tf + k, none⟩ = some (.int .i64 (c : Int)))) (by kernel_rfl) (hS _ (bk_drew (bk_refl wr))) (fun hHeld => ?_)
                        refine wpAnyH_take (i := 0) (v := ?_) rfl (by kernel_rfl) (by kernel_rfl) (by kernel_rfl) (fun _ _ _ h => h) (Or.inl ⟨by rfl, ?_⟩) (by assumption) ?_
                        rotate_left
                        · intro w hSw; (try dsimp only at hSw); go_simp; all_goals (with_reducible rfl)
                        refine wpAnyH_take (i := 1) (v := ?_) rfl (by kernel_rfl) (by kernel_rfl) (by kernel_rfl) (fun _ _ _ h => h) (Or.inl ⟨by rfl, ?_⟩) (by assumption) ?_
                        rotate_left
                        · intro w hSw; (try dsimp only at hSw); go_simp; all_goals (with_reducible rfl)
                        refine wpAnyH_take (i := 2) (v := ?_) rfl (by kernel_rfl) (by kernel_rfl) (by kernel_rfl) (fun _ _ _ h => h) (Or.inl ⟨by rfl, ?_⟩) (by assumption) ?_
                        rotate_left
                        · intro w hSw; (try dsimp only at hSw); go_simp; all_goals (with_reducible rfl)
                        refine wpAnyH_take (i := 3) (v := ?_) rfl (by kernel_rfl) (by kernel_rfl) (by kernel_rfl) (fun _ _ _ h => h) (Or.inl ⟨by rfl, ?_⟩) (by assumption) ?_
                        rotate_left
                        · intro w hSw; (try dsimp only at hSw); go_simp; all_goals (with_reducible rfl)
                        refine wpAnyH_take (i := 4) (v := ?_) rfl (by kernel_rfl) (by kernel_rfl) (by kernel_rfl) (fun _ _ _ h => h) (Or.inl ⟨by rfl, ?_⟩) (by assumption) ?_
                        rotate_left
                        · intro w hSw; (try dsimp only at hSw); go_simp; all_goals (with_reducible rfl)
                        refine wpAnyH_take (i := 5) (v := ?_) rfl (by kernel_rfl) (by kernel_rfl) (by kernel_rfl) (fun _ _ _ h => h) (Or.inl ⟨by rfl, ?_⟩) (by assumption) ?_
                        rotate_left
                        · intro w hSw; (try dsimp only at hSw); go_simp; all_goals (with_reducible rfl)
                        refine wpAnyH_take (i := 6) (v := ?_) rfl (by kernel_rfl) (by kernel_rfl) (by kernel_rfl) (fun _ _ _ h => h) (Or.inl ⟨by rfl, ?_⟩) (by assumption) ?_
                        rotate_left
                        · intro w hSw; (try dsimp only at hSw); go_simp; all_goals (with_reducible rfl)
                        refine wpAnyH_take (i := 7) (v := ?_) rfl (by kernel_rfl) (by kernel_rfl) (by kernel_rfl) (fun _ _ _ h => h) (Or.inl ⟨by rfl, ?_⟩) (by assumption) ?_
                        rotate_left
                        · intro w hSw; (try dsimp only at hSw); go_simp; all_goals (with_reducible rfl)
                        refine wpAnyH_take (i := 8) (v := ?_) rfl (by kernel_rfl) (by kernel_rfl) (by kernel_rfl) (fun _ _ _ h => h) (Or.inl ⟨by rfl, ?_⟩) (by assumption) ?_
                        rotate_left
                        · intro w hSw; (try dsimp only at hSw); go_simp; all_goals (with_reducible rfl)
                        refine wpAnyH_take (i := 9) (v := ?_) rfl (by kernel_rfl) (by kernel_rfl) (by kernel_rfl) (fun _ _ _ h => h) (Or.inl ⟨by rfl, ?_⟩) (by assumption) ?_
                        rotate_left
                        · intro w hSw; (try dsimp only at hSw); go_simp; all_goals (with_reducible rfl)
                        refine wpAnyH_take (i := 10) (v := ?_) rfl (by kernel_rfl) (by kernel_rfl) (by kernel_rfl) (fun _ _ _ h => h) (Or.inl ⟨by rfl, ?_⟩) (by assumption) ?_
                        rotate_left
                        · intro w hSw; (try dsimp only at hSw); go_simp; all_goals (with_reducible rfl)
                        refine wpAnyH_take (i := 11) (v := ?_) rfl (by kernel_rfl) (by kernel_rfl) (by kernel_rfl) (fun _ _ _ h => h) (Or.inl ⟨by rfl, ?_⟩) (by assumption) ?_
                        rotate_left
                        · intro w hSw; (try dsimp only at hSw); go_simp; all_goals (with_reducible rfl)
                        refine wpAnyH_take (i := 12) (v := ?_) rfl (by kernel_rfl) (by kernel_rfl) (by kernel_rfl) (fun _ _ _ h => h) (Or.inl ⟨by rfl, ?_⟩) (by assumption) ?_
                        rotate_left
                        · intro w hSw; (try dsimp only at hSw); go_simp; all_goals (with_reducible rfl)
                        refine wpAnyH_take (i := 13) (v := ?_) rfl (by kernel_rfl) (by kernel_rfl) (by kernel_rfl) (fun _ _ _ h => h) (Or.inl ⟨by rfl, ?_⟩) (by assumption) ?_
                        rotate_left
                        · intro w hSw; (try dsimp only at hSw); go_simp; all_goals (with_reducible rfl)
                        simp only [Act.put, List.getElem_toArray, List.getElem_cons_succ, List.getElem_cons_zero, List.setIfInBounds_toArray, List.set_cons_zero, List.set_cons_succ]
                        refine wpAnyH_ready (rs := [14]) (by kernel_rfl) (by simp) ?_
                        refine AllReadyH.cons rfl (fun K hK => ?_) AllReadyH.nil
                        go_simp
                        (go_at_call 34; refine (hLpF _ (bk_drew (bk_refl wr))).mono ?_; rintro e Y ⟨rfl, hbY⟩; go_wp2_with fail)
                        refine hK.out _ _ (hS Y hbY) (fun hHeld => ?_)
                        clear hK K
                        refine wpAnyH_ready (rs := [15]) (by kernel_rfl) (by simp) ?_
                        refine AllReadyH.cons rfl (fun K hK => ?_) AllReadyH.nil
                        go_simp
                        refine hK.out _ _ (hS Y hbY) (fun hHeld => ?_)
                        clear hK K
                        refine wpAnyH_done (by kernel_rfl) ?_ _
                        have HYM := hid_of (HJM.out.below hbY)
                        clear hS hLpF hbY HJM hHeld
                        by_cases hgt : x > ms
                        · have e1 : decide ((x : Int) > (ms : Int)) = true := by simp; omega
                          have e1' : decide ((ms : Int) < (x : Int)) = true := by simp; omega
                          have HN : Hid (x = maxK (cntS G (alw G v)) ((alw G u).take (k + 1))) := by show _ = _; rw [HMK.out, Hx.out, ← HJ2.out]; omega
                          go_wp2_with fail
                          go_roundw
                          case rel => exact ⟨k + 1, x, by omega, by go_num, rfl, HYM.out, HN.out⟩
                          case measure => simp [intOf]; omega
                        · have e1 : decide ((x : Int) > (ms : Int)) = false := by simp; omega
                          have e1' : decide ((ms : Int) < (x : Int)) = false := by simp; omega
                          have HN : Hid (ms = maxK (cntS G (alw G v)) ((alw G u).take (k + 1))) := by show _ = _; rw [HMK.out, Hx.out, ← HJ2.out]; omega
                          go_wp2_with fail
                          go_roundw
                          case rel => exact ⟨k + 1, ms, by omega, by go_num, rfl, HYM.out, HN.out⟩
                          case measure => simp [intOf]; omega
                      · obtain rfl : um = k := by omega
                        have HI2 : Hid (SrM G w ⟨ea, en, ec, ma, mn, mc, some ⟨ab, ao, none⟩, n, ac, la, ln, lc⟩ g gb gn wr ∧ s + ms = sumL (mostS G v) ((NL.take (i + 1)).filter fun k => !gn k)) := ⟨HJ.out.1, by
                          rw [HST.out, ← HIS.out, HJ.out.2, List.take_of_length_le (by rw [Hum.out]; omega)]
                          simp [mostS]⟩
                        clear hAu HJ
                        go_wp2_with fail
                        go_roundw
                        case rel => exact ⟨i + 1, s + ms, by omega, by go_num, by go_num, HI2⟩
                        case measure => simp [intOf]; omega
                · obtain rfl : m = i := by omega
                  have hsG : s = sumG G gn v := by
                    rw [HI.out.2, List.take_of_length_le (by rw [Hm.out]; omega), ← HNL.out]
                    rfl
                  obtain ⟨ab', ao', ra, rc, haa, cv, hAv⟩ := HI.out.1.al hvA
                  simp only [Option.some.injEq, Addr.mk.injEq, and_true] at haa
                  obtain ⟨rfl, rfl⟩ := haa
                  rw [Ham.out] at cv
                  have q2 := HI.out.1.row.cell (k := 2) rfl
                  have HSG := hid_of hsG
                  have HM1 := hid_of HI.out.1
                  clear hnI hAv HI hsG
                  by_cases hls : s < am
                  · have hlz : (s : Int) < (am : Int) := by omega
                    have fv := HM1.out.gone.frozen v
                    have cg := HM1.out.gone.cell (k := v) (v := .bool (gn v)) (by simp [bools, hlt])
                    rw [Hb.out] at cg
                    have HV2 : Hid (SrM G w ⟨ea, en, ec, ma, mn, mc, some ⟨ab, ao, none⟩, n, ac, la, ln, lc⟩ g gb (fun u => if u = v then true else gn u) (wr.setCell ⟨gb, v, none⟩ (.bool true)) ∧ Rch G (fun u => if u = v then true else gn u) ∧ AgS G (fun u => if u = v then true else gn u) g0 (v + 1) true) := by
                      refine ⟨HM1.out.set v, HVR.out.1.step hvA Hb.out (by rw [← HSG.out, Ham.out]; exact hls), fun _ => ?_, fun h => by cases h⟩
                      have h1 := lfS_lt hvA Hb.out
                      cases ea : a with
                      | true => have := HVR.out.2.1 ea; omega
                      | false => have := (HVR.out.2.2 ea).1; rw [this] at h1 ⊢; exact h1
                    clear HM1 HVR
                    go_wp2_with fail
                    go_roundw
                    case rel => exact ⟨v + 1, true, _, by omega, by go_num, rfl, HV2⟩
                    case measure => simp [intOf]; omega
                  · have hlz : ¬ (s : Int) < (am : Int) := by omega
                    have HV2 : Hid (SrM G w ⟨ea, en, ec, ma, mn, mc, some ⟨ab, ao, none⟩, n, ac, la, ln, lc⟩ g gb gn wr ∧ Rch G gn ∧ AgS G gn g0 (v + 1) a) := ⟨HM1.out, HVR.out.1, HVR.out.2.1, fun h => by
                      obtain ⟨h1, h2⟩ := HVR.out.2.2 h
                      refine ⟨h1, fun u hu hg => ?_⟩
                      by_cases e : u = v
                      · subst e; rw [← h1, ← HSG.out, Ham.out]; omega
                      · exact h2 u (by omega) hg⟩
                    clear HM1 HVR
                    go_wp2_with fail
                    go_roundw
                    case rel => exact ⟨v + 1, a, gn, by omega, by go_num, rfl, HV2⟩
                    case measure => simp [intOf]; omega
          · obtain rfl : n = v := by omega
            have HE : Hid (SrM G w ⟨ea, en, ec, ma, mn, mc, aa, n, ac, la, ln, lc⟩ g gb gn wr ∧ Rch G gn ∧ (a = false → StuckP G gn)) := ⟨HV.out.1, HV.out.2.1, fun h => by
              obtain ⟨h1, h2⟩ := HV.out.2.2.2 h
              rw [h1]
              exact fun u hu hg => h2 u (by rw [Hn.out]; exact hu) hg⟩
            have HLt : Hid (2 * lfS G gn + (if a = true then 1 else 0) < 2 * lfS G g0 + 1) := by
              show _ < _
              cases ea : a with
              | true => have := HV.out.2.2.1 ea; simp; omega
              | false => have := (HV.out.2.2.2 ea).1; rw [this]; simp
            clear HV
            go_wp2_with fail
            go_roundg (2 * lfS G gn + (if a = true then 1 else 0))
            case measure => have := HLt.out; simp at hgm; omega
            case rel => exact ⟨a, gn, rfl, rfl, HE⟩
  · have hs : sureB G = false := by unfold sureB; rw [if_neg hG]
    rw [chk_no hG] at HCh
    rw [hs]
    go_enter Try.func15, Try.ntmps15
    go_upto_region 1 with fail
    refine wp_at (fun X => Row X w.heap.size 25 [.slice ea en ec, .slice ma mn mc, .slice aa n ac, .slice la ln lc] ∧ Below w.heap.size w X) ⟨heap_alloc_eq _ _ _ rfl, bel_alloc (bel_refl w) _⟩ ?_
    rintro X ⟨r0, hX⟩
    have q0 := r0.cell (k := 0) rfl
    have q1 := r0.cell (k := 1) rfl
    have q2 := r0.cell (k := 2) rfl
    have q3 := r0.cell (k := 3) rfl
    have HCX := hid_of (HCh.out X hX)
    have HX := hid_of hX
    clear HCh r0 hX
    go_wp2_with fail
    refine HCX.out.mono ?_
    rintro e X1 ⟨rfl, hX1⟩
    have hb := bel_call HX.out hX1
    go_wp2_with fail
    go_ret
    exact ⟨rfl, hb⟩
end Go.Proofs.Ytinbfnabngdemaa
