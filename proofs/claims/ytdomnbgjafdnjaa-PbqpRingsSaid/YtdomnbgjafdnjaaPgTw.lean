/- 'two': a node's costs are given to the pair of its two neighbours. -/
import Derived.Test.YtdomnbgjafdnjaaPgX
namespace Go.Proofs.Ytdomnbgjafdnjaa
open Go.RowKit Go.Maps Go.ChangeMaps

def vecTw (xs : List Int) (EA EB : List (List Int)) (i j : Nat) : List Int := addS (addS xs (colS EA i)) (colS EB j)
def cellTw (xs : List Int) (EA EB : List (List Int)) (i j : Nat) : Int := (vecTw xs EA EB i j).getD (leastS (vecTw xs EA EB i j)) 0
def rowTw (xs : List Int) (EA EB : List (List Int)) (cb i : Nat) : List Int := (List.range cb).map fun j => cellTw xs EA EB i j
def twoM (xs : List Int) (EA EB : List (List Int)) (ca cb : Nat) : List (List Int) := (List.range ca).map (rowTw xs EA EB cb)
theorem rowTw_len (xs : List Int) (EA EB : List (List Int)) (cb i : Nat) : (rowTw xs EA EB cb i).length = cb := by simp [rowTw]
theorem rowTw_take {xs : List Int} {EA EB : List (List Int)} {cb i j : Nat} (h : j < cb) : (rowTw xs EA EB cb i).take (j + 1) = (rowTw xs EA EB cb i).take j ++ [cellTw xs EA EB i j] := by
  rw [List.take_succ_eq_append_getElem (by rw [rowTw_len]; exact h)]
  simp [rowTw]
theorem twoM_len (xs : List Int) (EA EB : List (List Int)) (ca cb : Nat) : (twoM xs EA EB ca cb).length = ca := by simp [twoM]
theorem twoM_get {xs : List Int} {EA EB : List (List Int)} {ca cb i : Nat} (h : i < ca) : (twoM xs EA EB ca cb).getD i [] = rowTw xs EA EB cb i := by simp [twoM, List.getD, h]
theorem rows_at3 {p : Nat → Prop} {W : World} {g n c : Nat} {rows : List (List Int)} (h : IsRows p W (.slice (some ⟨g, 0, none⟩) n c) rows) {v : Nat} (hv : v < rows.length) : ∃ ra rc, W.cell? ⟨g, v, none⟩ = some (.slice ra (rows.getD v []).length rc) ∧ IsInts p W (.slice ra (rows.getD v []).length rc) (rows.getD v []) := by
  obtain ⟨b, off, e, -, hc⟩ := sl_at h (by omega)
  simp only [Option.some.injEq, Addr.mk.injEq, and_true] at e
  obtain ⟨rfl, rfl⟩ := e
  obtain ⟨u, c1, hu⟩ := hc v hv
  obtain ⟨ra, rc, rfl, -⟩ := id hu
  rw [Nat.zero_add, Nat.mul_one] at c1
  have e : rows.getD v [] = rows[v] := by simp [List.getD, hv]
  rw [e]
  exact ⟨ra, rc, c1, hu⟩

set_option maxRecDepth 100000 in
set_option maxHeartbeats 8000000 in
theorem two_c {p : Nat → Prop} (W : World) {sb mb nn xn xc mca mcb ca cb aN bN : Nat} {xa ma mb' : Option Addr} {xs : List Int} {f : MF} {EA EB : List (List Int)} {R : World → Prop} (hp : ∀ b, p b → b < W.heap.size)
    (hx : IsInts p W (.slice xa xn xc) xs) (hx0 : OkV xs) (h0 : 0 < xn) (hxm : xn ≤ 300) (hmv : IsMv W mb nn f) (ha9 : aN ≤ 300) (hb9 : bN ≤ 300) (hca0 : 0 < ca) (hcb0 : 0 < cb)
    (hfa : f (aN : Int) = some (.slice ma xn mca)) (hfb : f (bN : Int) = some (.slice mb' xn mcb)) (hA : IsRows p W (.slice ma xn mca) EA) (hB : IsRows p W (.slice mb' xn mcb) EB) (hEA : OkM EA xn ca) (hEB : OkM EB xn cb) (hca : ca ≤ 300) (hcb : cb ≤ 300)
    (HJ : ∀ W' ob oc rb rc, Below W.heap.size W W' → MxAt (fun b => W.heap.size ≤ b ∧ b < W'.heap.size) W' ob ca oc rb rc (twoM xs EA EB ca cb) → Calls Try.prog 35 #[.pointer (some ⟨sb, 0, none⟩), .int .i64 (aN : Int), .int .i64 (bN : Int), .slice (some ⟨ob, 0, none⟩) ca oc] W' fun e w' => e = .returned (.tuple #[]) ∧ R w') :
    Calls Try.prog 43 #[.pointer (some ⟨sb, 0, none⟩), .slice xa xn xc, .map (some mb), .int .i64 (aN : Int), .int .i64 (bN : Int)] W fun e w' => e = .returned (.tuple #[]) ∧ R w' := by
  have HXl := hid_of (sl_len hx).1
  have hkeep : ∀ {v : Value} {M : List (List Int)}, IsRows p W v M → ∀ Y, Below W.heap.size W Y → IsRows p Y v M := fun h Y hY => h.keep (fun b hb hlt => ⟨hb, hY.block b hlt⟩)
  have hTA : ∀ Y, Below W.heap.size W Y → Calls Try.prog 40 #[.slice ma xn mca] Y fun e Y' => ∃ oa, e = .returned (.slice (some ⟨oa, 0, none⟩) ca ca) ∧ IsRows (fun b => W.heap.size ≤ b ∧ b < Y'.heap.size) Y' (.slice (some ⟨oa, 0, none⟩) ca ca) (turnS EA ca) ∧ Below W.heap.size W Y' := fun Y hY =>
    (turned_c Y (hkeep hA Y hY) (fun b hb => by have := hp b hb; have := hY.size; omega) h0 hEA.cols (by omega) hca).mono (by
      rintro e Y' ⟨ob, own, vals, rfl, h1, h2, h3⟩
      have h4 := h2.rows h1 (by rw [turnS_length]; omega) (fun j => by
        by_cases hj : j < ca
        · rw [turnS_get hj, colS_length, hEA.rows]; omega
        · have : (turnS EA ca).length ≤ j := by rw [turnS_length]; omega
          simp [List.getD, List.getElem?_eq_none this])
      rw [turnS_length] at h4
      exact ⟨ob, rfl, h4.keep (fun b hb _ => ⟨⟨by have := hY.size; omega, hb.2⟩, rfl⟩), bel_call hY h3⟩)
  have hTB : ∀ Y, Below W.heap.size W Y → Calls Try.prog 40 #[.slice mb' xn mcb] Y fun e Y' => ∃ oa, e = .returned (.slice (some ⟨oa, 0, none⟩) cb cb) ∧ IsRows (fun b => W.heap.size ≤ b ∧ b < Y'.heap.size) Y' (.slice (some ⟨oa, 0, none⟩) cb cb) (turnS EB cb) ∧ Below W.heap.size W Y' ∧ Below Y.heap.size Y Y' := fun Y hY =>
    (turned_c Y (hkeep hB Y hY) (fun b hb => by have := hp b hb; have := hY.size; omega) h0 hEB.cols (by omega) hcb).mono (by
      rintro e Y' ⟨ob, own, vals, rfl, h1, h2, h3⟩
      have h4 := h2.rows h1 (by rw [turnS_length]; omega) (fun j => by
        by_cases hj : j < cb
        · rw [turnS_get hj, colS_length, hEB.rows]; omega
        · have : (turnS EB cb).length ≤ j := by rw [turnS_length]; omega
          simp [List.getD, List.getElem?_eq_none this])
      rw [turnS_length] at h4
      exact ⟨ob, rfl, h4.keep (fun b hb _ => ⟨⟨by have := hY.size; omega, hb.2⟩, rfl⟩), bel_call hY h3, h3⟩)
  have hlA : ∀ Y, Below W.heap.size W Y → (Instr.lookup 67 (.map (some mb)) (.int .i64 (aN : Int)) false).run Try.prog Y = .ok (.slice ma xn mca) Y := fun Y hY => (hmv.keep (hY.block _ hmv.lt)).look (In64.of (x := (aN : Int)) (by omega) (by omega)) hfa
  have hlB : ∀ Y, Below W.heap.size W Y → (Instr.lookup 67 (.map (some mb)) (.int .i64 (bN : Int)) false).run Try.prog Y = .ok (.slice mb' xn mcb) Y := fun Y hY => (hmv.keep (hY.block _ hmv.lt)).look (In64.of (x := (bN : Int)) (by omega) (by omega)) hfb
  have HX : Hid (∀ Y, Below W.heap.size W Y → IsInts p Y (.slice xa xn xc) xs) := fun Y hY => hx.keep (fun b hb hlt => ⟨hb, hY.block b hlt⟩)
  have HP := hid_of hp
  have HX0 := hid_of hx0
  have HEA := hid_of hEA
  have HEB := hid_of hEB
  have HJJ := hid_of HJ
  clear hx hx0 hA hB hEA hEB hkeep hp HJ hmv hfa hfb
  go_enter Try.func43, Try.ntmps43
  have hE0 : Below W.heap.size W W := bel_refl W
  have la0 := hlA W.drew hE0.drew
  have lb0 := hlB W.drew hE0.drew
  go_upto_region 1 with fail
  go_cut [11, 12] (fun s11 s12 wx => ∃ oa ob, s11 = .slice (some ⟨oa, 0, none⟩) ca ca ∧ s12 = .slice (some ⟨ob, 0, none⟩) cb cb ∧ Hid (IsRows (fun b => W.heap.size ≤ b ∧ b < wx.heap.size) wx (.slice (some ⟨oa, 0, none⟩) ca ca) (turnS EA ca) ∧ IsRows (fun b => W.heap.size ≤ b ∧ b < wx.heap.size) wx (.slice (some ⟨ob, 0, none⟩) cb cb) (turnS EB cb) ∧ Below W.heap.size W wx))
  case first =>
    go_region_law (first
      | (go_simp; go_at_call 40; (with_reducible refine (hTA _ ?_).mono ?_); (first | (with_reducible exact hE0) | exact hE0.drew); rintro e1 Ya ⟨oa, rfl, hra, hEa⟩; have lb1 := hlB Ya hEa)
      | (go_simp; go_at_call 40; (with_reducible refine (hTB _ ?_).mono ?_); (with_reducible exact hEa); rintro e1 Yb ⟨ob, rfl, hrb, hEb, hEab⟩))
    all_goals (try go_wp2_with fail)
    all_goals go_meet
    all_goals exact ⟨oa, ob, rfl, rfl, hra.keep (fun b hb hlt => ⟨⟨hb.1, by have := hEab.size; omega⟩, hEab.block b hlt⟩), hrb, hEb⟩
  case rest =>
    obtain ⟨oa, ob, rfl, rfl, HM⟩ := hcut
    obtain ⟨W2, rfl⟩ : ∃ W2, W2 = wc := ⟨wc, rfl⟩
    have HS0 : Hid (∃ vs rb rc, MtX W2.heap.size (twoM xs EA EB ca cb) (.slice none 0 0) vs rb rc W2 ∧ vs.length = 0 ∧ Below W2.heap.size W2 W2) := ⟨[], _, _, MtX.nil _ _ _, rfl, bel_refl _⟩
    obtain ⟨i0, hi0, hz0, hz1, hz2⟩ := info_parts infoVec
    clear hTA hTB hlA hlB hE0 la0 lb0
    go_wp2_with fail
    go_loopw [10, 29] (fun s10 s29 wx => ∃ (i : Nat) (va : Option Addr) (vc : Nat), i ≤ ca ∧ s29 = .int .i64 i ∧ s10 = .slice va i vc ∧ Hid (∃ vs rb rc, MtX W2.heap.size (twoM xs EA EB ca cb) (.slice va i vc) vs rb rc wx ∧ vs.length = i ∧ Below W2.heap.size W2 wx)) (fun _ s29 _ => ca - (intOf s29).toNat)
    case atStart => exact ⟨0, none, 0, by omega, rfl, rfl, HS0⟩
    case round =>
      obtain ⟨i, va, vc, hi, rfl, rfl, HK⟩ := hrel
      clear HS0
      obtain ⟨W3, rfl⟩ : ∃ W3, W3 = wr := ⟨wr, rfl⟩
      by_cases hlt : i < ca
      · have hiz : (i : Int) < (ca : Int) := by omega
        obtain ⟨vs, rB, rC, hR, hvl, hbl⟩ := HK.out
        have h2s := hbl.size
        obtain ⟨ra, rac, c1, hra⟩ := rows_at3 (HM.out.1.keep (p' := fun b => b < W2.heap.size) (w' := W3) (fun b hb _ => ⟨hb.2, hbl.block b hb.2⟩)) (v := i) (by rw [turnS_length]; exact hlt)
        rw [turnS_get hlt, colS_length, HEA.out.rows] at c1 hra
        have HRA := hid_of hra
        have HR := hid_of (And.intro hR (And.intro hvl hbl))
        have HN0 : Hid (W3.ownsRow W3.heap.size 3 1 (.slice none 0 0) 0 (ints ((rowTw xs EA EB cb i).take 0)) ∧ Below W3.heap.size W3 W3) := ⟨World.ownsRow_nil _ _ _ _, bel_refl _⟩
        clear hR hvl hbl hra HK
        go_wp2_with fail
        go_loopw [15, 35] (fun s15 s35 wx => ∃ (j : Nat) (ta : Option Addr) (tc : Nat), j ≤ cb ∧ s35 = .int .i64 j ∧ s15 = .slice ta j tc ∧ Hid (wx.ownsRow W3.heap.size 3 1 (.slice ta j tc) j (ints ((rowTw xs EA EB cb i).take j)) ∧ Below W3.heap.size W3 wx)) (fun _ s35 _ => cb - (intOf s35).toNat)
        case atStart => exact ⟨0, none, 0, by omega, rfl, rfl, HN0⟩
        case round =>
          obtain ⟨j, ta, tc, hj, rfl, rfl, HJ⟩ := hrel
          clear HN0
          by_cases hlt2 : j < cb
          · have hjz : (j : Int) < (cb : Int) := by omega
            obtain ⟨ho, hb3⟩ := HJ.out
            have h3s := hb3.size
            have hb2 : Below W2.heap.size W2 wr := HR.out.2.2.trans (hb3.mono h2s)
            have hbW : Below W.heap.size W wr := bel_call HM.out.2.2 hb2
            obtain ⟨rb, rbc, c2, hrb⟩ := rows_at3 (HM.out.2.1.keep (p' := fun b => b < W2.heap.size) (w' := wr) (fun b hb _ => ⟨hb.2, hb2.block b hb.2⟩)) (v := j) (by rw [turnS_length]; exact hlt2)
            rw [turnS_get hlt2, colS_length, HEB.out.rows] at c2 hrb
            have hCl := cloneV_c wr (HX.out wr hbW) (by rw [← HXl.out]; exact h0) (by rw [← HXl.out]; omega)
            rw [← HXl.out] at hCl
            have HCl := hid_of hCl
            have HRB := hid_of hrb
            have HRA2 := hid_of (HRA.out.keep (p' := fun b => b < W2.heap.size) (w' := wr) (fun b hb hlt => ⟨hb, hb3.block b hlt⟩))
            have HO := hid_of (And.intro ho hb3)
            have hrlen := rowTw_take (xs := xs) (EA := EA) (EB := EB) (i := i) hlt2
            have HRL := hid_of hrlen
            clear ho hb3 hb2 hbW hrb hCl HJ hrlen
            go_wp2_with fail
            clear c2
            refine HCl.out.mono ?_
            rintro e4 W4 ⟨v, rfl, hv, hb4⟩
            have hvlt := hv.lt
            obtain ⟨vva, vq, rfl, hva⟩ := owns_slice hv
            obtain ⟨ug, rfl⟩ := hva h0
            obtain ⟨hug, hul4⟩ := hvlt ug rfl
            obtain ⟨_, -, -, hvq, -⟩ := owns_block hv
            have hAd := add_c W4 (c := vq) (RowP.of_owns hv) (HRA2.out.keep (p' := fun b => b < W2.heap.size) (fun b hb hlt => ⟨hb, hb4.block b hlt⟩)) (by omega) HXl.out.symm HX0.out (HEA.out.col i) (by omega)
            have HAd := hid_of hAd
            have HB4 := hid_of hb4
            clear hv hb4 hvlt hva hAd HCl
            go_wp2_with fail
            refine HAd.out.mono ?_
            rintro e5 W5 ⟨rfl, hr5, hon5⟩
            have hla : xs.length = (colS EA i).length := by rw [colS_length, HEA.out.rows]; exact HXl.out.symm
            have hlb : (addS xs (colS EA i)).length = (colS EB j).length := by rw [addS_length hla, colS_length, HEB.out.rows]; exact HXl.out.symm
            have hok5 : OkV (addS xs (colS EA i)) := addS_ok HX0.out (HEA.out.col i)
            have hb5 : Below wr.heap.size wr W5 := hon5.bel _ _ HB4.out hug
            have hAd := add_c W5 (c := vq) hr5 (HRB.out.keep (p' := fun b => b < W2.heap.size) (fun b hb hlt => ⟨hb, hb5.block b hlt⟩)) (by omega) (by rw [addS_length hla]; exact HXl.out.symm) hok5 (HEB.out.col j) (by omega)
            have HAd2 := hid_of hAd
            have HB5 := hid_of hb5
            have HLL := hid_of (And.intro hla hlb)
            clear hr5 hon5 hok5 hb5 hAd HAd hla hlb
            go_wp2_with fail
            refine HAd2.out.mono ?_
            rintro e6 W6 ⟨rfl, hr6, hon6⟩
            have hb6 : Below wr.heap.size wr W6 := hon6.bel _ _ HB5.out hug
            have hvl6 : (addS (addS xs (colS EA i)) (colS EB j)).length = xn := by rw [addS_length HLL.out.2, addS_length HLL.out.1]; exact HXl.out.symm
            have hu6 : ug < W6.heap.size := hr6.lt
            obtain ⟨V, HV⟩ : ∃ V, Hid (addS (addS xs (colS EA i)) (colS EB j) = V) := ⟨_, (rfl : addS (addS xs (colS EA i)) (colS EB j) = _)⟩
            rw [HV.out] at hr6 hvl6
            have hii6 : IsInts (fun b => b = ug) W6 (.slice (some ⟨ug, 0, none⟩) xn vq) V := ⟨_, vq, by rw [hvl6], ⟨by omega, by omega⟩, .inr ⟨ug, 0, rfl, rfl, fun k hk => hr6.cell (by simp [ints, hk])⟩⟩
            have hLe := least_c W6 hii6
            obtain ⟨kk, Hkk⟩ : ∃ k, Hid (leastS V = k) := ⟨_, (rfl : leastS V = _)⟩
            rw [Hkk.out] at hLe
            have hkk : kk < xn := by rw [← Hkk.out, ← hvl6]; exact leastS_lt (by omega)
            obtain ⟨x, Hx⟩ : ∃ x, Hid (V.getD kk 0 = x) := ⟨_, (rfl : V.getD kk 0 = _)⟩
            have hcx : W6.cell? ⟨ug, kk, none⟩ = some (.int .i64 x) := hr6.cell (by simp [ints, show kk < V.length by omega, ← Hx.out, List.getD])
            have HCe : Hid (cellTw xs EA EB i j = x) := by show _ = _; unfold cellTw vecTw; rw [HV.out, Hkk.out, Hx.out]
            have HLe := hid_of hLe
            have HB6 := hid_of hb6
            have hkz : (kk : Int) < (xn : Int) := by omega
            clear hr6 hon6 hii6 hLe hb6 HAd2 HB5 HB4
            go_wp2_with fail
            refine HLe.out.mono ?_
            rintro e7 W7 ⟨rfl, q, rfl⟩
            have hb7 : Below wr.heap.size wr (W6.drewN q) := bel_drewN HB6.out q
            have hcx7 : (W6.drewN q).cell? ⟨ug, kk, none⟩ = some (.int .i64 x) := hcx
            have hu7 : ug < (W6.drewN q).heap.size := hu6
            generalize W6.drewN q = W7 at *
            have hba : Below wr.heap.size wr (W7.alloc (.cells #[.int .i64 x] 3)) := bel_alloc hb7 _
            have hlt3 : ((rowTw xs EA EB cb i).take j).length = j := by rw [List.length_take, rowTw_len]; omega
            have HO0 : Hid ((W7.alloc (.cells #[.int .i64 x] 3)).ownsRow W3.heap.size 3 1 (.slice ta j tc) (ints ((rowTw xs EA EB cb i).take j)).length (ints ((rowTw xs EA EB cb i).take j))) := by
              show World.ownsRow _ _ _ _ _ _ _
              rw [List.length_map, hlt3]; exact owns_below HO.out.1 hba
            have HSz : Hid (((ints ((rowTw xs EA EB cb i).take j)).length + 1) * 8 ≤ 140737488355328 ∧ (ints ((rowTw xs EA EB cb i).take j)).length + 1 ≤ maxLen ∧ W3.heap.size ≤ (W7.alloc (.cells #[.int .i64 x] 3)).heap.size) := ⟨by rw [List.length_map, hlt3]; omega, by rw [List.length_map, hlt3]; unfold maxLen; omega, by have := hba.size; omega⟩
            have HFin : Hid (∀ v' w', w'.ownsRow W3.heap.size 3 1 v' (ints ((rowTw xs EA EB cb i).take j) ++ [Value.int .i64 x]).length (ints ((rowTw xs EA EB cb i).take j) ++ [Value.int .i64 x]) → (W7.alloc (.cells #[.int .i64 x] 3)).grownBy w' (Value.slice ta j tc).ownBlock → ∃ ua uc, v' = .slice ua (j + 1) uc ∧ Hid (w'.ownsRow W3.heap.size 3 1 (.slice ua (j + 1) uc) (j + 1) (ints ((rowTw xs EA EB cb i).take (j + 1))) ∧ Below W3.heap.size W3 w')) := fun v' w' h1 h2 => by
              have e : (rowTw xs EA EB cb i).take j ++ [x] = (rowTw xs EA EB cb i).take (j + 1) := by rw [HRL.out, HCe.out]
              rw [show ints ((rowTw xs EA EB cb i).take j) ++ [Value.int .i64 x] = ints ((rowTw xs EA EB cb i).take j ++ [x]) by simp [Go.Proofs.Ytdomnbgjafdnjaa.ints], e, List.length_map, List.length_take, rowTw_len, Nat.min_eq_left (by omega)] at h1
              obtain ⟨ua, uc, rfl, -⟩ := owns_slice h1
              exact ⟨ua, uc, rfl, h1, bel_grown (bel_call HO.out.2 hba) h2 (fun b e => (HO.out.1.lt b e).1)⟩
            clear hba hlt3 hcx HLe HB6 hb7
            go_wp2_with (at_builtin; refine stop_here ?_)
            refine stop_go (app_cell 71 3 (.int .i64 0) 8 Try.underlying71 infoInt rfl rfl _ _ rfl W3.heap.size (.slice ta j tc) (ints ((rowTw xs EA EB cb i).take j)) rfl HO0.out _ (.int .i64 x) rfl rfl (heap_alloc_eq _ _ _ rfl) HSz.out.1 HSz.out.2.1 HSz.out.2.2 ?_)
            intro v8 w8 ho8 hg8 _
            obtain ⟨ua, uc, rfl, HN⟩ := HFin.out v8 w8 ho8 hg8
            clear ho8 hg8 HFin HSz HO0 hcx7
            go_wp2_with fail
            go_roundw
            case rel => exact ⟨j + 1, ua, uc, by omega, by go_num, rfl, HN⟩
            case measure => simp [intOf]; omega
          · obtain rfl : cb = j := by omega
            obtain ⟨ho, hb3⟩ := HJ.out
            rw [List.take_of_length_le (by rw [rowTw_len]; omega)] at ho
            have hba : Below wr.heap.size wr (wr.alloc (.cells #[.slice ta cb tc] 71)) := bel_alloc (bel_refl wr) _
            have hY : Below W3.heap.size W3 (wr.alloc (.cells #[.slice ta cb tc] 71)) := bel_call hb3 hba
            have hl0 : (rowTw xs EA EB cb i).length = cb := rowTw_len ..
            have hlt4 := ho.lt
            obtain ⟨ta1, tc1, e1, hta⟩ := owns_slice ho
            obtain ⟨tg, e2⟩ := hta hcb0
            simp only [Value.slice.injEq, true_and] at e1
            obtain ⟨rfl, rfl⟩ := e1
            subst e2
            obtain ⟨_, ht1, -, ht3, -⟩ := owns_block ho
            have hrp : RowP (wr.alloc (.cells #[.slice (some ⟨tg, 0, none⟩) cb tc] 71)) tg 3 (ints (rowTw xs EA EB cb i)) := (RowP.of_owns ho).keep (hba.block _ (hlt4 tg rfl).2)
            have HO : Hid ((wr.alloc (.cells #[.slice (some ⟨tg, 0, none⟩) cb tc] 71)).ownsRow W2.heap.size 71 1 (.slice va i vc) vs.length vs) := owns_below HR.out.1.ow hY
            have HSz : Hid ((vs.length + 1) * 24 ≤ 140737488355328 ∧ vs.length + 1 ≤ maxLen ∧ W2.heap.size ≤ (wr.alloc (.cells #[.slice (some ⟨tg, 0, none⟩) cb tc] 71)).heap.size) := by
              have := HR.out.2.1
              exact ⟨by omega, by unfold maxLen; omega, by have := hY.size; omega⟩
            have HFin : Hid (∀ v' w', w'.ownsRow W2.heap.size 71 1 v' (vs ++ [Value.slice (some ⟨tg, 0, none⟩) cb tc]).length (vs ++ [Value.slice (some ⟨tg, 0, none⟩) cb tc]) → (wr.alloc (.cells #[.slice (some ⟨tg, 0, none⟩) cb tc] 71)).grownBy w' (Value.slice va i vc).ownBlock → (v'.ownBlock = (Value.slice va i vc).ownBlock ∨ v'.ownBlock = some (wr.alloc (.cells #[.slice (some ⟨tg, 0, none⟩) cb tc] 71)).heap.size) →
                ∃ ua uc, v' = .slice ua (i + 1) uc ∧ Hid (∃ vs rb rc, MtX W2.heap.size (twoM xs EA EB ca cb) (.slice ua (i + 1) uc) vs rb rc w' ∧ vs.length = i + 1 ∧ Below W2.heap.size W2 w')) := fun v' w' h1 h2 h3 => by
              have hvl := HR.out.2.1
              have hgt : (twoM xs EA EB ca cb).getD vs.length [] = rowTw xs EA EB cb i := by rw [hvl]; exact twoM_get hlt
              obtain ⟨rb', rc', h4⟩ := HR.out.1.push hY HR.out.2.2.size (u := .slice (some ⟨tg, 0, none⟩) cb tc) (g := tg) (uc := tc) (by rw [hgt, hl0]) (by rw [hgt, hl0]; exact ht3) ht1 (by rw [hgt]; exact hrp) h1 h2 (h3.imp id fun e => ⟨_, e, Nat.le_refl _⟩)
              have hl5 : (vs ++ [Value.slice (some ⟨tg, 0, none⟩) cb tc]).length = i + 1 := by rw [List.length_append, hvl]; rfl
              rw [hl5] at h1
              obtain ⟨ua, uc, rfl, -⟩ := owns_slice h1
              exact ⟨ua, uc, rfl, _, rb', rc', h4, hl5, bel_grown (HR.out.2.2.trans (hY.mono HR.out.2.2.size)) h2 (fun b e => (HR.out.1.ow.lt b e).1)⟩
            clear ho hb3 hba hY HJ hl0 hrp hta ht3 hlt4
            go_wp2_with (at_builtin; refine stop_here ?_)
            refine stop_go (app_cell 68 71 (.slice none 0 0) 24 Try.underlying68 infoVec rfl rfl _ _ rfl W2.heap.size (.slice va i vc) vs rfl HO.out _ (.slice (some ⟨tg, 0, none⟩) cb tc) rfl rfl (heap_alloc_eq _ _ _ rfl) HSz.out.1 HSz.out.2.1 HSz.out.2.2 ?_)
            intro v8 w8 ho8 hg8 hv8
            obtain ⟨ua, uc, rfl, HN⟩ := HFin.out v8 w8 ho8 hg8 hv8
            clear ho8 hg8 hv8 HFin HSz HO
            go_wp2_with fail
            go_roundw
            case rel => exact ⟨i + 1, ua, uc, by omega, by go_num, rfl, HN⟩
            case measure => simp [intOf]; omega
      · obtain rfl : ca = i := by omega
        obtain ⟨vs, rB, rC, hR, hvl, hbl⟩ := HK.out
        have hbW : Below W.heap.size W W3 := bel_call HM.out.2.2 hbl
        obtain ⟨ob2, mc2, e, hrows⟩ := hR.mx (n := ca) (by rw [twoM_len]; exact hvl) (twoM_len _ _ _ _ _) hca0 hca (fun j hj => by rw [twoM_get hj, rowTw_len]; exact hcb)
        simp only [Value.slice.injEq, true_and] at e
        obtain ⟨rfl, rfl⟩ := e
        have HJn := hid_of (HJJ.out W3 ob2 vc rB rC hbW (hrows.keep (fun b hb _ => ⟨⟨by have := HM.out.2.2.size; omega, hb.2⟩, rfl⟩)))
        clear hR hvl hbl hrows hbW HK
        go_wp2_with fail
        refine HJn.out.mono ?_
        rintro e9 W9 ⟨rfl, hR9⟩
        go_wp2_with fail
        go_end0
        exact ⟨rfl, hR9⟩
end Go.Proofs.Ytdomnbgjafdnjaa
