/- The law's 'same': two lists of lists are one; the first is written over. -/
import Derived.Test.YtcihobmjohpnkaaLvI
import Derived.Test.YtcihobmjohpnkaaRef1
import Derived.Test.YtcihobmjohpnkaaIRow
import Derived.Deep.QuietTactic
import Derived.BigQuiet
namespace Go.Proofs.Ytcihobmjohpnkaa
open Go.RowKit Go.Sort

structure SameSt (B : Nat) (own : Nat → Nat) (ll : List (List Int)) (v : Value) (vals : List Value) (k : Nat) (w W : World) : Prop where
  row : W.ownsRow B 25 1 v vals.length vals
  el : ∀ j (h : j < vals.length), k ≤ j → W.ownsRow B 3 1 vals[j] (ll.getD j []).length (ints (ll.getD j []))
  bel : Below B w W
theorem SameSt.below {B : Nat} {own : Nat → Nat} {ll : List (List Int)} {v : Value} {vals : List Value} {k : Nat} {w W W' : World} (h : SameSt B own ll v vals k w W) (hB : B ≤ W.heap.size) (hb : Below W.heap.size W W') : SameSt B own ll v vals k w W' :=
  ⟨owns_below h.row hb, fun j hj hk => owns_below (h.el j hj hk) hb, h.bel.trans (hb.mono hB)⟩

theorem SameSt.set {B : Nat} {own : Nat → Nat} {ll : List (List Int)} {v : Value} {vals : List Value} {k : Nat} {w W : World} (h : SameSt B own ll v vals k w W) {kg : Nat} (hb : B ≤ kg) (h1 : v.ownBlock = none ∨ v.ownBlock ≠ some kg) (h2 : ∀ j (h : j < vals.length), k ≤ j → vals[j].ownBlock ≠ some kg) (i : Nat) (u : Value) : SameSt B own ll v vals k w (W.setCell ⟨kg, i, none⟩ u) :=
  ⟨h.row.kept (World.ownsRow.kept_set ⟨kg, i, none⟩ u) h1, fun j hj hk => (h.el j hj hk).kept (World.ownsRow.kept_set ⟨kg, i, none⟩ u) (.inr (h2 j hj hk)), h.bel.setCell hb u⟩
theorem SameSt.next {B : Nat} {own : Nat → Nat} {ll : List (List Int)} {v : Value} {vals : List Value} {k : Nat} {w W : World} (h : SameSt B own ll v vals k w W) : SameSt B own ll v vals (k + 1) w W :=
  ⟨h.row, fun j hj hk => h.el j hj (by omega), h.bel⟩

theorem takeI_succ_eq {xs ys : List (List Int)} {k : Nat} (h1 : k < xs.length) (h2 : k < ys.length) (ht : xs.take k = ys.take k) (he : xs[k] = ys[k]) : xs.take (k + 1) = ys.take (k + 1) := by
  rw [List.take_succ_eq_append_getElem h1, List.take_succ_eq_append_getElem h2, ht, he]

set_option maxRecDepth 100000 in
set_option maxHeartbeats 8000000 in
theorem same17_c {B : Nat} {own : Nat → Nat} {ll mm : List (List Int)} {v u : Value} {vals : List Value} (w : World) (h : RowsOwn B own ll v vals w) (hB : B ≤ w.heap.size) (h2 : IsRows (· < B) w u mm) (hl : ll.length ≤ 100000) (hx : ∀ xs ∈ ll, xs.length ≤ 1000000) :
    Calls Try.prog 46 #[v, u] w fun e w' => e = .returned (.bool (decide (ll = mm))) ∧ Below B w w' := by
  have hlen := h.len
  obtain ⟨va, vc, rfl, hva⟩ := owns_slice h.row
  obtain ⟨ua, uc, rfl, hul, hux⟩ := id h2
  obtain ⟨n, Hn⟩ : ∃ n, Hid (vals.length = n) := ⟨_, (rfl : vals.length = _)⟩
  obtain ⟨m, Hm⟩ : ∃ m, Hid (mm.length = m) := ⟨_, (rfl : mm.length = _)⟩
  have HL : Hid (ll.length = n) := by rw [← hlen]; exact Hn.out
  have hrow0 := h.row
  have hel0 := h.el
  have hap := hid_of h.apart
  rw [Hn.out] at hva
  have hS0 : SameSt B own ll (.slice va n vc) vals 0 w w := ⟨by have := h.row; rw [Hn.out] at this ⊢; exact this, fun j hj _ => h.el j hj, Below.refl _ _⟩
  rw [Hn.out, Hm.out]
  have hn : n ≤ 100000 := by rw [← HL.out]; exact hl
  clear hlen hrow0 hel0
  by_cases hnm : n = m
  · have HNM := hid_of hnm
    have hd : ((n : Int) != (m : Int)) = false := by simp; omega
    clear h hnm
    go_enter Try.func46, Try.ntmps46
    go_wp2_with fail
    go_loopw [5] (fun s5 wx => ∃ k : Nat, k ≤ n ∧ s5 = .int .i64 k ∧ Hid (SameSt B own ll (.slice va n vc) vals k w wx) ∧ B ≤ wx.heap.size ∧ Hid (ll.take k = mm.take k)) (fun s5 _ => n - (intOf s5).toNat)
    case atStart => exact ⟨0, by omega, rfl, hS0, hB, (rfl : ll.take 0 = mm.take 0)⟩
    case round =>
      obtain ⟨k, hk, rfl, hS, hBr, HT⟩ := hrel
      by_cases hlt : k < n
      · have hkv : k < vals.length := by rw [Hn.out]; exact hlt
        have hkm : k < mm.length := by rw [Hm.out, ← HNM.out]; exact hlt
        have hkl : k < ll.length := by rw [HL.out]; exact hlt
        obtain ⟨vg, rfl⟩ := hva (by omega)
        have hSr := hS.out.row
        rw [Hn.out] at hSr
        have c1 := hSr.cellAt k (by omega)
        have e1 : vals[k]? = some vals[k] := by simp [hkv]
        rw [e1] at c1
        rcases hux with hux | ⟨ub, uo, rfl, hpu, hux⟩
        · rw [hux] at hkm; simp at hkm
        obtain ⟨vu, c2, hvu⟩ := hux k hkm
        rw [Nat.mul_one] at c2
        replace c2 := (hS.out.bel.cell (p := ⟨ub, uo + k, none⟩) hpu).trans c2
        have hvu2 := hvu.keep (Keep.belowB hS.out.bel)
        have hrk := hS.out.el k hkv (Nat.le_refl _)
        have e2 : ll.getD k [] = ll[k] := by simp [List.getD, hkl]
        rw [e2] at hrk
        have hxl := hx _ (List.getElem_mem hkl)
        have hi1 : IsInts (fun _ => True) wr vals[k] ll[k] := ints_of_owns hrk (by omega) (fun _ _ _ _ => trivial)
        obtain ⟨ka, kc, ekv, hka⟩ := owns_slice hrk
        obtain ⟨ja, jc, ejv, -, -⟩ := id hvu2
        have hck : Hid (ll[k] = mm[k] → ll.take (k + 1) = mm.take (k + 1)) := fun e => takeI_succ_eq hkl hkm HT.out e
        have hcn : Hid (ll[k] ≠ mm[k] → ll ≠ mm) := fun e hh => e (by subst hh; rfl)
        have HEL : Hid (vals[k] = .slice ka ll[k].length kc) := ekv
        rw [ekv] at c1 hi1 hrk
        rw [ejv] at c2 hvu2
        have hapk : Hid (∀ b, (Value.slice ka ll[k].length kc).ownBlock = some b → vg ≠ b ∧ ∀ j (h : j < vals.length), k < j → vals[j].ownBlock ≠ some b) := fun b hb => by
          have hb' : vals[k].ownBlock = some b := by rw [ekv]; exact hb
          obtain ⟨q1, q2⟩ := hap.out k hkv b hb'
          refine ⟨fun e => q1 (by rw [e]; rfl), fun j hj hkj hj2 => ?_⟩
          have := (hap.out j hj b hj2).2
          omega
        obtain ⟨X, HX⟩ : ∃ X, Hid (ll[k] = X) := ⟨_, (rfl : ll[k] = _)⟩
        obtain ⟨Y, HY⟩ : ∃ Y, Hid (mm[k] = Y) := ⟨_, (rfl : mm[k] = _)⟩
        rw [HX.out] at hi1 hrk c1 hck hcn hxl HEL hapk hka
        rw [HY.out] at hvu2 c2 hck hcn
        have hsm := fun q => sameInts_c (wr.drewN q) (hi1.keep (p' := fun _ => True) (Keep.below (bel_drewN (bel_refl wr) q))) (hvu2.keep (p' := (· < B)) (Keep.below (bel_drewN (bel_refl wr) q)))
        have hkn : (k : Int) < (n : Int) := by omega
        have hk0 : (0 : Int) ≤ (k : Int) := by omega
        have hkm2 : (k : Int) < (m : Int) := by have := HNM.out; omega
        clear hux hvu e1 e2 ekv ejv hi1 hvu2
        cases hb : sameS X Y with
        | false =>
          simp only [hb] at hsm
          have hne : Hid (decide (ll = mm) = false) := by
            have : ll ≠ mm := hcn.out (by unfold sameS at hb; simpa using hb)
            simp [this, Hid]
          have HB := hid_of hS.out.bel
          clear hS hSr hrk hck hcn HT hapk
          go_wp2_with fail
          go_quiet ((go_at_call 26; exact Calls.quiet_of (hsm _)))
          go_wp2_with fail
          go_ret
          exact ⟨by rw [hne.out]; rfl, HB.out.trans ((bel_drewN (bel_refl wr) _).mono hBr)⟩
        | true =>
          simp only [hb] at hsm
          have HT2 := hid_of (hck.out (by unfold sameS at hb; simpa using hb))
          have HS := hid_of hS.out
          have HRK := hid_of hrk
          have hXl : X.length ≤ 1000000 := hxl
          clear hS hSr hrk hck hcn HT
          obtain ⟨wo, rfl⟩ : ∃ wo : World, wo = wr := ⟨_, rfl⟩
          go_wp2_with fail
          go_quiet ((go_at_call 26; exact Calls.quiet_of (hsm _)))
          clear hsm c1 c2
          have hS1 := HS.out.below hBr (bel_drewN (bel_refl wo) nq)
          have hR1 := owns_below HRK.out (bel_drewN (bel_refl wo) nq)
          have HS1 := hid_of hS1
          have HR1 := hid_of hR1
          have hB1 : B ≤ (wo.drewN nq).heap.size := hBr
          clear hS1 hR1
          go_wp2_with fail
          go_loopw [6] (fun s6 wx => ∃ i : Nat, i ≤ X.length ∧ ∃ zs : List Int, zs.length = X.length ∧ s6 = .int .i64 i ∧ Hid (SameSt B own ll (.slice (some ⟨vg, 0, none⟩) n vc) vals (k + 1) w wx) ∧ B ≤ wx.heap.size ∧ Hid (wx.ownsRow B 3 1 (.slice ka X.length kc) X.length (ints zs))) (fun s6 _ => X.length - (intOf s6).toNat)
          case atStart => exact ⟨0, by omega, X, rfl, rfl, HS1.out.next, hB1, HR1⟩
          case round =>
            obtain ⟨i, hi, zs, hz, rfl, hS, hBi, hI⟩ := hrel
            have hSr := hS.out.row
            rw [Hn.out] at hSr
            have c1 := hSr.cellAt k (by omega)
            have e1 : vals[k]? = some vals[k] := by simp [hkv]
            rw [e1, HEL.out] at c1
            clear e1 hSr HS1 HR1
            by_cases hil : i < X.length
            · obtain ⟨kg, rfl⟩ := hka (by omega)
              obtain ⟨q1, q2⟩ := hapk.out kg rfl
              have c2 : wr.cell? ⟨kg, i, none⟩ = _ := hI.out.cellAt i (by omega)
              have hf := hI.out.frozenAt i
              have hI1 := (hI.out.stored i (.int .i64 (-1))).1
              rw [ints_set] at hI1
              have hg := (hI.out.lt kg rfl)
              have hS2 := hid_of (hS.out.set hg.1 (.inr (fun e => q1 (by injection e))) (fun j hj hkj => q2 j hj (by omega)) i (.int .i64 (-1)))
              have hzk : (ints zs)[i]? = some (.int .i64 zs[i]) := by simp [ints, hz, hil]
              have HI1 := hid_of hI1
              clear hI hS q1 q2 hI1
              go_wp2_with fail
              go_roundw
              case rel => exact ⟨i + 1, by omega, zs.set i (-1), by simpa using hz, by go_num, hS2, by simpa using hBi, HI1⟩
              case measure => simp [intOf]; omega
            · clear hI
              go_wp2_with fail
              go_roundw
              case rel => exact ⟨k + 1, by omega, by go_num, hS, hBi, HT2⟩
              case measure => simp [intOf]; omega
      · obtain rfl : k = n := by omega
        have he : ll = mm := by
          have := HT.out
          rwa [List.take_of_length_le (by have := HL.out; omega), List.take_of_length_le (by have := Hm.out; have := HNM.out; omega)] at this
        have hBe := hid_of hS.out.bel
        have HE : Hid (decide (ll = mm) = true) := by simp [he, Hid]
        clear hS HT he hux
        go_wp2_with fail
        go_ret
        exact ⟨by rw [HE.out]; rfl, hBe.out⟩
  · have hd : ((n : Int) != (m : Int)) = true := by simp; omega
    have HE : Hid (decide (ll = mm) = false) := by
      have : ll ≠ mm := fun e => hnm (by rw [← HL.out, ← Hm.out, e])
      simp [this, Hid]
    clear hux hnm h
    go_enter Try.func46, Try.ntmps46
    go_wp2_with fail
    go_ret
    exact ⟨by rw [HE.out]; rfl, Below.refl _ _⟩
end Go.Proofs.Ytcihobmjohpnkaa
