/- The laws' own 'Big' over a function: the walk. -/
import Derived.Test.YtcihobmjohpnkaaOpenF
import Derived.Test.YtcihobmjohpnkaaFlow
import Derived.Deep.QuietTactic
import Derived.BigQuiet
namespace Go.Proofs.Ytcihobmjohpnkaa
open Go.RowKit Go.Sort

/-- Some bool comes back; where it says no, P. -/
def BigPost (P : Prop) (w : World) (e : Ending) (w' : World) : Prop := ∃ r, e = .returned (.bool r) ∧ Below w.heap.size w w' ∧ (r = false → P)
/-- All lists of a function's blocks are short. -/
def FewL (L : List (List InsD)) (k : Nat) : Prop := ∀ j (h : j < L.length), j < k → L[j].length ≤ 3000 ∧ ∀ i ∈ L[j], i.args.length ≤ 3000
def FewI (l : List InsD) (k : Nat) : Prop := ∀ j (h : j < l.length), j < k → l[j].args.length ≤ 3000
theorem FewI.all {l : List InsD} (h : FewI l l.length) : ∀ i ∈ l, i.args.length ≤ 3000 := fun i hi => by
  obtain ⟨j, hj, rfl⟩ := List.mem_iff_getElem.1 hi
  exact h j hj hj
theorem FewL.all {L : List (List InsD)} (h : FewL L L.length) : ∀ l ∈ L, l.length ≤ 3000 ∧ ∀ i ∈ l, i.args.length ≤ 3000 := fun l hl => by
  obtain ⟨j, hj, rfl⟩ := List.mem_iff_getElem.1 hl
  exact h j hj hj

set_option maxRecDepth 100000 in
set_option maxHeartbeats 8000000 in
theorem big9_c (w : World) (nm : ByteArray) (va : Option Addr) (vn vc : Nat) (pa : Option Addr) (pn pc : Nat) (re : ByteArray) (ba : Option Addr) (n bc : Nat) {vs : List ByteArray} {ps : List Int} {L : List (List InsD)}
    (hv : IsStrs (· < w.heap.size) w (.slice va vn vc) vs) (hp : IsInts (· < w.heap.size) w (.slice pa pn pc) ps) (hL : IsBlocks (· < w.heap.size) w (.slice ba n bc) L) (hN : ∀ l ∈ L, ∀ i ∈ l, i.name.size ≤ 9223372036854775807) (hnm : nm.size ≤ 9223372036854775807) (hre : re.size ≤ 9223372036854775807) :
    Calls Try.prog 82 #[funcV nm va vn vc pa pn pc re ba n bc] w (BigPost (L.length ≤ 3000 ∧ (∀ l ∈ L, l.length ≤ 3000 ∧ ∀ i ∈ l, i.args.length ≤ 3000) ∧ vn ≤ 3000) w) := by
  obtain ⟨_, _, hv0, hvl, hvx⟩ := id hv
  simp only [Value.slice.injEq] at hv0
  obtain ⟨rfl, rfl, rfl⟩ := hv0
  obtain ⟨_, _, hv1, hpl, -⟩ := id hp
  simp only [Value.slice.injEq] at hv1
  obtain ⟨rfl, rfl, rfl⟩ := hv1
  obtain ⟨_, _, hv2, hLl, hLx⟩ := id hL
  simp only [Value.slice.injEq] at hv2
  obtain ⟨rfl, rfl, rfl⟩ := hv2
  have HN := hid_of hN
  unfold funcV
  have hB := bel_alloc (bel_refl w) (.cells #[.string nm, .slice va vs.length vc, .slice pa ps.length pc, .string re, .slice ba L.length bc] 44)
  obtain ⟨vn, HV⟩ : ∃ vn, Hid (vs.length = vn) := ⟨_, (rfl : vs.length = _)⟩
  obtain ⟨pn, HP⟩ : ∃ pn, Hid (ps.length = pn) := ⟨_, (rfl : ps.length = _)⟩
  rw [HV.out] at hB hvl ⊢
  rw [HP.out] at hB hpl ⊢
  obtain ⟨bn, HBN⟩ : ∃ bn, Hid (L.length = bn) := ⟨_, (rfl : L.length = _)⟩
  rw [HBN.out] at hB hLl ⊢
  clear hN hv hp hL
  go_enter Try.func82, Try.ntmps82
  go_wp2_with fail
  generalize hW : w.alloc _ = W
  have hk0 : Row W w.heap.size 44 [.string nm, .slice va vn vc, .slice pa pn pc, .string re, .slice ba bn bc] := by rw [← hW]; exact heap_alloc_eq _ _ _ rfl
  have hB0 : Below w.heap.size w W := by rw [← hW]; exact hB
  clear hW hB
  go_loop [3, 4] (fun s3 s4 => ∃ (k : Nat) (x : Int), k ≤ vn ∧ s4 = .int .i64 k ∧ s3 = .int .i64 x ∧ (vn : Int) ≤ x ∧ x ≤ 4611686018427387904) (fun _ s4 => vn - (intOf s4).toNat)
  case atStart => exact ⟨0, _, by omega, rfl, rfl, by omega, by omega⟩
  case round =>
    obtain ⟨k, x, hk, rfl, rfl, hx0, hx1⟩ := hrel
    have hx00 : 0 ≤ x := by omega
    have c1 := hk0.cell (k := 1) (v := .slice va vn vc) rfl
    have c4 := hk0.cell (k := 4) (v := .slice ba bn bc) rfl
    by_cases hgo : k < vn ∧ x ≤ 3000
    · obtain ⟨hkv, hx3⟩ := hgo
      have hd2 : decide (x ≤ 3000) = true := by simpa using hx3
      have hkv' : k < vs.length := by rw [HV.out]; exact hkv
      rcases hvx with hvx | ⟨vb, vo, rfl, hpv, hvx⟩
      · rw [hvx] at hkv'; simp at hkv'
      obtain ⟨s1, s2⟩ := hvx k hkv'
      rw [Nat.mul_one] at s1
      generalize vs[k] = str at s1 s2
      replace s1 := (hB0.cell (p := ⟨vb, vo + k, none⟩) hpv).trans s1
      clear hvx
      go_wp2_with fail
      go_round
      case rel => exact ⟨k + 1, _, by omega, by go_num, rfl, by omega, by omega⟩
      case measure => simp [intOf]; omega
    · have hdx : (∃ h : k < vn, decide (x ≤ 3000) = false) ∨ k = vn := by
        by_cases h : k < vn
        · exact .inl ⟨h, by simpa using fun hx => hgo ⟨h, hx⟩⟩
        · exact .inr (by omega)
      clear hgo hvx
      rcases hdx with ⟨hkv, hd2⟩ | rfl
      all_goals
        have hfl0 : Hid (x ≤ 3000 → ((0 : Nat) : Int) ≤ x ∧ FewL L 0) := fun _ => ⟨by omega, fun j hj h => by omega⟩
        go_wp2_with fail
        clear c1
        go_loopw [3, 5] (fun s3 s5 wx => ∃ (b : Nat) (y : Int) (nd : Nat), b ≤ bn ∧ s5 = .int .i64 b ∧ s3 = .int .i64 y ∧ (vs.length : Int) ≤ y ∧ y ≤ 4611686018427387904 ∧ wx = W.drewN nd ∧ Hid (y ≤ 3000 → (b : Int) ≤ y ∧ FewL L b)) (fun _ s5 _ => bn - (intOf s5).toNat)
        case atStart => exact ⟨0, x, 0, by omega, rfl, rfl, by have := HV.out; omega, hx1, rfl, hfl0⟩
        case round =>
          obtain ⟨b, y, nd, hb, rfl, rfl, hy0, hy1, rfl, HF⟩ := hrel
          have hy00 : 0 ≤ y := by omega
          clear hfl0
          by_cases hgo : b < bn ∧ y ≤ 3000
          · obtain ⟨hbb, hy3⟩ := hgo
            have hd3 : decide (y ≤ 3000) = true := by simpa using hy3
            have hbL : b < L.length := by rw [HBN.out]; exact hbb
            rcases hLx with hLx | ⟨lb, lo, rfl, hpl2, hLx⟩
            · rw [hLx] at hbL; simp at hbL
            obtain ⟨vi, t1, ai, ac, rfl, ⟨hll0, hll⟩, hli⟩ := hLx b hbL
            rw [Nat.mul_one] at t1
            obtain ⟨l, Hl⟩ : ∃ l, Hid (L[b] = l) := ⟨_, (rfl : L[b] = _)⟩
            have HNl := hid_of (HN.out L[b] (List.getElem_mem hbL))
            rw [Hl.out] at t1 hll hll0 hli HNl
            replace t1 := (hB0.cell (p := ⟨lb, lo + b, none⟩) hpl2).trans t1
            obtain ⟨ln, Hln⟩ : ∃ ln, Hid (l.length = ln) := ⟨_, (rfl : l.length = _)⟩
            rw [Hln.out] at t1 hll hll0
            have hb1 : (b : Int) < (bn : Int) := by omega
            have hb0 : (0 : Int) ≤ (b : Int) := by omega
            clear hLx
            go_wp2_with fail
            go_loopw [3, 6] (fun s3 s6 wx => ∃ (m : Nat) (z : Int) (nd : Nat), m ≤ ln ∧ s6 = .int .i64 m ∧ s3 = .int .i64 z ∧ y + 1 + ln ≤ z ∧ z ≤ 4611686018427387904 ∧ wx = W.drewN nd ∧ Hid (z ≤ 3000 → FewI l m)) (fun _ s6 _ => ln - (intOf s6).toNat)
            case atStart => exact ⟨0, _, nd, by omega, rfl, rfl, by omega, by omega, rfl, (fun _ j hj h => by omega : _ → FewI l 0)⟩
            case round =>
              obtain ⟨m, z, nd2, hm, rfl, rfl, hz0, hz1, rfl, HFI⟩ := hrel
              by_cases hgo2 : m < ln ∧ z ≤ 3000
              · obtain ⟨hml, hz3⟩ := hgo2
                have hd4 : decide (z ≤ 3000) = true := by simpa using hz3
                have hml' : m < l.length := by rw [Hln.out]; exact hml
                rcases hli with hli | ⟨ib, io, rfl, hpi, hli⟩
                · rw [hli] at hml'; simp at hml'
                obtain ⟨d0, d1, d2, d3, d4, d5, ⟨v6, d6, hv6⟩, d7, d8⟩ := hli m hml'
                have hnml := HNl.out _ (List.getElem_mem hml')
                obtain ⟨a6, cap6, rfl, ⟨hl60, hl6⟩, -⟩ := id hv6
                replace d5 := (hB0.cell (p := ⟨ib, io + m * 9 + 5, none⟩) hpi).trans d5
                replace d6 := (hB0.cell (p := ⟨ib, io + m * 9 + 6, none⟩) hpi).trans d6
                have HG : ∀ q : Int, z + l[m].args.length ≤ q → Hid (q ≤ 3000 → FewI l (m + 1)) := fun q hq hq3 j hj hjm => by
                  by_cases e : j = m
                  · subst e; omega
                  · exact HFI.out hz3 j hj (by omega)
                have hm1 : (m : Int) < (ln : Int) := by omega
                have hm0 : (0 : Int) ≤ (m : Int) := by omega
                have hz00 : 0 ≤ z := by omega
                generalize l[m].name = nmi at d5 hnml
                generalize l[m].args.length = al at d6 hl6 hl60 HG
                have HGG := hid_of HG
                clear hli d0 d1 d2 d3 d4 d7 d8 hv6 HG
                go_wp2_with fail
                go_quiet (fail)
                go_wp2_with fail
                go_roundw
                case rel => exact ⟨m + 1, _, _, by omega, by go_num, rfl, by omega, by omega, rfl, HGG.out _ (by omega)⟩
                case measure => simp [intOf]; omega
              · have HF2 : Hid (z ≤ 3000 → ((b + 1 : Nat) : Int) ≤ z ∧ FewL L (b + 1)) := fun hz3 => by
                  have hme : m = l.length := by rw [Hln.out]; omega
                  subst hme
                  obtain ⟨h1, h2⟩ := HF.out hy3
                  refine ⟨by omega, fun j hj hjb => ?_⟩
                  by_cases e : j = b
                  · subst e
                    rw [Hl.out]
                    exact ⟨by rw [Hln.out]; omega, (HFI.out hz3).all⟩
                  · exact h2 j hj (by omega)
                have hdx : (∃ h : m < ln, decide (z ≤ 3000) = false) ∨ m = ln := by
                  by_cases h : m < ln
                  · exact .inl ⟨h, by simpa using fun hx => hgo2 ⟨h, hx⟩⟩
                  · exact .inr (by omega)
                clear hgo2 HF HFI
                rcases hdx with ⟨hml, hd5⟩ | rfl
                all_goals
                  go_wp2_with fail
                  go_roundw
                  case rel => exact ⟨b + 1, z, nd2, by omega, by go_num, rfl, by omega, hz1, rfl, HF2⟩
                  case measure => simp [intOf]; omega
          · have hdx : (∃ h : b < bn, decide (y ≤ 3000) = false) ∨ b = bn := by
              by_cases h : b < bn
              · exact .inl ⟨h, by simpa using fun hx => hgo ⟨h, hx⟩⟩
              · exact .inr (by omega)
            have HP2 : Hid (y ≤ 3000 → L.length ≤ 3000 ∧ (∀ l ∈ L, l.length ≤ 3000 ∧ ∀ i ∈ l, i.args.length ≤ 3000) ∧ vs.length ≤ 3000) := fun hy3 => by
              have hbe : b = L.length := by rw [HBN.out]; omega
              obtain ⟨h1, h2⟩ := HF.out hy3
              subst hbe
              exact ⟨by omega, h2.all, by omega⟩
            clear hgo HF
            rcases hdx with ⟨hbb, hd5⟩ | rfl
            all_goals
              go_wp2_with fail
              go_ret
              refine ⟨_, rfl, bel_drewN hB0 _, fun hr => ?_⟩
              rw [← HBN.out]
              have h5 := HP2.out (by simpa using hr)
              exact ⟨h5.1, h5.2.1, by have := HV.out; have := h5.2.2; omega⟩
end Go.Proofs.Ytcihobmjohpnkaa
