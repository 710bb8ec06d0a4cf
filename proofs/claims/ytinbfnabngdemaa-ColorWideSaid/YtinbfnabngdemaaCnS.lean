/- 'simplify': all that are safe are taken away; 'heavy': the node that is worst off. -/
import Derived.Test.YtinbfnabngdemaaCnT
import Derived.Test.YtinbfnabngdemaaCoV
import Derived.Deep.LoopGhost
namespace Go.Proofs.Ytinbfnabngdemaa
open Go.RowKit Go.Maps Go.Sort Go.Shelf Go.WideMaps Go.ChangeMaps Go.WideElems

/-- The sums are neither below 0 nor great. -/
def Nn (G : GD) (S : CS) : Prop := ∀ i, i < G.A.length → 0 ≤ S.sums i ∧ S.sums i ≤ 1000000
theorem Nn.take {G : GD} (hG : OkG G) {S : CS} (h : StOk G S) (hn : Nn G S) {v : Nat} (hv : v < G.A.length) : Nn G (takeS G S v) := by
  have h2 := h.take hG hv
  intro i hi
  have hi0 := hn i hi
  by_cases hc : S.gone v = true ∨ G.A.length ≤ v
  · unfold takeS; rw [if_pos hc]; exact hi0
  · have e : takeS G S v = (nbsS G (goneS S v) v).foldl (lessS G v) (goneS S v) := by unfold takeS; rw [if_neg hc]
    have hnd : (nbsS G (goneS S v) v).Nodup := by rw [nbs_eq]; exact (nearL_nodup G v).filter _
    have hs : (takeS G S v).sums = fun u => if u ∈ nbsS G (goneS S v) v then S.sums u - (mostS G u v : Int) else S.sums u := by rw [e, fold_sums G v _ _ hnd]; rfl
    have hg : (takeS G S v).gone = fun u => if u = v then true else S.gone u := by rw [e, fold_gone]; rfl
    by_cases hm : i ∈ nbsS G (goneS S v) v
    · have hgi : (takeS G S v).gone i = false := by
        rw [hg]
        have := (List.mem_filter.1 (by rw [nbs_eq] at hm; exact hm)).2
        show (if i = v then true else S.gone i) = false
        have h3 : (goneS S v).gone i = false := by simpa using this
        exact h3
      have h4 := h2.sum i hi hgi
      have h5 : (takeS G S v).sums i ≤ S.sums i := by
        rw [hs]; dsimp only; rw [if_pos hm]; omega
      omega
    · rw [hs]; dsimp only; rw [if_neg hm]; exact hi0
theorem sumL_bd {f : Nat → Nat} {B : Nat} (h : ∀ m, f m ≤ B) (l : List Nat) : sumL f l ≤ l.length * B := sumL_le_mul fun m _ => h m
theorem sumTo_bd {G : GD} (hG : OkG G) (hF : Few G) (v : Nat) : sumTo G v G.A.length ≤ 6000 := by
  have h1 : sumTo G v G.A.length ≤ (nearL G v).length * 60 := sumL_bd (fun m => Nat.le_trans (mostS_le G v m) (alw_len hG hF v)) (nearL G v)
  have h2 : (nearL G v).length ≤ 100 := Nat.le_trans (List.length_filter_le _ _) (by rw [List.length_range]; exact hF.n)
  omega
theorem Nn.beg {G : GD} (hG : OkG G) (hF : Few G) : ∀ j, Nn G (begD G j)
  | 0 => fun i _ => by show 0 ≤ ((sumTo G i G.A.length : Nat) : Int) ∧ _ ≤ _; have := sumTo_bd hG hF i; show _ ∧ ((sumTo G i G.A.length : Nat) : Int) ≤ _; omega
  | j + 1 => fun i hi => by
    have := Nn.beg hG hF j i hi
    show 0 ≤ (askS G _ _).sums i ∧ (askS G _ _).sums i ≤ _
    rw [askS_sums]; exact this
theorem ord_len {G : GD} {S : CS} (h : StOk G S) : S.order.length ≤ G.A.length := by
  have := nodup_sub (T := List.range G.A.length) h.nd (fun v hv => List.mem_range.2 (h.lt v hv))
  rwa [List.length_range] at this
theorem meas_begD (G : GD) : ∀ j, (begD G j).safe.length ≤ j ∧ (begD G j).gone = fun _ => false
  | 0 => ⟨Nat.le_refl _, rfl⟩
  | j + 1 => by
    obtain ⟨h1, h2⟩ := meas_begD G j
    refine ⟨?_, by show (askS G _ _).gone = _; rw [askS_gone]; exact h2⟩
    show (askS G _ _).safe.length ≤ _
    have := askS_safe_len G (begD G j) (G.A.length - 1 - j)
    omega
theorem left_le (G : GD) (S : CS) : leftS G S ≤ G.A.length := by unfold leftS; exact Nat.le_trans (List.length_filter_le _ _) (by simp)
theorem safe_meas (G : GD) (S : CS) : S.safe.length ≤ measS G S := by unfold measS; omega
theorem meas_le {G : GD} (hF : Few G) {S : CS} (h : S.safe.length ≤ 100000) : measS G S ≤ 120000 := by
  unfold measS
  have h1 := left_le G S
  have h2 := hF.n
  have := Nat.mul_le_mul (show leftS G S ≤ 100 by omega) (show G.A.length + 1 ≤ 101 by omega)
  omega

section
variable {L : Gl} {G : GD} {S : CS} {W : World} {ov sv : Value}
set_option maxRecDepth 100000 in
set_option maxHeartbeats 2000000 in
theorem simplify_s (h : StG L G W) (hd : DyV L G S ov sv W) (hok : GlOk L G) (hG : OkG G) (hF : Few G) (hst : StOk G S) (hnn : Nn G S) (hl : measS G S ≤ 200000) :
    Calls Try.prog 29 #[.pointer (some ⟨L.gb, 0, none⟩)] W fun e w' => e = .returned (.tuple #[]) ∧ ∃ ov' sv', DyV L G (simS G S) ov' sv' w' ∧ KZ L 2 W w' := by
  obtain ⟨SF, HSF⟩ : ∃ SF, Hid (simS G S = SF) := ⟨_, (rfl : simS G S = _)⟩
  have H0 : Hid (DyV L G S ov sv W ∧ KZ L 2 W W ∧ StG L G W ∧ StOk G S ∧ Nn G S ∧ simS G S = SF ∧ measS G S ≤ 200000) := ⟨hd, KZ.refl _ _ _, h, hst, hnn, HSF.out, hl⟩
  rw [HSF.out]
  have hF1 := hF.n
  clear h hd hst hnn hl
  go_enter Try.func29, Try.ntmps29
  go_wp2_with fail
  go_loopg [2] (measS G S) (fun gh _s2 wx => ∃ (S' : CS) (ov' sv' : Value), measS G S' = gh ∧ Hid (DyV L G S' ov' sv' wx ∧ KZ L 2 W wx ∧ StG L G wx ∧ StOk G S' ∧ Nn G S' ∧ simS G S' = SF ∧ measS G S' ≤ 200000))
  case atStart => exact ⟨S, ov, sv, rfl, H0⟩
  case round =>
    obtain ⟨S1, o1, s1, hgm, HI⟩ := hrel
    clear H0
    obtain ⟨hd, hk, hh, hst, hnn, hsim, hme⟩ := HI.out
    have HIk := HI
    rcases List.eq_nil_or_concat S1.safe with e | ⟨l, v, e⟩
    · have HP := hid_of (pop_none hd e)
      have HF : Hid (DyV L G SF o1 s1 wr ∧ KZ L 2 W wr) := ⟨by rw [← hsim, simS_stop e]; exact hd, hk⟩
      clear hd hk hh hst hnn hsim hme HI HIk e
      go_wp2_with fail
      refine HP.out.mono ?_
      rintro e w2 ⟨rfl, rfl⟩
      go_wp2_with fail
      (try simp only [Exit.inBlock, Exit.then]); refine bodyPost_ret (results_none rfl _ _ _) rfl ?_
      exact ⟨rfl, _, _, HF.out⟩
    · rw [List.concat_eq_append] at e
      obtain ⟨hp, hv⟩ := StOk.pop hst e
      have hll : l.length ≤ 200000 := by
        have := safe_meas G S1
        rw [e, List.length_append] at this
        omega
      have HP := hid_of (pop_some hd hok e (by omega))
      have HT := hid_of (fun (X : World) (s2 : Value) (hX : DyV L G { S1 with safe := l } o1 s2 X) (hS : StG L G X) => (callsIn_wide (n := 8)).1 (take_in hS hX hok hG hF hv (by show l.length ≤ _; omega) (by have := ord_len hst; show S1.order.length ≤ _; omega) (fun i hi => by have := hnn i hi; show -1000000 ≤ S1.sums i ∧ S1.sums i ≤ _; omega)))
      have HM := hid_of (meas_take G S1 v l e)
      have HN : Hid (StOk G (takeS G { S1 with safe := l } v) ∧ Nn G (takeS G { S1 with safe := l } v) ∧ simS G (takeS G { S1 with safe := l } v) = SF) := ⟨hp.take hG hv, Nn.take hG hp hnn hv, by rw [← simS_step e]; exact hsim⟩
      have HD := hid_of hd
      have HK := hid_of hk
      have HH := hid_of hh
      clear hd hk hh hst hnn hsim hp HI HIk e
      go_wp2_with fail
      refine HP.out.mono ?_
      rintro e w2 ⟨rfl, s2, hd2, hk2⟩
      have hh2 := HH.out.step HD.out hk2
      have HT2 := hid_of (HT.out w2 s2 hd2 hh2)
      have HH2 := hid_of hh2
      have HD2 := hid_of hd2
      have HK2 := hid_of (HK.out.trans (hk2.mono (by omega)))
      clear hd2 hk2 hh2 HT HP
      go_wp2_with fail
      refine HT2.out.mono ?_
      rintro e w3 ⟨rfl, o3, s3, hd3, hk3⟩
      have HR : Hid (DyV L G (takeS G { S1 with safe := l } v) o3 s3 w3 ∧ KZ L 2 W w3 ∧ StG L G w3 ∧ StOk G (takeS G { S1 with safe := l } v) ∧ Nn G (takeS G { S1 with safe := l } v) ∧ simS G (takeS G { S1 with safe := l } v) = SF ∧ measS G (takeS G { S1 with safe := l } v) ≤ 200000) :=
        ⟨hd3, HK2.out.trans hk3, HH2.out.step HD2.out hk3, HN.out.1, HN.out.2.1, HN.out.2.2, by have := HM.out; omega⟩
      clear hd3 hk3 HT2
      go_wp2_with fail
      go_roundg (measS G (takeS G { S1 with safe := l } v))
      case measure => have := HM.out; omega
      case rel => exact ⟨_, _, _, rfl, HR⟩

set_option maxRecDepth 100000 in
set_option maxHeartbeats 4000000 in
theorem heavy_s (h : StG L G W) (hd : DyV L G S ov sv W) (hG : OkG G) (hF : Few G) (hnn : Nn G S) :
    Calls Try.prog 30 #[.pointer (some ⟨L.gb, 0, none⟩)] W fun e w' => e = .returned (.int .i64 (heavyS G S)) ∧ ∃ q, w' = W.drewN q := by
  have HH := hid_of h
  have HD := hid_of hd
  have hF1 := hF.n
  have c10 : W.cell? ⟨L.gb, 10, none⟩ = some (.slice (some ⟨L.ob, 0, none⟩) G.A.length G.A.length) := hd.row.cell rfl
  obtain ⟨n, Hn⟩ : ∃ n, Hid (G.A.length = n) := ⟨_, (rfl : G.A.length = _)⟩
  rw [Hn.out] at c10 hF1
  have HL : Hid (∀ v, (alw G v).length ≤ 60) := fun v => alw_len hG hF v
  have HN := hid_of hnn
  obtain ⟨HV, HHV⟩ : ∃ HV : Nat → Int, Hid (∀ k, heavyK G S k = HV k) := ⟨_, (fun _ => rfl : ∀ k, heavyK G S k = heavyK G S k)⟩
  have HR : Hid (heavyS G S = HV n) := by show heavyS G S = _; unfold heavyS; rw [Hn.out, HHV.out]
  have HV0 : Hid (HV 0 = -1) := by show _ = _; rw [← HHV.out]; rfl
  have HVS : Hid (∀ k, HV (k + 1) = if S.gone k = false ∧ (HV k < 0 ∨ S.sums k - ((alw G k).length : Int) > S.sums (HV k).toNat - ((alw G (HV k).toNat).length : Int)) then (k : Int) else HV k) := fun k => by
    rw [← HHV.out, ← HHV.out]; rfl
  have HVL : Hid (∀ k, HV k = -1 ∨ ∃ v : Nat, HV k = (v : Int) ∧ v < k) := fun k => by
    rcases heavyK_lt G S k with e | ⟨v, e1, e2, -⟩
    · exact .inl (by rw [← HHV.out]; exact e)
    · exact .inr ⟨v, by rw [← HHV.out]; exact e1, e2⟩
  clear h hd hnn
  go_enter Try.func30, Try.ntmps30
  go_wp2_with fail
  go_loopw [3, 10] (fun s3 s10 wx => ∃ k : Nat, k ≤ n ∧ s10 = .int .i64 k ∧ s3 = .int .i64 (HV k) ∧ ∃ q, wx = W.drewN q) (fun _ s10 _ => n - (intOf s10).toNat)
  case atStart => exact ⟨0, by omega, rfl, by rw [HV0.out], 0, rfl⟩
  case round =>
    obtain ⟨k, hk, rfl, rfl, q, rfl⟩ := hrel
    clear c10
    have hd := HD.out
    have hh := HH.out
    by_cases hlt : k < n
    · have hkA : k < G.A.length := by rw [Hn.out]; exact hlt
      obtain ⟨c10, co, -⟩ := hd.at_gone hkA
      rw [Hn.out] at c10
      have hkz : (k : Int) < (n : Int) := by omega
      have hvs := HVS.out k
      obtain ⟨hv, Hv⟩ : ∃ hv, Hid (HV k = hv) := ⟨_, (rfl : HV k = _)⟩
      obtain ⟨hw, Hw⟩ : ∃ hw, Hid (HV (k + 1) = hw) := ⟨_, (rfl : HV (k + 1) = _)⟩
      have hvl := HVL.out k
      rw [Hv.out, Hw.out] at hvs
      rw [Hv.out] at hvl
      rw [Hv.out]
      cases hg : S.gone k with
      | true =>
        rw [hg] at co hvs
        rw [if_neg (by simp)] at hvs
        have HW : Hid (HV (k + 1) = hv) := by show _ = _; rw [Hw.out, hvs]
        clear hvs hvl hg hd hh
        go_wp2_with fail
        go_quiet (fail)
        all_goals
          go_wp2_with fail
          go_roundw
        case rel => exact ⟨k + 1, by omega, by go_num, by rw [HW.out], _, by first | rfl | exact World.drewN_drewN⟩
        case measure => simp [intOf]; omega
      | false =>
        rw [hg] at co hvs
        rcases hvl with e | ⟨u, e, hu⟩
        · subst e
          rw [if_pos ⟨rfl, .inl (by omega)⟩] at hvs
          have HW : Hid (HV (k + 1) = (k : Int)) := by show _ = _; rw [Hw.out, hvs]
          clear hvs hg hd hh
          go_wp2_with fail
          go_quiet (fail)
          all_goals
            go_wp2_with fail
            go_roundw
          case rel => exact ⟨k + 1, by omega, by go_num, by rw [HW.out], _, by first | rfl | exact World.drewN_drewN⟩
          case measure => simp [intOf]; omega
        · subst e
          have huA : u < G.A.length := by omega
          obtain ⟨ab, ao, ra, rc, c2, -, ca, hra⟩ := hh.at_A hd hkA
          obtain ⟨ab', ao', ra', rc', c2', -, ca', hra'⟩ := hh.at_A hd huA
          rw [c2] at c2'
          simp only [Option.some.injEq, Value.slice.injEq, Addr.mk.injEq, and_true] at c2'
          obtain ⟨rfl, rfl⟩ := c2'
          obtain ⟨c9, cu, -⟩ := hd.at_sum hkA
          obtain ⟨-, cu', -⟩ := hd.at_sum huA
          have hac : G.A.length ≤ L.V.ac := by have := hh.an; omega
          have hb1 := HN.out k hkA
          have hb2 := HN.out u huA
          have hl1 := HL.out k
          have hl2 := HL.out u
          rw [Hn.out] at c2 c9 hac
          obtain ⟨x1, Hx1⟩ : ∃ x, Hid (S.sums k = x) := ⟨_, (rfl : S.sums k = _)⟩
          obtain ⟨x2, Hx2⟩ : ∃ x, Hid (S.sums u = x) := ⟨_, (rfl : S.sums u = _)⟩
          obtain ⟨y1, Hy1⟩ : ∃ x, Hid ((alw G k).length = x) := ⟨_, (rfl : (alw G k).length = _)⟩
          obtain ⟨y2, Hy2⟩ : ∃ x, Hid ((alw G u).length = x) := ⟨_, (rfl : (alw G u).length = _)⟩
          have hrc := (sl_len hra).2.1
          have hrc' := (sl_len hra').2.1
          rw [Int.toNat_natCast] at hvs
          rw [Hx1.out] at cu hb1 hvs
          rw [Hx2.out] at cu' hb2 hvs
          rw [Hy1.out] at ca hl1 hvs hrc
          rw [Hy2.out] at ca' hl2 hvs hrc'
          have huz : (u : Int) < (n : Int) := by omega
          have hu0 : decide ((u : Int) < 0) = false := by simp
          clear hra hra' hd hh hg
          by_cases hgt : x1 - (y1 : Int) > x2 - (y2 : Int)
          · rw [if_pos ⟨rfl, .inr hgt⟩] at hvs
            have HW : Hid (HV (k + 1) = (k : Int)) := by show _ = _; rw [Hw.out, hvs]
            have hd3 : decide (x1 - (y1 : Int) > x2 - (y2 : Int)) = true := by simpa using hgt
            have hd3' : decide (x2 - (y2 : Int) < x1 - (y1 : Int)) = true := by simpa using hgt
            clear hvs hgt
            go_wp2_with fail
            go_quiet (fail)
            all_goals
              go_wp2_with fail
              go_roundw
            case rel => exact ⟨k + 1, by omega, by go_num, by rw [HW.out], _, by first | rfl | exact World.drewN_drewN⟩
            case measure => simp [intOf]; omega
          · rw [if_neg (by rintro ⟨-, h | h⟩ <;> omega)] at hvs
            have HW : Hid (HV (k + 1) = (u : Int)) := by show _ = _; rw [Hw.out, hvs]
            have hd3 : decide (x1 - (y1 : Int) > x2 - (y2 : Int)) = false := by simpa using hgt
            have hd3' : decide (x2 - (y2 : Int) < x1 - (y1 : Int)) = false := by simpa using hgt
            clear hvs hgt
            go_wp2_with fail
            go_quiet (fail)
            all_goals
              go_wp2_with fail
              go_roundw
            case rel => exact ⟨k + 1, by omega, by go_num, by rw [HW.out], _, by first | rfl | exact World.drewN_drewN⟩
            case measure => simp [intOf]; omega
    · obtain rfl : n = k := by omega
      clear hd hh
      go_wp2_with fail
      go_ret
      exact ⟨by rw [HR.out]; rfl, _, rfl⟩
end
end Go.Proofs.Ytinbfnabngdemaa
