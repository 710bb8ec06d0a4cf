/- The references 'Heads', 'Body', 'Depth'. -/
import Derived.Test.YtcihobmjohpnkaaLoopsH
namespace Go.Proofs.Ytcihobmjohpnkaa
open Go.RowKit Go.Sort

theorem any_tail {L : List (List InsD)} (h : Int) (f : Int → Bool) : (predS L h).any (fun p => overS L h p && f p) = (orderS L).any fun p => tailB L h p && f p := by
  rw [Bool.eq_iff_iff, List.any_eq_true, List.any_eq_true]
  constructor
  · rintro ⟨p, hp, ho⟩
    rw [Bool.and_eq_true] at ho
    exact ⟨p, (over_mem ho.1).2, by unfold tailB; simp [(mem_predS.1 hp).2, ho.1, ho.2]⟩
  · rintro ⟨p, hp, ho⟩
    rw [Bool.and_eq_true] at ho
    have ht := tail_mem ho.1
    have := order_range hp
    exact ⟨p, mem_predS.2 ⟨⟨this.1, this.2.1⟩, ht.1⟩, by simp [ht.2, ho.2]⟩
theorem any_head {L : List (List InsD)} (h : Int) : (predS L h).any (overS L h) = headB L h := by
  have := any_tail (L := L) h fun _ => true
  simp only [Bool.and_true] at this
  exact this
theorem mem_heads {L : List (List InsD)} {x : Int} : inS (headsS L) x = headB L x := by
  unfold inS
  rw [Bool.eq_iff_iff, decide_eq_true_eq]
  unfold headsS headsP
  rw [mem_range_filter]
  exact ⟨fun h => h.2, fun h => ⟨head_range h, h⟩⟩

set_option maxRecDepth 100000 in
set_option maxHeartbeats 16000000 in
theorem headsR_c {ba : Option Addr} {n bc : Nat} (w : World) {L : List (List InsD)} (h : IsBlocks (· < w.heap.size) w (.slice ba n bc) L) (hl : n ≤ 1000) :
    Calls Try.prog 60 #[.slice ba n bc] w fun e w' => ∃ z, e = .returned z ∧ w'.ownsRow w.heap.size 3 1 z (headsS L).length (ints (headsS L)) ∧ Below w.heap.size w w' := by
  have hnL : n = L.length := by obtain ⟨_, _, hv0, hl0, hx⟩ := id h; simp only [Value.slice.injEq] at hv0; exact hv0.2.1
  have HNL := hid_of hnL
  have HKP : Hid (∀ W, Below w.heap.size w W → IsBlocks (· < W.heap.size) W (.slice ba n bc) L) := fun W hW => h.keep (fun b hb hlt => ⟨Nat.lt_of_lt_of_le hb hW.size, hW.block b hlt⟩)
  have HD := hid_of (doms_c w h hl)
  have HR : Hid (∀ W, Below w.heap.size w W → Calls Try.prog 31 #[.slice ba n bc] W fun e w' => ∃ g, e = .returned (.slice (some ⟨g, 0, none⟩) n n) ∧ W.heap.size ≤ g ∧ Row w' g 4 (bools (fromS L 0 (-1))) ∧ Below W.heap.size W w') := fun W hW => by
    have := reachedQ_c W (HKP.out W hW) (by omega)
    rw [← hnL] at this
    exact this
  have hHS : headsS L = headsP L n := by unfold headsS; rw [hnL]
  rw [hHS]
  clear hnL h hHS
  go_enter Try.func60, Try.ntmps60
  go_wp2_with fail
  refine HD.out.mono ?_
  rintro e W1 ⟨G, rfl, hG, hB1, hb1⟩
  have HR1 := hid_of (HR.out W1 hb1)
  have HB1 := hid_of hB1
  have Hb1 := hid_of hb1
  clear HD hB1 hb1 HR
  go_wp2_with fail
  refine HR1.out.mono ?_
  rintro e W2 ⟨gr, rfl, hgr, hr2, hb2⟩
  have HB2 := hid_of (HB1.out.below hb2)
  have Hb2 := hid_of (bel_call Hb1.out hb2)
  have HQ2 := hid_of hr2
  clear HR1 hr2 hb2 HB1 Hb1
  go_wp2_with fail
  obtain ⟨wo, rfl⟩ : ∃ wo : World, wo = W2 := ⟨_, rfl⟩
  go_loopw [5, 6] (fun s5 s6 wx => ∃ b : Nat, b ≤ n ∧ s6 = .int .i64 b ∧ Hid (wx.ownsRow wo.heap.size 3 1 s5 (headsP L b).length (ints (headsP L b))) ∧ Hid (Below wo.heap.size wo wx)) (fun _ s6 _ => n - (intOf s6).toNat)
  case atStart => exact ⟨0, by omega, rfl, World.ownsRow_nil _ _ _ _, bel_refl _⟩
  case round =>
    obtain ⟨b, hb, rfl, HO, HB⟩ := hrel
    obtain ⟨oV, rfl⟩ : ∃ oV, oV = u5 := ⟨_, rfl⟩
    by_cases hbt : b < n
    · have hbL : b < L.length := by rw [← HNL.out]; exact hbt
      have hb0 : (0 : Int) ≤ (b : Int) := by omega
      have hbz : (b : Int) < (n : Int) := by omega
      have hany := any_head (L := L) (b : Int)
      have hfs := headsP_succ L b
      rw [← hany] at hfs
      obtain ⟨rb, Hrb⟩ : ∃ rb, Hid (decide ((b : Int) ∈ orderS L) = rb) := ⟨_, (rfl : decide ((b : Int) ∈ orderS L) = _)⟩
      have HFS := hid_of hfs
      have HPr := hid_of (predsR_c wr (b : Int) (HKP.out wr (bel_call Hb2.out HB.out)) (by rw [← HNL.out]; exact hl))
      have hpl : (predS L (b : Int)).length ≤ n := by rw [HNL.out]; exact predK_length L (b : Int) L.length
      clear hany hfs
      go_wp2_with fail
      refine HPr.out.mono ?_
      rintro e W3 ⟨pu, rfl, hpo, hb3⟩
      have hpi : IsInts (fun _ => True) W3 pu (predS L (b : Int)) := ints_of_owns hpo (by omega) (fun _ _ _ _ => trivial)
      have hpm : ∀ z ∈ predS L (b : Int), ∃ k : Nat, z = k ∧ k < L.length := fun z hz => by
        have := (mem_predS.1 hz).1
        exact ⟨z.toNat, by omega, by omega⟩
      obtain ⟨pa, pc, rfl, -, hx⟩ := id hpi
      have HB3 := hid_of (bel_call HB.out hb3)
      have HO3 := hid_of (owns_below HO.out hb3)
      obtain ⟨P, HP⟩ : ∃ P, Hid (predS L (b : Int) = P) := ⟨_, (rfl : predS L (b : Int) = _)⟩
      rw [HP.out] at hpi hpm hx hpl HFS ⊢
      obtain ⟨pn, Hpn⟩ : ∃ pn, Hid (P.length = pn) := ⟨_, (rfl : P.length = _)⟩
      rw [Hpn.out] at hpl ⊢
      have HPM := hid_of hpm
      have HX := hid_of hx
      have qb := (HQ2.out.keep (HB3.out.block gr HQ2.out.lt)).cell (k := b) (v := .bool rb) (by rw [reach_cell hbL, Hrb.out])
      clear HPr hpo hpi hb3 hpm hx HO HB
      go_wp2_with fail
      go_loop [5, 8] (fun s5 s8 => ∃ i : Nat, i ≤ pn ∧ s5 = oV ∧ s8 = .int .i64 i ∧ Hid ((P.take i).any (overS L b) = false)) (fun _ s8 => pn - (intOf s8).toNat)
      case atStart => exact ⟨0, by omega, rfl, rfl, by show _ = _; simp⟩
      case round =>
        obtain ⟨i, hi, rfl, rfl, HA⟩ := hrel
        by_cases hit : i < pn
        · have hiP : i < P.length := by rw [Hpn.out]; exact hit
          rcases HX.out with hx | ⟨pb, po, rfl, -, hx⟩
          · exfalso; rw [hx] at hiP; simp at hiP
          have e1 := hx i hiP
          unfold CInt at e1
          rw [Nat.mul_one] at e1
          obtain ⟨pk, hpk, hpkl⟩ := HPM.out P[i] (List.getElem_mem hiP)
          rw [hpk] at e1
          have hpkn : pk < n := by rw [HNL.out]; exact hpkl
          obtain ⟨rp, Hrp⟩ : ∃ rp, Hid (decide ((pk : Int) ∈ orderS L) = rp) := ⟨_, (rfl : decide ((pk : Int) ∈ orderS L) = _)⟩
          obtain ⟨op, Hop⟩ : ∃ op, Hid (overS L (b : Int) (pk : Int) = op) := ⟨_, (rfl : overS L (b : Int) (pk : Int) = _)⟩
          have hBx := HB2.out.below HB3.out
          have q1 := (HQ2.out.keep (HB3.out.block gr HQ2.out.lt)).cell (k := pk) (v := .bool rp) (by rw [reach_cell hpkl, Hrp.out])
          obtain ⟨gp, q2, hgp, -⟩ := hBx.get hpkn
          have q3 := hgp.cell (k := b) (v := .bool op) (by rw [domsM_get hpkl hbL, Hop.out])
          have ht := List.take_succ_eq_append_getElem hiP
          have hro : op = true → rp = true ∧ rb = true := fun ho => by
            have := over_mem (Hop.out.trans ho)
            rw [← Hrp.out, ← Hrb.out]; simp [this]
          have hA2 : (P.take (i + 1)).any (overS L b) = op := by
            rw [ht, List.any_append, HA.out, hpk]; simp [Hop.out]
          have hi0 : (0 : Int) ≤ (i : Int) := by omega
          have hiz : (i : Int) < (pn : Int) := by omega
          have hp0 : (0 : Int) ≤ (pk : Int) := by omega
          have hpz : (pk : Int) < (n : Int) := by omega
          have HA2 := hid_of hA2
          have HRO := hid_of hro
          clear hx hpk hBx hgp ht hro hA2 HX
          cases op with
          | false =>
            cases rb with
            | false =>
              go_wp2_with fail
              go_round
              case rel => exact ⟨i + 1, by omega, rfl, by go_num, HA2⟩
              case measure => simp [intOf]; omega
            | true =>
              cases rp with
              | false =>
                go_wp2_with fail
                go_round
                case rel => exact ⟨i + 1, by omega, rfl, by go_num, HA2⟩
                case measure => simp [intOf]; omega
              | true =>
                go_wp2_with fail
                go_round
                case rel => exact ⟨i + 1, by omega, rfl, by go_num, HA2⟩
                case measure => simp [intOf]; omega
          | true =>
            obtain ⟨rfl, rfl⟩ := HRO.out rfl
            have hAll : P.any (overS L b) = true := by
              rw [← List.take_append_drop (i + 1) P, List.any_append, HA2.out]; rfl
            have hE := HFS.out
            rw [hAll] at hE
            have hE2 : headsP L (b + 1) = headsP L b ++ [(b : Int)] := by rw [hE]; simp
            have HE2 := hid_of hE2
            have hfl := headsP_length L b
            obtain ⟨fp, Hfp⟩ : ∃ fp, Hid (headsP L b = fp) := ⟨_, (rfl : headsP L b = _)⟩
            have ho := HO3.out
            rw [Hfp.out] at ho hfl
            have hs2 := HB3.out.size
            clear hAll hE hE2
            go_wp2_with (at_builtin; refine stop_here ?_)
            refine stop_go (app_int rfl _ _ rfl wo.heap.size _ fp rfl (ho.alloc _) _ (b : Int) rfl (heap_alloc_eq _ _ _ rfl) (by omega) (by simp; omega) ?_)
            intro v' w' ho' hg hv'
            have HBE := hid_of (bel_grown (bel_alloc HB3.out _) hg (fun b hb => (ho.lt b hb).1))
            have HOE : Hid (w'.ownsRow wo.heap.size 3 1 v' (headsP L (b + 1)).length (ints (headsP L (b + 1)))) := by
              rw [HE2.out, Hfp.out]
              have h9 := ho'
              show World.ownsRow _ _ _ _ _ _ _
              simpa [ints] using h9
            clear ho ho' hg hv' q1 q2 q3 e1
            go_wp2_with fail
            go_roundw
            case rel => exact ⟨b + 1, by omega, by go_num, HOE, HBE⟩
            case measure => simp [intOf]; omega
        · obtain rfl : i = pn := by omega
          have hA := HA.out
          rw [List.take_of_length_le (by rw [Hpn.out]; exact Nat.le_refl _)] at hA
          have hE := HFS.out
          rw [hA] at hE
          have HE : Hid (headsP L (b + 1) = headsP L b) := by show _ = _; rw [hE]; simp
          clear hA hE
          go_wp2_with fail
          go_roundw
          case rel => exact ⟨b + 1, by omega, by go_num, by rw [HE.out]; exact HO3, HB3⟩
          case measure => simp [intOf]; omega
    · obtain rfl : b = n := by omega
      go_wp2_with fail
      go_ret
      exact ⟨_, rfl, owns_mono HO.out Hb2.out.size, bel_call Hb2.out HB.out⟩

theorem bodyP_off {L : List (List InsD)} {h : Int} {b : Nat} (hb : bodyB L h b = false) : bodyP L h (b + 1) = bodyP L h b := by rw [bodyP_succ, hb]; simp
theorem bodyP_on {L : List (List InsD)} {h : Int} {b : Nat} (hb : bodyB L h b = true) : bodyP L h (b + 1) = bodyP L h b ++ [(b : Int)] := by rw [bodyP_succ, hb, if_pos rfl]
theorem bodyB_self {L : List (List InsD)} {h : Int} (hh : headB L h = true) : bodyB L h h = true := by unfold bodyB; rw [hh]; simp
theorem bodyB_other {L : List (List InsD)} {h b : Int} (hh : headB L h = true) (hne : b ≠ h) : bodyB L h b = (predS L h).any fun p => overS L h p && sn (fromS L b h) p := by
  unfold bodyB; rw [hh, any_tail]; simp [hne]
theorem sn_cell {L : List (List InsD)} {b nt : Int} {k : Nat} (hk : k < L.length) : (bools (fromS L b nt))[k]? = some (.bool (sn (fromS L b nt) k)) := by
  rw [bools_get (by rw [fromS_length]; exact hk)]
  unfold sn
  rw [Int.toNat_natCast]

set_option maxRecDepth 100000 in
set_option maxHeartbeats 16000000 in
theorem bodyR_c {ba : Option Addr} {n bc : Nat} (w : World) {L : List (List InsD)} (h : IsBlocks (· < w.heap.size) w (.slice ba n bc) L) (hl : n ≤ 1000) (x : Int) :
    Calls Try.prog 58 #[.slice ba n bc, .int .i64 x] w fun e w' => ∃ z, e = .returned z ∧ w'.ownsRow w.heap.size 3 1 z (bodyS L x).length (ints (bodyS L x)) ∧ Below w.heap.size w w' := by
  have hnL : n = L.length := by obtain ⟨_, _, hv0, hl0, hx⟩ := id h; simp only [Value.slice.injEq] at hv0; exact hv0.2.1
  have HNL := hid_of hnL
  have HKP : Hid (∀ W, Below w.heap.size w W → IsBlocks (· < W.heap.size) W (.slice ba n bc) L) := fun W hW => h.keep (fun b hb hlt => ⟨Nat.lt_of_lt_of_le hb hW.size, hW.block b hlt⟩)
  have HH := hid_of (headsR_c w h hl)
  have hhl : (headsS L).length ≤ n := by rw [hnL]; exact headsP_length L _
  have HR : Hid (∀ W, Below w.heap.size w W → Calls Try.prog 31 #[.slice ba n bc] W fun e w' => ∃ g, e = .returned (.slice (some ⟨g, 0, none⟩) n n) ∧ W.heap.size ≤ g ∧ Row w' g 4 (bools (fromS L 0 (-1))) ∧ Below W.heap.size W w') := fun W hW => by
    have := reachedQ_c W (HKP.out W hW) (by omega)
    rw [← hnL] at this
    exact this
  have HFr : Hid (∀ W, Below w.heap.size w W → ∀ b nt : Int, Calls Try.prog 76 #[.slice ba n bc, .int .i64 b, .int .i64 nt] W fun e w' => ∃ g, e = .returned (.slice (some ⟨g, 0, none⟩) n n) ∧ W.heap.size ≤ g ∧ Row w' g 4 (bools (fromS L b nt)) ∧ Below W.heap.size W w') := fun W hW b nt => by
    have := fromR_c W b nt (HKP.out W hW) (by omega)
    rw [← hnL] at this
    exact this
  have hBS : bodyS L x = bodyP L x n := by unfold bodyS; rw [hnL]
  have HMH : Hid (inS (headsS L) x = headB L x) := mem_heads
  obtain ⟨hb, Hhb⟩ : ∃ hb, Hid (headB L x = hb) := ⟨_, (rfl : headB L x = _)⟩
  rw [hBS]
  clear hnL h hBS
  go_enter Try.func58, Try.ntmps58
  go_wp2_with fail
  refine HH.out.mono ?_
  rintro e W0 ⟨hz, rfl, hho, hhb⟩
  have hhi : IsInts (fun _ => True) W0 hz (headsS L) := ints_of_owns hho (by omega) (fun _ _ _ _ => trivial)
  obtain ⟨ha, hn, hc, rfl⟩ := isInts_slice hhi
  have HIn := hid_of (in_c W0 (n := x) hhi)
  rw [HMH.out, Hhb.out] at HIn
  have Hb0 := hid_of hhb
  clear HH hho hhb hhi HMH
  go_wp2_with fail
  refine HIn.out.mono ?_
  rintro e W00 ⟨rfl, rfl⟩
  clear HIn
  cases hb with
  | false =>
    have HE : Hid (bodyP L x n = []) := by
      show _ = _
      unfold bodyP
      rw [List.filter_eq_nil_iff]
      intro y _
      unfold bodyB
      rw [Hhb.out]; simp
    go_wp2_with fail
    go_ret
    refine ⟨_, rfl, ?_, Hb0.out⟩
    rw [HE.out]
    exact World.ownsRow_nil _ _ _ _
  | true =>
  have hxr := head_range Hhb.out
  rw [← HNL.out] at hxr
  obtain ⟨xN, rfl⟩ : ∃ xN : Nat, x = xN := ⟨x.toNat, by omega⟩
  have hxn : xN < n := by omega
  have hxL : xN < L.length := by rw [← HNL.out]; exact hxn
  have hx1 : (0 : Int) ≤ (xN : Int) := by omega
  have hx2 : (xN : Int) < (n : Int) := by omega
  have HD := hid_of (doms_c W00 (HKP.out W00 Hb0.out) hl)
  clear hxr
  go_wp2_with fail
  refine HD.out.mono ?_
  rintro e W1 ⟨G, rfl, hG, hB1, hb1⟩
  have hb01 := bel_call Hb0.out hb1
  have HR1 := hid_of (HR.out W1 hb01)
  have HB1 := hid_of hB1
  have Hb1 := hid_of hb01
  clear HD hB1 hb1 HR hb01 Hb0
  go_wp2_with fail
  refine HR1.out.mono ?_
  rintro e W2 ⟨gr, rfl, hgr, hr2, hb2⟩
  have HB2 := hid_of (HB1.out.below hb2)
  have hb02 := bel_call Hb1.out hb2
  have Hb2 := hid_of hb02
  have HQ2 := hid_of hr2
  have HPr := hid_of (predsR_c W2 (xN : Int) (HKP.out W2 hb02) (by rw [← HNL.out]; exact hl))
  have hpl : (predS L (xN : Int)).length ≤ n := by rw [HNL.out]; exact predK_length L (xN : Int) L.length
  clear HR1 hr2 hb2 HB1 Hb1 hb02
  go_wp2_with fail
  refine HPr.out.mono ?_
  rintro e W3 ⟨pu, rfl, hpo, hb3⟩
  have hpi : IsInts (fun _ => True) W3 pu (predS L (xN : Int)) := ints_of_owns hpo (by omega) (fun _ _ _ _ => trivial)
  have hpm : ∀ z ∈ predS L (xN : Int), ∃ k : Nat, z = k ∧ k < L.length := fun z hz => by
    have := (mem_predS.1 hz).1
    exact ⟨z.toNat, by omega, by omega⟩
  obtain ⟨pa, pc, rfl, -, hx⟩ := id hpi
  have HB3 := hid_of (HB2.out.below hb3)
  have HQ3 := hid_of (HQ2.out.keep (hb3.block gr HQ2.out.lt))
  have Hb3 := hid_of (bel_call Hb2.out hb3)
  have HBO : Hid (∀ b : Int, b ≠ (xN : Int) → bodyB L xN b = (predS L (xN : Int)).any fun p => overS L xN p && sn (fromS L b xN) p) := fun b hb => bodyB_other Hhb.out hb
  obtain ⟨P, HP⟩ : ∃ P, Hid (predS L (xN : Int) = P) := ⟨_, (rfl : predS L (xN : Int) = _)⟩
  rw [HP.out] at hpi hpm hx hpl HBO ⊢
  obtain ⟨pn, Hpn⟩ : ∃ pn, Hid (P.length = pn) := ⟨_, (rfl : P.length = _)⟩
  rw [Hpn.out] at hpl ⊢
  have HPM := hid_of hpm
  have HX := hid_of hx
  clear HPr hpo hpi hb3 hpm hx HB2 HQ2 Hb2
  go_wp2_with fail
  obtain ⟨wo, rfl⟩ : ∃ wo : World, wo = W3 := ⟨_, rfl⟩
  go_loopw [9, 10] (fun s9 s10 wx => ∃ b : Nat, b ≤ n ∧ s10 = .int .i64 b ∧ Hid (wx.ownsRow wo.heap.size 3 1 s9 (bodyP L xN b).length (ints (bodyP L xN b))) ∧ Hid (Below wo.heap.size wo wx)) (fun _ s10 _ => n - (intOf s10).toNat)
  case atStart => exact ⟨0, by omega, rfl, World.ownsRow_nil _ _ _ _, bel_refl _⟩
  case round =>
    obtain ⟨b, hb, rfl, HO, HB⟩ := hrel
    obtain ⟨oV, rfl⟩ : ∃ oV, oV = u9 := ⟨_, rfl⟩
    by_cases hbt : b < n
    · have hbL : b < L.length := by rw [← HNL.out]; exact hbt
      have hb0 : (0 : Int) ≤ (b : Int) := by omega
      have hbz : (b : Int) < (n : Int) := by omega
      have hfl := bodyP_length L (xN : Int) b
      by_cases hbx : b = xN
      · have hE2 : bodyP L xN (b + 1) = bodyP L xN b ++ [(b : Int)] := bodyP_on (by rw [hbx]; exact bodyB_self Hhb.out)
        have d1 : ((b : Int) == (xN : Int)) = true := by simp [hbx]
        have d1' : (b == xN) = true := by simp [hbx]
        have HE2 := hid_of hE2
        obtain ⟨fp, Hfp⟩ : ∃ fp, Hid (bodyP L xN b = fp) := ⟨_, (rfl : bodyP L xN b = _)⟩
        have ho := HO.out
        rw [Hfp.out] at ho hfl
        have hs2 := HB.out.size
        clear hE2 hbx
        go_wp2_with (at_builtin; refine stop_here ?_)
        refine stop_go (app_int rfl _ _ rfl wo.heap.size _ fp rfl (ho.alloc _) _ (b : Int) rfl (heap_alloc_eq _ _ _ rfl) (by omega) (by simp; omega) ?_)
        intro v' w' ho' hg hv'
        have HBE := hid_of (bel_grown (bel_alloc HB.out _) hg (fun b hb => (ho.lt b hb).1))
        have HOE : Hid (w'.ownsRow wo.heap.size 3 1 v' (bodyP L xN (b + 1)).length (ints (bodyP L xN (b + 1)))) := by
          rw [HE2.out, Hfp.out]
          have h9 := ho'
          show World.ownsRow _ _ _ _ _ _ _
          simpa [ints] using h9
        clear ho ho' hg hv'
        go_wp2_with fail
        go_roundw
        case rel => exact ⟨b + 1, by omega, by go_num, HOE, HBE⟩
        case measure => simp [intOf]; omega
      have d1 : ((b : Int) == (xN : Int)) = false := beq_eq_false_iff_ne.2 (by omega)
      have d1' : (b == xN) = false := beq_eq_false_iff_ne.2 hbx
      have HBb := hid_of (HBO.out (b : Int) (by omega))
      have HFc := hid_of (HFr.out wr (bel_call Hb3.out HB.out) (b : Int) (xN : Int))
      clear hbx
      go_wp2_with fail
      refine HFc.out.mono ?_
      rintro e W4 ⟨gw, rfl, hgw, hr4, hb4⟩
      have HB4 := hid_of (bel_call HB.out hb4)
      have HO4 := hid_of (owns_below HO.out hb4)
      have HW4 := hid_of hr4
      clear HFc hr4 hb4 HO HB
      go_wp2_with fail
      go_loop [9, 12] (fun s9 s12 => ∃ i : Nat, i ≤ pn ∧ s9 = oV ∧ s12 = .int .i64 i ∧ Hid ((P.take i).any (fun p => overS L xN p && sn (fromS L b xN) p) = false)) (fun _ s12 => pn - (intOf s12).toNat)
      case atStart => exact ⟨0, by omega, rfl, rfl, by show _ = _; simp⟩
      case round =>
        obtain ⟨i, hi, rfl, rfl, HA⟩ := hrel
        by_cases hit : i < pn
        · have hiP : i < P.length := by rw [Hpn.out]; exact hit
          rcases HX.out with hx | ⟨pb, po, rfl, -, hx⟩
          · exfalso; rw [hx] at hiP; simp at hiP
          have e0 := hx i hiP
          unfold CInt at e0
          rw [Nat.mul_one] at e0
          have e1 := (World.cell?_of_block (a := ⟨pb, po + i, none⟩) (HB4.out.block pb (lt_of_cell e0))).trans e0
          obtain ⟨pk, hpk, hpkl⟩ := HPM.out P[i] (List.getElem_mem hiP)
          rw [hpk] at e1
          have hpkn : pk < n := by rw [HNL.out]; exact hpkl
          obtain ⟨rp, Hrp⟩ : ∃ rp, Hid (decide ((pk : Int) ∈ orderS L) = rp) := ⟨_, (rfl : decide ((pk : Int) ∈ orderS L) = _)⟩
          obtain ⟨op, Hop⟩ : ∃ op, Hid (overS L (xN : Int) (pk : Int) = op) := ⟨_, (rfl : overS L (xN : Int) (pk : Int) = _)⟩
          obtain ⟨wp, Hwp⟩ : ∃ wp, Hid (sn (fromS L (b : Int) (xN : Int)) pk = wp) := ⟨_, (rfl : sn (fromS L (b : Int) (xN : Int)) pk = _)⟩
          have hBx := HB3.out.below HB4.out
          have q1 := (HQ3.out.keep (HB4.out.block gr HQ3.out.lt)).cell (k := pk) (v := .bool rp) (by rw [reach_cell hpkl, Hrp.out])
          obtain ⟨gp, q2, hgp, -⟩ := hBx.get hpkn
          have q3 := hgp.cell (k := xN) (v := .bool op) (by rw [domsM_get hpkl hxL, Hop.out])
          have q4 := HW4.out.cell (k := pk) (v := .bool wp) (by rw [sn_cell hpkl, Hwp.out])
          have ht := List.take_succ_eq_append_getElem hiP
          have hro : op = true → rp = true := fun ho => by
            have := over_mem (Hop.out.trans ho)
            rw [← Hrp.out]; simp [this]
          have hA2 : (P.take (i + 1)).any (fun p => overS L xN p && sn (fromS L b xN) p) = (op && wp) := by
            rw [ht, List.any_append, HA.out, hpk]; simp [Hop.out, Hwp.out]
          have hi0 : (0 : Int) ≤ (i : Int) := by omega
          have hiz : (i : Int) < (pn : Int) := by omega
          have hp0 : (0 : Int) ≤ (pk : Int) := by omega
          have hpz : (pk : Int) < (n : Int) := by omega
          have HA2 := hid_of hA2
          have HRO := hid_of hro
          clear hx hpk hBx hgp ht hro hA2 HX e0
          cases op with
          | false =>
            cases rp with
            | false =>
              go_wp2_with fail
              go_round
              case rel => exact ⟨i + 1, by omega, rfl, by go_num, HA2⟩
              case measure => simp [intOf]; omega
            | true =>
              go_wp2_with fail
              go_round
              case rel => exact ⟨i + 1, by omega, rfl, by go_num, HA2⟩
              case measure => simp [intOf]; omega
          | true =>
            obtain rfl := HRO.out rfl
            cases wp with
            | false =>
              go_wp2_with fail
              go_round
              case rel => exact ⟨i + 1, by omega, rfl, by go_num, HA2⟩
              case measure => simp [intOf]; omega
            | true =>
              have hAll : P.any (fun p => overS L xN p && sn (fromS L b xN) p) = true := by
                rw [← List.take_append_drop (i + 1) P, List.any_append, HA2.out]; rfl
              have hE2 : bodyP L xN (b + 1) = bodyP L xN b ++ [(b : Int)] := bodyP_on (by rw [HBb.out]; exact hAll)
              have HE2 := hid_of hE2
              obtain ⟨fp, Hfp⟩ : ∃ fp, Hid (bodyP L xN b = fp) := ⟨_, (rfl : bodyP L xN b = _)⟩
              have ho := HO4.out
              rw [Hfp.out] at ho hfl
              have hs2 := HB4.out.size
              clear hAll hE2
              go_wp2_with (at_builtin; refine stop_here ?_)
              refine stop_go (app_int rfl _ _ rfl wo.heap.size _ fp rfl (ho.alloc _) _ (b : Int) rfl (heap_alloc_eq _ _ _ rfl) (by omega) (by simp; omega) ?_)
              intro v' w' ho' hg hv'
              have HBE := hid_of (bel_grown (bel_alloc HB4.out _) hg (fun b hb => (ho.lt b hb).1))
              have HOE : Hid (w'.ownsRow wo.heap.size 3 1 v' (bodyP L xN (b + 1)).length (ints (bodyP L xN (b + 1)))) := by
                rw [HE2.out, Hfp.out]
                have h9 := ho'
                show World.ownsRow _ _ _ _ _ _ _
                simpa [ints] using h9
              clear ho ho' hg hv' q1 q2 q3 q4 e1
              go_wp2_with fail
              go_roundw
              case rel => exact ⟨b + 1, by omega, by go_num, HOE, HBE⟩
              case measure => simp [intOf]; omega
        · obtain rfl : i = pn := by omega
          have hA := HA.out
          rw [List.take_of_length_le (by rw [Hpn.out]; exact Nat.le_refl _)] at hA
          have HE : Hid (bodyP L xN (b + 1) = bodyP L xN b) := bodyP_off (by rw [HBb.out]; exact hA)
          clear hA
          go_wp2_with fail
          go_roundw
          case rel => exact ⟨b + 1, by omega, by go_num, by rw [HE.out]; exact HO4, HB4⟩
          case measure => simp [intOf]; omega
    · obtain rfl : b = n := by omega
      go_wp2_with fail
      go_ret
      exact ⟨_, rfl, owns_mono HO.out Hb3.out.size, bel_call Hb3.out HB.out⟩
end Go.Proofs.Ytcihobmjohpnkaa
