/- 'dom.Of': the walk. -/
import Derived.Test.YtcihobmjohpnkaaDomP
import Derived.Test.YtcihobmjohpnkaaLvO
import Derived.Test.YtcihobmjohpnkaaOrderW
import Derived.Test.YtcihobmjohpnkaaLvD
import Derived.Test.YtcihobmjohpnkaaBitX
import Derived.Deep.AppendLies
import Derived.Deep.RegionLaw
namespace Go.Proofs.Ytcihobmjohpnkaa
open Go.RowKit Go.Sort

theorem run_mk_rows (W : World) (n : Nat) (hn : n ≤ 1000000) : (Instr.makeSlice 28 (.int .i64 (n : Int)) (.int .i64 (n : Int))).run Try.prog W = .ok (.slice (some ⟨W.heap.size, 0, none⟩) n n) (W.alloc (.cells (List.replicate n (Value.slice none 0 0)).toArray 25)) := by
  obtain ⟨i0, hi, hz0, hz1, hz2⟩ := info_parts infoIntsL
  have hrun := run_make (P := Try.prog) W 28 25 i0 _ Try.underlying28 hi hz0 .i64 .i64 n n (by omega) (Int.le_refl _) (by rw [hz2]; omega) (by omega)
  have hmade : madeCells (Value.slice none 0 0).cells (n * i0.size) = (List.replicate n (Value.slice none 0 0)).toArray := by
    rw [hz1, Nat.mul_one]
    exact Array.toList_inj.1 (by rw [show (Value.slice none 0 0).cells = #[.slice none 0 0] from rfl, toList_madeCells_one])
  simp only [Int.toNat_natCast] at hrun
  rw [hmade] at hrun
  exact hrun

theorem ints_at {p : Nat → Prop} {W : World} {b o n c : Nat} {xs : List Int} (h : IsInts p W (.slice (some ⟨b, o, none⟩) n c) xs) {j : Nat} (hj : j < xs.length) : W.cell? ⟨b, o + j, none⟩ = some (.int .i64 xs[j]) := by
  obtain ⟨_, _, hv, -, hx⟩ := h
  simp only [Value.slice.injEq] at hv
  obtain ⟨hv, -, -⟩ := hv
  rcases hx with hx | ⟨b', o', e, -, hx⟩
  · rw [hx] at hj; simp at hj
  · rw [← hv] at e
    simp only [Option.some.injEq, Addr.mk.injEq, and_true] at e
    obtain ⟨rfl, rfl⟩ := e
    have := hx j hj
    unfold CInt at this
    rwa [Nat.mul_one] at this
def foldA (D : List (List Nat)) (al : List Nat) (ps : List Int) : List Nat := ps.foldl (fun s p => Bit.andW s (D.getD p.toNat [])) al
theorem foldA_snoc (D : List (List Nat)) (al : List Nat) (ps : List Int) (p : Int) : foldA D al (ps ++ [p]) = Bit.andW (foldA D al ps) (D.getD p.toNat []) := by unfold foldA; rw [List.foldl_append]; rfl

set_option maxRecDepth 100000 in
set_option maxHeartbeats 40000000 in
theorem dom_of {a : Option Addr} {n cap : Nat} (w : World) {L : List (List InsD)} (h : IsBlocks (· < w.heap.size) w (.slice a n cap) L) (hl : n ≤ 1000) :
    Calls Try.prog 87 #[.slice a n cap] w fun e w' => ∃ sv ord vp vo R D, e = .returned (.pointer (some ⟨sv, 0, none⟩)) ∧ w.heap.size ≤ sv ∧ Row w' sv 102 [ord, vp, vo] ∧ IsRows (w.heap.size ≤ ·) w' vp R ∧ R.length = L.length ∧ (PredOk L R ∧ ∀ s, (R.getD s []).length ≤ 3000) ∧ IsSets (w.heap.size ≤ ·) w' vo D ∧ OverOk L D ∧ Below w.heap.size w w' := by
  have hnL : n = L.length := by obtain ⟨_, _, hv0, hl0, hx⟩ := id h; simp only [Value.slice.injEq] at hv0; exact hv0.2.1
  have HNL := hid_of hnL
  obtain ⟨zs, HZ⟩ : ∃ zs : Array Value, Hid (zs = (List.replicate n (Value.slice none 0 0)).toArray) := ⟨_, (rfl : _ = (List.replicate n (Value.slice none 0 0)).toArray)⟩
  have hmkS : ∀ W : World, (Instr.makeSlice 88 (.int .i64 (n : Int)) (.int .i64 (n : Int))).run Try.prog W = .ok (.slice (some ⟨W.heap.size, 0, none⟩) n n) (W.alloc (.cells zs 96)) := fun W => by
    rw [HZ.out]; exact run_mk_sets W n (by omega)
  have hmkR : ∀ W : World, (Instr.makeSlice 28 (.int .i64 (n : Int)) (.int .i64 (n : Int))).run Try.prog W = .ok (.slice (some ⟨W.heap.size, 0, none⟩) n n) (W.alloc (.cells zs 25)) := fun W => by
    rw [HZ.out]; exact run_mk_rows W n (by omega)
  have HKP : Hid (∀ W, Below w.heap.size w W → IsBlocks (· < W.heap.size) W (.slice a n cap) L) := fun W hW => h.keep (fun b hb hlt => ⟨Nat.lt_of_lt_of_le hb hW.size, hW.block b hlt⟩)
  obtain ⟨on, Hon⟩ : ∃ on, Hid ((orderS L).length = on) := ⟨_, (rfl : (orderS L).length = _)⟩
  have hOrd : ∀ W, BkS w W → Calls Try.prog 25 #[.slice a n cap] W fun e W' => ∃ oa oc, e = .returned (.slice oa on oc) ∧ IsInts (fun b => W.heap.size ≤ b ∧ b < W'.heap.size) W' (.slice oa on oc) (orderS L) ∧ Below W.heap.size W W' := fun W hW => by
    refine (order_c W (HKP.out W hW) (by omega)).mono ?_
    rintro e W' ⟨u, rfl, ho, hb⟩
    have hol := orderS_length L
    have hi : IsInts (fun b => W.heap.size ≤ b ∧ b < W'.heap.size) W' u (orderS L) := ints_of_owns ho (by omega) (fun b _ h1 h2 => ⟨h1, h2⟩)
    obtain ⟨oa, oc, rfl, -, -⟩ := id hi
    rw [Hon.out] at hi
    exact ⟨oa, oc, by rw [Hon.out], hi, hb⟩
  have HOrd := hid_of hOrd
  have hE0 : BkS w w := bel_refl w
  clear hnL hOrd h
  go_enter Try.func87, Try.ntmps87
  go_upto_region 1 with fail
  go_cut [3] (fun s3 W => ∃ sv gP gO oa oc, s3 = .pointer (some ⟨sv, 0, none⟩) ∧ Row W sv 102 [.slice oa on oc, .slice (some ⟨gP, 0, none⟩) n n, .slice (some ⟨gO, 0, none⟩) n n] ∧
      W.heap[gP]? = some (.cells zs 25) ∧ W.heap[gO]? = some (.cells zs 96) ∧ IsInts (fun b => w.heap.size ≤ b ∧ b ≠ sv ∧ b ≠ gP ∧ b ≠ gO) W (.slice oa on oc) (orderS L) ∧ Below w.heap.size w W ∧
      (w.heap.size ≤ sv ∧ w.heap.size ≤ gP ∧ w.heap.size ≤ gO ∧ sv ≠ gP ∧ sv ≠ gO ∧ gP ≠ gO))
  case first =>
    --[[
    have hO := HOrd.out
    go_wp2_with fail
    go_region_with ((go_at_call 25; refine (hO _ (by repeat (first | exact bel_refl _ | refine bel_alloc ?_ _ | refine Below.drew ?_))).mono ?_; rintro e Wo ⟨oa, oc, rfl, hio, hbo⟩))
    all_goals
      go_wp2_with fail
      go_meet
      have hs := hbo.size
      simp at hs
      apply Exists.intro; apply Exists.intro; apply Exists.intro; apply Exists.intro; apply Exists.intro
      refine ⟨rfl, ?qa, ?qb, ?qc, ?qd, ?qe, ?qf⟩
      case qa => (show (World.heap _)[_]? = some _; repeat (first | (refine heap_alloc_eq _ _ _ ?_; simp; done) | refine heap_alloc_ne _ _ _ _ ?_))
      case qb => (show (World.heap _)[_]? = some _; repeat (first | (refine heap_alloc_eq _ _ _ ?_; simp; done) | refine heap_alloc_ne _ _ _ _ ?_ | refine (hbo.block _ (by simp <;> omega)).trans ?_))
      case qc => (show (World.heap _)[_]? = some _; repeat (first | (refine heap_alloc_eq _ _ _ ?_; simp; done) | refine heap_alloc_ne _ _ _ _ ?_ | refine (hbo.block _ (by simp <;> omega)).trans ?_))
      case qd => exact hio.keep (fun b hb hlt => ⟨by simp at hb ⊢; omega, Below.block (B := Wo.heap.size) (w := Wo) (by repeat (first | exact bel_refl _ | refine bel_alloc ?_ _ | refine Below.drew ?_)) b hlt⟩)
      case qe => repeat (first | exact bel_refl _ | refine bel_alloc ?_ _ | refine Below.drew ?_ | refine bel_call ?_ hbo)
      case qf => simp; omega
    --]]
  case rest =>
    obtain ⟨sv, gP, gO, oa, oc, rfl, q0, q1, q2, q3, q4, q5⟩ := hcut
    have HOf := hid_of (of_c wc q3)
    obtain ⟨al, Hal⟩ : ∃ al, Hid (Bit.ofW (orderS L) = al) := ⟨_, (rfl : Bit.ofW (orderS L) = _)⟩
    rw [Hal.out] at HOf
    have k0 := q0.cell (k := 0) (v := .slice oa on oc) rfl
    have Q := hid_of (And.intro q0 (And.intro q1 (And.intro q2 (And.intro q3 (And.intro q4 q5)))))
    clear q0 q1 q2 q3 q4 q5 hmkS hmkR
    go_wp2_with fail
    refine HOf.out.mono ?_
    rintro e W1 ⟨z, rfl, hz, hb1⟩
    obtain ⟨za, zn, zc, rfl⟩ := words_slice hz
    have hS0 : DoSt w n (W1.heap.size + 1) sv gP gO W1.heap.size (.slice oa on oc) (.slice za zn zc) (orderS L) al (fun b => NoS sv gP gO W1.heap.size b ∧ b < W1.heap.size + 1 ∧ w.heap.size ≤ b) (fun b => W1.heap.size + 1 ≤ b) (List.replicate n []) (List.replicate n []) (W1.alloc (.cells #[.slice za zn zc] 96)) := by
      obtain ⟨q0, q1, q2, q3, q4, q5⟩ := Q.out
      rw [HZ.out] at q1 q2
      have l0 := q0.lt
      have l1 := lt_of_block q1
      have l2 := lt_of_block q2
      have hs1 := hb1.size
      have hs0 := q4.size
      have hb2 := bel_call hb1 (bel_alloc (bel_refl W1) (.cells #[.slice za zn zc] 96))
      have hk1 : Keep (fun b => wc.heap.size ≤ b) (fun b => NoS sv gP gO W1.heap.size b ∧ b < W1.heap.size + 1 ∧ w.heap.size ≤ b) W1 (W1.alloc (.cells #[.slice za zn zc] 96)) := fun b hb hlt =>
        ⟨⟨⟨by omega, by omega, by omega, by omega⟩, by omega, by omega⟩, Below.heap_alloc _ _ _ hlt⟩
      have rP : Row _ gP 25 _ := Row.keep q1 (hb2.block _ l1)
      have rO : Row _ gO 96 _ := Row.keep q2 (hb2.block _ l2)
      refine ⟨q0.keep (hb2.block _ l0), heap_alloc_eq _ _ _ rfl, PRow.start rP, SetRow.start rO (fun hh => hh.1.2.2.1 rfl), ?_, hz.keep hk1, bel_call q4 hb2, by simp, ⟨⟨by omega, by omega, by omega, by omega⟩, ⟨by omega, by omega, by omega, by omega⟩, ⟨by omega, by omega, by omega, by omega, by omega, by omega⟩⟩, fun b hb => hb.1, fun b hb hh => by have := hb.2; omega⟩
      exact q3.keep (fun b hb hlt => ⟨⟨⟨hb.2.1, hb.2.2.1, hb.2.2.2, by omega⟩, by omega, hb.1⟩, hb2.block b hlt⟩)
    have HS0 := hid_of hS0
    have k0 := hS0.tb.cell (k := 0) (v := .slice oa on oc) rfl
    clear hS0 hz hb1 HOf Q
    go_wp2_with fail
    have hol := orderS_length L
    have hon : on ≤ 1000 := by have := Hon.out; have := HNL.out; omega
    have hrs : (List.replicate n ([] : List Int)) = List.replicate L.length [] := by rw [HNL.out]
    have A0 := hid_of (Acc.start L (orderS L))
    rw [← hrs] at A0
    have F0 := hid_of (Fil.start n (orderS L) al)
    obtain ⟨M, HM⟩ : ∃ M, Hid (W1.heap.size + 1 = M) := ⟨_, (rfl : W1.heap.size + 1 = _)⟩
    obtain ⟨gA, HGA⟩ : ∃ gA, Hid (W1.heap.size = gA) := ⟨_, (rfl : W1.heap.size = _)⟩
    rw [HM.out, HGA.out] at HS0
    have hMA : Hid (gA + 1 = M) := by rw [← HGA.out]; exact HM.out
    have hgA := HGA.out
    clear hol hrs k0
    rw [hgA]
    clear hgA HM HGA
    go_loopw [37] (fun s37 wx => ∃ (k : Nat) (R : List (List Int)) (D : List (List Nat)), k ≤ on ∧ s37 = .int .i64 k ∧ Hid (Acc L (orderS L) k 0 R) ∧ Hid (Fil n (orderS L) al k D) ∧ Hid (DoSt w n M sv gP gO gA (.slice oa on oc) (.slice za zn zc) (orderS L) al (fun b => NoS sv gP gO gA b ∧ b < M ∧ w.heap.size ≤ b) (fun b => M ≤ b) R D wx)) (fun s37 _ => on - (intOf s37).toNat)
    case atStart => exact ⟨0, _, _, by omega, rfl, A0, F0, HS0⟩
    case round =>
      obtain ⟨k, R, D, hk, rfl, HA, HF, HS⟩ := hrel
      clear HS0 A0 F0
      by_cases hlt : k < on
      ·
        --[[
        have hOL := Hon.out
        have hpos : 0 < L.length := by have := orderS_length L; omega
        obtain ⟨_, _, hv1, -, hx⟩ := id HS.out.oi
        simp only [Value.slice.injEq] at hv1
        obtain ⟨rfl, -, rfl⟩ := hv1
        rcases hx with hx | ⟨bo, oo, rfl, hpo, hx⟩
        · exfalso; rw [hx] at hOL; simp at hOL; omega
        have hkO : k < (orderS L).length := by omega
        have e1 := hx k hkO
        unfold CInt at e1
        rw [Nat.mul_one] at e1
        obtain ⟨T, hT⟩ := ord_ex hpos
        have hbr := hT.rg (orderS L)[k] (by rw [← hT.eq]; exact List.getElem_mem hkO)
        obtain ⟨bN, hbN⟩ : ∃ bN : Nat, (orderS L)[k] = (bN : Int) := ⟨(orderS L)[k].toNat, by omega⟩
        rw [hbN] at e1 hbr
        have hbn : bN < n := by rw [HNL.out]; omega
        have t2 := HS.out.tb.cell (k := 2) (v := .slice (some ⟨gO, 0, none⟩) n n) rfl
        have aC := HS.out.ab.cell (k := 0) (v := .slice za zn zc) rfl
        obtain ⟨xa, xn, xc, oC, -⟩ := HS.out.rO.get (j := bN) (by rw [HF.out.len]; exact hbn)
        have oF := HS.out.rO.frozen bN
        have hb0 : (0 : Int) ≤ (bN : Int) := by omega
        have hbz : (bN : Int) < (n : Int) := by omega
        have HF2 := hid_of (HF.out.put hkO hbN)
        have hgd : (orderS L).getD k 0 = (bN : Int) := by simp [List.getD, hkO, hbN]
        have HGD := hid_of (And.intro hkO hgd)
        have hS6 := (HS.out.below ((bel_refl wr).drew)).setO (ws := al) (HS.out.below ((bel_refl wr).drew)).ai bN
        have HS6 := hid_of hS6
        clear hOL hx hT hbr hbN hkO hgd hS6 HS HF
        go_wp2_with fail
        go_upto_region 6 with fail
        go_cut [] (fun wx => Hid (DoSt w n M sv gP gO gA (.slice (some ⟨bo, oo, none⟩) on oc) (.slice za zn zc) (orderS L) al (fun b => NoS sv gP gO gA b ∧ b < M ∧ w.heap.size ≤ b) (fun b => M ≤ b) R (D.set bN al) wx))
        case first =>
          go_region
          all_goals (try go_wp2_with fail)
          all_goals go_meet
          all_goals exact HS6
        case rest =>
          have HS7 := hcut
          have HSu := hid_of (succs_c wc (bN : Int) (HKP.out wc HS7.out.bel))
          clear HS6 t2 aC oC oF e1
          go_wp2_with fail
          refine HSu.out.mono ?_
          rintro e W5 ⟨u, rfl, ho5, hb5⟩
          have hsl := succS_length L (bN : Int)
          have hu := ints_of_owns (p := fun b => u.ownBlock = some b) ho5 (by omega) (fun b hb _ _ => hb)
          have hub := fun b hb => (ho5.lt b hb).1
          obtain ⟨ua, uc, rfl, -⟩ := owns_slice ho5
          obtain ⟨sn, Hsn⟩ : ∃ sn, Hid ((succS L (bN : Int)).length = sn) := ⟨_, (rfl : (succS L (bN : Int)).length = _)⟩
          rw [Hsn.out] at hu hub hsl
          have HS8 := hid_of ((HS7.out.requ (q' := fun b => M ≤ b ∧ (Value.slice ua sn uc).ownBlock ≠ some b) (fun b hq _ hlt => ⟨hq, fun e => by have := hub b e; omega⟩) (fun b hb hh => by have := hb.2; omega)).below hb5)
          have hsz7 := HS7.out.sz
          have HU := hid_of hu
          have HUB : Hid (∀ b, (Value.slice ua sn uc).ownBlock = some b → M ≤ b) := fun b hb => by have := hub b hb; omega
          have hsn2 : sn ≤ 2 := hsl
          clear HS7 HSu ho5 hb5 hu hub hsl hsz7
          rw [Hsn.out]
          go_wp2_with fail
          obtain ⟨wo, rfl⟩ : ∃ wo : World, wo = wr := ⟨_, rfl⟩
          go_loopw [52] (fun s52 wx => ∃ (m : Nat) (R' : List (List Int)), m ≤ sn ∧ s52 = .int .i64 m ∧ Hid (Acc L (orderS L) k m R') ∧ Hid (IsInts (fun b => (Value.slice ua sn uc).ownBlock = some b) wx (.slice ua sn uc) (succS L (bN : Int))) ∧ Hid (DoSt w n M sv gP gO gA (.slice (some ⟨bo, oo, none⟩) on oc) (.slice za zn zc) (orderS L) al (fun b => NoS sv gP gO gA b ∧ b < M ∧ w.heap.size ≤ b) (fun b => M ≤ b ∧ (Value.slice ua sn uc).ownBlock ≠ some b) R' (D.set bN al) wx)) (fun s52 _ => sn - (intOf s52).toNat)
          case atStart => exact ⟨0, R, by omega, rfl, HA, HU, HS8⟩
          case round =>
            obtain ⟨m, R', hm, rfl, HA2, HU2, HS9⟩ := hrel
            clear HS8 HU HA
            by_cases hmt : m < sn
            · have hsN := Hsn.out
              have hmS : m < (succS L (bN : Int)).length := by omega
              obtain ⟨_, _, hv2, -, hx⟩ := id HU2.out
              simp only [Value.slice.injEq] at hv2
              obtain ⟨rfl, -, rfl⟩ := hv2
              rcases hx with hx | ⟨ub, uo, rfl, hpu, hx⟩
              · exfalso; rw [hx] at hsN; simp at hsN; omega
              have e2 := hx m hmS
              unfold CInt at e2
              rw [Nat.mul_one] at e2
              have hsr := succS_range L (bN : Int) _ (List.getElem_mem hmS)
              obtain ⟨sN, hsN2⟩ : ∃ sN : Nat, (succS L (bN : Int))[m] = (sN : Int) := ⟨((succS L (bN : Int))[m]).toNat, by omega⟩
              rw [hsN2] at e2 hsr
              have hsNn : sN < n := by rw [HNL.out]; omega
              have hsR : sN < R'.length := by rw [HA2.out.len]; omega
              have HA3 := hid_of (HA2.out.put HGD.out.1 HGD.out.2 hmS hsN2)
              obtain ⟨ra, rc, p1, p2, p3⟩ := HS9.out.getP hsR
              have hrl := HA2.out.sz sN
              obtain ⟨xs, Hxs⟩ : ∃ xs, Hid (R'.getD sN [] = xs) := ⟨_, (rfl : R'.getD sN [] = _)⟩
              rw [Hxs.out] at p1 p2 p3 hrl HA3
              have t1 := HS9.out.tb.cell (k := 1) (v := .slice (some ⟨gP, 0, none⟩) n n) rfl
              have hs0 : (0 : Int) ≤ (sN : Int) := by omega
              have hsz : (sN : Int) < (n : Int) := by omega
              have hubl : ub < wr.heap.size := lt_of_cell e2
              have hM9 := HS9.out.sz
              have hxl : xs.length ≤ 3000 := by omega
              obtain ⟨rl, Hrl⟩ : ∃ rl, Hid (xs.length = rl) := ⟨_, (rfl : xs.length = _)⟩
              rw [Hrl.out] at p1 p2 p3 hxl
              have hT : ∀ gg cap w1, w1.ownsRow M 3 1 (.slice (some ⟨gg, 0, none⟩) (rl + 1) cap) (rl + 1) (ints xs ++ [Value.int .i64 (bN : Int)]) → ((wr.alloc (.cells #[.int .i64 (bN : Int)] 3)).drew).grownBy w1 (Value.slice ra rl rc).ownBlock → ((Value.slice ra rl rc).ownBlock = some gg ∨ gg = wr.heap.size + 1) →
                  w1.cell? ⟨sv, 1, none⟩ = some (.slice (some ⟨gP, 0, none⟩) n n) ∧ w1.cell? ⟨gP, sN, none⟩ = some (.slice ra rl rc) ∧ w1.frozen? ⟨gP, sN, none⟩ = false ∧
                  Hid (IsInts (fun b => (Value.slice (some ⟨ub, uo, none⟩) sn uc).ownBlock = some b) (w1.setCell ⟨gP, sN, none⟩ (.slice (some ⟨gg, 0, none⟩) (rl + 1) cap)) (.slice (some ⟨ub, uo, none⟩) sn uc) (succS L (bN : Int))) ∧
                  Hid (DoSt w n M sv gP gO gA (.slice (some ⟨bo, oo, none⟩) on oc) (.slice za zn zc) (orderS L) al (fun b => NoS sv gP gO gA b ∧ b < M ∧ w.heap.size ≤ b) (fun b => M ≤ b ∧ (Value.slice (some ⟨ub, uo, none⟩) sn uc).ownBlock ≠ some b) (R'.set sN (xs ++ [(bN : Int)])) (D.set bN al) (w1.setCell ⟨gP, sN, none⟩ (.slice (some ⟨gg, 0, none⟩) (rl + 1) cap))) := by
                intro gg cap w1 ho hg hat
                have hb : Below wr.heap.size wr ((wr.alloc (.cells #[.int .i64 (bN : Int)] 3)).drew) := (bel_alloc (bel_refl wr) _).drew
                obtain ⟨m1, m2, m3⟩ := HS9.out.mid p1 p3 hb hg
                refine ⟨m1.cell (k := 1) rfl, m2, m3, HU2.out.keep (HS9.out.put_keep sN p3 hb hg (fun b hb => ⟨fun hh => hh.2 hb, HUB.out b hb⟩)), HS9.out.put hsR p1 p3 hb ?_ hg ?_ ⟨by simp; omega, fun e => ?_⟩⟩
                · simpa [ints, Hrl.out] using ho
                · rcases hat with hat | hat
                  · exact .inl (by rw [hat]; rfl)
                  · exact .inr (by rw [hat]; simp [Value.ownBlock])
                · simp [Value.ownBlock] at e; omega
              obtain ⟨i0, hi0, hz0, hz1, hz2⟩ := info_parts infoInt
              have hMr : M ≤ wr.heap.size + 1 := by omega
              have hgPl : gP < wr.heap.size := by have := HS9.out.sp.hi; omega
              have hsvl : sv < wr.heap.size := by have := HS9.out.sp.hi; omega
              clear hx hsr HS9 HA2 HU2 p3 hpu
              go_wp2_with fail
              go_upto_region 10 with fail
              go_region_law (first | refine step_append_lies _ (by rfl) _ _ _ (by rfl) M 3 i0 _ 1 8 Try.underlying25 hi0 hz0 hz1 hz2 rfl (by omega) (.slice ra rl rc) rl (ints xs) (by rfl) ((p2.alloc _).drew) ⟨wr.heap.size, 0, none⟩ 1 1 [.int .i64 (bN : Int)] (by rfl) (by rfl) (World.news_of_block (cs := #[.int .i64 (bN : Int)]) (t := 3) (fr := (0, 0)) (heap_alloc_new wr _)) (by simp [Value.oneCell']) (by omega) (by unfold maxLen; omega) (by omega) (by simp <;> omega) (wr.heap.size + 1) (by simp) ?_; intro gg cap w1 hown1 hgrow hat hlt; obtain ⟨t1', c4', f4', hU3, hS3⟩ := hT _ _ _ hown1 hgrow hat)
              all_goals
                clear hT p1 p2 t1 e2
                go_wp2_with fail
                go_roundw
                case rel => exact ⟨m + 1, _, by omega, by go_num, HA3, hU3, hS3⟩
                case measure => simp [intOf]; omega
            · obtain rfl : m = sn := by omega
              have HS10 := hid_of (HS9.out.requ (q' := fun b => M ≤ b) (fun b hq _ _ => hq.1) (fun b hb hh => by have := hb.2; omega))
              have hA3 := HA2.out
              rw [← Hsn.out] at hA3
              have HA4 := hid_of (hA3.close HGD.out.1 HGD.out.2 (by rw [Hsn.out]; exact hsn2))
              clear hA3 HS9 HA2 HU2
              go_wp2_with fail
              go_roundw
              case rel => exact ⟨k + 1, R', _, by omega, by go_num, HA4, HF2, HS10⟩
              case measure => simp [intOf]; omega
        --]]
      · obtain rfl : k = on := by omega
        have hP : PredOk L R := by have := HA.out; rw [← Hon.out] at this; exact this.done
        have hRl := HA.out.len
        have hRx : ∀ s, (R.getD s []).length ≤ 3000 := fun s => by have := HA.out.sz s; omega
        have hFl := HF.out.len
        have hFa : ∀ j, j < n → D.getD j [] = if (j : Int) ∈ orderS L then al else [] := fun j hj => by have := HF.out.at' j hj; rwa [← Hon.out, List.take_length] at this
        have c0 := HS.out.tb.cell (k := 0) (v := .slice oa k oc) rfl
        have HPP := hid_of (And.intro hP (And.intro hRl (And.intro hRx (And.intro hFl hFa))))
        clear hP hRl hRx hFl hFa HA HF
        by_cases h0 : k = 0
        · have hk0 : ((k : Int) == 0) = true := by simp [h0]
          have H0 := hid_of h0
          clear h0
          go_wp2_with fail
          go_ret
          obtain ⟨hP, hRl, hRx, hFl, hFa⟩ := HPP.out
          have hn0 : L.length = 0 := by
            apply Classical.byContradiction
            intro hne
            obtain ⟨T, hT⟩ := ord_ex (l := L) (by omega)
            have := Hon.out
            rw [hT.eq, H0.out] at this
            simp at this
          have hD0 : D = [] := List.length_eq_zero_iff.1 (by rw [hFl, HNL.out]; exact hn0)
          obtain ⟨r1, r2, r3, r4, r5⟩ := HS.out.out (fun b hb => hb.2.2) (by rw [hRl, HNL.out]) hFl (by omega) hRx
          refine ⟨sv, _, _, _, R, D, rfl, r1, r2, r3, hRl, ⟨hP, hRx⟩, r4, ⟨by rw [hFl, HNL.out], fun ws hw => by rw [hD0] at hw; simp at hw, fun j hj => by omega, fun b hb => ?_⟩, r5⟩
          have := Hon.out
          rw [H0.out] at this
          rw [List.length_eq_zero_iff.1 this] at hb
          simp at hb
        · have hk0 : ((k : Int) == 0) = false := beq_eq_false_iff_ne.2 (by omega)
          have hpos : 0 < L.length := by have := orderS_length L; have := Hon.out; omega
          obtain ⟨T, hT⟩ := ord_ex hpos
          have HT := hid_of hT
          have HTl : Hid (k = T.length + 1) := by have := Hon.out; rw [hT.eq] at this; simp at this; exact this.symm
          obtain ⟨hP, hRl, hRx, hFl, hFa⟩ := HPP.out
          have hDA := DomAt.start (R := R) hT (by rw [← HNL.out]; exact hl) Hal.out.symm hpos (by rw [hFl, HNL.out]) (by rw [← HNL.out]; exact hFa)
          have HDA := hid_of hDA
          have HPR := hid_of (And.intro hP (And.intro hRl hRx))
          have HT1 := hid_of (HS.out.top (fun b hb => hb.2))
          have hs := HS.out.sp
          have hgl : sv < wr.heap.size ∧ gP < wr.heap.size ∧ gO < wr.heap.size ∧ gA < wr.heap.size ∧ M ≤ wr.heap.size := by have := HS.out.sz; have := hs.hi; omega
          obtain ⟨xa, xn, xc, oC, -⟩ := HS.out.rO.get (j := 0) (by rw [hFl, HNL.out]; exact hpos)
          have t2 := HS.out.tb.cell (k := 2) (v := .slice (some ⟨gO, 0, none⟩) n n) rfl
          have f2 := HS.out.rO.frozen 0
          have hOf0 : ∀ X, BkS wr X → IsInts (fun _ => True) X (.slice (some ⟨wr.heap.size, 0, none⟩) 1 1) [0] → Calls Try.prog 106 #[.slice (some ⟨wr.heap.size, 0, none⟩) 1 1] X fun e Y => ∃ ya yn yc, e = .returned (.agg #[.slice ya yn yc]) ∧ Hid (IsWords (wr.heap.size ≤ ·) Y (.slice ya yn yc) (Bit.ofW [0])) ∧ Hid (BkS wr Y) ∧
              Y.cell? ⟨sv, 2, none⟩ = some (.slice (some ⟨gO, 0, none⟩) n n) ∧ Y.cell? ⟨gO, 0, none⟩ = some (.slice xa xn xc) ∧ Y.frozen? ⟨gO, 0, none⟩ = false := fun X hX hi => by
            refine (of_c X hi).mono ?_
            rintro e Y ⟨z, rfl, hz, hb⟩
            obtain ⟨ya, yn, yc, rfl⟩ := words_slice hz
            have hY := bel_call hX hb
            have hsX := hX.size
            exact ⟨ya, yn, yc, rfl, hz.mono (fun b hb => by omega), hY, (World.cell?_of_block (a := ⟨sv, 2, none⟩) (hY.block sv hgl.1)).trans t2, (World.cell?_of_block (a := ⟨gO, 0, none⟩) (hY.block gO hgl.2.2.1)).trans oC, (World.frozen?_of_block (a := ⟨gO, 0, none⟩) (hY.block gO hgl.2.2.1)).trans f2⟩
          obtain ⟨hg1, hg2, hg3, hg4, hg5⟩ := hgl
          have hn0 : (0 : Int) < (n : Int) := by rw [HNL.out]; omega
          clear hT hP hRl hRx hFl hFa hDA HPP h0 hpos hs HS
          go_wp2_with fail
          go_upto_region 15 with fail
          go_cut [] (fun wx => Hid (DoSt w n M sv gP gO gA (.slice oa k oc) (.slice za zn zc) (orderS L) al (fun b => NoS sv gP gO gA b ∧ (b < M ∨ wr.heap.size ≤ b) ∧ w.heap.size ≤ b) (fun b => M ≤ b ∧ b < wr.heap.size) R (D.set 0 (Bit.ofW [0])) wx) ∧ Hid (wr.heap.size ≤ wx.heap.size))
          case first =>
            --[[
            go_region_with ((go_at_call 106; refine (hOf0 _ ?hA ?hB).mono ?_; (case hA => repeat (first | exact bel_refl _ | refine bel_alloc ?_ _ | refine Below.drew ?_)); (case hB => exact ints_of_row (xs := [0]) (e := 3) (heap_alloc_eq _ _ _ rfl) trivial (by simp)); rintro e Wo ⟨ya, yn, yc, rfl, HZ2, HB2, y1, y2, y3⟩))
            all_goals
              go_wp2_with fail
              go_meet
              exact ⟨(HT1.out.below HB2.out).setO (HZ2.out.mono (fun b hb => ⟨⟨by omega, by omega, by omega, by omega⟩, .inr hb, by have := HT1.out.bel.size; omega⟩)) 0, (by have := HB2.out.size; show wr.heap.size ≤ _; simpa using this)⟩
            --]]
          case rest =>
            obtain ⟨HS1, HBX⟩ := hcut
            have hwr := HT1.out.bel.size
            clear oC t2 f2 hOf0 c0 HT1 hk0
            obtain ⟨M1, HM1⟩ : ∃ M1, Hid (wr.heap.size = M1) := ⟨_, (rfl : wr.heap.size = _)⟩
            rw [HM1.out] at HS1 HBX hg1 hg2 hg3 hg4 hg5 hwr
            have HMl : Hid (M1 ≤ wc.heap.size) := HBX.out
            obtain ⟨D0, HD0⟩ : ∃ D0, Hid (D.set 0 (Bit.ofW [0]) = D0) := ⟨_, (rfl : D.set 0 (Bit.ofW [0]) = _)⟩
            rw [HD0.out] at HS1 HDA
            have HF0 : Hid (D0.length = n) := by have := HDA.out.len; rw [← HNL.out] at this; exact this
            obtain ⟨_, _, hv1, hcap, hx⟩ := id HS1.out.oi
            simp only [Value.slice.injEq] at hv1
            obtain ⟨rfl, -, rfl⟩ := hv1
            have hOL := Hon.out
            rcases hx with hx | ⟨bo, oo, rfl, hpo, -⟩
            · exfalso; rw [hx] at hOL; have := HTl.out; simp at hOL; omega
            have hkc : k ≤ oc := by have := hcap.1; omega
            obtain ⟨tn, Htn⟩ : ∃ tn, Hid (T.length = tn) := ⟨_, (rfl : T.length = _)⟩
            have HK1 : Hid (k = tn + 1) := by have := HTl.out; have := Htn.out; show k = tn + 1; omega
            have hk1 : 1 ≤ k := by have := HK1.out; omega
            clear hcap hOL HD0
            go_wp2_with fail
            go_loopg [9] (tot D0 + 1) (fun g s9 wx => ∃ (D1 : List (List Nat)) (ag : Bool), s9 = .bool ag ∧ Hid (tot D1 + (if ag = true then 1 else 0) ≤ g) ∧ Hid (D1.length = n) ∧ Hid (ag = true → DomAt L T R al D1) ∧ Hid (ag = false → OverOk L D1) ∧ Hid (M1 ≤ wx.heap.size) ∧
              Hid (DoSt w n M sv gP gO gA (.slice (some ⟨bo, oo, none⟩) k oc) (.slice za zn zc) (orderS L) al (fun b => NoS sv gP gO gA b ∧ (b < M ∨ M1 ≤ b) ∧ w.heap.size ≤ b) (fun b => M ≤ b ∧ b < M1) R D1 wx))
            case atStart => exact ⟨D0, true, rfl, (by simp [Hid] : Hid (tot D0 + (if true = true then 1 else 0) ≤ tot D0 + 1)), HF0, hid_of (fun _ => HDA.out), hid_of (fun h => by cases h), HMl, HS1⟩
            case round =>
              obtain ⟨D1, ag, rfl, HG, HF1, HD1, HO1, HM2, HS2⟩ := hrel
              clear HS1 HDA HF0 HMl
              cases ag with
              | true =>
                have HDT := hid_of (HD1.out rfl)
                have HGT : Hid (tot D1 + 1 ≤ gk) := by have := HG.out; rw [if_pos rfl] at this; exact this
                clear HD1 HG HO1
                have c0 := HS2.out.tb.cell (k := 0) (v := .slice (some ⟨bo, oo, none⟩) k oc) rfl
                by_cases hoc : oc = 1
                · subst hoc
                  obtain rfl : k = 1 := by omega
                  have hT0 : T = [] := List.length_eq_zero_iff.1 (by have := Htn.out; have := HK1.out; omega)
                  go_wp2_with fail
                  refine wp_loop_rounds 1 ?_
                  rw [rounds_succ]
                  go_wp2_with fail
                  obtain ⟨d1, d2⟩ : DomAt L T R al D1 ∧ tot D1 + 1 ≤ gk := ⟨HDT.out, HGT.out⟩
                  have d3 := DomAt.done HT.out HPR.out.1 d1 (by rw [hT0]; rfl)
                  rw [hT0] at d3
                  go_roundg (tot D1)
                  case measure => omega
                  case rel => exact ⟨D1, false, rfl, (by simp [Hid] : Hid (tot D1 + (if false = true then 1 else 0) ≤ tot D1)), HF1, hid_of (fun h => by cases h), hid_of (fun _ => d3), HM2, HS2⟩
                · have hi1 := HS2.out.oi
                  have hcap := hi1
                  obtain ⟨_, _, hv2, hcp, -⟩ := hcap
                  simp only [Value.slice.injEq] at hv2
                  have hTk : T.length = k - 1 := by have := Htn.out; have := HK1.out; omega
                  have hTi : IsInts (fun b => NoS sv gP gO gA b ∧ (b < M ∨ M1 ≤ b) ∧ w.heap.size ≤ b) wr (.slice (some ⟨bo, oo + 1, none⟩) (k - 1) (oc - 1)) T := by
                    have := ints_drop hi1 1 (oc - 1) (by rw [HT.out.eq]; simp) (by rw [Hon.out]; omega)
                    rw [Hon.out, HT.out.eq] at this
                    exact this
                  have HTi := hid_of hTi
                  clear hi1 hv2 hTi hcp
                  go_upto_region 19 with fail
                  go_cut [93, 94, 95] (fun s93 s94 s95 W => s93 = .slice (some ⟨bo, oo + 1, none⟩) (k - 1) (oc - 1) ∧ s94 = .int .i64 ((k - 1 : Nat) : Int) ∧ s95 = .int .i64 0 ∧ Hid (W = wr))
                  case first =>
                    go_wp2_with fail
                    go_meet
                    refine ⟨rfl, ?_, rfl, hid_of rfl⟩
                    first | rfl | (congr 1; omega) | trace_state
                  case rest =>
                    obtain ⟨rfl, rfl, rfl, HW⟩ := hcut
                    obtain rfl := HW.out
                    obtain ⟨tk, Htk⟩ : ∃ tk, Hid (k - 1 = tk) := ⟨_, (rfl : k - 1 = _)⟩
                    rw [Htk.out]
                    have HTT : Hid (T.length = tk) := by rw [← Htk.out]; exact hTk
                    have htk : tk ≤ 1000 := by have := Htk.out; omega
                    have HGA : Hid (Good1 al) := Hal.out ▸ good_of _
                    clear HTi hTk c0
                    go_wp2_with fail
                    go_loopw [9, 95] (fun s9 s95 wx => ∃ (j : Nat) (D2 : List (List Nat)) (fl : Bool), j ≤ tk ∧ s95 = .int .i64 j ∧ s9 = .bool fl ∧ Hid (sweepD R al D1 (T.take j) = (D2, fl)) ∧ Hid (M1 ≤ wx.heap.size) ∧ Hid (DoSt w n M sv gP gO gA (.slice (some ⟨bo, oo, none⟩) k oc) (.slice za zn zc) (orderS L) al (fun b => NoS sv gP gO gA b ∧ (b < M ∨ M1 ≤ b) ∧ w.heap.size ≤ b) (fun b => M ≤ b ∧ b < M1) R D2 wx)) (fun _ s95 _ => tk - (intOf s95).toNat)
                    case atStart => exact ⟨0, D1, false, by omega, rfl, rfl, hid_of rfl, HM2, HS2⟩
                    case round =>
                      obtain ⟨j, D2, fl, hj, rfl, rfl, HSw, HM3, HS3⟩ := hrel
                      clear HM2 HS2
                      by_cases hjt : j < tk
                      · have hjT : j < T.length := by have := HTT.out; omega
                        have hbr := HT.out.rg T[j] (List.mem_cons_of_mem _ (List.getElem_mem hjT))
                        obtain ⟨bN, hbN⟩ : ∃ bN : Nat, T[j] = (bN : Int) := ⟨T[j].toNat, by omega⟩
                        have hbn : bN < n := by rw [HNL.out]; omega
                        have hTi : IsInts (fun b => NoS sv gP gO gA b ∧ (b < M ∨ M1 ≤ b) ∧ w.heap.size ≤ b) wr (.slice (some ⟨bo, oo + 1, none⟩) (k - 1) (oc - 1)) T := by
                          have := ints_drop HS3.out.oi 1 (oc - 1) (by rw [HT.out.eq]; simp) (by rw [Hon.out]; omega)
                          rw [Hon.out, HT.out.eq] at this
                          exact this
                        have e1 := ints_at hTi hjT
                        rw [hbN] at e1
                        have HBN := hid_of hbN
                        have hD2 := (HDT.out.sweep HT.out HPR.out.1 (by rw [← HNL.out]; exact hl) Hal.out.symm (T.take j) (fun b hb => List.mem_of_mem_take hb)).1
                        rw [HSw.out] at hD2
                        have HD2 := hid_of hD2
                        obtain ⟨ra, rc, p1, p2, -⟩ := HS3.out.getP (j := bN) (by rw [HPR.out.2.1, ← HNL.out]; exact hbn)
                        have hrl := HPR.out.2.2 bN
                        obtain ⟨ps, Hps⟩ : ∃ ps, Hid (R.getD bN [] = ps) := ⟨_, (rfl : R.getD bN [] = _)⟩
                        have hpm : ∀ p ∈ ps, 0 ≤ p ∧ p < n := fun p hp => by
                          rw [← Hps.out] at hp
                          have h1 := ((HPR.out.1 (bN : Int) p (by omega) (by rw [← HNL.out]; omega)).1 (by simpa using hp)).1
                          rw [HT.out.eq] at h1
                          have := HT.out.rg p h1
                          rw [HNL.out]; exact this
                        have HPM := hid_of hpm
                        rw [Hps.out] at p1 p2 hrl
                        have hpi := ints_of_owns (p := fun _ => True) p2 (by omega) (fun _ _ _ _ => trivial)
                        obtain ⟨rl, Hrl⟩ : ∃ rl, Hid (ps.length = rl) := ⟨_, (rfl : ps.length = _)⟩
                        rw [Hrl.out] at p1 hpi hrl
                        have HPI := hid_of hpi
                        have t1 := HS3.out.tb.cell (k := 1) (v := .slice (some ⟨gP, 0, none⟩) n n) rfl
                        have aC := HS3.out.ab.cell (k := 0) (v := .slice za zn zc) rfl
                        have hw1 : sv < wr.heap.size ∧ gP < wr.heap.size ∧ gO < wr.heap.size ∧ gA < wr.heap.size := by have := HM3.out; omega
                        obtain ⟨hw1, hw2, hw3, hw4⟩ := hw1
                        have hb0 : (0 : Int) ≤ (bN : Int) := by omega
                        have hbz : (bN : Int) < (n : Int) := by omega
                        have hjk : (j : Int) < (tk : Int) := by omega
                        clear hbr hbN hTi hD2 p2 hpm hpi
                        go_wp2_with fail
                        obtain ⟨wo, rfl⟩ : ∃ wo : World, wo = wr := ⟨_, rfl⟩
                        go_loopw [108] (fun s108 wx => ∃ (m : Nat) (sa : Option Addr) (sn sc : Nat), m ≤ rl ∧ s108 = .int .i64 m ∧ Hid (Row wx wo.heap.size 96 [.slice sa sn sc]) ∧ Hid (IsWords (fun b => (NoS sv gP gO gA b ∧ (b < M ∨ M1 ≤ b) ∧ w.heap.size ≤ b) ∧ b ≠ wo.heap.size) wx (.slice sa sn sc) (foldA D2 al (ps.take m))) ∧ Hid (Below wo.heap.size wo wx) ∧ wo.heap.size < wx.heap.size) (fun s108 _ => rl - (intOf s108).toNat)
                        case atStart =>
                          refine ⟨0, za, zn, zc, by omega, rfl, heap_alloc_eq _ _ _ rfl, HS3.out.ai.keep (fun b hb hlt => ⟨⟨hb, by omega⟩, Below.heap_alloc _ _ _ hlt⟩), bel_alloc (bel_refl wo) _, by simp⟩
                        case round =>
                          obtain ⟨m, sa, sn, sc, hm, rfl, HR1, HW1, HB1, hlw⟩ := hrel
                          by_cases hmr : m < rl
                          ·
                            --[[
                            have hpsl := Hrl.out
                            obtain ⟨_, _, hv3, -, hxp⟩ := id HPI.out
                            simp only [Value.slice.injEq] at hv3
                            obtain ⟨rfl, -, rfl⟩ := hv3
                            rcases hxp with hxp | ⟨rb, ro, rfl, -, hxp⟩
                            · exfalso; rw [hxp] at hpsl; simp at hpsl; omega
                            have hmp : m < ps.length := by omega
                            have e3 := hxp m hmp
                            unfold CInt at e3
                            rw [Nat.mul_one] at e3
                            have hpr := HPM.out ps[m] (List.getElem_mem hmp)
                            obtain ⟨pN, hpN⟩ : ∃ pN : Nat, ps[m] = (pN : Int) := ⟨ps[m].toNat, by omega⟩
                            rw [hpN] at e3 hpr
                            have e4 : wr.cell? ⟨rb, ro + m, none⟩ = some (.int .i64 (pN : Int)) := (World.cell?_of_block (a := ⟨rb, ro + m, none⟩) (HB1.out.block rb (lt_of_cell e3))).trans e3
                            obtain ⟨xa, xn, xc, oC, hxw⟩ := HS3.out.rO.get (j := pN) (by rw [HD2.out.len, ← HNL.out]; omega)
                            have hfw : foldA D2 al (ps.take (m + 1)) = Bit.andW (foldA D2 al (ps.take m)) (D2.getD pN []) := by rw [List.take_succ_eq_append_getElem hmp, foldA_snoc, hpN]; rfl
                            have g1 : Good1 (foldA D2 al (ps.take m)) := good_foldA HD2.out.good (ps.take m) al HGA.out
                            have g2 := good_getD HD2.out.good pN
                            have sC := HR1.out.cell (k := 0) (v := .slice sa sn sc) rfl
                            have sF := HR1.out.frozen 0
                            have t2 := (HS3.out.tb.keep (HB1.out.block sv hw1)).cell (k := 2) (v := .slice (some ⟨gO, 0, none⟩) n n) rfl
                            have oC2 := (World.cell?_of_block (a := ⟨gO, pN, none⟩) (HB1.out.block gO hw3)).trans oC
                            have hp0 : (0 : Int) ≤ (pN : Int) := by omega
                            have hpz : (pN : Int) < (n : Int) := by omega
                            obtain ⟨fw, Hfw⟩ : ∃ fw, Hid (foldA D2 al (ps.take (m + 1)) = fw) := ⟨_, (rfl : foldA D2 al (ps.take (m + 1)) = _)⟩
                            have hAnd : ∀ X, BkS wr X → Calls Try.prog 112 #[.agg #[.slice sa sn sc], .agg #[.slice xa xn xc]] X fun e Y => ∃ ya yn yc, e = .returned (.agg #[.slice ya yn yc]) ∧ Hid (IsWords (wr.heap.size ≤ ·) Y (.slice ya yn yc) fw) ∧ Hid (BkS wr Y) ∧ Y.cell? ⟨wo.heap.size, 0, none⟩ = some (.slice sa sn sc) ∧ Y.frozen? ⟨wo.heap.size, 0, none⟩ = false := fun X hX => by
                              refine (and_c X (HW1.out.keep (Keep.below hX)) ((hxw.keep (p' := (fun b => NoS sv gP gO gA b ∧ (b < M ∨ M1 ≤ b) ∧ w.heap.size ≤ b)) (fun b hb hlt => ⟨hb, HB1.out.block b hlt⟩)).keep (Keep.below hX)) g1.1.1 g2.1.1 (by have := g1.2; omega) (by have := g2.2; omega)).mono ?_
                              rintro e Y ⟨z, rfl, hz, hb⟩
                              obtain ⟨ya, yn, yc, rfl⟩ := words_slice hz
                              have hY := bel_call hX hb
                              have hsX := hX.size
                              rw [← hfw, Hfw.out] at hz
                              exact ⟨ya, yn, yc, rfl, hz.mono (fun b hb => by omega), hY, (World.cell?_of_block (a := ⟨wo.heap.size, 0, none⟩) (hY.block _ hlw)).trans sC, (World.frozen?_of_block (a := ⟨wo.heap.size, 0, none⟩) (hY.block _ hlw)).trans sF⟩
                            have hEnd : ∀ Y ya yn yc, Hid (IsWords (wr.heap.size ≤ ·) Y (.slice ya yn yc) fw) → Hid (BkS wr Y) → Hid (Row (Y.setCell ⟨wo.heap.size, 0, none⟩ (.slice ya yn yc)) wo.heap.size 96 [.slice ya yn yc]) ∧ Hid (IsWords (fun b => (NoS sv gP gO gA b ∧ (b < M ∨ M1 ≤ b) ∧ w.heap.size ≤ b) ∧ b ≠ wo.heap.size) (Y.setCell ⟨wo.heap.size, 0, none⟩ (.slice ya yn yc)) (.slice ya yn yc) (foldA D2 al (ps.take (m + 1)))) ∧ Hid (Below wo.heap.size wo (Y.setCell ⟨wo.heap.size, 0, none⟩ (.slice ya yn yc))) ∧ wo.heap.size < (Y.setCell ⟨wo.heap.size, 0, none⟩ (.slice ya yn yc)).heap.size := fun Y ya yn yc hz hY => by
                              have hM := HM3.out
                              have hwo := HS3.out.bel.size
                              rw [Hfw.out]
                              refine ⟨(HR1.out.keep (hY.out.block _ hlw)).set 0 (.slice ya yn yc), hz.out.keep (fun b hb hlt => ⟨⟨⟨⟨by omega, by omega, by omega, by omega⟩, .inr (by omega), by omega⟩, by omega⟩, Below.heap_setCell _ _ _ _ (by show b ≠ wo.heap.size; omega)⟩), (bel_call HB1.out hY.out).setCell (Nat.le_refl _) _, by have := hY.out.size; simp; omega⟩
                            clear hpsl hxp e3 hpr hpN hxw hfw g1 g2 hmp HR1 HW1 HB1 oC
                            go_wp2_with fail
                            go_upto_region 26 with fail
                            go_region_with ((go_at_call 112; refine (hAnd _ ?hA).mono ?_; (case hA => repeat (first | exact bel_refl _ | refine bel_alloc ?_ _ | refine Below.drew ?_)); rintro e Wo ⟨ya, yn, yc, rfl, HZ2, HB2, y1, y2⟩))
                            all_goals
                              have hE := hEnd _ _ _ _ HZ2 HB2
                              obtain ⟨e1, e2, e3, e5⟩ := hE
                              clear hEnd hAnd e4 sC sF t2 oC2
                              go_wp2_with fail
                              go_roundw
                              case rel => exact ⟨m + 1, ya, yn, yc, by omega, by go_num, e1, e2, e3, e5⟩
                              case measure => simp [intOf]; omega
                            --]]
                          · obtain rfl : m = rl := by omega
                            have hst : Bit.orW (foldA D2 al (ps.take m)) (Bit.ofW [(bN : Int)]) = stepD R al D2 (bN : Int) := by
                              rw [← Hrl.out, List.take_length]
                              unfold stepD foldA
                              rw [Int.toNat_natCast, Hps.out]
                            have g1 : Good1 (foldA D2 al (ps.take m)) := good_foldA HD2.out.good (ps.take m) al HGA.out
                            have hWi := with_c wr (bN : Int) HW1.out g1.1.1 (by have := g1.2; omega)
                            rw [hst] at hWi
                            obtain ⟨st, Hst⟩ : ∃ st, Hid (stepD R al D2 (bN : Int) = st) := ⟨_, (rfl : stepD R al D2 (bN : Int) = _)⟩
                            rw [Hst.out] at hWi
                            have HWi := hid_of hWi
                            have sC := HR1.out.cell (k := 0) (v := .slice sa sn sc) rfl
                            clear hst g1 hWi HW1 aC t1 p1 e1
                            go_upto_region 28 with fail
                            go_cut [] (fun wx => ∃ ya yn yc, Hid (Row wx wo.heap.size 96 [.slice ya yn yc]) ∧ Hid (IsWords (fun b => (NoS sv gP gO gA b ∧ (b < M ∨ M1 ≤ b) ∧ w.heap.size ≤ b) ∧ b ≠ wo.heap.size) wx (.slice ya yn yc) st) ∧ Hid (Below wo.heap.size wo wx) ∧ Hid (wo.heap.size < wx.heap.size))
                            case first =>
                              go_wp2_with fail
                              refine HWi.out.mono ?_
                              rintro e W6 ⟨z, rfl, hz, hb6⟩
                              obtain ⟨ya, yn, yc, rfl⟩ := words_slice hz
                              have r6 := HR1.out.keep (hb6.block _ hlw)
                              have sC6 := r6.cell (k := 0) (v := .slice sa sn sc) rfl
                              have sF6 := r6.frozen 0
                              have hM := HM3.out
                              have hwo := HS3.out.bel.size
                              have hs6 := hb6.size
                              have w1 := hid_of (r6.set 0 (.slice ya yn yc))
                              have w2 : Hid (IsWords (fun b => (NoS sv gP gO gA b ∧ (b < M ∨ M1 ≤ b) ∧ w.heap.size ≤ b) ∧ b ≠ wo.heap.size) (W6.setCell ⟨wo.heap.size, 0, none⟩ (.slice ya yn yc)) (.slice ya yn yc) st) := hz.keep (fun b hb hlt => ⟨⟨⟨⟨by omega, by omega, by omega, by omega⟩, .inr (by omega), by omega⟩, by omega⟩, Below.heap_setCell _ _ _ _ (by show b ≠ wo.heap.size; omega)⟩)
                              have w3 : Hid (Below wo.heap.size wo (W6.setCell ⟨wo.heap.size, 0, none⟩ (.slice ya yn yc))) := (bel_call HB1.out hb6).setCell (Nat.le_refl _) _
                              have w4 : Hid (wo.heap.size < (W6.setCell ⟨wo.heap.size, 0, none⟩ (.slice ya yn yc)).heap.size) := by show _ < _; simp; omega
                              clear hz hb6 r6
                              go_wp2_with fail
                              go_meet
                              exact ⟨ya, yn, yc, w1, w2, w3, w4⟩
                            case rest =>
                              obtain ⟨ya, yn, yc, HR2, HW2, HB2, HL2⟩ := hcut
                              clear HWi sC HR1 HB1
                              have hl2 := HL2.out
                              obtain ⟨xa, xn, xc, oC, hxw⟩ := HS3.out.rO.get (j := bN) (by rw [HD2.out.len, ← HNL.out]; exact hbn)
                              obtain ⟨eq, Heq⟩ : ∃ eq, Hid (decide (st = D2.getD bN []) = eq) := ⟨_, (rfl : decide (st = D2.getD bN []) = _)⟩
                              have hEq : ∀ X, BkS wc X → Calls Try.prog 109 #[.agg #[.slice ya yn yc], .agg #[.slice xa xn xc]] X fun e X' => e = .returned (.bool eq) ∧ BkS wc X' := fun X hX => by
                                refine (equal_c X (HW2.out.keep (Keep.below hX)) ((hxw.keep (p' := (fun b => NoS sv gP gO gA b ∧ (b < M ∨ M1 ≤ b) ∧ w.heap.size ≤ b)) (fun b hb hlt => ⟨hb, HB2.out.block b hlt⟩)).keep (Keep.below hX))).mono ?_
                                rintro e X' ⟨rfl, hb⟩
                                rw [Heq.out]
                                exact ⟨rfl, bel_call hX hb⟩
                              have sC := HR2.out.cell (k := 0) (v := .slice ya yn yc) rfl
                              have t2 := (HS3.out.tb.keep (HB2.out.block sv hw1)).cell (k := 2) (v := .slice (some ⟨gO, 0, none⟩) n n) rfl
                              have oC2 := (World.cell?_of_block (a := ⟨gO, bN, none⟩) (HB2.out.block gO hw3)).trans oC
                              have hE0 : BkS wc wc := bel_refl wc
                              have hE1 : BkS wc wc.drew := (bel_refl wc).drew
                              have hcl : ∀ X, BkS wc X → X.cell? ⟨wo.heap.size, 0, none⟩ = some (.slice ya yn yc) ∧ X.cell? ⟨sv, 2, none⟩ = some (.slice (some ⟨gO, 0, none⟩) n n) ∧ X.cell? ⟨gO, bN, none⟩ = some (.slice xa xn xc) := fun X hX =>
                                ⟨(World.cell?_of_block (a := ⟨wo.heap.size, 0, none⟩) (hX.block _ hl2)).trans sC, (World.cell?_of_block (a := ⟨sv, 2, none⟩) (hX.block _ (lt_of_cell t2))).trans t2, (World.cell?_of_block (a := ⟨gO, bN, none⟩) (hX.block _ (lt_of_cell oC2))).trans oC2⟩
                              have HC := hid_of hcl
                              have HXW := hid_of hxw
                              clear hxw hcl oC
                              obtain ⟨wd, rfl⟩ : ∃ wd : World, wd = wc := ⟨_, rfl⟩
                              go_upto_region 29 with fail
                              go_cut [9] (fun s9 W => s9 = .bool (fl || !eq) ∧ Hid (BkS wd W))
                              case first =>
                                cases fl with
                                | true =>
                                  go_wp2_with fail
                                  go_quiet (fail)
                                  all_goals (go_wp2_with fail; go_meet; exact ⟨rfl, by first | exact hE0 | exact hE1 | exact bel_drewN hE0 _⟩)
                                | false =>
                                  go_wp2_with fail
                                  refine wp_region_class (C := BkS wd) (by kernel_rfl) (by kernel_rfl) hE1 ?_
                                  repeat (first
                                    | go_big_quiet_skip
                                    | (go_big_quiet_want; go_big_quiet_op; first | go_big_quiet_on | (apply Exists.intro; refine ⟨fun W hW => ?_, ?_⟩; (first | rfl | (obtain ⟨e1, e2, e3⟩ := HC.out W hW; go_simp; first | done | rfl) | with_reducible exact hEq W hW); go_big_quiet_on)))
                                  refine wpQuiet_nil ?_
                                  intro X hX
                                  go_wp2_with fail; go_meet; exact ⟨by simp, hX⟩
                              case rest =>
                                obtain ⟨rfl, hB5⟩ := hcut
                                obtain ⟨m1, m2, m3⟩ := HC.out wc hB5.out
                                have hDo := HS3.out.below (bel_call HB2.out hB5.out)
                                have m4 := hDo.rO.frozen bN
                                have hz : IsWords (fun b => NoS sv gP gO gA b ∧ (b < M ∨ M1 ≤ b) ∧ w.heap.size ≤ b) wc (.slice ya yn yc) st := HW2.out.keep (fun b hb hlt => ⟨hb.1, hB5.out.block b hlt⟩)
                                have HE := hid_of ((hDo.below ((bel_refl wc).drew)).setO (ws := st) (z := .slice ya yn yc) hz bN)
                                have HM4 : Hid (M1 ≤ (wc.setCell ⟨gO, bN, none⟩ (.slice ya yn yc)).heap.size) := by
                                  have h1 := HM3.out
                                  have h2 := (bel_call HB2.out hB5.out).size
                                  show M1 ≤ _
                                  simp; omega
                                have hsw : sweepD R al D1 (T.take (j + 1)) = (D2.set bN st, fl || !eq) := by
                                  rw [List.take_succ_eq_append_getElem hjT, sweepD_snoc, HSw.out, HBN.out]
                                  unfold oneD
                                  dsimp only
                                  rw [Hst.out, ← Heq.out]
                                  simp
                                have HSW2 := hid_of hsw
                                clear hDo hz hsw HC hEq sC t2 oC2 hE0 hE1 HW2 HR2 HSw
                                go_wp2_with fail
                                go_region
                                all_goals
                                  go_wp2_with fail
                                  go_roundw
                                  case rel => exact ⟨j + 1, D2.set bN st, fl || !eq, by omega, by go_num, rfl, HSW2, HM4, HE⟩
                                  case measure => simp [intOf]; omega
                      · obtain rfl : j = tk := by omega
                        have hsw := HSw.out
                        rw [← HTT.out, List.take_length] at hsw
                        have hd := HDT.out.sweep HT.out HPR.out.1 (by rw [← HNL.out]; exact hl) Hal.out.symm T (fun _ h => h)
                        have hdn : fl = false → OverOk L D2 := fun hf => by
                          have := HDT.out.done HT.out HPR.out.1 (by rw [hsw]; exact hf)
                          rw [hsw] at this
                          exact this
                        rw [hsw] at hd
                        have HD := hid_of hd
                        have HDN := hid_of hdn
                        have HF2 : Hid (D2.length = n) := by have := hd.1.len; rw [← HNL.out] at this; exact this
                        clear hsw hd hdn HSw
                        go_wp2_with fail
                        go_roundg (tot D2 + (if fl = true then 1 else 0))
                        case measure => have h1 := HD.out.2; have h2 := HGT.out; omega
                        case rel => exact ⟨D2, fl, rfl, hid_of (Nat.le_refl _), HF2, hid_of (fun _ => HD.out.1), HDN, HM3, HS3⟩
              | false =>
                have HOv := hid_of (HO1.out rfl)
                have t1 := HS2.out.tb.cell (k := 1) (v := .slice (some ⟨gP, 0, none⟩) n n) rfl
                have HR0 : Hid (R.length = n ∧ PredOk L R ∧ ∀ s, (R.getD s []).length ≤ 3000) := ⟨by rw [HNL.out]; exact HPR.out.2.1, HPR.out.1, HPR.out.2.2⟩
                clear HO1 HD1 HG
                go_wp2_with fail
                clear t1
                go_loopw [151] (fun s151 wx => ∃ (j : Nat) (R2 : List (List Int)), j ≤ n ∧ s151 = .int .i64 j ∧ Hid (R2.length = n ∧ PredOk L R2 ∧ ∀ s, (R2.getD s []).length ≤ 3000) ∧ Hid (DoSt w n M sv gP gO gA (.slice (some ⟨bo, oo, none⟩) k oc) (.slice za zn zc) (orderS L) al (fun b => NoS sv gP gO gA b ∧ (b < M ∨ M1 ≤ b) ∧ w.heap.size ≤ b) (fun b => M ≤ b ∧ b < M1) R2 D1 wx)) (fun s151 _ => n - (intOf s151).toNat)
                case atStart => exact ⟨0, R, by omega, rfl, HR0, HS2⟩
                case round =>
                  obtain ⟨j, R2, hj, rfl, HR2, HS3⟩ := hrel
                  clear HR0 HS2
                  by_cases hjn : j < n
                  · have hjR : j < R2.length := by rw [HR2.out.1]; exact hjn
                    obtain ⟨ra, rc, p1, p2, p3⟩ := HS3.out.getP hjR
                    have hrl := HR2.out.2.2 j
                    have HSo := hid_of (sort_c wr p2 (by omega))
                    have hj0 : (0 : Int) ≤ (j : Int) := by omega
                    have hjz : (j : Int) < (n : Int) := by omega
                    have HP := hid_of (And.intro p1 p3)
                    obtain ⟨rl, Hrl⟩ : ∃ rl, Hid ((R2.getD j []).length = rl) := ⟨_, (rfl : (R2.getD j []).length = _)⟩
                    rw [Hrl.out] at p1 HP HSo
                    clear p2 p3
                    go_wp2_with fail
                    refine HSo.out.mono ?_
                    rintro e W2 ⟨rfl, ys, hperm, ho, hg⟩
                    have HS4 := hid_of (HS3.out.turn hjR HP.out.1 HP.out.2 ho hg)
                    have HR3 : Hid ((R2.set j ys).length = n ∧ PredOk L (R2.set j ys) ∧ ∀ s, ((R2.set j ys).getD s []).length ≤ 3000) := by
                      refine ⟨by rw [List.length_set]; exact HR2.out.1, HR2.out.2.1.perm hperm, fun s => ?_⟩
                      rw [getDL_set]
                      split
                      · rw [hperm.length_eq]; exact HR2.out.2.2 j
                      · exact HR2.out.2.2 s
                    clear HSo HP ho hg hperm p1 HR2 HS3
                    go_wp2_with fail
                    go_roundw
                    case rel => exact ⟨j + 1, _, by omega, by go_num, HR3, HS4⟩
                    case measure => simp [intOf]; omega
                  · obtain rfl : j = n := by omega
                    have hfin := HS3.out.out (fun b hb => hb.2.2) HR2.out.1 HF1.out (by omega) HR2.out.2.2
                    have HF := hid_of hfin
                    clear hfin HS3
                    go_wp2_with fail
                    go_ret
                    obtain ⟨r1, r2, r3, r4, r5⟩ := HF.out
                    first | exact ⟨sv, rfl, r1, _, _, _, r2, R2, r3, by rw [HR2.out.1]; exact HNL.out, HR2.out.2.1, HR2.out.2.2, D1, r4, HOv.out, r5⟩ | exact ⟨sv, rfl, r1, _, _, _, r2, R2, r3, by rw [HR2.out.1]; exact HNL.out, HR2.out.2, D1, r4, HOv.out, r5⟩
end Go.Proofs.Ytcihobmjohpnkaa
