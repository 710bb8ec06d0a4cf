/- The reference's 'Costs': the walk. -/
import Derived.Test.YtcihobmjohpnkaaCostW
import Derived.Test.YtcihobmjohpnkaaLoopsD
namespace Go.Proofs.Ytcihobmjohpnkaa
open Go.RowKit Go.Sort

theorem CsSt.cellK {g : Nat} {w wo : World} {O : List Int} {W : World} (h : CsSt g w wo O W) {b o : Nat} {v : Value} (hb : b ≠ g) (c : wo.cell? ⟨b, o, none⟩ = some v) : W.cell? ⟨b, o, none⟩ = some v :=
  (World.cell?_of_block (a := ⟨b, o, none⟩) (h.kq b hb (lt_of_cell c))).trans c
theorem owns_build {W : World} {g : Nat} {xs : List Int} {B : Nat} (h : Row W g 3 (ints xs)) (hB : B ≤ g) (hl : xs.length ≤ 1000000) : W.ownsRow B 3 1 (.slice (some ⟨g, 0, none⟩) xs.length xs.length) xs.length (ints xs) := by
  refine ⟨by simp [ints], .inr ⟨g, xs.length, (ints xs).toArray, rfl, hB, h, Nat.le_refl _, by unfold maxLen; omega, by simp [ints], ?_⟩⟩
  rw [Nat.mul_one]
  exact List.take_of_length_le (by simp [ints])

set_option maxRecDepth 100000 in
set_option maxHeartbeats 8000000 in
theorem regsO_c {p : Nat → Prop} (w : World) (i : InsD) (va : Value) (h : IsInts p w va i.args) (hla : i.args.length ≤ 1000000) :
    Calls Try.prog 37 #[insV i va] w fun e w' => ∃ z, e = .returned z ∧ w'.ownsRow w.heap.size 3 1 z (usesS i).length (ints (usesS i)) ∧ Below w.heap.size w w' := by
  obtain ⟨k, d, ia, b, n, name, args, t, f⟩ := i
  obtain ⟨aa, cap, rfl, hl, hx⟩ := h
  unfold insV usesS
  have h0 : IsInts p w (.slice aa args.length cap) args := ⟨aa, cap, rfl, hl, hx⟩
  dsimp only at hl hx hla ⊢
  have hd0 := bel_alloc (bel_refl w) (.cells #[.int .i64 k, .int .i64 d, .int .i64 ia, .int .i64 b, .int .i64 n, .string name, .slice aa args.length cap, .int .i64 t, .int .i64 f] 36)
  by_cases h2 : k = 2
  · subst h2; rw [if_pos (by simp)]
    clear hx
    go_enter Try.func37, Try.ntmps37
    go_wp2_with fail
    go_ret
    exact ⟨_, rfl, owns_build (xs := [ia]) (heap_alloc_eq _ _ _ (by simp)) (by simp) (by simp), bel_alloc hd0 _⟩
  by_cases h4 : k = 4
  · subst h4; rw [if_pos (by simp)]
    clear hx
    go_enter Try.func37, Try.ntmps37
    go_wp2_with fail
    go_ret
    exact ⟨_, rfl, owns_build (xs := [ia]) (heap_alloc_eq _ _ _ (by simp)) (by simp) (by simp), bel_alloc hd0 _⟩
  by_cases h7 : k = 7
  · subst h7; rw [if_pos (by simp)]
    clear hx
    go_enter Try.func37, Try.ntmps37
    go_wp2_with fail
    go_ret
    exact ⟨_, rfl, owns_build (xs := [ia]) (heap_alloc_eq _ _ _ (by simp)) (by simp) (by simp), bel_alloc hd0 _⟩
  by_cases h9 : k = 9
  · subst h9; rw [if_pos (by simp)]
    clear hx
    go_enter Try.func37, Try.ntmps37
    go_wp2_with fail
    go_ret
    exact ⟨_, rfl, owns_build (xs := [ia]) (heap_alloc_eq _ _ _ (by simp)) (by simp) (by simp), bel_alloc hd0 _⟩
  rw [if_neg (by omega)]
  by_cases h5 : k = 5
  · subst h5; rw [if_pos rfl]
    clear hx
    go_enter Try.func37, Try.ntmps37
    go_wp2_with fail
    go_ret
    exact ⟨_, rfl, owns_build (xs := [ia, b]) (heap_alloc_eq _ _ _ (by simp)) (by simp) (by simp), bel_alloc hd0 _⟩
  rw [if_neg h5]
  by_cases h36 : k = 3 ∨ k = 6
  · rw [if_pos h36]
    have h1 := IsInts.keep (p' := p) h0 (Keep.below hd0)
    clear h2 h4 h5 h7 h9 hx
    rcases h36 with rfl | rfl
    all_goals
      go_enter Try.func37, Try.ntmps37
      go_wp2_with (at_builtin; refine stop_here ?_)
      refine stop_go (wp_cloneI rfl _ _ rfl rfl (l := args) rfl h1 hla ?_)
      intro v' w' ho hb'
      have hb2 := bel_call hd0 hb'
      go_wp2_with fail
      go_ret
      exact ⟨_, rfl, owns_mono ho (by simp), hb2⟩
  · rw [if_neg h36]
    have e2 : (k == 2) = false := by simpa using h2
    have e3 : (k == 3) = false := by simp; omega
    have e4 : (k == 4) = false := by simpa using h4
    have e5 : (k == 5) = false := by simpa using h5
    have e6 : (k == 6) = false := by simp; omega
    have e7 : (k == 7) = false := by simpa using h7
    have e9 : (k == 9) = false := by simpa using h9
    clear h2 h4 h5 h7 h9 h36 hx
    go_enter Try.func37, Try.ntmps37
    go_wp2_with fail
    go_ret
    exact ⟨_, rfl, World.ownsRow_nil _ _ _ _, hd0⟩

set_option maxRecDepth 100000 in
set_option maxHeartbeats 16000000 in
theorem costsR_c (w : World) (nm : ByteArray) (va : Option Addr) (vn vc : Nat) (pa : Option Addr) (pn pc : Nat) (re : ByteArray) (ba : Option Addr) (n bc : Nat) {L : List (List InsD)}
    (h : IsBlocks (· < w.heap.size) w (.slice ba n bc) L) (hl : n ≤ 1000) (hvn : vn ≤ 1000000) (hbd : ∀ l ∈ L, l.length ≤ 100000 ∧ ∀ i ∈ l, i.args.length ≤ 1000000) :
    Calls Try.prog 66 #[funcV nm va vn vc pa pn pc re ba n bc] w fun e w' => ∃ g, e = .returned (.slice (some ⟨g, 0, none⟩) vn vn) ∧ w.heap.size ≤ g ∧ Row w' g 3 (ints (costS vn L)) ∧ Below w.heap.size w w' := by
  unfold funcV
  have hnL : n = L.length := by obtain ⟨_, _, hv0, hl0, hx⟩ := id h; simp only [Value.slice.injEq] at hv0; exact hv0.2.1
  have HNL := hid_of hnL
  have HBD := hid_of hbd
  have HKP : Hid (∀ W, Below w.heap.size w W → IsBlocks (· < w.heap.size) W (.slice ba n bc) L) := fun W hW => h.keep (fun b hb hlt => ⟨hb, hW.block b hlt⟩)
  have hb0 := bel_alloc (bel_refl w) (.cells #[.string nm, .slice va vn vc, .slice pa pn pc, .string re, .slice ba n bc] 44)
  have hr0 : Row (w.alloc (.cells #[.string nm, .slice va vn vc, .slice pa pn pc, .string re, .slice ba n bc] 44)) w.heap.size 44 [.string nm, .slice va vn vc, .slice pa pn pc, .string re, .slice ba n bc] := heap_alloc_eq _ _ _ rfl
  have HB0 := hid_of (And.intro hb0 hr0)
  clear hnL h hbd hb0 hr0
  go_enter Try.func66, Try.ntmps66
  go_wp2_with (at_make; refine stop_here ?_)
  refine stop_go (mk_ints rfl _ _ rfl vn rfl rfl (by omega) ?_)
  go_upto_region 2 with fail
  refine wp_at (fun X => Row X (w.heap.size + 1) 3 (ints (List.replicate vn 0)) ∧ Row X w.heap.size 44 [.string nm, .slice va vn vc, .slice pa pn pc, .string re, .slice ba n bc] ∧ Below w.heap.size w X) ⟨(heap_alloc_eq (w.alloc (.cells #[.string nm, .slice va vn vc, .slice pa pn pc, .string re, .slice ba n bc] 44)) (.cells (Array.replicate vn (.int .i64 0)) 3) _ (by simp)).trans (by simp [ints]), heap_alloc_ne _ _ _ _ HB0.out.2, bel_alloc HB0.out.1 _⟩ ?_
  rintro W1 ⟨hr1, hf1, hb1⟩
  obtain ⟨g, Hg⟩ : ∃ g, Hid (w.heap.size + 1 = g) := ⟨_, (rfl : w.heap.size + 1 = _)⟩
  have HR1 := hid_of hr1
  rw [Hg.out] at HR1
  have HF1 := hid_of hf1
  have Hb1 := hid_of hb1
  have c4 := hf1.cell (k := 4) (v := .slice ba n bc) rfl
  have HD := hid_of (depthR_c W1 ((HKP.out W1 hb1).keep (Keep.refl W1 fun _ hb _ => by have := hb1.size; omega)) hl)
  clear hr1 hf1 hb1 HB0
  try simp only [World.size_alloc]
  rw [Hg.out]
  have hwg : w.heap.size < g := by have := Hg.out; omega
  go_wp2_with fail
  refine HD.out.mono ?_
  rintro e W2 ⟨gd, rfl, hgd, hrd, hb2⟩
  have HDL : Hid ((depthO L (headsS L).length).length = n) := by show _ = _; rw [depthO_length]; exact HNL.out.symm
  have HS0 : Hid (CsSt g w W2 (costK vn L 0) W2) := ⟨hwg, HR1.out.keep (hb2.block g HR1.out.lt), bel_call Hb1.out hb2, Nat.le_refl _, fun _ _ _ => rfl⟩
  have HC4 : Hid (W2.cell? ⟨w.heap.size, 4, none⟩ = some (.slice ba n bc)) := (HF1.out.keep (hb2.block _ HF1.out.lt)).cell (k := 4) (v := .slice ba n bc) rfl
  have HRD := hid_of hrd
  have HGD : Hid (gd ≠ g) := by show _ ≠ _; have := HR1.out.lt; omega
  clear HD hgd hrd hb2 HR1 HF1 Hb1 c4
  go_wp2_with fail
  go_loopw [5] (fun s5 wx => ∃ b : Nat, b ≤ n ∧ s5 = .int .i64 b ∧ Hid (CsSt g w W2 (costK vn L b) wx)) (fun s5 _ => n - (intOf s5).toNat)
  case atStart => exact ⟨0, by omega, rfl, HS0⟩
  case round =>
    obtain ⟨b, hb, rfl, HS⟩ := hrel
    clear HS0
    have c4 := HS.out.cellK (by omega) HC4.out
    by_cases hbt : b < n
    · have hbL : b < L.length := by rw [← HNL.out]; exact hbt
      obtain ⟨_, _, hv0, -, hx⟩ := HKP.out wr HS.out.bel
      simp only [Value.slice.injEq] at hv0
      obtain ⟨rfl, -, rfl⟩ := hv0
      rcases hx with hx | ⟨bb, off, rfl, hpb, hx⟩
      · rw [hx] at hbL; simp at hbL
      obtain ⟨vi, c1, hci⟩ := hx b hbL
      rw [Nat.mul_one] at c1
      obtain ⟨ai, capi, rfl, -, -⟩ := id hci
      obtain ⟨l, Hl⟩ : ∃ l, Hid (L[b] = l) := ⟨_, (rfl : L[b] = _)⟩
      have hbl := HBD.out _ (List.getElem_mem hbL)
      have hks := costK_succ vn L b
      rw [show L.getD b [] = L[b] by simp [List.getD, hbL]] at hks
      rw [Hl.out] at c1 hci hbl hks
      obtain ⟨ln, Hln⟩ : ∃ ln, Hid (l.length = ln) := ⟨_, (rfl : l.length = _)⟩
      rw [Hln.out] at c1 hbl hci
      have HIL : Hid (∀ X, Below w.heap.size w X → IsInsL (· < w.heap.size) X (.slice ai ln capi) l) := fun X hX => IsInsL.move hci HS.out.bel hX
      have HC1 : Hid (∀ X, Below w.heap.size w X → X.cell? ⟨bb, off + b, none⟩ = some (.slice ai ln capi)) := fun X hX => (World.cell?_of_block (a := ⟨bb, off + b, none⟩) ((hX.block bb hpb).trans (HS.out.bel.block bb hpb).symm)).trans c1
      have HKS := hid_of hks
      obtain ⟨O0, HO0⟩ : ∃ O0, Hid (costK vn L b = O0) := ⟨_, (rfl : costK vn L b = _)⟩
      have hol := costK_length vn L b
      have hok := costK_ok vn L b
      rw [HO0.out] at HS HKS hol hok
      obtain ⟨wt, Hwt⟩ : ∃ wt, Hid (wtB L b = wt) := ⟨_, (rfl : wtB L b = _)⟩
      rw [Hwt.out] at HKS
      have HOK := hid_of hok
      have HOL := hid_of hol
      have HAR := hid_of hbl.2
      have hln := hbl.1
      have hb0 : (0 : Int) ≤ (b : Int) := by omega
      have hbz : (b : Int) < (n : Int) := by omega
      clear hx hci hks hok hol hbl
      go_wp2_with fail
      clear c4 c1
      go_loopw [6] (fun s6 wx => ∃ k : Nat, k ≤ ln ∧ s6 = .int .i64 k ∧ Hid (CsSt g w W2 (costB wt O0 (l.take k)) wx)) (fun s6 _ => ln - (intOf s6).toNat)
      case atStart => exact ⟨0, by omega, rfl, HS⟩
      case round =>
        obtain ⟨k, hk, rfl, HSk⟩ := hrel
        clear HS
        have c4 := HSk.out.cellK (by omega) HC4.out
        have c1 := HC1.out wr HSk.out.bel
        by_cases hkt : k < ln
        · have hkl : k < l.length := by rw [Hln.out]; exact hkt
          obtain ⟨_, _, hv0, -, hx⟩ := HIL.out wr HSk.out.bel
          simp only [Value.slice.injEq] at hv0
          obtain ⟨rfl, -, rfl⟩ := hv0
          rcases hx with hx | ⟨lb, lo, rfl, hplb, hx⟩
          · rw [hx] at hkl; simp at hkl
          have hci := hx k hkl
          have hct := costB_take (wt := wt) (O := O0) hkl
          have har := HAR.out _ (List.getElem_mem hkl)
          obtain ⟨ii, Hii⟩ : ∃ ii, Hid (l[k] = ii) := ⟨_, (rfl : l[k] = _)⟩
          rw [Hii.out] at hci hct har
          obtain ⟨O1, HO1⟩ : ∃ O1, Hid (costB wt O0 (l.take k) = O1) := ⟨_, (rfl : costB wt O0 (l.take k) = _)⟩
          have hol1 := costB_length wt O0 (l.take k)
          have hok1 := costB_ok (wt := wt) HOK.out (l.take k)
          rw [HO1.out] at HSk hct hol1 hok1
          rw [HOL.out] at hol1
          have HCT := hid_of hct
          have HOL1 := hid_of hol1
          have HOK1 := hid_of hok1
          have hul := usesS_length ii
          obtain ⟨ik, idd, ja, ib, inn, iname, iargs, it, jf⟩ := ii
          obtain ⟨d0, d1, d2, d3, d4, d5, ⟨v6, d6, hv6⟩, d7, d8⟩ := hci
          obtain ⟨a6, cap6, rfl, hl6, hx6⟩ := id hv6
          dsimp only at d0 d1 d2 d3 d4 d5 d6 d7 d8 hv6 hl6 har hul
          have hk0 : (0 : Int) ≤ (k : Int) := by omega
          have hkz : (k : Int) < (ln : Int) := by omega
          clear hx hx6 hct hol1 hok1
          try clear hci
          go_wp2_with fail
          refine wp_at (fun W => Below wr.heap.size wr W ∧ W.heap.size = wr.heap.size + 1 ∧ Row W wr.heap.size 36 [.int .i64 ik, .int .i64 idd, .int .i64 ja, .int .i64 ib, .int .i64 inn, .string iname, .slice a6 iargs.length cap6, .int .i64 it, .int .i64 jf]) ⟨bel_alloc (bel_refl wr) (.cells #[.int .i64 ik, .int .i64 idd, .int .i64 ja, .int .i64 ib, .int .i64 inn, .string iname, .slice a6 iargs.length cap6, .int .i64 it, .int .i64 jf] 36), by simp, heap_alloc_eq _ _ _ rfl⟩ ?_
          rintro Wi ⟨hb1, hs1, hr1⟩
          have hS : ∀ X, BkS Wi X → X.cell? ⟨wr.heap.size, 0, none⟩ = some (.int .i64 ik) ∧ X.cell? ⟨wr.heap.size, 1, none⟩ = some (.int .i64 idd) ∧ X.cell? ⟨wr.heap.size, 2, none⟩ = some (.int .i64 ja) ∧ X.cell? ⟨wr.heap.size, 3, none⟩ = some (.int .i64 ib) ∧ X.cell? ⟨wr.heap.size, 4, none⟩ = some (.int .i64 inn) ∧ X.cell? ⟨wr.heap.size, 5, none⟩ = some (.string iname) ∧ X.cell? ⟨wr.heap.size, 6, none⟩ = some (.slice a6 iargs.length cap6) ∧ X.cell? ⟨wr.heap.size, 7, none⟩ = some (.int .i64 it) ∧ X.cell? ⟨wr.heap.size, 8, none⟩ = some (.int .i64 jf) := fun X hX => by
            have r := hr1.keep (hX.block _ hr1.lt)
            exact ⟨r.cell rfl, r.cell rfl, r.cell rfl, r.cell rfl, r.cell rfl, r.cell rfl, r.cell rfl, r.cell rfl, r.cell rfl⟩
          obtain ⟨U, HU⟩ : ∃ U, Hid (usesS ⟨ik, idd, ja, ib, inn, iname, iargs, it, jf⟩ = U) := ⟨_, (rfl : usesS ⟨ik, idd, ja, ib, inn, iname, iargs, it, jf⟩ = _)⟩
          obtain ⟨DD, HDf⟩ : ∃ DD, Hid (defS ⟨ik, idd, ja, ib, inn, iname, iargs, it, jf⟩ = DD) := ⟨_, (rfl : defS ⟨ik, idd, ja, ib, inn, iname, iargs, it, jf⟩ = _)⟩
          have hUs : ∀ X, BkS Wi X → Calls Try.prog 37 #[.agg #[.int .i64 ik, .int .i64 idd, .int .i64 ja, .int .i64 ib, .int .i64 inn, .string iname, .slice a6 iargs.length cap6, .int .i64 it, .int .i64 jf]] X fun e X' => ∃ z, e = .returned z ∧ X'.ownsRow Wi.heap.size 3 1 z U.length (ints U) ∧ BkS Wi X' ∧ Below X.heap.size X X' := fun X hX => by
            have := regsO_c X ⟨ik, idd, ja, ib, inn, iname, iargs, it, jf⟩ (.slice a6 iargs.length cap6) (hv6.keep (p' := (· < X.heap.size)) (fun b hb hlt => ⟨by have := hX.size; show b < X.heap.size; omega, (hX.block b (by omega)).trans (hb1.block b (by omega))⟩)) har
            rw [HU.out] at this
            exact this.mono (by rintro e X' ⟨z, rfl, ho, hb⟩; exact ⟨z, rfl, owns_mono ho hX.size, bel_call hX hb, hb⟩)
          have hDs : ∀ X, BkS Wi X → Calls Try.prog 39 #[.agg #[.int .i64 ik, .int .i64 idd, .int .i64 ja, .int .i64 ib, .int .i64 inn, .string iname, .slice a6 iargs.length cap6, .int .i64 it, .int .i64 jf]] X fun e X' => e = .returned (.int .i64 DD) ∧ BkS Wi X' ∧ Below X.heap.size X X' := fun X hX => by
            have := refDef_c X ⟨ik, idd, ja, ib, inn, iname, iargs, it, jf⟩ a6 iargs.length cap6
            rw [HDf.out] at this
            exact this.mono (by rintro e X' ⟨rfl, hb⟩; exact ⟨rfl, bel_call hX hb, hb⟩)
          rw [HU.out] at hul
          have hE0 : BkS Wi Wi := bel_refl Wi
          have hE1 : BkS Wi Wi.drew := (bel_refl Wi).drew
          obtain ⟨i0, hi0, hz0, hz1, hz2⟩ := info_parts infoInt
          have HSi := hid_of (HSk.out.below hb1)
          clear d0 d1 d2 d3 d4 d5 d6 d7 d8 hv6 hl6 hr1 c4 c1
          go_upto_region 10 with fail
          go_cut [8] (fun s8 wx => ∃ va vc, s8 = .slice va (U.length + 1) vc ∧ wx.ownsRow Wi.heap.size 3 1 (.slice va (U.length + 1) vc) (U.length + 1) (ints U ++ [.int .i64 DD]) ∧ BkS Wi wx)
          case first =>
            clear hb1 hs1 HSi
            --[[
            go_region_held3 (fun X => X.cell? ⟨wr.heap.size, 0, none⟩ = some (.int .i64 ik) ∧ X.cell? ⟨wr.heap.size, 1, none⟩ = some (.int .i64 idd) ∧ X.cell? ⟨wr.heap.size, 2, none⟩ = some (.int .i64 ja) ∧ X.cell? ⟨wr.heap.size, 3, none⟩ = some (.int .i64 ib) ∧ X.cell? ⟨wr.heap.size, 4, none⟩ = some (.int .i64 inn) ∧ X.cell? ⟨wr.heap.size, 5, none⟩ = some (.string iname) ∧ X.cell? ⟨wr.heap.size, 6, none⟩ = some (.slice a6 iargs.length cap6) ∧ X.cell? ⟨wr.heap.size, 7, none⟩ = some (.int .i64 it) ∧ X.cell? ⟨wr.heap.size, 8, none⟩ = some (.int .i64 jf))
              ((refine hS _ ?_; (first | with_reducible assumption | exact bel_alloc hEd _ | exact bel_alloc hEu _)))
              (first
                | (go_at_call 37; (with_reducible refine (hUs _ ?_).mono ?_); (first | with_reducible assumption | exact bel_alloc hEd _); rintro e Yu ⟨zu, rfl, hou, hEu, hbu⟩)
                | (go_at_call 39; (with_reducible refine (hDs _ ?_).mono ?_); (with_reducible assumption); rintro e Yd ⟨rfl, hEd, hbd⟩)
                | (refine step_append_lies _ (by rfl) _ _ _ (by rfl) Wi.heap.size 3 i0 _ 1 8 Try.underlying25 hi0 hz0 hz1 hz2 rfl (by omega) zu U.length (ints U) (by rfl) (owns_below hou (bel_alloc hbd _)) ⟨Yd.heap.size, 0, none⟩ 1 1 [.int .i64 DD] (by rfl) (by rfl) (World.news_of_block (cs := #[.int .i64 DD]) (t := 3) (fr := (0, 0)) (heap_alloc_new Yd _)) (by simp [Value.oneCell']) (by omega) (by unfold maxLen; omega) (by omega) (by have := hEd.size; simp; omega) _ rfl ?_; intro gg cap w1 hown1 hgrow hat hlt; have hB1 : BkS Wi _ := bel_grown (bel_alloc hEd _) hgrow (fun b e => (hou.lt b e).1)))
            all_goals (try go_wp2_with fail)
            all_goals go_meet
            all_goals exact ⟨_, _, rfl, hown1, hB1⟩
            --]]
          case rest =>
            obtain ⟨qa, qc, rfl, hoR, hBk⟩ := hcut
            obtain ⟨W5, rfl⟩ : ∃ W5, W5 = wc := ⟨wc, rfl⟩
            have HSc := hid_of (HSi.out.below hBk)
            have hR0 : ints U ++ [.int .i64 DD] = ints (U ++ [DD]) := by simp [ints]
            rw [hR0] at hoR
            have HRe : Hid (regsS ⟨ik, idd, ja, ib, inn, iname, iargs, it, jf⟩ = U ++ [DD]) := by show _ = _; unfold regsS; rw [HU.out, HDf.out]
            obtain ⟨R, HR⟩ : ∃ R, Hid (U ++ [DD] = R) := ⟨_, (rfl : U ++ [DD] = _)⟩
            have hRl : (U ++ [DD]).length = U.length + 1 := by simp
            rw [HR.out] at hoR HRe hRl
            have hCI : costI wt O1 ⟨ik, idd, ja, ib, inn, iname, iargs, it, jf⟩ = R.foldl (cost1 wt) O1 := by unfold costI; rw [HRe.out]
            have hct := HCT.out
            rw [hCI] at hct
            have HCT2 := hid_of hct
            obtain ⟨rn, Hrn⟩ : ∃ rn, Hid (U.length + 1 = rn) := ⟨_, (rfl : U.length + 1 = _)⟩
            rw [Hrn.out] at hoR hRl ⊢
            have hrn : rn ≤ 1000010 := by have := Hrn.out; omega
            have hri : IsInts (Wi.heap.size ≤ ·) W5 (.slice qa rn qc) R := ints_of_owns (by rw [hRl]; exact hoR) (by omega) (fun _ _ h _ => h)
            obtain ⟨_, _, hv0, -, hrx⟩ := id hri
            simp only [Value.slice.injEq] at hv0
            obtain ⟨rfl, -, rfl⟩ := hv0
            have HRX := hid_of hrx
            have HRL := hid_of hRl
            have hgWi : g < Wi.heap.size := HSi.out.row.lt
            have HT0 : Hid (CsSt g w W5 ((R.take 0).foldl (cost1 wt) O1) W5) := HSc.out.here
            clear hE0 hE1 hUs hDs hS hoR hR0 hCI hct hri hrx hRl hBk HSi
            go_wp2_with fail
            go_loopw [9] (fun s9 wx => ∃ j : Nat, j ≤ rn ∧ s9 = .int .i64 j ∧ Hid (CsSt g w W5 ((R.take j).foldl (cost1 wt) O1) wx)) (fun s9 _ => rn - (intOf s9).toNat)
            case atStart => exact ⟨0, by omega, rfl, HT0⟩
            case round =>
              obtain ⟨j, hj, rfl, HSj⟩ := hrel
              clear HT0
              by_cases hjt : j < rn
              · have hjR : j < R.length := by rw [HRL.out]; exact hjt
                rcases HRX.out with hx | ⟨qb, qo, rfl, hqb, hx⟩
                · exfalso; rw [hx] at hjR; simp at hjR
                have e0 := hx j hjR
                unfold CInt at e0
                rw [Nat.mul_one] at e0
                have hqg : qb ≠ g := by omega
                have e1 := HSj.out.cellK hqg e0
                have hti := costI_take (wt := wt) (O := O1) hjR
                obtain ⟨v, Hv⟩ : ∃ v, Hid (R[j] = v) := ⟨_, (rfl : R[j] = _)⟩
                rw [Hv.out] at e1 hti
                obtain ⟨O2, HO2⟩ : ∃ O2, Hid ((R.take j).foldl (cost1 wt) O1 = O2) := ⟨_, (rfl : (R.take j).foldl (cost1 wt) O1 = _)⟩
                have hol2 : O2.length = vn := by rw [← HO2.out, fold_length _ (cost1_length wt)]; exact HOL1.out
                have hok2 : OkC O2 := by rw [← HO2.out]; exact fold_ok _ (fun _ _ h => cost1_ok h _) _ _ HOK1.out
                rw [HO2.out] at HSj hti
                have HTI := hid_of hti
                have hj0 : (0 : Int) ≤ (j : Int) := by omega
                have hjz : (j : Int) < (rn : Int) := by omega
                have HOL2 := hid_of hol2
                clear hx e0 hti
                by_cases hv0 : v < 0
                · have d1 : decide (v < 0) = true := by simpa using hv0
                  have HE : Hid (List.foldl (cost1 wt) O1 (R.take (j + 1)) = O2) := by show _ = _; rw [HTI.out]; unfold cost1; rw [if_neg (by omega)]
                  clear hv0 hol2 hok2
                  go_wp2_with fail
                  go_roundw
                  case rel => exact ⟨j + 1, by omega, by go_num, by rw [HE.out]; exact HSj⟩
                  case measure => simp [intOf]; omega
                have d1 : decide (v < 0) = false := by simpa using hv0
                by_cases hvv : v ≥ (vn : Int)
                · have d2 : decide (v ≥ (vn : Int)) = true := by simpa using hvv
                  have d2' : decide ((vn : Int) ≤ v) = true := by simpa using hvv
                  have HE : Hid (List.foldl (cost1 wt) O1 (R.take (j + 1)) = O2) := by show _ = _; rw [HTI.out]; unfold cost1; rw [if_neg (by omega)]
                  clear hvv hol2 hok2 hv0
                  go_wp2_with fail
                  go_roundw
                  case rel => exact ⟨j + 1, by omega, by go_num, by rw [HE.out]; exact HSj⟩
                  case measure => simp [intOf]; omega
                obtain ⟨vN, rfl⟩ : ∃ vN : Nat, v = vN := ⟨v.toNat, by omega⟩
                have d2 : decide ((vN : Int) ≥ (vn : Int)) = false := by simp; omega
                have d2' : decide ((vn : Int) ≤ (vN : Int)) = false := by simp; omega
                have d2n : decide (vn ≤ vN) = false := by simp; omega
                have hvO : vN < O2.length := by omega
                have hcv := hok2 vN
                obtain ⟨cv, Hcv⟩ : ∃ cv, Hid (O2.getD vN 0 = cv) := ⟨_, (rfl : O2.getD vN 0 = _)⟩
                rw [Hcv.out] at hcv
                have q1 := HSj.out.row.cell (k := vN) (v := .int .i64 cv) (by
                  have := Hcv.out
                  simp only [List.getD, List.getElem?_eq_getElem hvO, Option.getD_some] at this
                  simp [ints, hvO, this])
                have f1 := HSj.out.row.frozen vN
                have hnd : b < (depthO L (headsS L).length).length := by rw [HDL.out]; exact hbt
                obtain ⟨dv, Hdv⟩ : ∃ dv, Hid ((depthO L (headsS L).length)[b] = dv) := ⟨_, (rfl : (depthO L (headsS L).length)[b] = _)⟩
                have e2 := HRD.out.cell (k := b) (v := .int .i64 dv) (by simp [ints, hnd, ← Hdv.out])
                have hwv : wtS dv = wt := by rw [← Hwt.out, ← Hdv.out]; unfold wtB; simp [depthO]
                have q2 := HSj.out.cellK HGD.out (HSc.out.cellK HGD.out e2)
                have hwt := wtS_le dv
                rw [hwv] at hwt
                have HWt := hid_of (fun W => weightR_c W dv)
                rw [hwv] at HWt
                obtain ⟨nv, Hnv⟩ : ∃ nv, Hid (min (cv + (wt : Int)) 1099511627776 = nv) := ⟨_, (rfl : min (cv + (wt : Int)) 1099511627776 = _)⟩
                have HE : Hid (List.foldl (cost1 wt) O1 (R.take (j + 1)) = O2.set vN nv) := by show _ = _; rw [HTI.out]; unfold cost1; rw [if_pos ⟨by omega, by omega⟩, Int.toNat_natCast, Hcv.out, Hnv.out]
                obtain ⟨sv, Hsv⟩ : ∃ sv, Hid (cv + (wt : Int) = sv) := ⟨_, (rfl : cv + (wt : Int) = _)⟩
                have hsv : cv + (wt : Int) = sv := Hsv.out
                have hsw : IntKind.i64.wrap sv = sv := by rw [IntKind.wrap_i64]; omega
                have hsw2 : wrap64 sv = sv := by unfold wrap64; omega
                have hvz0 : (0 : Int) ≤ (vN : Int) := by omega
                have hvz1 : (vN : Int) < (vn : Int) := by omega
                have hgl := HSj.out.row.lt
                have hwc := HWt.out
                have hcv0 := hcv.1
                have hcv1 := hcv.2
                have hwt1 : (wt : Int) ≤ 1000000 := by omega
                have hgW : ∀ d, (wr.drewN d).cell? ⟨qb, qo + j, none⟩ = some (.int .i64 (vN : Int)) ∧ (wr.drewN d).cell? ⟨gd, b, none⟩ = some (.int .i64 dv) := fun d => ⟨e1, q2⟩
                have hgS : ∀ d, ((wr.drewN d).setCell ⟨g, vN, none⟩ (.int .i64 sv)).cell? ⟨qb, qo + j, none⟩ = some (.int .i64 (vN : Int)) ∧ ((wr.drewN d).setCell ⟨g, vN, none⟩ (.int .i64 sv)).cell? ⟨gd, b, none⟩ = some (.int .i64 dv) := fun d =>
                  ⟨(World.cell?_of_block (a := ⟨qb, qo + j, none⟩) (Below.heap_setCell _ _ _ _ hqg)).trans e1, (World.cell?_of_block (a := ⟨gd, b, none⟩) (Below.heap_setCell _ _ _ _ HGD.out)).trans q2⟩
                clear e2 Hdv hnd hol2 hok2 hv0 hvv Hcv hwv hwt hcv
                go_upto_region 15 with fail
                go_cut [] (fun wx => ∃ d, wx = (wr.drewN d).setCell ⟨g, vN, none⟩ (.int .i64 sv))
                case first =>
                  clear d1 d2 d2' d2n
                  refine wp_region_noPanic ?_
                  refine wp_region_held_drew (S := fun Y => Y.cell? ⟨qb, qo + j, none⟩ = some (.int .i64 (vN : Int)) ∧ Y.cell? ⟨gd, b, none⟩ = some (.int .i64 dv)) (by kernel_rfl) (by exact hgW 1) (fun hHeld => ?_)
                  refine wpAnyH_take (i := 0) (v := ?_) rfl (by kernel_rfl) (by kernel_rfl) (by kernel_rfl) (fun _ _ _ h => h) (Or.inl ⟨by rfl, ?_⟩) (by assumption) ?_
                  rotate_left
                  · intro w hSw; (try dsimp only at hSw); go_simp; all_goals (with_reducible rfl)
                  refine wpAnyH_take (i := 1) (v := ?_) rfl (by kernel_rfl) (by kernel_rfl) (by kernel_rfl) (fun _ _ _ h => h) (Or.inl ⟨by rfl, ?_⟩) (by assumption) ?_
                  rotate_left
                  · intro w hSw; (try dsimp only at hSw); go_simp; all_goals (with_reducible rfl)
                  refine wpAnyH_take (i := 2) (v := ?_) rfl (by kernel_rfl) (by kernel_rfl) (by kernel_rfl) (fun _ _ _ h => h) (Or.inl ⟨by rfl, ?_⟩) (by assumption) ?_
                  rotate_left
                  · intro w hSw; (try dsimp only at hSw); go_simp; all_goals (with_reducible rfl)
                  refine wpAnyH_take (i := 3) (v := ?_) rfl (by kernel_rfl) (by kernel_rfl) (by kernel_rfl) (fun _ _ _ h => h) (Or.inl ⟨by rfl, ?_⟩) (by assumption) ?_
                  rotate_left
                  · intro w hSw; (try dsimp only at hSw); go_simp; all_goals (with_reducible rfl)
                  refine wpAnyH_take (i := 4) (v := ?_) rfl (by kernel_rfl) (by kernel_rfl) (by kernel_rfl) (fun _ _ _ h => h) (Or.inl ⟨by rfl, ?_⟩) (by assumption) ?_
                  rotate_left
                  · intro w hSw; (try dsimp only at hSw); go_simp; all_goals (with_reducible rfl)
                  refine wpAnyH_take (i := 5) (v := ?_) rfl (by kernel_rfl) (by kernel_rfl) (by kernel_rfl) (fun _ _ _ h => h) (Or.inl ⟨by rfl, ?_⟩) (by assumption) ?_
                  rotate_left
                  · intro w hSw; (try dsimp only at hSw); go_simp; all_goals (with_reducible rfl)
                  refine wpAnyH_take (i := 6) (v := ?_) rfl (by kernel_rfl) (by kernel_rfl) (by kernel_rfl) (fun _ _ _ h => h) (Or.inl ⟨by rfl, ?_⟩) (by assumption) ?_
                  rotate_left
                  · intro w hSw; (try dsimp only at hSw); go_simp; all_goals (with_reducible rfl)
                  refine wpAnyH_take (i := 7) (v := ?_) rfl (by kernel_rfl) (by kernel_rfl) (by kernel_rfl) (fun _ _ _ h => h) (Or.inl ⟨by rfl, ?_⟩) (by assumption) ?_
                  rotate_left
                  · intro w hSw; (try dsimp only at hSw); go_simp; all_goals (with_reducible rfl)
                  refine wpAnyH_take (i := 8) (v := ?_) rfl (by kernel_rfl) (by kernel_rfl) (by kernel_rfl) (fun _ _ _ h => h) (Or.inl ⟨by rfl, ?_⟩) (by assumption) ?_
                  rotate_left
                  · intro w hSw; (try dsimp only at hSw); go_simp; all_goals (with_reducible rfl)
                  refine wpAnyH_take (i := 9) (v := ?_) rfl (by kernel_rfl) (by kernel_rfl) (by kernel_rfl) (fun _ _ _ h => h) (Or.inl ⟨by rfl, ?_⟩) (by assumption) ?_
                  rotate_left
                  · intro w hSw; (try dsimp only at hSw); go_simp; all_goals (with_reducible rfl)
                  refine wpAnyH_take (i := 10) (v := ?_) rfl (by kernel_rfl) (by kernel_rfl) (by kernel_rfl) (fun _ _ _ h => h) (Or.inl ⟨by rfl, ?_⟩) (by assumption) ?_
                  rotate_left
                  · intro w hSw; (try dsimp only at hSw); go_simp; all_goals (with_reducible rfl)
                  refine wpAnyH_take (i := 12) (v := ?_) rfl (by kernel_rfl) (by kernel_rfl) (by kernel_rfl) (fun _ _ _ h => h) (Or.inl ⟨by rfl, ?_⟩) (by assumption) ?_
                  rotate_left
                  · intro w hSw; (try dsimp only at hSw); go_simp; all_goals (with_reducible rfl)
                  refine wpAnyH_take (i := 13) (v := ?_) rfl (by kernel_rfl) (by kernel_rfl) (by kernel_rfl) (fun _ _ _ h => h) (Or.inl ⟨by rfl, ?_⟩) (by assumption) ?_
                  rotate_left
                  · intro w hSw; (try dsimp only at hSw); go_simp; all_goals (with_reducible rfl)
                  refine wpAnyH_take (i := 14) (v := ?_) rfl (by kernel_rfl) (by kernel_rfl) (by kernel_rfl) (fun _ _ _ h => h) (Or.inl ⟨by rfl, ?_⟩) (by assumption) ?_
                  rotate_left
                  · intro w hSw; (try dsimp only at hSw); go_simp; all_goals (with_reducible rfl)
                  refine wpAnyH_take (i := 15) (v := ?_) rfl (by kernel_rfl) (by kernel_rfl) (by kernel_rfl) (fun _ _ _ h => h) (Or.inl ⟨by rfl, ?_⟩) (by assumption) ?_
                  rotate_left
                  · intro w hSw; (try dsimp only at hSw); go_simp; all_goals (with_reducible rfl)
                  try simp only [Act.put, List.setIfInBounds_toArray]
                  refine wpAnyH_ready (rs := [11, 16]) (by kernel_rfl) (by simp) ?_
                  refine AllReadyH.cons rfl (fun K hK => ?_) (AllReadyH.cons rfl (fun K hK => ?_) AllReadyH.nil)
                  · skip
                    go_simp
                    refine hK.out _ _ (by (first | exact hgW 0 | exact hgW 1 | exact hgW _ | exact hgS _)) (fun hHeld => ?_)
                    clear hK K
                    try simp only [Act.put, List.setIfInBounds_toArray, List.set_cons_zero, List.set_cons_succ]
                    refine wpAnyH_ready (rs := [16]) (by kernel_rfl) (by simp) ?_
                    refine AllReadyH.cons rfl (fun K hK => ?_) AllReadyH.nil
                    go_simp
                    (go_at_call 69; refine (hwc _).mono ?_; rintro e5 Y ⟨rfl, rfl⟩; go_wp2_with fail)
                    refine hK.out _ _ (by (first | exact hgW 0 | exact hgW 1 | exact hgW _ | exact hgS _)) (fun hHeld => ?_)
                    clear hK K
                    try simp only [Act.put, List.setIfInBounds_toArray, List.set_cons_zero, List.set_cons_succ]
                    refine wpAnyH_take (i := 17) (v := ?_) rfl (by kernel_rfl) (by kernel_rfl) (by kernel_rfl) (fun _ _ _ h => h) (Or.inl ⟨by rfl, ?_⟩) (by assumption) ?_
                    rotate_left
                    · intro w hSw; (try dsimp only at hSw); go_simp; all_goals (with_reducible rfl)
                    refine wpAnyH_take (i := 18) (v := ?_) rfl (by kernel_rfl) (by kernel_rfl) (by kernel_rfl) (fun _ _ _ h => h) (Or.inl ⟨by rfl, ?_⟩) (by assumption) ?_
                    rotate_left
                    · intro w hSw; (try dsimp only at hSw); go_simp; all_goals (with_reducible rfl)
                    try simp only [Act.put, List.setIfInBounds_toArray]
                    refine wpAnyH_ready (rs := [19]) (by kernel_rfl) (by simp) ?_
                    refine AllReadyH.cons rfl (fun K hK => ?_) AllReadyH.nil
                    go_simp
                    refine hK.out _ _ (by (first | exact hgW 0 | exact hgW 1 | exact hgW _ | exact hgS _)) (fun hHeld => ?_)
                    clear hK K
                    try simp only [Act.put, List.setIfInBounds_toArray, List.set_cons_zero, List.set_cons_succ]
                    refine wpAnyH_done (by kernel_rfl) ?_ _
                    refine NoPanic.normal ?_
                    (try go_wp2_with fail)
                    go_meet
                    exact ⟨1, rfl⟩
                  · skip
                    go_simp
                    (go_at_call 69; refine (hwc _).mono ?_; rintro e5 Y ⟨rfl, rfl⟩; go_wp2_with fail)
                    refine hK.out _ _ (by (first | exact hgW 0 | exact hgW 1 | exact hgW _ | exact hgS _)) (fun hHeld => ?_)
                    clear hK K
                    try simp only [Act.put, List.setIfInBounds_toArray, List.set_cons_zero, List.set_cons_succ]
                    refine wpAnyH_ready (rs := [11]) (by kernel_rfl) (by simp) ?_
                    refine AllReadyH.cons rfl (fun K hK => ?_) AllReadyH.nil
                    go_simp
                    refine hK.out _ _ (by (first | exact hgW 0 | exact hgW 1 | exact hgW _ | exact hgS _)) (fun hHeld => ?_)
                    clear hK K
                    try simp only [Act.put, List.setIfInBounds_toArray, List.set_cons_zero, List.set_cons_succ]
                    refine wpAnyH_take (i := 17) (v := ?_) rfl (by kernel_rfl) (by kernel_rfl) (by kernel_rfl) (fun _ _ _ h => h) (Or.inl ⟨by rfl, ?_⟩) (by assumption) ?_
                    rotate_left
                    · intro w hSw; (try dsimp only at hSw); go_simp; all_goals (with_reducible rfl)
                    refine wpAnyH_take (i := 18) (v := ?_) rfl (by kernel_rfl) (by kernel_rfl) (by kernel_rfl) (fun _ _ _ h => h) (Or.inl ⟨by rfl, ?_⟩) (by assumption) ?_
                    rotate_left
                    · intro w hSw; (try dsimp only at hSw); go_simp; all_goals (with_reducible rfl)
                    try simp only [Act.put, List.setIfInBounds_toArray]
                    refine wpAnyH_ready (rs := [19]) (by kernel_rfl) (by simp) ?_
                    refine AllReadyH.cons rfl (fun K hK => ?_) AllReadyH.nil
                    go_simp
                    refine hK.out _ _ (by (first | exact hgW 0 | exact hgW 1 | exact hgW _ | exact hgS _)) (fun hHeld => ?_)
                    clear hK K
                    try simp only [Act.put, List.setIfInBounds_toArray, List.set_cons_zero, List.set_cons_succ]
                    refine wpAnyH_done (by kernel_rfl) ?_ _
                    refine NoPanic.normal ?_
                    (try go_wp2_with fail)
                    go_meet
                    exact ⟨1, rfl⟩
                case rest =>
                  obtain ⟨dd, hwx⟩ := hcut
                  subst hwx
                  have hS3 := (show CsSt g w W5 O2 (wr.drewN dd) from ⟨HSj.out.lo, HSj.out.row, bel_drewN HSj.out.bel dd, HSj.out.sz, HSj.out.kq⟩).put vN sv
                  have q3 := hS3.row.cell (k := vN) (v := .int .i64 sv) (by simp [ints, hvO])
                  have f3 := hS3.row.frozen vN
                  have e3 := (hgS dd).1
                  have HS3 := hid_of hS3
                  have HS4 := hid_of (hS3.put vN 1099511627776)
                  have HOO : Hid ((O2.set vN sv).set vN 1099511627776 = O2.set vN 1099511627776) := by show _ = _; rw [List.set_set]
                  clear hS3 hgW hgS q1 f1 q2 e1 hwc
                  obtain ⟨Wz, Hwz⟩ : ∃ Wz, Wz = (wr.drewN dd).setCell ⟨g, vN, none⟩ (.int .i64 sv) := ⟨_, rfl⟩
                  rw [← Hwz] at HS3 HS4 q3 f3 e3 ⊢
                  clear Hwz
                  by_cases hbig : sv > 1099511627776
                  · have d5 : decide (sv > 1099511627776) = true := by simpa using hbig
                    have d5' : decide (1099511627776 < sv) = true := by simpa using hbig
                    have HE2 : Hid (List.foldl (cost1 wt) O1 (R.take (j + 1)) = O2.set vN 1099511627776) := by
                      show _ = _
                      rw [HE.out]
                      congr 1
                      rw [← Hnv.out, hsv]; omega
                    have HFN : Hid (CsSt g w W5 (O2.set vN 1099511627776) (Wz.setCell ⟨g, vN, none⟩ (.int .i64 1099511627776))) := by show CsSt _ _ _ _ _; rw [← HOO.out]; exact HS4.out
                    clear hbig hsv hsw hsw2
                    go_wp2_with fail
                    clear q3 f3 e3
                    go_roundw
                    case rel => exact ⟨j + 1, by omega, by go_num, by rw [HE2.out]; exact HFN⟩
                    case measure => simp [intOf]; omega
                  · have d5 : decide (sv > 1099511627776) = false := by simpa using hbig
                    have d5' : decide (1099511627776 < sv) = false := by simpa using hbig
                    have HE2 : Hid (List.foldl (cost1 wt) O1 (R.take (j + 1)) = O2.set vN sv) := by
                      show _ = _
                      rw [HE.out]
                      congr 1
                      rw [← Hnv.out, hsv]; omega
                    clear hbig hsv hsw hsw2
                    go_wp2_with fail
                    clear q3 f3 e3
                    go_roundw
                    case rel => exact ⟨j + 1, by omega, by go_num, by rw [HE2.out]; exact HS3⟩
                    case measure => simp [intOf]; omega
              · obtain rfl : j = rn := by omega
                have hs := HSj.out
                rw [List.take_of_length_le (by rw [HRL.out]; exact Nat.le_refl _), ← HCT2.out] at hs
                have HSE := hid_of (hs.up HSc.out)
                clear hs
                go_wp2_with fail
                go_roundw
                case rel => exact ⟨k + 1, by omega, by go_num, HSE⟩
                case measure => simp [intOf]; omega
        · obtain rfl : k = ln := by omega
          have hs := HSk.out
          rw [List.take_of_length_le (by rw [Hln.out]; exact Nat.le_refl _), ← HKS.out] at hs
          have HSE := hid_of hs
          clear hs
          go_wp2_with fail
          go_roundw
          case rel => exact ⟨b + 1, by omega, by go_num, HSE⟩
          case measure => simp [intOf]; omega
    · obtain rfl : b = n := by omega
      have hs := HS.out
      have HE : Hid (costS vn L = costK vn L b) := by show _ = _; unfold costS; rw [HNL.out]
      go_wp2_with fail
      go_ret
      exact ⟨g, rfl, by omega, by rw [HE.out]; exact hs.row, hs.bel⟩
end Go.Proofs.Ytcihobmjohpnkaa
