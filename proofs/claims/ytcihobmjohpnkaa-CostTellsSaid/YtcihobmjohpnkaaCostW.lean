/- 'cost.Costs': the walk. -/
import Derived.Test.YtcihobmjohpnkaaCost
import Derived.Test.YtcihobmjohpnkaaLvB
import Derived.Test.YtcihobmjohpnkaaUses2
import Derived.Deep.AppendLies
import Derived.Deep.RegionLaw
import Derived.Deep.RegionHeld3
import Derived.Deep.RegionHeldLaw
import Derived.Deep.CutBlock
namespace Go.Proofs.Ytcihobmjohpnkaa
open Go.RowKit Go.Sort

/-- While costs are written: the row at g, all else as it was. -/
structure CsSt (g : Nat) (w wo : World) (O : List Int) (W : World) : Prop where
  lo : w.heap.size < g
  row : Row W g 3 (ints O)
  bel : Below w.heap.size w W
  sz : wo.heap.size ≤ W.heap.size
  kq : ∀ b, b ≠ g → b < wo.heap.size → W.heap[b]? = wo.heap[b]?
theorem CsSt.below {g : Nat} {w wo : World} {O : List Int} {W W' : World} (h : CsSt g w wo O W) (hb : Below W.heap.size W W') : CsSt g w wo O W' :=
  ⟨h.lo, h.row.keep (hb.block g h.row.lt), bel_call h.bel hb, by have := hb.size; have := h.sz; omega, fun b h1 h2 => (hb.block b (by have := h.sz; omega)).trans (h.kq b h1 h2)⟩
theorem CsSt.put {g : Nat} {w wo : World} {O : List Int} {W : World} (h : CsSt g w wo O W) (k : Nat) (x : Int) : CsSt g w wo (O.set k x) (W.setCell ⟨g, k, none⟩ (.int .i64 x)) :=
  ⟨h.lo, by have := h.row.set k (.int .i64 x); rw [ints_set] at this; exact this, h.bel.setCell (by have := h.lo; show w.heap.size ≤ g; omega) _, by simpa using h.sz, fun b h1 h2 => (Below.heap_setCell _ _ _ _ h1).trans (h.kq b h1 h2)⟩
theorem IsInsL.move {W X w : World} {v : Value} {l : List InsD} (h : IsInsL (· < w.heap.size) W v l) (hW : Below w.heap.size w W) (hX : Below w.heap.size w X) : IsInsL (· < w.heap.size) X v l :=
  h.keep fun b hb _ => ⟨hb, (hX.block b hb).trans (hW.block b hb).symm⟩
theorem CsSt.up {g : Nat} {w wo wc : World} {O O' : List Int} {W : World} (h : CsSt g w wc O W) (h0 : CsSt g w wo O' wc) : CsSt g w wo O W :=
  ⟨h.lo, h.row, h.bel, Nat.le_trans h0.sz h.sz, fun b h1 h2 => (h.kq b h1 (by have := h0.sz; omega)).trans (h0.kq b h1 h2)⟩
theorem CsSt.here {g : Nat} {w wo : World} {O : List Int} {W : World} (h : CsSt g w wo O W) : CsSt g w W O W := ⟨h.lo, h.row, h.bel, Nat.le_refl _, fun _ _ _ => rfl⟩
theorem CsSt.drew {g : Nat} {w wo : World} {O : List Int} {W : World} (h : CsSt g w wo O W) : CsSt g w wo O W.drew := ⟨h.lo, h.row, h.bel.drew, h.sz, h.kq⟩
theorem added_c (w : World) (a b : Int) (ha : 0 ≤ a ∧ a ≤ 1099511627776) (hb : 0 ≤ b ∧ b ≤ 1099511627776) :
    Calls Try.prog 97 #[.int .i64 a, .int .i64 b, .int .i64 1099511627776] w fun e w' => e = .returned (.int .i64 (min (a + b) 1099511627776)) ∧ w' = w := by
  obtain ⟨a1, a2⟩ := ha
  obtain ⟨b1, b2⟩ := hb
  by_cases h : a > 1099511627776 - b
  · have d : decide (a > 1099511627776 - b) = true := by simpa using h
    have d' : decide (1099511627776 - b < a) = true := by simpa using h
    have HE : Hid (min (a + b) 1099511627776 = 1099511627776) := by show _ = _; omega
    clear h
    go_enter Try.func97, Try.ntmps97
    go_wp2_with fail
    go_ret
    exact ⟨by rw [HE.out]; rfl, rfl⟩
  · have d : decide (a > 1099511627776 - b) = false := by simpa using h
    have d' : decide (1099511627776 - b < a) = false := by simpa using h
    have HE : Hid (min (a + b) 1099511627776 = a + b) := by show _ = _; omega
    clear h
    go_enter Try.func97, Try.ntmps97
    go_wp2_with fail
    go_ret
    exact ⟨by rw [HE.out]; rfl, rfl⟩

set_option maxRecDepth 100000 in
set_option maxHeartbeats 16000000 in
theorem costs_c (w : World) (nm : ByteArray) (va : Option Addr) (vn vc : Nat) (pa : Option Addr) (pn pc : Nat) (re : ByteArray) (ba : Option Addr) (n bc : Nat) {L : List (List InsD)}
    (h : IsBlocks (· < w.heap.size) w (.slice ba n bc) L) (hl : n ≤ 1000) (hvn : vn ≤ 1000000) (hbd : ∀ l ∈ L, l.length ≤ 100000 ∧ ∀ i ∈ l, (usesS i).length ≤ 1000002) :
    Calls Try.prog 64 #[funcV nm va vn vc pa pn pc re ba n bc] w fun e w' => ∃ g, e = .returned (.slice (some ⟨g, 0, none⟩) vn vn) ∧ w.heap.size ≤ g ∧ Row w' g 3 (ints (costS vn L)) ∧ Below w.heap.size w w' := by
  unfold funcV
  have hnL : n = L.length := by obtain ⟨_, _, hv0, hl0, hx⟩ := id h; simp only [Value.slice.injEq] at hv0; exact hv0.2.1
  have HNL := hid_of hnL
  have HBD := hid_of hbd
  have HKP : Hid (∀ W, Below w.heap.size w W → IsBlocks (· < w.heap.size) W (.slice ba n bc) L) := fun W hW => h.keep (fun b hb hlt => ⟨hb, hW.block b hlt⟩)
  have hb0 := bel_alloc (bel_refl w) (.cells #[.string nm, .slice va vn vc, .slice pa pn pc, .string re, .slice ba n bc] 44)
  have hr0 : Row (w.alloc (.cells #[.string nm, .slice va vn vc, .slice pa pn pc, .string re, .slice ba n bc] 44)) w.heap.size 44 [.string nm, .slice va vn vc, .slice pa pn pc, .string re, .slice ba n bc] := heap_alloc_eq _ _ _ rfl
  have hra : Row ((w.alloc (.cells #[.string nm, .slice va vn vc, .slice pa pn pc, .string re, .slice ba n bc] 44)).alloc (.cells (ints (List.replicate vn 0)).toArray 3)) (w.heap.size + 1) 3 (ints (List.replicate vn 0)) := heap_alloc_eq _ _ _ (by simp)
  have HQ := hid_of (And.intro hra (And.intro (heap_alloc_ne _ (.cells (ints (List.replicate vn 0)).toArray 3) _ _ hr0) (bel_alloc hb0 (.cells (ints (List.replicate vn 0)).toArray 3))))
  clear hnL h hra hbd hb0 hr0
  go_enter Try.func64, Try.ntmps64
  go_wp2_with (at_make; refine stop_here ?_)
  refine stop_go (mk_ints rfl _ _ rfl vn rfl rfl (by omega) ?_)
  refine k_at (fun X => Row X (w.heap.size + 1) 3 (ints (List.replicate vn 0)) ∧ Row X w.heap.size 44 [.string nm, .slice va vn vc, .slice pa pn pc, .string re, .slice ba n bc] ∧ Below w.heap.size w X) HQ.out ?_
  rintro W1 ⟨hr1, hf1, hb1⟩
  have hgsz : (w.alloc (.cells #[.string nm, .slice va vn vc, .slice pa pn pc, .string re, .slice ba n bc] 44)).heap.size = w.heap.size + 1 := by simp
  obtain ⟨g, Hg⟩ : ∃ g, Hid (w.heap.size + 1 = g) := ⟨_, (rfl : w.heap.size + 1 = _)⟩
  have HR1 := hid_of hr1
  rw [Hg.out] at HR1
  have HF1 := hid_of hf1
  have Hb1 := hid_of hb1
  have c4 := hf1.cell (k := 4) (v := .slice ba n bc) rfl
  have HD := hid_of (depth_c W1 ((HKP.out W1 hb1).keep (Keep.refl W1 fun _ hb hlt => hlt)) hl)
  clear HQ hr1 hf1 hb1
  rw [hgsz, Hg.out]
  have hwg : w.heap.size < g := by have := Hg.out; omega
  clear hgsz
  go_wp2_with fail
  refine HD.out.mono ?_
  rintro e W2 ⟨z, rfl, ho, hb2⟩
  have hdl : (depthO L (headsS L).length).length = n := by rw [depthO_length]; exact HNL.out.symm
  have hdi : IsInts (W1.heap.size ≤ ·) W2 z (depthO L (headsS L).length) := ints_of_owns (by rw [hdl]; exact ho) (by rw [hdl]; omega) (fun _ _ h _ => h)
  obtain ⟨za, zc, rfl, -, hzx⟩ := id hdi
  rw [hdl]
  have HX := hid_of hzx
  have HDL := hid_of hdl
  have HS0 : Hid (CsSt g w W2 (costK vn L 0) W2) := ⟨hwg, HR1.out.keep (hb2.block g HR1.out.lt), bel_call Hb1.out hb2, Nat.le_refl _, fun _ _ _ => rfl⟩
  have c4 := (HF1.out.keep (hb2.block _ HF1.out.lt)).cell (k := 4) (v := .slice ba n bc) rfl
  have hg1 : g < W1.heap.size := HR1.out.lt
  clear HD ho hdi hzx hdl hb2 HR1 HF1 Hb1
  go_wp2_with fail
  clear c4
  go_loopw [21] (fun s21 wx => ∃ b : Nat, b ≤ n ∧ s21 = .int .i64 b ∧ Hid (CsSt g w W2 (costK vn L b) wx)) (fun s21 _ => n - (intOf s21).toNat)
  case atStart => exact ⟨0, by omega, rfl, HS0⟩
  case round =>
    obtain ⟨b, hb, rfl, HS⟩ := hrel
    clear HS0
    by_cases hbt : b < n
    · have hbL : b < L.length := by rw [← HNL.out]; exact hbt
      obtain ⟨_, _, hv0, -, hx⟩ := HKP.out wr HS.out.bel
      simp only [Value.slice.injEq] at hv0
      obtain ⟨rfl, -, rfl⟩ := hv0
      rcases hx with hx | ⟨bb, off, rfl, hpb, hx⟩
      · rw [hx] at hbL; simp at hbL
      obtain ⟨vi, c1, hci⟩ := hx b hbL
      rw [Nat.mul_one] at c1
      obtain ⟨ai, capi, rfl, -, -⟩ := id hci
      obtain ⟨l, Hl⟩ : ∃ l, Hid (L[b] = l) := ⟨_, (rfl : L[b] = _)⟩
      have hbl := HBD.out _ (List.getElem_mem hbL)
      have hks := costK_succ vn L b
      rw [show L.getD b [] = L[b] by simp [List.getD, hbL]] at hks
      rw [Hl.out] at c1 hci hbl hks
      obtain ⟨ln, Hln⟩ : ∃ ln, Hid (l.length = ln) := ⟨_, (rfl : l.length = _)⟩
      rw [Hln.out] at c1 hbl hci
      have HIL : Hid (∀ X, Below w.heap.size w X → IsInsL (· < w.heap.size) X (.slice ai ln capi) l) := fun X hX => IsInsL.move hci HS.out.bel hX
      have HKS := hid_of hks
      obtain ⟨O0, HO0⟩ : ∃ O0, Hid (costK vn L b = O0) := ⟨_, (rfl : costK vn L b = _)⟩
      have hol := costK_length vn L b
      have hok := costK_ok vn L b
      rw [HO0.out] at HS HKS hol hok
      obtain ⟨wt, Hwt⟩ : ∃ wt, Hid (wtB L b = wt) := ⟨_, (rfl : wtB L b = _)⟩
      rw [Hwt.out] at HKS
      have HOK := hid_of hok
      have HOL := hid_of hol
      have HAR := hid_of hbl.2
      have hln := hbl.1
      have hb0 : (0 : Int) ≤ (b : Int) := by omega
      have hbz : (b : Int) < (n : Int) := by omega
      clear hx hci hks hok hol hbl
      go_wp2_with fail
      go_loopw [28] (fun s28 wx => ∃ k : Nat, k ≤ ln ∧ s28 = .int .i64 k ∧ Hid (CsSt g w W2 (costB wt O0 (l.take k)) wx)) (fun s28 _ => ln - (intOf s28).toNat)
      case atStart => exact ⟨0, by omega, rfl, HS⟩
      case round =>
        obtain ⟨k, hk, rfl, HSk⟩ := hrel
        clear HS c1
        by_cases hkt : k < ln
        · have hkl : k < l.length := by rw [Hln.out]; exact hkt
          obtain ⟨_, _, hv0, -, hx⟩ := HIL.out wr HSk.out.bel
          simp only [Value.slice.injEq] at hv0
          obtain ⟨rfl, -, rfl⟩ := hv0
          rcases hx with hx | ⟨lb, lo, rfl, hplb, hx⟩
          · rw [hx] at hkl; simp at hkl
          have hci := hx k hkl
          have hct := costB_take (wt := wt) (O := O0) hkl
          have har := HAR.out _ (List.getElem_mem hkl)
          obtain ⟨ii, Hii⟩ : ∃ ii, Hid (l[k] = ii) := ⟨_, (rfl : l[k] = _)⟩
          rw [Hii.out] at hci hct har
          obtain ⟨O1, HO1⟩ : ∃ O1, Hid (costB wt O0 (l.take k) = O1) := ⟨_, (rfl : costB wt O0 (l.take k) = _)⟩
          have hol1 := costB_length wt O0 (l.take k)
          have hok1 := costB_ok (wt := wt) HOK.out (l.take k)
          rw [HO1.out] at HSk hct hol1 hok1
          rw [HOL.out] at hol1
          have HCT := hid_of hct
          have HOL1 := hid_of hol1
          have HOK1 := hid_of hok1
          have hul := har
          obtain ⟨ik, idd, ja, ib, inn, iname, iargs, it, jf⟩ := ii
          obtain ⟨d0, d1, d2, d3, d4, d5, ⟨v6, d6, hv6⟩, d7, d8⟩ := hci
          obtain ⟨a6, cap6, rfl, hl6, hx6⟩ := id hv6
          dsimp only at d0 d1 d2 d3 d4 d5 d6 d7 d8 hv6 hl6 har hul
          have hk0 : (0 : Int) ≤ (k : Int) := by omega
          have hkz : (k : Int) < (ln : Int) := by omega
          clear hx hx6 hct hol1 hok1
          try clear hci
          go_wp2_with fail
          have hb1 : Below wr.heap.size wr (wr.alloc (.cells #[.int .i64 ik, .int .i64 idd, .int .i64 ja, .int .i64 ib, .int .i64 inn, .string iname, .slice a6 iargs.length cap6, .int .i64 it, .int .i64 jf] 36)) := bel_alloc (bel_refl wr) _
          have hs1 : (wr.alloc (.cells #[.int .i64 ik, .int .i64 idd, .int .i64 ja, .int .i64 ib, .int .i64 inn, .string iname, .slice a6 iargs.length cap6, .int .i64 it, .int .i64 jf] 36)).heap.size = wr.heap.size + 1 := by simp
          have hr1 : Row (wr.alloc (.cells #[.int .i64 ik, .int .i64 idd, .int .i64 ja, .int .i64 ib, .int .i64 inn, .string iname, .slice a6 iargs.length cap6, .int .i64 it, .int .i64 jf] 36)) wr.heap.size 36 [.int .i64 ik, .int .i64 idd, .int .i64 ja, .int .i64 ib, .int .i64 inn, .string iname, .slice a6 iargs.length cap6, .int .i64 it, .int .i64 jf] := heap_alloc_eq _ _ _ rfl
          refine wp_at (fun W => Below wr.heap.size wr W ∧ W.heap.size = wr.heap.size + 1 ∧ Row W wr.heap.size 36 [.int .i64 ik, .int .i64 idd, .int .i64 ja, .int .i64 ib, .int .i64 inn, .string iname, .slice a6 iargs.length cap6, .int .i64 it, .int .i64 jf]) ⟨hb1, hs1, hr1⟩ ?_
          clear hb1 hs1 hr1
          rintro Wi ⟨hb1, hs1, hr1⟩
          have hS : ∀ X, BkS Wi X → X.cell? ⟨wr.heap.size, 0, none⟩ = some (.int .i64 ik) ∧ X.cell? ⟨wr.heap.size, 1, none⟩ = some (.int .i64 idd) ∧ X.cell? ⟨wr.heap.size, 2, none⟩ = some (.int .i64 ja) ∧ X.cell? ⟨wr.heap.size, 3, none⟩ = some (.int .i64 ib) ∧ X.cell? ⟨wr.heap.size, 4, none⟩ = some (.int .i64 inn) ∧ X.cell? ⟨wr.heap.size, 5, none⟩ = some (.string iname) ∧ X.cell? ⟨wr.heap.size, 6, none⟩ = some (.slice a6 iargs.length cap6) ∧ X.cell? ⟨wr.heap.size, 7, none⟩ = some (.int .i64 it) ∧ X.cell? ⟨wr.heap.size, 8, none⟩ = some (.int .i64 jf) := fun X hX => by
            have r := hr1.keep (hX.block _ hr1.lt)
            exact ⟨r.cell rfl, r.cell rfl, r.cell rfl, r.cell rfl, r.cell rfl, r.cell rfl, r.cell rfl, r.cell rfl, r.cell rfl⟩
          obtain ⟨U, HU⟩ : ∃ U, Hid (usesS ⟨ik, idd, ja, ib, inn, iname, iargs, it, jf⟩ = U) := ⟨_, (rfl : usesS ⟨ik, idd, ja, ib, inn, iname, iargs, it, jf⟩ = _)⟩
          obtain ⟨DD, HDf⟩ : ∃ DD, Hid (defS ⟨ik, idd, ja, ib, inn, iname, iargs, it, jf⟩ = DD) := ⟨_, (rfl : defS ⟨ik, idd, ja, ib, inn, iname, iargs, it, jf⟩ = _)⟩
          have hUs : ∀ X, BkS Wi X → Calls Try.prog 36 #[.agg #[.int .i64 ik, .int .i64 idd, .int .i64 ja, .int .i64 ib, .int .i64 inn, .string iname, .slice a6 iargs.length cap6, .int .i64 it, .int .i64 jf]] X fun e X' => ∃ z, e = .returned z ∧ X'.ownsRow Wi.heap.size 3 1 z U.length (ints U) ∧ BkS Wi X' ∧ Below X.heap.size X X' := fun X hX => by
            have := uses2_c X ⟨ik, idd, ja, ib, inn, iname, iargs, it, jf⟩ a6 iargs.length cap6 (hv6.keep (p' := (· < X.heap.size)) (fun b hb hlt => ⟨by have := hX.size; show b < X.heap.size; omega, (hX.block b (by omega)).trans (hb1.block b (by omega))⟩)) har
            rw [HU.out] at this
            exact this.mono (by rintro e X' ⟨z, rfl, ho, hb⟩; exact ⟨z, rfl, owns_mono ho hX.size, bel_call hX hb, hb⟩)
          have hDs : ∀ X, BkS Wi X → Calls Try.prog 38 #[.agg #[.int .i64 ik, .int .i64 idd, .int .i64 ja, .int .i64 ib, .int .i64 inn, .string iname, .slice a6 iargs.length cap6, .int .i64 it, .int .i64 jf]] X fun e X' => e = .returned (.int .i64 DD) ∧ BkS Wi X' ∧ Below X.heap.size X X' := fun X hX => by
            have := def_c X ⟨ik, idd, ja, ib, inn, iname, iargs, it, jf⟩ a6 iargs.length cap6
            rw [HDf.out] at this
            exact this.mono (by rintro e X' ⟨rfl, hb⟩; exact ⟨rfl, bel_call hX hb, hb⟩)
          rw [HU.out] at hul
          have hE0 : BkS Wi Wi := bel_refl Wi
          have hE1 : BkS Wi Wi.drew := (bel_refl Wi).drew
          obtain ⟨i0, hi0, hz0, hz1, hz2⟩ := info_parts infoInt
          have HSi := hid_of (HSk.out.below hb1)
          clear d0 d1 d2 d3 d4 d5 d6 d7 d8 hv6 hl6 hr1
          go_upto_region 9 with fail
          go_cut [37, 38, 39] (fun s37 s38 s39 wx => ∃ va vc, s37 = .slice va (U.length + 1) vc ∧ s38 = .int .i64 ((U.length + 1 : Nat) : Int) ∧ s39 = .int .i64 0 ∧ wx.ownsRow Wi.heap.size 3 1 (.slice va (U.length + 1) vc) (U.length + 1) (ints U ++ [.int .i64 DD]) ∧ BkS Wi wx)
          case first =>
            clear hb1 hs1 HSi
            go_region_held_law (fun X => X.cell? ⟨wr.heap.size, 0, none⟩ = some (.int .i64 ik) ∧ X.cell? ⟨wr.heap.size, 1, none⟩ = some (.int .i64 idd) ∧ X.cell? ⟨wr.heap.size, 2, none⟩ = some (.int .i64 ja) ∧ X.cell? ⟨wr.heap.size, 3, none⟩ = some (.int .i64 ib) ∧ X.cell? ⟨wr.heap.size, 4, none⟩ = some (.int .i64 inn) ∧ X.cell? ⟨wr.heap.size, 5, none⟩ = some (.string iname) ∧ X.cell? ⟨wr.heap.size, 6, none⟩ = some (.slice a6 iargs.length cap6) ∧ X.cell? ⟨wr.heap.size, 7, none⟩ = some (.int .i64 it) ∧ X.cell? ⟨wr.heap.size, 8, none⟩ = some (.int .i64 jf))
              ((refine hS _ ?_; (first | with_reducible assumption | exact bel_alloc hEd _ | exact bel_alloc hEu _)))
              (first
                | (go_at_call 36; (with_reducible refine (hUs _ ?_).mono ?_); (first | with_reducible assumption | exact bel_alloc hEd _); rintro e Yu ⟨zu, rfl, hou, hEu, hbu⟩)
                | (go_at_call 38; (with_reducible refine (hDs _ ?_).mono ?_); (with_reducible assumption); rintro e Yd ⟨rfl, hEd, hbd⟩)
                | (refine step_append_lies _ (by rfl) _ _ _ (by rfl) Wi.heap.size 3 i0 _ 1 8 Try.underlying25 hi0 hz0 hz1 hz2 rfl (by omega) zu U.length (ints U) (by rfl) (owns_below hou (bel_alloc hbd _)) ⟨Yd.heap.size, 0, none⟩ 1 1 [.int .i64 DD] (by rfl) (by rfl) (World.news_of_block (cs := #[.int .i64 DD]) (t := 3) (fr := (0, 0)) (heap_alloc_new Yd _)) (by simp [Value.oneCell']) (by omega) (by unfold maxLen; omega) (by omega) (by have := hEd.size; simp; omega) _ rfl ?_; intro gg cap w1 hown1 hgrow hat hlt; have hB1 : BkS Wi _ := bel_grown (bel_alloc hEd _) hgrow (fun b e => (hou.lt b e).1)))
            try go_wp2_with fail
            rename_i d9 h9
            have e9 : d9 = 37 := (Option.some.inj (show (some 37 : Option Tmp) = some d9 from h9)).symm
            subst e9
            go_meet
            exact ⟨_, _, rfl, by simp, rfl, hown1, hB1⟩
          case rest =>
            obtain ⟨qa, qc, rfl, rfl, rfl, hoR, hBk⟩ := hcut
            have HSc := hid_of (HSi.out.below hBk)
            have hR0 : ints U ++ [.int .i64 DD] = ints (U ++ [DD]) := by simp [ints]
            rw [hR0] at hoR
            have HRe : Hid (regsS ⟨ik, idd, ja, ib, inn, iname, iargs, it, jf⟩ = U ++ [DD]) := by show _ = _; unfold regsS; rw [HU.out, HDf.out]
            obtain ⟨R, HR⟩ : ∃ R, Hid (U ++ [DD] = R) := ⟨_, (rfl : U ++ [DD] = _)⟩
            have hRl : (U ++ [DD]).length = U.length + 1 := by simp
            rw [HR.out] at hoR HRe hRl
            have hCI : costI wt O1 ⟨ik, idd, ja, ib, inn, iname, iargs, it, jf⟩ = R.foldl (cost1 wt) O1 := by unfold costI; rw [HRe.out]
            have hct := HCT.out
            rw [hCI] at hct
            have HCT2 := hid_of hct
            obtain ⟨rn, Hrn⟩ : ∃ rn, Hid (U.length + 1 = rn) := ⟨_, (rfl : U.length + 1 = _)⟩
            rw [Hrn.out] at hoR hRl ⊢
            have hrn : rn ≤ 1000010 := by have := Hrn.out; omega
            have hri : IsInts (Wi.heap.size ≤ ·) wc (.slice qa rn qc) R := ints_of_owns (by rw [hRl]; exact hoR) (by omega) (fun _ _ h _ => h)
            obtain ⟨_, _, hv0, -, hrx⟩ := id hri
            simp only [Value.slice.injEq] at hv0
            obtain ⟨rfl, -, rfl⟩ := hv0
            have HRX := hid_of hrx
            have HRL := hid_of hRl
            have hgWi : g < Wi.heap.size := HSi.out.row.lt
            have HT0 : Hid (CsSt g w wc ((R.take 0).foldl (cost1 wt) O1) wc) := HSc.out.here
            clear hE0 hE1 hUs hDs hS hoR hR0 hCI hct hri hrx hRl hBk HSi
            go_wp2_with fail
            go_loopw [39] (fun s39 wx => ∃ j : Nat, j ≤ rn ∧ s39 = .int .i64 j ∧ Hid (CsSt g w wc ((R.take j).foldl (cost1 wt) O1) wx)) (fun s39 _ => rn - (intOf s39).toNat)
            case atStart => exact ⟨0, by omega, rfl, HT0⟩
            case round =>
              obtain ⟨j, hj, rfl, HSj⟩ := hrel
              clear HT0
              by_cases hjt : j < rn
              · have hjR : j < R.length := by rw [HRL.out]; exact hjt
                rcases HRX.out with hx | ⟨qb, qo, rfl, hqb, hx⟩
                · exfalso; rw [hx] at hjR; simp at hjR
                have e0 := hx j hjR
                unfold CInt at e0
                rw [Nat.mul_one] at e0
                have e1 := (World.cell?_of_block (a := ⟨qb, qo + j, none⟩) (HSj.out.kq qb (by omega) (lt_of_cell e0))).trans e0
                have hti := costI_take (wt := wt) (O := O1) hjR
                obtain ⟨v, Hv⟩ : ∃ v, Hid (R[j] = v) := ⟨_, (rfl : R[j] = _)⟩
                rw [Hv.out] at e1 hti
                obtain ⟨O2, HO2⟩ : ∃ O2, Hid ((R.take j).foldl (cost1 wt) O1 = O2) := ⟨_, (rfl : (R.take j).foldl (cost1 wt) O1 = _)⟩
                have hol2 : O2.length = vn := by rw [← HO2.out, fold_length _ (cost1_length wt)]; exact HOL1.out
                have hok2 : OkC O2 := by rw [← HO2.out]; exact fold_ok _ (fun _ _ h => cost1_ok h _) _ _ HOK1.out
                rw [HO2.out] at HSj hti
                have HTI := hid_of hti
                have hj0 : (0 : Int) ≤ (j : Int) := by omega
                have hjz : (j : Int) < (rn : Int) := by omega
                have HOL2 := hid_of hol2
                clear hx e0 hti
                by_cases hv0 : v < 0
                · have d1 : decide (v ≥ 0) = false := by simpa using hv0
                  have d1' : decide (0 ≤ v) = false := by simpa using hv0
                  have HE : Hid (List.foldl (cost1 wt) O1 (R.take (j + 1)) = O2) := by show _ = _; rw [HTI.out]; unfold cost1; rw [if_neg (by omega)]
                  clear hv0 hol2 hok2
                  go_wp2_with fail
                  go_roundw
                  case rel => exact ⟨j + 1, by omega, by go_num, by rw [HE.out]; exact HSj⟩
                  case measure => simp [intOf]; omega
                obtain ⟨vN, rfl⟩ : ∃ vN : Nat, v = vN := ⟨v.toNat, by omega⟩
                have d1 : decide ((vN : Int) ≥ 0) = true := by simp
                have d1' : decide (0 ≤ (vN : Int)) = true := by simp
                by_cases hvv : vn ≤ vN
                · have d2 : decide ((vN : Int) < (vn : Int)) = false := by simp; omega
                  have d2' : decide (vN < vn) = false := by simp; omega
                  have HE : Hid (List.foldl (cost1 wt) O1 (R.take (j + 1)) = O2) := by show _ = _; rw [HTI.out]; unfold cost1; rw [if_neg (by omega)]
                  clear hvv hol2 hok2 hv0
                  go_wp2_with fail
                  go_roundw
                  case rel => exact ⟨j + 1, by omega, by go_num, by rw [HE.out]; exact HSj⟩
                  case measure => simp [intOf]; omega
                have d2 : decide ((vN : Int) < (vn : Int)) = true := by simp; omega
                have d2' : decide (vN < vn) = true := by simp; omega
                have hvO : vN < O2.length := by omega
                have hcv := hok2 vN
                obtain ⟨cv, Hcv⟩ : ∃ cv, Hid (O2.getD vN 0 = cv) := ⟨_, (rfl : O2.getD vN 0 = _)⟩
                rw [Hcv.out] at hcv
                have q1 := HSj.out.row.cell (k := vN) (v := .int .i64 cv) (by
                  have := Hcv.out
                  simp only [List.getD, List.getElem?_eq_getElem hvO, Option.getD_some] at this
                  simp [ints, hvO, this])
                have f1 := HSj.out.row.frozen vN
                have hnd : b < (depthO L (headsS L).length).length := by rw [HDL.out]; exact hbt
                rcases HX.out with hx | ⟨zb, zo, rfl, hzb, hx⟩
                · exfalso; rw [hx] at hnd; simp at hnd
                have e2 := hx b hnd
                unfold CInt at e2
                rw [Nat.mul_one] at e2
                obtain ⟨dv, Hdv⟩ : ∃ dv, Hid ((depthO L (headsS L).length)[b] = dv) := ⟨_, (rfl : (depthO L (headsS L).length)[b] = _)⟩
                rw [Hdv.out] at e2
                have hwv : wtS dv = wt := by rw [← Hwt.out, ← Hdv.out]; unfold wtB; simp [depthO]
                have hzlt : zb < W2.heap.size := lt_of_cell e2
                have q2 := (World.cell?_of_block (a := ⟨zb, zo + b, none⟩) ((HSj.out.kq zb (by omega) (by have := HSc.out.sz; omega)).trans (HSc.out.kq zb (by omega) hzlt))).trans e2
                have hwt := wtS_le dv
                rw [hwv] at hwt
                have HWt := hid_of (fun W => weight_c W dv)
                rw [hwv] at HWt
                have HAd := hid_of (fun W => added_c W cv (wt : Nat) hcv ⟨by omega, by omega⟩)
                obtain ⟨nv, Hnv⟩ : ∃ nv, Hid (min (cv + (wt : Int)) 1099511627776 = nv) := ⟨_, (rfl : min (cv + (wt : Int)) 1099511627776 = _)⟩
                rw [Hnv.out] at HAd
                have HE : Hid (List.foldl (cost1 wt) O1 (R.take (j + 1)) = O2.set vN nv) := by show _ = _; rw [HTI.out]; unfold cost1; rw [if_pos ⟨by omega, by omega⟩, Int.toNat_natCast, Hcv.out, Hnv.out]
                have HSF := hid_of (HSj.out.drew.put vN nv)
                have hvz0 : (0 : Int) ≤ (vN : Int) := by omega
                have hvz1 : (vN : Int) < (vn : Int) := by omega
                have hgl := HSj.out.row.lt
                have q1d : wr.drew.cell? ⟨g, vN, none⟩ = some (.int .i64 cv) := q1
                have f1d : wr.drew.frozen? ⟨g, vN, none⟩ = false := f1
                have q2d : wr.drew.cell? ⟨zb, zo + b, none⟩ = some (.int .i64 dv) := q2
                have hwc := HWt.out
                have hac := HAd.out
                clear hx e2 Hdv hnd hol2 hok2 hv0 hvv hvO hcv hwv hwt
                go_upto_block 5 with (fail)
                go_cut [] (fun wx => wx = wr.drew.setCell ⟨g, vN, none⟩ (.int .i64 nv))
                case first =>
                  go_wp2_with fail
                  go_region_law (first
                    | (go_simp; go_at_call 68; refine (hwc _).mono ?_; rintro e Y ⟨rfl, rfl⟩)
                    | (go_simp; go_at_call 97; refine (hac _).mono ?_; rintro e Y ⟨rfl, rfl⟩))
                  all_goals (try go_wp2_with fail)
                  all_goals go_meet
                  all_goals rfl
                case rest =>
                  subst hcut
                  go_wp2_with fail
                  go_roundw
                  case rel => exact ⟨j + 1, by omega, by go_num, by rw [HE.out]; exact HSF⟩
                  case measure => simp [intOf]; omega
              · obtain rfl : j = rn := by omega
                have hs := HSj.out
                rw [List.take_of_length_le (by rw [HRL.out]; exact Nat.le_refl _), ← HCT2.out] at hs
                have HSE := hid_of (hs.up HSc.out)
                clear hs
                go_wp2_with fail
                go_roundw
                case rel => exact ⟨k + 1, by omega, by go_num, HSE⟩
                case measure => simp [intOf]; omega
        · obtain rfl : k = ln := by omega
          have hs := HSk.out
          rw [List.take_of_length_le (by rw [Hln.out]; exact Nat.le_refl _), ← HKS.out] at hs
          have HSE := hid_of hs
          clear hs
          go_wp2_with fail
          go_roundw
          case rel => exact ⟨b + 1, by omega, by go_num, HSE⟩
          case measure => simp [intOf]; omega
    · obtain rfl : b = n := by omega
      have hs := HS.out
      have HE : Hid (costS vn L = costK vn L b) := by show _ = _; unfold costS; rw [HNL.out]
      go_wp2_with fail
      go_ret
      exact ⟨g, rfl, by omega, by rw [HE.out]; exact hs.row, hs.bel⟩
end Go.Proofs.Ytcihobmjohpnkaa
