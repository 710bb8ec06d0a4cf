/- 'live.Of': the walk. -/
import Derived.Test.YtcihobmjohpnkaaLvB
import Derived.Test.YtcihobmjohpnkaaSuccsW
import Derived.Deep.LoopGhost
import Derived.Deep.DeepCutAuto
import Derived.Deep.RegionHeld3
import Derived.Outline
import Derived.Deep.QuietTactic
import Derived.BigQuiet
import Derived.Deep.RegionWith
namespace Go.Proofs.Ytcihobmjohpnkaa
open Go.RowKit Go.Sort

theorem infoSet : (Try.prog.info? 96).map (fun i => (i.zero, i.size, i.bytes)) = some (some (.agg #[.slice none 0 0]), 1, 24) := by kernel_rfl
/-- 'make([]bitset.Set, n)'. -/
theorem mk_sets {ops : Array Oper} {rest : List Oper} {o : Oper} {a : Act} {Q : Exit → Act → World → Prop} {W : World}
    (hgd : o.guard = none) (l c : Operand) (hop : o.op = Op.makeSlice 88 l c) (n : Nat) (hl : a.eval l = .int .i64 n) (hc : a.eval c = .int .i64 n) (hn : n ≤ 1000000)
    (h : wpList Try.prog ops Q rest (a.put o.dst (.slice (some ⟨W.heap.size, 0, none⟩) n n)) (W.alloc (.cells (List.replicate n (Value.slice none 0 0)).toArray 96))) :
    wpList Try.prog ops Q (o :: rest) a W := by
  obtain ⟨i0, hi, hz0, hz1, hz2⟩ := info_parts infoSet
  exact wp_make1 W hgd l c 88 hop 96 i0 _ (.slice none 0 0) 24 Try.underlying88 hi hz0 hz1 hz2 rfl n hl hc (by omega) (by omega) h

theorem run_mk_sets (W : World) (n : Nat) (hn : n ≤ 1000000) : (Instr.makeSlice 88 (.int .i64 (n : Int)) (.int .i64 (n : Int))).run Try.prog W = .ok (.slice (some ⟨W.heap.size, 0, none⟩) n n) (W.alloc (.cells (List.replicate n (Value.slice none 0 0)).toArray 96)) := by
  obtain ⟨i0, hi, hz0, hz1, hz2⟩ := info_parts infoSet
  have hrun := run_make (P := Try.prog) W 88 96 i0 _ Try.underlying88 hi hz0 .i64 .i64 n n (by omega) (Int.le_refl _) (by rw [hz2]; omega) (by omega)
  have hmade : madeCells (Value.agg #[.slice none 0 0]).cells (n * i0.size) = (List.replicate n (Value.slice none 0 0)).toArray := by
    rw [hz1, Nat.mul_one]
    exact Array.toList_inj.1 (by rw [show (Value.agg #[.slice none 0 0]).cells = #[.slice none 0 0] from rfl, toList_madeCells_one])
  simp only [Int.toNat_natCast] at hrun
  rw [hmade] at hrun
  exact hrun

/-- A region whose operations yield the same in each world of a class, and stay in it. -/
theorem wp_region_class {P : Program} {C : World → Prop} {id : Nat} {Q : Exit → Act → World → Prop} {a : Act} {w : World} {l : List Oper} (hm : P.follows .mixedOrders = true) (hB : Region.lexB .any l.toArray = true) (hC : C { w with drawn := w.drawn + 1 })
    (h : wpQuiet P l.toArray C (fun a' => ∀ w', C w' → Q .normal a' w') l a) : (Code.region id l.toArray true).wp P Q a w := wp_region_quiet hm hB hC (by simpa using h)
def KeepO (gI gO : Nat) (W X : World) : Prop := ∀ b, b ≠ gI → b ≠ gO → X.heap[b]? = W.heap[b]?
theorem words_both {B : Nat} {W : World} {v : Value} {ws : List Nat} (h : IsWords (B ≤ ·) W v ws) : IsWords (fun b => B ≤ b ∧ b < W.heap.size) W v ws := h.keep (Keep.refl W fun _ hb hlt => ⟨hb, hlt⟩)
theorem bk_alloc {W X : World} (h : BkS W X) (o : Obj) : BkS W (X.alloc o) := bel_alloc h o
theorem bk_drew {W X : World} (h : BkS W X) : BkS W X.drew := Below.drew h
theorem bk_set {W X : World} (h : BkS W X) {a : Addr} (ha : W.heap.size ≤ a.block) (u : Value) : BkS W (X.setCell a u) := bel_setCell h ha
theorem in_done {w wr Ye W' : World} {B k sv gI gO gq gg c ci N on oc zn zc : Nat} {fc : List Value} {oa za : Option Addr} {I1 O1 K G : List (List Nat)} {ws os : List Nat}
    (hI4 : LvSt w B k fc sv gI gO gq gg (fun b => B + 7 ≤ b ∧ b ≠ c) I1 O1 K G wr) (o2 : wr.heap[c]? = some (.cells #[.slice oa on oc] 96)) (w2 : IsWords (fun b => B + 7 ≤ b ∧ b ≠ c) wr (.slice oa on oc) os)
    (hE : BkS wr Ye) (hz : IsWords (fun b => N ≤ b ∧ b < Ye.heap.size) Ye (.slice za zn zc) ws) (hN : wr.heap.size ≤ N) (hci : wr.heap.size ≤ ci) (hcn : ci < N ∨ Ye.heap.size ≤ ci)
    (h1 : W'.heap[ci]? = some (.cells #[.slice za zn zc] 96)) (h2 : ∀ b, b < Ye.heap.size → b ≠ ci → W'.heap[b]? = Ye.heap[b]?) (hb : Below wr.heap.size Ye W') :
    c < ci ∧ W'.heap[ci]? = some (.cells #[.slice za zn zc] 96) ∧ IsWords (fun b => B + 7 ≤ b ∧ b ≠ c ∧ b ≠ ci) W' (.slice za zn zc) ws ∧
      W'.heap[c]? = some (.cells #[.slice oa on oc] 96) ∧ IsWords (fun b => B + 7 ≤ b ∧ b ≠ c ∧ b ≠ ci) W' (.slice oa on oc) os ∧ LvSt w B k fc sv gI gO gq gg (fun b => B + 7 ≤ b ∧ b ≠ c ∧ b ≠ ci) I1 O1 K G W' := by
  have hlc := lt_of_block o2
  have hsz := hI4.sz
  have hBe : Below wr.heap.size wr W' := Below.trans hE hb
  have hk : Keep (fun b => B + 7 ≤ b ∧ b ≠ c) (fun b => B + 7 ≤ b ∧ b ≠ c ∧ b ≠ ci) wr W' := fun b hb hlt => ⟨⟨hb.1, hb.2, by omega⟩, hBe.block b hlt⟩
  refine ⟨by omega, h1, hz.keep (fun b hb hlt => ⟨⟨by omega, by omega, by omega⟩, h2 b hlt (by omega)⟩), (hBe.block c hlc).trans o2, w2.keep hk, hI4.move (hBe.mono hsz) hk (fun b hb hh => by have := hh.1; omega)⟩

theorem mk_lvst {w wc W : World} {n sv gI gO gq gg : Nat} {fc : List Value} {zs : Array Value} (HZ : zs = (List.replicate n (Value.slice none 0 0)).toArray)
    (q0 : Row wc sv 90 [.slice (some ⟨gI, 0, none⟩) n n, .slice (some ⟨gO, 0, none⟩) n n]) (q1 : Row wc w.heap.size 44 fc) (q2 : Row wc (w.heap.size + 1) 90 [.slice none 0 0, .slice none 0 0])
    (q3 : wc.heap[gI]? = some (.cells zs 96)) (q4 : wc.heap[gO]? = some (.cells zs 96)) (q5 : Below w.heap.size w wc) (q6 : wc.heap.size = w.heap.size + 5)
    (q7 : w.heap.size + 2 ≤ sv ∧ sv < w.heap.size + 5 ∧ w.heap.size + 2 ≤ gI ∧ gI < w.heap.size + 5 ∧ w.heap.size + 2 ≤ gO ∧ gO < w.heap.size + 5 ∧ sv ≠ gI ∧ sv ≠ gO ∧ gI ≠ gO)
    (hk : W.heap[gq]? = some (.cells zs 96)) (hg : W.heap[gg]? = some (.cells zs 96)) (hb : Below wc.heap.size wc W) (hs : W.heap.size = wc.heap.size + 2) (hkg : wc.heap.size ≤ gq ∧ wc.heap.size ≤ gg ∧ gq ≠ gg) :
    LvSt w w.heap.size n fc sv gI gO gq gg (w.heap.size + 7 ≤ ·) (List.replicate n []) (List.replicate n []) (List.replicate n []) (List.replicate n []) W := by
  have lk : gq < W.heap.size := lt_of_block hk
  have lg : gg < W.heap.size := lt_of_block hg
  rw [HZ] at q3 q4 hk hg
  refine ⟨q1.keep (hb.block _ (by omega)), q2.keep (hb.block _ (by omega)), q0.keep (hb.block _ (by omega)), .start (Row.keep q3 (hb.block _ (by omega))) (by omega), .start (Row.keep q4 (hb.block _ (by omega))) (by omega), .start hk (by omega), .start hg (by omega), q5.trans (hb.mono (by omega)), by omega, ?_, fun b hb => by omega⟩
  unfold Six
  omega

set_option maxRecDepth 100000 in
set_option maxHeartbeats 40000000 in
theorem of_live (w : World) (nm : ByteArray) (va : Option Addr) (vn vc : Nat) (pa : Option Addr) (pn pc : Nat) (re : ByteArray) (ba : Option Addr) (n bc : Nat) {L : List (List InsD)}
    (h : IsBlocks (· < w.heap.size) w (.slice ba n bc) L) (hl : n ≤ 1000) (hbd : ∀ l ∈ L, l.length ≤ 100000 ∧ ∀ i ∈ l, i.args.length ≤ 1000000) :
    Calls Try.prog 81 #[funcV nm va vn vc pa pn pc re ba n bc] w fun e w' => ∃ I O vi vo, e = .returned (.agg #[vi, vo]) ∧ IsLive L I O ∧ IsSets (w.heap.size ≤ ·) w' vi I ∧ IsSets (w.heap.size ≤ ·) w' vo O ∧ Below w.heap.size w w' := by
  unfold funcV
  obtain ⟨zs, HZ⟩ : ∃ zs : Array Value, Hid (zs = (List.replicate n (Value.slice none 0 0)).toArray) := ⟨_, (rfl : _ = (List.replicate n (Value.slice none 0 0)).toArray)⟩
  have hmk : ∀ W : World, (Instr.makeSlice 88 (.int .i64 (n : Int)) (.int .i64 (n : Int))).run Try.prog W = .ok (.slice (some ⟨W.heap.size, 0, none⟩) n n) (W.alloc (.cells zs 96)) := fun W => by
    rw [HZ.out]; exact run_mk_sets W n (by omega)
  go_enter Try.func81, Try.ntmps81
  go_upto_region 4 with fail
  go_cut [4] (fun s4 W => ∃ sv gI gO, s4 = .pointer (some ⟨sv, 0, none⟩) ∧ Row W sv 90 [.slice (some ⟨gI, 0, none⟩) n n, .slice (some ⟨gO, 0, none⟩) n n] ∧ Row W w.heap.size 44 (funcC nm va vn vc pa pn pc re ba n bc) ∧ Row W (w.heap.size + 1) 90 [.slice none 0 0, .slice none 0 0] ∧
      W.heap[gI]? = some (.cells zs 96) ∧ W.heap[gO]? = some (.cells zs 96) ∧ Below w.heap.size w W ∧ W.heap.size = w.heap.size + 5 ∧
      (w.heap.size + 2 ≤ sv ∧ sv < w.heap.size + 5 ∧ w.heap.size + 2 ≤ gI ∧ gI < w.heap.size + 5 ∧ w.heap.size + 2 ≤ gO ∧ gO < w.heap.size + 5 ∧ sv ≠ gI ∧ sv ≠ gO ∧ gI ≠ gO))
  case first =>
    --[[
    go_wp2_with fail
    go_region
    all_goals
      go_wp2_with fail
      go_meet
      apply Exists.intro; apply Exists.intro; apply Exists.intro
      refine ⟨rfl, ?qa, ?qb, ?qc, ?qd, ?qe, ?qf, ?qg, ?qh⟩
      case qa => (show (World.heap _)[_]? = some _; repeat (first | (refine heap_alloc_eq _ _ _ ?_; simp; done) | refine heap_alloc_ne _ _ _ _ ?_))
      case qb => (show (World.heap _)[_]? = some _; repeat (first | (refine heap_alloc_eq _ _ _ ?_; simp; done) | refine heap_alloc_ne _ _ _ _ ?_))
      case qc => (show (World.heap _)[_]? = some _; repeat (first | (refine heap_alloc_eq _ _ _ ?_; simp; done) | refine heap_alloc_ne _ _ _ _ ?_))
      case qd => (show (World.heap _)[_]? = some _; repeat (first | (refine heap_alloc_eq _ _ _ ?_; simp; done) | refine heap_alloc_ne _ _ _ _ ?_))
      case qe => (show (World.heap _)[_]? = some _; repeat (first | (refine heap_alloc_eq _ _ _ ?_; simp; done) | refine heap_alloc_ne _ _ _ _ ?_))
      case qf => repeat (first | exact bel_refl _ | refine bel_alloc ?_ _ | refine Below.drew ?_)
      case qg => simp
      case qh => omega
    --]]
  case rest =>
    obtain ⟨sv, gI, gO, rfl, q0, q1, q2, q3, q4, q5, q6, q7⟩ := hcut
    go_wp2_with fail
    go_cut [5, 6] (fun s5 s6 W => ∃ gq gg, s5 = .slice (some ⟨gq, 0, none⟩) n n ∧ s6 = .slice (some ⟨gg, 0, none⟩) n n ∧
      LvSt w w.heap.size n (funcC nm va vn vc pa pn pc re ba n bc) sv gI gO gq gg (w.heap.size + 7 ≤ ·) (List.replicate n []) (List.replicate n []) (List.replicate n []) (List.replicate n []) W)
    case first =>
      --[[
      have HQ : Hid (wc.heap.size = w.heap.size + 5) := q6
      clear q6
      go_wp2_with fail
      go_region
      all_goals
        go_wp2_with fail
        go_meet
        refine ⟨_, _, rfl, rfl, mk_lvst HZ.out q0 q1 q2 q3 q4 q5 HQ.out q7 ?qd ?qe ?qf ?qg ?qh⟩
        case qd => (repeat (first | (refine heap_alloc_eq _ _ _ ?_; simp; done) | refine heap_alloc_ne _ _ _ _ ?_))
        case qe => (repeat (first | (refine heap_alloc_eq _ _ _ ?_; simp; done) | refine heap_alloc_ne _ _ _ _ ?_))
        case qf => repeat (first | exact bel_refl _ | refine bel_alloc ?_ _ | refine Below.drew ?_)
        case qg => simp
        case qh => omega
      --]]
    case rest =>
      obtain ⟨gq, gg, rfl, rfl, hI0⟩ := hcut
      clear q0 q1 q2 q3 q4 q5 q6 q7
      have hI00 := hI0
      have c0 := hI0.fb.cell (k := 4) (v := .slice ba n bc) rfl
      clear hmk HZ
      go_wp2_with fail
      go_loopw [32] (fun s32 wr => ∃ k : Nat, k ≤ n ∧ s32 = .int .i64 k ∧ LvSt w w.heap.size n (funcC nm va vn vc pa pn pc re ba n bc) sv gI gO gq gg (w.heap.size + 7 ≤ ·) (List.replicate n []) (List.replicate n []) (upTo (fun j => killW (L.getD j [])) n k) (upTo (fun j => genW (L.getD j [])) n k) wr) (fun s32 _ => n - (intOf s32).toNat)
      case atStart => exact ⟨0, by omega, rfl, by rw [upTo_zero, upTo_zero]; exact hI0⟩
      case round =>
        obtain ⟨k, hk, rfl, hI⟩ := hrel
        clear hI0 hI00 c0
        by_cases hlt : k < n
        · --[[
          obtain ⟨_, _, hv0, hl0, hx⟩ := id h
          simp only [Value.slice.injEq] at hv0
          obtain ⟨rfl, hnL, rfl⟩ := hv0
          have hlt' : k < L.length := by omega
          rcases hx with hx | ⟨b, off, rfl, hpb, hx⟩
          · rw [hx] at hlt'; simp at hlt'
          obtain ⟨vi, c1, ai, capi, rfl, ⟨hli0, hli⟩, hxi⟩ := hx k hlt'
          rw [Nat.mul_one] at c1
          replace c1 := (Keep.belowB hI.bel).cell hpb c1
          have hLk : L.getD k [] = L[k] := by simp [List.getD, hlt']
          obtain ⟨l, hl1, HLk⟩ : ∃ l, L[k] = l ∧ Hid (L.getD k [] = l) := ⟨L[k], rfl, hLk⟩
          have hbl := hbd _ (List.getElem_mem hlt')
          rw [hl1] at c1 hli0 hli hxi hbl
          obtain ⟨hbl1, hbl2⟩ := hbl
          have HB2 := hid_of hbl2
          have HNL : Hid (n = L.length) := hnL
          clear hx hl1 hLk hnL hl0 hlt' hbl2
          go_wp2_with fail
          obtain ⟨wo, rfl⟩ : ∃ wo : World, wo = wr := ⟨_, rfl⟩
          go_loopw [9, 10] (fun s9 s10 wx => ∃ r : Nat, r ≤ l.length ∧ s10 = .int .i64 ((r : Int) - 1) ∧ LvSt w w.heap.size n (funcC nm va vn vc pa pn pc re (some ⟨b, off, none⟩) n bc) sv gI gO gq gg (pD (w.heap.size + 7) s9) (List.replicate n []) (List.replicate n []) (upTo (fun j => killW (L.getD j [])) n k) ((upTo (fun j => genW (L.getD j [])) n k).set k (genD l r)) wx ∧
              wx.ownsRow (w.heap.size + 7) 3 1 s9 (defD l r).length (ints (defD l r))) (fun _ s10 _ => (intOf s10 + 1).toNat)
          case atStart =>
            refine ⟨l.length, Nat.le_refl _, rfl, ?_, ?_⟩
            · rw [genD_all, upTo_nil]
              exact hI.mono (fun b hb => ⟨hb, by simp [Value.ownBlock]⟩) (fun b hb hh => by have := hh.1; omega)
            · rw [defD_all]; exact World.ownsRow_nil _ _ _ _
          case round =>
            obtain ⟨r, hr, rfl, hI2, ho⟩ := hrel
            rcases r with _ | q
            · have eq0 : (((0 : Nat) : Int) - 1) = -1 := rfl
              rw [eq0]
              clear eq0 hxi c1
              have hd : IsInts (· < wr.heap.size) wr u9 (defD l 0) := ints_of_owns ho (by rw [defD_length]; omega) (fun _ _ _ hh => hh)
              have hOf := (of_c wr hd)
              have HO := hid_of hOf
              have EK : Hid (Bit.ofW (defD l 0) = killW (L.getD k [])) := by rw [HLk.out]; rfl
              have EG : Hid (genD l 0 = genW (L.getD k [])) := by rw [HLk.out]; rfl
              have hgk := hI2.rK.lt
              obtain ⟨ka, kn, kc, g1, -⟩ := hI2.rK.get (j := k) (by rw [upTo_length]; exact hlt)
              have f1 := hI2.rK.frozen k
              clear hd hOf
              go_wp2_with fail
              refine HO.out.mono ?_
              rintro e W1 ⟨z, rfl, hz, hb1⟩
              obtain ⟨za, zn, zc, rfl⟩ := words_slice hz
              have g2 := (World.cell?_of_block (a := ⟨gq, k, none⟩) (hb1.block gq hgk)).trans g1
              have f2 := (World.frozen?_of_block (a := ⟨gq, k, none⟩) (hb1.block gq hgk)).trans f1
              have hI3 := (hI2.below hb1).setK (hz.mono (fun b hb => ⟨by have := hI2.sz; omega, fun e => by have := (ho.lt b e.symm).2; omega⟩)) k
              rw [EK.out, EG.out, upTo_set (fun j => killW (L.getD j [])) hlt, upTo_set (fun j => genW (L.getD j [])) hlt] at hI3
              have hI4 := hI3.mono (p' := (w.heap.size + 7 ≤ ·)) (fun b hb => hb.1) (fun b hb hh => by omega)
              clear hI hI2 hI3 ho HO g1 f1 EK EG hz
              go_wp2_with fail
              go_roundw
              case rel => exact ⟨k + 1, by omega, by go_num, hI4⟩
              case measure => simp [intOf]; omega
            · have eq1 : (((q + 1 : Nat) : Int) - 1) = (q : Int) := by omega
              rw [eq1]
              clear eq1
              have hql : q < l.length := by omega
              rcases hxi with hxi | ⟨lb, lo, rfl, hplb, hxi⟩
              · rw [hxi] at hql; simp at hql
              have hci := CIns.keep (p := (· < w.heap.size)) (p' := (· < w.heap.size)) hplb (hxi q hql) (Keep.belowB hI2.bel)
              obtain ⟨za, zn, zc, g1, hz⟩ := hI2.rG.get (j := k) (by rw [List.length_set, upTo_length]; exact hlt)
              rw [getD_set, if_pos ⟨rfl, by rw [upTo_length]; exact hlt⟩] at hz
              have f1 := hI2.rG.frozen k
              have HG := genD_good l (q + 1)
              have EG := hid_of (genD_succ hql)
              have ED := hid_of (defD_succ hql)
              obtain ⟨i, hli1⟩ : ∃ i, l[q] = i := ⟨_, rfl⟩
              have hia := HB2.out _ (List.getElem_mem hql)
              rw [hli1] at hci EG ED hia
              obtain ⟨ik, idd, ia, ib, inn, iname, iargs, it, jf⟩ := i
              obtain ⟨d0, d1, d2, d3, d4, d5, ⟨v6, d6, hv6⟩, d7, d8⟩ := hci
              obtain ⟨a6, cap6, rfl, hl6, hx6⟩ := id hv6
              dsimp only at d0 d1 d2 d3 d4 d5 d6 d7 d8 hv6 hl6 hia
              have hlb : lb < wr.heap.size := lt_of_cell d0
              have hgb := lt_of_cell g1
              have hBk : ∀ X, BkS wr X → Calls Try.prog 105 #[.agg #[.slice za zn zc], .agg #[.int .i64 ik, .int .i64 idd, .int .i64 ia, .int .i64 ib, .int .i64 inn, .string iname, .slice a6 iargs.length cap6, .int .i64 it, .int .i64 jf]] X
                  fun e X' => ∃ qa qn qc, e = .returned (.agg #[.slice qa qn qc]) ∧ IsWords (wr.heap.size ≤ ·) X' (.slice qa qn qc) (genD l q) ∧ BkS wr X' := fun X hX => by
                have hu : IsWords (· < X.heap.size) X (.slice za zn zc) (genD l (q + 1)) := (words_lt hz).keep (fun b hb hlt => ⟨by have := hX.size; show b < X.heap.size; omega, hX.block b hlt⟩)
                have hi : IsInts (· < X.heap.size) X (.slice a6 iargs.length cap6) iargs := (hv6.keep (Keep.belowB (hX.mono (by have := hI2.sz; omega)))).keep (Keep.refl X fun b hb hlt => hlt)
                refine (back_c X ⟨ik, idd, ia, ib, inn, iname, iargs, it, jf⟩ a6 iargs.length cap6 hu HG.1.1 (by have := HG.2; omega) hi hia).mono ?_
                rintro e X' ⟨z, rfl, hq, hb⟩
                obtain ⟨qa, qn, qc, rfl⟩ := words_slice hq
                rw [← EG.out] at hq
                exact ⟨qa, qn, qc, rfl, hq.keep (Keep.refl _ fun b hb _ => Nat.le_trans hX.size hb), bel_call hX hb⟩
              have hE1 : BkS wr wr.drew := (bel_refl wr).drew
              clear hli1 hx6 HG
              go_wp2_with fail
              go_cut [] (fun W => LvSt w w.heap.size n (funcC nm va vn vc pa pn pc re (some ⟨b, off, none⟩) n bc) sv gI gO gq gg (pD (w.heap.size + 7) u9) (List.replicate n []) (List.replicate n []) (upTo (fun j => killW (L.getD j [])) n k) ((upTo (fun j => genW (L.getD j [])) n k).set k (genD l q)) W ∧
                  W.ownsRow (w.heap.size + 7) 3 1 u9 (defD l (q + 1)).length (ints (defD l (q + 1))))
              case first =>
                --[[
                go_wp2_with fail
                go_region_with (go_at_call 105; refine (hBk _ hE1).mono ?_; rintro e X ⟨qa, qn, qc, rfl, hzq, hEX⟩; have k1 := (World.cell?_of_block (a := ⟨gg, k, none⟩) (hEX.block gg hgb)).trans g1; have kf := (World.frozen?_of_block (a := ⟨gg, k, none⟩) (hEX.block gg hgb)).trans f1)
                all_goals
                  go_wp2_with fail
                  go_meet
                  have hX := (hI2.below hEX).setG (hzq.mono (fun b hb => ⟨by have := hI2.sz; omega, fun e => by have := (ho.lt b e.symm).2; omega⟩)) k
                  rw [List.set_set] at hX
                  have hoX := (owns_below ho hEX).kept (World.ownsRow.kept_set ⟨gg, k, none⟩ (Value.slice qa qn qc)) (by
                    cases hob : u9.ownBlock with
                    | none => exact .inl rfl
                    | some b => exact .inr fun e => by have h1 := (ho.lt b hob).1; have h2 := hI2.six; unfold Six at h2; simp at e; omega)
                  exact ⟨hX, hoX⟩
                --]]
              case rest =>
                obtain ⟨hI3, ho3⟩ := hcut
                clear hI2 ho hBk hE1 d0 d1 d2 d3 d4 d5 d6 d7 d8 hv6 hl6 hz g1 f1 hlb hgb c1
                obtain ⟨i, hli1⟩ : ∃ i, l[q] = i := ⟨_, rfl⟩
                have hci := CIns.keep (p := (· < w.heap.size)) (p' := (· < w.heap.size)) hplb (hxi q hql) (Keep.belowB hI3.bel)
                have ED := hid_of (defD_succ hql)
                rw [hli1] at hci ED
                obtain ⟨ik, idd, ia, ib, inn, iname, iargs, it, jf⟩ := i
                obtain ⟨d0, d1, d2, d3, d4, d5, ⟨v6, d6, hv6⟩, d7, d8⟩ := hci
                obtain ⟨a6, cap6, rfl, -, -⟩ := id hv6
                dsimp only at d0 d1 d2 d3 d4 d5 d6 d7 d8
                have hDf := def_c wc ⟨ik, idd, ia, ib, inn, iname, iargs, it, jf⟩ a6 iargs.length cap6
                unfold insV at hDf
                have HD := hid_of hDf
                generalize iargs.length = na at d6 HD
                clear hli1 hDf hv6
                have hlb : lb < wc.heap.size := lt_of_cell d0
                have hsz := hI3.sz
                go_wp2_with fail
                refine HD.out.mono ?_
                rintro e W1 ⟨rfl, hb1⟩
                have ho4 := owns_below ho3 hb1
                have hI4 := hI3.below hb1
                have hs1 := hb1.size
                have hlen : (defD l (q + 1)).length + 1 ≤ 17592186044416 := by rw [defD_length]; omega
                clear hI3 ho3 hb1
                go_wp2_with (at_builtin; refine stop_here ?_)
                refine stop_go (app_int rfl _ _ rfl (w.heap.size + 7) u9 (defD l (q + 1)) rfl (ho4.alloc _) _ _ rfl (heap_alloc_eq _ _ _ rfl) hlen (by simp <;> omega) ?_)
                intro v' w' ho5 hg hv
                have hI5 := (hI4.below (bel_alloc (bel_refl W1) (.cells #[.int .i64 (defS ⟨ik, idd, ia, ib, inn, iname, iargs, it, jf⟩)] 3))).app hg hv (fun k hk => (ho4.lt k hk).1)
                rw [← ED.out] at ho5
                clear hI4 ho4 hg hv d0 d1 d2 d3 d4 d5 d6 d7 d8 ED HD
                go_wp2_with fail
                go_roundw
                case rel => exact ⟨q, by omega, rfl, hI5, ho5⟩
                case measure => simp [intOf]
          --]]
        · obtain rfl : k = n := by omega
          clear hlt hk
          obtain ⟨K, HK⟩ : ∃ K, Hid (K = upTo (fun j => killW (L.getD j [])) k k) := ⟨_, (rfl : _ = upTo (fun j => killW (L.getD j [])) k k)⟩
          obtain ⟨G, HG⟩ : ∃ G, Hid (G = upTo (fun j => genW (L.getD j [])) k k) := ⟨_, (rfl : _ = upTo (fun j => genW (L.getD j [])) k k)⟩
          rw [← HK.out, ← HG.out] at hI
          have hnL : k = L.length := by obtain ⟨_, _, hv0, hl0, hx⟩ := id h; simp only [Value.slice.injEq] at hv0; exact hv0.2.1
          have HNL := hid_of hnL
          have HA0 : Hid (LiveAt L (List.replicate k []) (List.replicate k [])) := by rw [hnL]; exact LiveAt.start L
          clear hnL
          go_wp2_with fail
          go_loopg [11] (leftW L (List.replicate k []) (List.replicate k []) + 1) (fun g s11 wx => ∃ (ag : Bool) (I O : List (List Nat)), s11 = .bool ag ∧ Hid (LiveAt L I O ∧ (ag = false → IsLive L I O) ∧ leftW L I O + (if ag = true then 1 else 0) ≤ g) ∧
              LvSt w w.heap.size k (funcC nm va vn vc pa pn pc re ba k bc) sv gI gO gq gg (w.heap.size + 7 ≤ ·) I O K G wx)
          case atStart => exact ⟨true, _, _, rfl, (⟨HA0.out, by simp, by simp⟩ : LiveAt L (List.replicate k []) (List.replicate k []) ∧ (true = false → IsLive L (List.replicate k []) (List.replicate k [])) ∧ leftW L (List.replicate k []) (List.replicate k []) + (if true = true then 1 else 0) ≤ leftW L (List.replicate k []) (List.replicate k []) + 1), hI⟩
          case round =>
            obtain ⟨ag, I, O, rfl, HA, hI1⟩ := hrel
            clear hI HA0
            cases ag with
            | false =>
              have c1 := hI1.sb.cell (k := 0) rfl
              have c2 := hI1.sb.cell (k := 1) rfl
              have c3 := hI1.rb.cell (k := 0) rfl
              have c4 := hI1.rb.cell (k := 1) rfl
              have f3 := hI1.rb.frozen 0
              have f4 := hI1.rb.frozen 1
              --[[
              obtain ⟨vI, HvI⟩ : ∃ vI, Hid (vI = Value.slice (some ⟨gI, 0, none⟩) k k) := ⟨_, (rfl : _ = Value.slice (some ⟨gI, 0, none⟩) k k)⟩
              obtain ⟨vO, HvO⟩ : ∃ vO, Hid (vO = Value.slice (some ⟨gO, 0, none⟩) k k) := ⟨_, (rfl : _ = Value.slice (some ⟨gO, 0, none⟩) k k)⟩
              have hr2 : Row ((wr.setCell ⟨w.heap.size + 1, 0, none⟩ (Value.slice (some ⟨gI, 0, none⟩) k k)).setCell ⟨w.heap.size + 1, 1, none⟩ (Value.slice (some ⟨gO, 0, none⟩) k k)) (w.heap.size + 1) 90 [Value.slice (some ⟨gI, 0, none⟩) k k, Value.slice (some ⟨gO, 0, none⟩) k k] := (hI1.rb.set 0 _).set 1 _
              have c5 := hr2.cell (k := 0) rfl
              have c6 := hr2.cell (k := 1) rfl
              have s6 := hI1.six
              unfold Six at s6
              have rI := (hI1.rI.other (a := ⟨w.heap.size + 1, 0, none⟩) (by show gI ≠ w.heap.size + 1; omega) (by show ¬ w.heap.size + 7 ≤ w.heap.size + 1; omega) (Value.slice (some ⟨gI, 0, none⟩) k k)).other (a := ⟨w.heap.size + 1, 1, none⟩) (by show gI ≠ w.heap.size + 1; omega) (by show ¬ w.heap.size + 7 ≤ w.heap.size + 1; omega) (Value.slice (some ⟨gO, 0, none⟩) k k)
              have rO := (hI1.rO.other (a := ⟨w.heap.size + 1, 0, none⟩) (by show gO ≠ w.heap.size + 1; omega) (by show ¬ w.heap.size + 7 ≤ w.heap.size + 1; omega) (Value.slice (some ⟨gI, 0, none⟩) k k)).other (a := ⟨w.heap.size + 1, 1, none⟩) (by show gO ≠ w.heap.size + 1; omega) (by show ¬ w.heap.size + 7 ≤ w.heap.size + 1; omega) (Value.slice (some ⟨gO, 0, none⟩) k k)
              have hbl := (hI1.bel.setCell (p := ⟨w.heap.size + 1, 0, none⟩) (by show w.heap.size ≤ w.heap.size + 1; omega) (Value.slice (some ⟨gI, 0, none⟩) k k)).setCell (p := ⟨w.heap.size + 1, 1, none⟩) (by show w.heap.size ≤ w.heap.size + 1; omega) (Value.slice (some ⟨gO, 0, none⟩) k k)
              have hL := HA.out.2.1 rfl
              have iI := rI.sets (p' := (w.heap.size ≤ ·)) (by show w.heap.size ≤ gI; omega) (fun b hb => by show w.heap.size ≤ b; omega) (by rw [hL.lI, ← HNL.out]; omega)
              have iO := rO.sets (p' := (w.heap.size ≤ ·)) (by show w.heap.size ≤ gO; omega) (fun b hb => by show w.heap.size ≤ b; omega) (by rw [hL.lO, ← HNL.out]; omega)
              rw [hL.lI, ← HNL.out] at iI
              rw [hL.lO, ← HNL.out] at iO
              have HF : Hid (IsLive L I O ∧ IsSets (w.heap.size ≤ ·) ((wr.setCell ⟨w.heap.size + 1, 0, none⟩ (Value.slice (some ⟨gI, 0, none⟩) k k)).setCell ⟨w.heap.size + 1, 1, none⟩ (Value.slice (some ⟨gO, 0, none⟩) k k)) (Value.slice (some ⟨gI, 0, none⟩) k k) I ∧ IsSets (w.heap.size ≤ ·) ((wr.setCell ⟨w.heap.size + 1, 0, none⟩ (Value.slice (some ⟨gI, 0, none⟩) k k)).setCell ⟨w.heap.size + 1, 1, none⟩ (Value.slice (some ⟨gO, 0, none⟩) k k)) (Value.slice (some ⟨gO, 0, none⟩) k k) O ∧ Below w.heap.size w ((wr.setCell ⟨w.heap.size + 1, 0, none⟩ (Value.slice (some ⟨gI, 0, none⟩) k k)).setCell ⟨w.heap.size + 1, 1, none⟩ (Value.slice (some ⟨gO, 0, none⟩) k k))) := ⟨hL, iI, iO, hbl⟩
              clear rI rO hbl iI iO hL hr2 s6 HvI HvO
              go_wp2_with fail
              exact bodyPost_ret (v := .agg #[Value.slice (some ⟨gI, 0, none⟩) k k, Value.slice (some ⟨gO, 0, none⟩) k k]) (by simp [results, Try.results81, go_sem, c5, c6]) rfl ⟨I, O, _, _, rfl, HF.out⟩
              --]]
            | true =>
              obtain ⟨wo, rfl⟩ : ∃ wo : World, wo = wr := ⟨_, rfl⟩
              obtain ⟨g0, Hg0⟩ : ∃ g0, Hid (g0 = gk) := ⟨gk, (rfl : gk = gk)⟩
              go_wp2_with fail
              go_loopw [11, 12] (fun s11 s12 wx => ∃ r : Nat, r ≤ k ∧ s12 = .int .i64 ((r : Int) - 1) ∧ s11 = .bool (sweepW L I O (k - r)).2.2 ∧ LvSt w w.heap.size k (funcC nm va vn vc pa pn pc re ba k bc) sv gI gO gq gg (w.heap.size + 7 ≤ ·) (sweepW L I O (k - r)).1 (sweepW L I O (k - r)).2.1 K G wx) (fun _ s12 _ => (intOf s12 + 1).toNat)
              case atStart =>
                refine ⟨k, Nat.le_refl _, rfl, ?_, ?_⟩
                · rw [Nat.sub_self]; rfl
                · rw [Nat.sub_self]; exact hI1
              case round =>
                obtain ⟨r, hr, rfl, rfl, hI2⟩ := hrel
                rcases r with _ | q
                · have eq0 : (((0 : Nat) : Int) - 1) = -1 := rfl
                  rw [eq0]
                  clear eq0 hI1
                  rw [Nat.sub_zero] at hI2 ⊢
                  have hle := HA.out.1.left_le
                  have hA2 := HA.out.1.sweep L.length
                  have hdn := HA.out.1.done
                  rw [← HNL.out] at hle hA2 hdn
                  have hg1 := HA.out.2.2
                  rw [if_pos trivial] at hg1
                  have HA' : Hid (LiveAt L (sweepW L I O k).1 (sweepW L I O k).2.1 ∧ ((sweepW L I O k).2.2 = false → IsLive L (sweepW L I O k).1 (sweepW L I O k).2.1) ∧ leftW L (sweepW L I O k).1 (sweepW L I O k).2.1 + (if (sweepW L I O k).2.2 = true then 1 else 0) < g0) := ⟨hA2, hdn, by have := Hg0.out; omega⟩
                  clear hle hA2 hdn hg1 HA
                  generalize sweepW L I O k = S at HA' hI2
                  obtain ⟨I1, O1, fl⟩ := S
                  dsimp only at HA' hI2 ⊢
                  go_wp2_with fail
                  go_roundg (leftW L I1 O1 + (if fl = true then 1 else 0))
                  case measure => have := HA'.out.2.2; have := Hg0.out; omega
                  case rel => exact ⟨fl, I1, O1, rfl, (⟨HA'.out.1, HA'.out.2.1, Nat.le_refl _⟩ : LiveAt L I1 O1 ∧ (fl = false → IsLive L I1 O1) ∧ leftW L I1 O1 + (if fl = true then 1 else 0) ≤ leftW L I1 O1 + (if fl = true then 1 else 0)), hI2⟩
                · have eq1 : (((q + 1 : Nat) : Int) - 1) = (q : Int) := by omega
                  rw [eq1]
                  clear eq1 hI1
                  have HS : Hid (sweepW L I O (k - q) = stepW L (sweepW L I O (k - (q + 1))) q) := by
                    have e1 : k - q = (k - (q + 1)) + 1 := by omega
                    have e2 : L.length - 1 - (k - (q + 1)) = q := by rw [← HNL.out]; omega
                    rw [e1, sweepW_succ, e2]
                    exact (rfl : stepW L (sweepW L I O (k - (q + 1))) q = _)
                  have HA2 := hid_of (HA.out.1.sweep (k - (q + 1)))
                  generalize sweepW L I O (k - (q + 1)) = S at HS HA2 hI2
                  obtain ⟨I1, O1, fl⟩ := S
                  dsimp only at HS HA2 hI2 ⊢
                  have c0 := hI2.fb.cell (k := 4) (v := .slice ba k bc) rfl
                  have hbk := h.keep (Keep.belowB hI2.bel)
                  have hsz := hI2.sz
                  obtain ⟨wb, rfl⟩ : ∃ wb : World, wb = wr := ⟨_, rfl⟩
                  have c0' := (World.cell?_of_block (a := ⟨w.heap.size, 4, none⟩) (Below.heap_alloc wb (.cells #[.slice none 0 0] 96) w.heap.size (by omega))).trans c0
                  go_wp2_with fail
                  refine (succs_c _ (q : Int) (hbk.keep (p' := (· < w.heap.size)) (Keep.below (bel_alloc (bel_refl wb) _)))).mono ?_
                  rintro e W1 ⟨u, rfl, hu, hb1⟩
                  have hrng := succS_range L (q : Int)
                  rw [← HNL.out] at hrng
                  have hsl := succS_length L (q : Int)
                  have EO : Hid (outW L I1 q = (succS L q).foldl (fun o k => Bit.orW o (I1.getD k.toNat [])) []) := (rfl : outW L I1 q = (succS L q).foldl (fun o k => Bit.orW o (I1.getD k.toNat [])) [])
                  generalize succS L (q : Int) = ys at hu hrng hsl EO
                  obtain ⟨ua, uc, rfl, -⟩ := owns_slice hu
                  have HR := hid_of hrng
                  have o1 : W1.heap[wb.heap.size]? = some (.cells #[.slice none 0 0] 96) := (hb1.block _ (by simp)).trans (heap_alloc_eq _ _ _ rfl)
                  have hs1 := hb1.size
                  have hb2 := bel_call (bel_alloc (bel_refl wb) _) hb1
                  have i1 : IsInts (fun b => w.heap.size + 7 ≤ b ∧ b ≠ wb.heap.size) W1 (.slice ua ys.length uc) ys := ints_of_owns hu (by omega) (fun b _ h1 _ => by simp at h1; exact ⟨by omega, by omega⟩)
                  have hI3 := hI2.move (W' := W1) (p' := fun b => w.heap.size + 7 ≤ b ∧ b ≠ wb.heap.size) (hb2.mono hsz) (fun b hb hlt => ⟨⟨hb, by omega⟩, hb2.block b hlt⟩) (fun b hb hh => by have := hh.1; omega)
                  simp only [World.size_alloc] at hs1
                  obtain ⟨c, Hc⟩ : ∃ c, Hid (wb.heap.size = c) := ⟨_, (rfl : wb.heap.size = wb.heap.size)⟩
                  rw [Hc.out] at o1 i1 hI3 hsz hs1 ⊢
                  clear hI2 hu hb1 hb2 hrng c0 c0' hbk
                  go_wp2_with fail
                  go_loopw [82] (fun s82 wx => ∃ (m : Nat) (oa : Option Addr) (on oc : Nat), m ≤ ys.length ∧ s82 = .int .i64 m ∧ wx.heap[c]? = some (.cells #[.slice oa on oc] 96) ∧ IsWords (fun b => w.heap.size + 7 ≤ b ∧ b ≠ c) wx (.slice oa on oc) ((ys.take m).foldl (fun o k => Bit.orW o (I1.getD k.toNat [])) []) ∧
                      LvSt w w.heap.size k (funcC nm va vn vc pa pn pc re ba k bc) sv gI gO gq gg (fun b => w.heap.size + 7 ≤ b ∧ b ≠ c) I1 O1 K G wx ∧ IsInts (fun b => w.heap.size + 7 ≤ b ∧ b ≠ c) wx (.slice ua ys.length uc) ys) (fun s82 _ => ys.length - (intOf s82).toNat)
                  case atStart => exact ⟨0, none, 0, 0, by omega, rfl, o1, words_nil _ _, hI3, i1⟩
                  case round =>
                    obtain ⟨m, oa, on, oc, hm, rfl, o2, w2, hI4, i2⟩ := hrel
                    clear o1 hI3 i1
                    by_cases hmt : m < ys.length
                    · --[[
                      obtain ⟨_, _, hv0, -, hx⟩ := id i2
                      simp only [Value.slice.injEq, true_and] at hv0
                      obtain ⟨rfl, rfl⟩ := hv0
                      rcases hx with hx | ⟨sb, so, rfl, hpb, hx⟩
                      · rw [hx] at hmt; simp at hmt
                      have t0 := hx m hmt
                      simp only [CInt, Nat.mul_one] at t0
                      clear hx
                      obtain ⟨hy0, hyn⟩ := HR.out ys[m] (List.getElem_mem hmt)
                      obtain ⟨yn, hye⟩ : ∃ yn : Nat, ys[m] = yn := ⟨ys[m].toNat, by omega⟩
                      have EF : Hid ((ys.take (m + 1)).foldl (fun o k => Bit.orW o (I1.getD k.toNat [])) [] = Bit.orW ((ys.take m).foldl (fun o k => Bit.orW o (I1.getD k.toNat [])) []) (I1.getD yn [])) := by
                        rw [List.take_succ_eq_append_getElem hmt, List.foldl_append, hye]
                        exact (rfl : Bit.orW _ (I1.getD (yn : Int).toNat []) = _)
                      rw [hye] at t0 hyn
                      have hyn' : yn < k := by omega
                      clear hye hy0
                      have s4 := hI4.sb.cell (k := 0) rfl
                      obtain ⟨ia, iN, ic, g4, gw4⟩ := hI4.rI.get (j := yn) (by rw [HA2.out.lI, ← HNL.out]; exact hyn')
                      have gg1 := good_getD HA2.out.gI yn
                      have gg2 := good_fold HA2.out.gI (ys.take m) [] good_nil
                      have oc1 := cell_of_one o2
                      have of1 := free_of_one o2
                      have hOr : ∀ X, BkS wr X → Calls Try.prog 107 #[.agg #[.slice oa on oc], .agg #[.slice ia iN ic]] X fun e X' => ∃ qa qn qc, e = .returned (.agg #[.slice qa qn qc]) ∧ IsWords (wr.heap.size ≤ ·) X' (.slice qa qn qc) (Bit.orW ((ys.take m).foldl (fun o k => Bit.orW o (I1.getD k.toNat [])) []) (I1.getD yn [])) ∧ BkS wr X' := fun X hX => by
                        refine (or_c X (w2.keep (Keep.below hX)) (gw4.keep (Keep.below hX)) gg2.1.1 gg1.1.1 (by have := gg2.2; omega) (by have := gg1.2; omega)).mono ?_
                        rintro e X' ⟨z, rfl, hz, hb⟩
                        obtain ⟨qa, qn, qc, rfl⟩ := words_slice hz
                        exact ⟨qa, qn, qc, rfl, hz.keep (Keep.refl _ fun b hb _ => Nat.le_trans hX.size hb), bel_call hX hb⟩
                      have hE1 : BkS wr wr.drew := (bel_refl wr).drew
                      have hlc := lt_of_block o2
                      have hlb := lt_of_cell t0
                      clear gg1 gg2 gw4
                      go_wp2_with fail
                      go_region_with (go_at_call 107; refine (hOr _ hE1).mono ?_; rintro e X ⟨qa, qn, qc, rfl, hzq, hEX⟩; have kh := (hEX.block c hlc).trans o2; have k1 := cell_of_one kh; have kf := free_of_one kh)
                      all_goals
                        have hwq : IsWords (fun b => w.heap.size + 7 ≤ b ∧ b ≠ c) X (.slice qa qn qc) (Bit.orW ((ys.take m).foldl (fun o k => Bit.orW o (I1.getD k.toNat [])) []) (I1.getD yn [])) := hzq.mono (fun b hb => ⟨by have := hI4.sz; omega, by omega⟩)
                        rw [← EF.out] at hwq
                        have hwq2 := hwq.keep (Keep.setCell (a := ⟨c, 0, none⟩) (u := .slice qa qn qc) (p' := fun b => w.heap.size + 7 ≤ b ∧ b ≠ c) fun b hb _ => ⟨hb, hb.2⟩)
                        have kh2 := one_setCell (u := .slice qa qn qc) kh
                        have hI5 := (hI4.below hEX).cell (a := ⟨c, 0, none⟩) hsz (fun hh => hh.2 rfl) (.slice qa qn qc)
                        have i3 := (i2.keep (Keep.below hEX)).keep (Keep.setCell (a := ⟨c, 0, none⟩) (u := .slice qa qn qc) (p' := fun b => w.heap.size + 7 ≤ b ∧ b ≠ c) fun b hb _ => ⟨hb, hb.2⟩)
                        clear o2 w2 hI4 i2 hOr hE1 s4 g4 oc1 of1 hlc hlb t0 hwq kh k1 kf hzq EF hEX
                        go_wp2_with fail
                        go_roundw
                        case rel => exact ⟨m + 1, qa, qn, qc, by omega, by go_num, kh2, hwq2, hI5, i3⟩
                        case measure => simp [intOf]; omega
                      --]]
                    · obtain rfl : m = ys.length := by omega
                      rw [List.take_length, ← EO.out] at w2
                      clear i2 hmt hm EO HR
                      obtain ⟨ga, gn, gc, gG, gwG⟩ := hI4.rG.get (j := q) (by rw [HG.out, upTo_length]; omega)
                      obtain ⟨ka, kn, kc, gK, gwK⟩ := hI4.rK.get (j := q) (by rw [HK.out, upTo_length]; omega)
                      rw [HG.out, upTo_getD _ _ _ _ (by omega), if_pos (by omega)] at gwG
                      rw [HK.out, upTo_getD _ _ _ _ (by omega), if_pos (by omega)] at gwK
                      have oc1 := cell_of_one o2
                      have hlc := lt_of_block o2
                      have hlG := lt_of_cell gG
                      have hlK := lt_of_cell gK
                      have gdO := good_out L HA2.out.gI q
                      have gdK : Good1 (killW (L.getD q [])) := ⟨(kill_can _).1, (kill_can _).2⟩
                      have gdG : Good1 (genW (L.getD q [])) := ⟨(gen_can _).1, (gen_can _).2⟩
                      have hS : ∀ X, BkS wr X → X.cell? ⟨gg, q, none⟩ = some (.slice ga gn gc) ∧ X.cell? ⟨c, 0, none⟩ = some (.slice oa on oc) ∧ X.cell? ⟨gq, q, none⟩ = some (.slice ka kn kc) := fun X hX =>
                        ⟨(World.cell?_of_block (a := ⟨gg, q, none⟩) (hX.block gg hlG)).trans gG, (World.cell?_of_block (a := ⟨c, 0, none⟩) (hX.block c hlc)).trans oc1, (World.cell?_of_block (a := ⟨gq, q, none⟩) (hX.block gq hlK)).trans gK⟩
                      have hSub : ∀ X, BkS wr X → Calls Try.prog 108 #[.agg #[.slice oa on oc], .agg #[.slice ka kn kc]] X fun e X' => ∃ z, e = .returned (.agg #[z]) ∧ IsWords (fun b => X.heap.size ≤ b ∧ b < X'.heap.size) X' z (Bit.subW (outW L I1 q) (killW (L.getD q []))) ∧ BkS wr X' ∧ Below X.heap.size X X' := fun X hX => by
                        refine (sub_c X (w2.keep (Keep.below hX)) (gwK.keep (Keep.below hX)) gdO.1.1 gdK.1.1 (by have := gdO.2; omega) (by have := gdK.2; omega)).mono ?_
                        rintro e X' ⟨z, rfl, hz, hb⟩
                        exact ⟨z, rfl, (words_both hz), bel_call hX hb, hb⟩
                      have hOr : ∀ Y X z, BkS wr Y → BkS Y X → IsWords (fun b => wr.heap.size ≤ b ∧ b < Y.heap.size) Y z (Bit.subW (outW L I1 q) (killW (L.getD q []))) → Calls Try.prog 107 #[.agg #[.slice ga gn gc], .agg #[z]] X fun e X' => ∃ qa qn qc, e = .returned (.agg #[.slice qa qn qc]) ∧ IsWords (fun b => X.heap.size ≤ b ∧ b < X'.heap.size) X' (.slice qa qn qc) (inW L I1 q) ∧ BkS wr X' ∧ Below X.heap.size X X' := fun Y X z hY hX hz => by
                        have gdS := good_sub gdO gdK
                        refine (or_c X (gwG.keep (Keep.below (bel_call hY hX))) (hz.keep (p' := fun b => True) (fun b hb hlt => ⟨trivial, hX.block b hlt⟩)) gdG.1.1 gdS.1.1 (by have := gdG.2; omega) (by have := gdS.2; omega)).mono ?_
                        rintro e X' ⟨z, rfl, hz, hb⟩
                        obtain ⟨qa, qn, qc, rfl⟩ := words_slice hz
                        exact ⟨qa, qn, qc, rfl, (words_both hz), bel_call (bel_call hY hX) hb, hb⟩
                      have hE0 : BkS wr wr := bel_refl wr
                      have hE1 : BkS wr wr.drew := (bel_refl wr).drew
                      have HW2 := hid_of w2
                      have HO2 := hid_of o2
                      have HI4 := hid_of hI4
                      have hq1 : (0 : Int) ≤ (q : Int) := by omega
                      have hq2 : (q : Int) < (k : Int) := by omega
                      clear gwG gwK gdO gdK gdG w2 o2 hI4
                      go_wp2_with fail
                      go_cut [16] (fun s16 W => ∃ (ci : Nat) (za : Option Addr) (zn zc : Nat), s16 = .pointer (some ⟨ci, 0, none⟩) ∧ c < ci ∧ W.heap[ci]? = some (.cells #[.slice za zn zc] 96) ∧ IsWords (fun b => w.heap.size + 7 ≤ b ∧ b ≠ c ∧ b ≠ ci) W (.slice za zn zc) (inW L I1 q) ∧
                        W.heap[c]? = some (.cells #[.slice oa on oc] 96) ∧ IsWords (fun b => w.heap.size + 7 ≤ b ∧ b ≠ c ∧ b ≠ ci) W (.slice oa on oc) (outW L I1 q) ∧ LvSt w w.heap.size k (funcC nm va vn vc pa pn pc re ba k bc) sv gI gO gq gg (fun b => w.heap.size + 7 ≤ b ∧ b ≠ c ∧ b ≠ ci) I1 O1 K G W)
                      case first =>
                        --[[
                        go_wp2_with fail
                        go_region_held3 (fun X => X.cell? ⟨gg, q, none⟩ = some (.slice ga gn gc) ∧ X.cell? ⟨c, 0, none⟩ = some (.slice oa on oc) ∧ X.cell? ⟨gq, q, none⟩ = some (.slice ka kn kc)) ((refine hS _ ?_; repeat (first | with_reducible assumption | exact hsa | exact Nat.le_refl _ | refine bk_drew ?_ | refine bk_alloc ?_ _ | refine bk_set ?_ ?_ _)))
                          (first
                          | (go_at_call 108; refine (hSub _ ?_).mono ?_; (repeat (first | with_reducible assumption | refine bk_drew ?_ | refine bk_alloc ?_ _)); rintro e Ya ⟨za, rfl, hza, hEa, hba⟩; have hsa : wr.heap.size ≤ Ya.heap.size := Below.size hEa; (try (have hka : Ya.heap[wr.heap.size]? = some (.cells #[.slice none 0 0] 96) := (hba.block _ (by simp; done)).trans (heap_alloc_eq _ _ _ rfl))))
                          | (go_at_call 107; refine (hOr Ya _ _ hEa ?_ ?_).mono ?_; (first | exact bel_refl _ | exact bel_alloc (bel_refl _) _); exact hza.mono (fun b hb => ⟨Nat.le_trans (by simp) hb.1, hb.2⟩); rintro e Ye ⟨qa, qn, qc, rfl, hzq, hEe, hbe⟩; (try (have hkb := (hbe.block _ (lt_of_block hka)).trans hka; have hkc := cell_of_one hkb; have hkf := free_of_one hkb)); (try (have hkb : Ye.heap[Ya.heap.size]? = some (.cells #[.slice none 0 0] 96) := (hbe.block _ (by simp; done)).trans (heap_alloc_eq _ _ _ rfl); have hkc := cell_of_one hkb; have hkf := free_of_one hkb))))
                        all_goals
                          go_wp2_with fail
                          go_meet
                          refine ⟨_, qa, qn, qc, rfl, ?_⟩
                          first
                          | exact in_done HI4.out HO2.out HW2.out hEe hzq hsa (Below.size hEe) (.inr (Nat.le_refl _)) (heap_alloc_eq _ _ _ rfl) (fun b hb _ => Below.heap_alloc _ _ _ hb) (Below.alloc (Below.refl _ _) (Below.size hEe) _)
                          | exact in_done HI4.out HO2.out HW2.out hEe hzq (Nat.le_trans hsa (Below.size (bel_alloc (bel_refl Ya) _))) hsa (.inl (by simp)) (one_setCell hkb) (fun b _ hne => Below.heap_setCell _ _ _ _ hne) (Below.setCell (Below.refl wr.heap.size _) (p := ⟨Ya.heap.size, 0, none⟩) hsa _)
                          | exact in_done HI4.out HO2.out HW2.out hEe hzq hsa (Nat.le_refl _) (.inl (lt_of_block hka)) (one_setCell hkb) (fun b _ hne => Below.heap_setCell _ _ _ _ hne) (Below.setCell (Below.refl wr.heap.size _) (p := ⟨wr.heap.size, 0, none⟩) (Nat.le_refl wr.heap.size) _)
                        --]]
                      case rest =>
                        obtain ⟨ci, za, zn, zc, rfl, hcc, o5, w5, o6, w6, hI6⟩ := hcut
                        clear gG gK oc1 hlc hlG hlK hS hSub hOr hE0 hE1 HW2 HO2 HI4
                        obtain ⟨ia, iN, ic, gi, gwi⟩ := hI6.rI.get (j := q) (by rw [HA2.out.lI, ← HNL.out]; omega)
                        obtain ⟨oa2, oN2, oc2, go, gwo⟩ := hI6.rO.get (j := q) (by rw [HA2.out.lO, ← HNL.out]; omega)
                        have s0 := hI6.sb.cell (k := 0) rfl
                        have s1 := hI6.sb.cell (k := 1) rfl
                        have n1 := cell_of_one o5
                        have n2 := cell_of_one o6
                        obtain ⟨b1, Hb1⟩ : ∃ b1, Hid (decide (inW L I1 q = I1.getD q []) = b1) := ⟨_, (rfl : decide (inW L I1 q = I1.getD q []) = _)⟩
                        obtain ⟨b2, Hb2⟩ : ∃ b2, Hid (decide (outW L I1 q = O1.getD q []) = b2) := ⟨_, (rfl : decide (outW L I1 q = O1.getD q []) = _)⟩
                        have hEq1 : ∀ X, BkS wc X → Calls Try.prog 109 #[.agg #[.slice za zn zc], .agg #[.slice ia iN ic]] X fun e X' => e = .returned (.bool b1) ∧ BkS wc X' := fun X hX => by
                          refine (equal_c X (w5.keep (Keep.below hX)) (gwi.keep (Keep.below hX))).mono ?_
                          rintro e X' ⟨rfl, hb⟩
                          rw [Hb1.out]
                          exact ⟨rfl, bel_call hX hb⟩
                        have hEq2 : ∀ X, BkS wc X → Calls Try.prog 109 #[.agg #[.slice oa on oc], .agg #[.slice oa2 oN2 oc2]] X fun e X' => e = .returned (.bool b2) ∧ BkS wc X' := fun X hX => by
                          refine (equal_c X (w6.keep (Keep.below hX)) (gwo.keep (Keep.below hX))).mono ?_
                          rintro e X' ⟨rfl, hb⟩
                          rw [Hb2.out]
                          exact ⟨rfl, bel_call hX hb⟩
                        have hE0 : BkS wc wc := bel_refl wc
                        have hE1 : BkS wc wc.drew := (bel_refl wc).drew
                        have hcl : ∀ X, BkS wc X → X.cell? ⟨ci, 0, none⟩ = some (.slice za zn zc) ∧ X.cell? ⟨c, 0, none⟩ = some (.slice oa on oc) ∧ X.cell? ⟨sv, 0, none⟩ = some (.slice (some ⟨gI, 0, none⟩) k k) ∧ X.cell? ⟨sv, 1, none⟩ = some (.slice (some ⟨gO, 0, none⟩) k k) ∧ X.cell? ⟨gI, q, none⟩ = some (.slice ia iN ic) ∧ X.cell? ⟨gO, q, none⟩ = some (.slice oa2 oN2 oc2) := fun X hX =>
                          ⟨(World.cell?_of_block (a := ⟨ci, 0, none⟩) (hX.block _ (lt_of_cell n1))).trans n1, (World.cell?_of_block (a := ⟨c, 0, none⟩) (hX.block _ (lt_of_cell n2))).trans n2, (World.cell?_of_block (a := ⟨sv, 0, none⟩) (hX.block _ (lt_of_cell s0))).trans s0, (World.cell?_of_block (a := ⟨sv, 1, none⟩) (hX.block _ (lt_of_cell s1))).trans s1, (World.cell?_of_block (a := ⟨gI, q, none⟩) (hX.block _ (lt_of_cell gi))).trans gi, (World.cell?_of_block (a := ⟨gO, q, none⟩) (hX.block _ (lt_of_cell go))).trans go⟩
                        have HC := hid_of hcl
                        obtain ⟨wd, rfl⟩ : ∃ wd : World, wd = wc := ⟨_, rfl⟩
                        go_wp2_with fail
                        go_cut [11] (fun s11 W => s11 = .bool (fl || !b1 || !b2) ∧ BkS wd W)
                        case first =>
                          --[[
                          clear hcl
                          cases fl with
                          | true =>
                            go_wp2_with fail
                            go_quiet (fail)
                            all_goals (go_wp2_with fail; go_meet; exact ⟨rfl, by first | exact hE0 | exact hE1 | exact bel_drewN hE0 _⟩)
                          | false =>
                            cases b1
                            all_goals
                              go_wp2_with fail
                              refine wp_region_class (C := BkS wd) (by kernel_rfl) (by kernel_rfl) hE1 ?_
                              repeat (first
                                | go_big_quiet_skip
                                | (go_big_quiet_want; go_big_quiet_op; first | go_big_quiet_on | (apply Exists.intro; refine ⟨fun W hW => ?_, ?_⟩; (first | rfl | (obtain ⟨e1, e2, e3, e4, e5, e6⟩ := HC.out W hW; go_simp; first | done | rfl) | with_reducible exact hEq1 W hW | with_reducible exact hEq2 W hW); go_big_quiet_on)))
                              refine wpQuiet_nil ?_
                              intro X hX
                              go_wp2_with fail; go_meet; exact ⟨by simp, hX⟩
                          --]]
                        case rest =>
                          obtain ⟨rfl, hB5⟩ := hcut
                          obtain ⟨m1, m2, m3, m4, m5, m6⟩ := hcl wc hB5
                          have hI7 := hI6.below hB5
                          have y5 := w5.keep (p' := fun b => w.heap.size + 7 ≤ b ∧ b ≠ c ∧ b ≠ ci) (Keep.below hB5)
                          have y6 := w6.keep (p' := fun b => w.heap.size + 7 ≤ b ∧ b ≠ c ∧ b ≠ ci) (Keep.below hB5)
                          have fI := hI7.rI.frozen q
                          have fO := hI7.rO.frozen q
                          have six := hI7.six
                          have ncg : gI ≠ gO := by unfold Six at six; omega
                          have nsI : sv ≠ gI := by unfold Six at six; omega
                          have nsO : sv ≠ gO := by unfold Six at six; omega
                          have ncI : c ≠ gI := by unfold Six at six; omega
                          have ncO : c ≠ gO := by unfold Six at six; omega
                          have niI : ci ≠ gI := by unfold Six at six; omega
                          have niO : ci ≠ gO := by unfold Six at six; omega
                          have n1' := ncg.symm
                          have HI7 := hid_of hI7
                          have Hy5 := hid_of y5
                          have Hy6 := hid_of y6
                          have hS : ∀ X, KeepO gI gO wc X → X.cell? ⟨ci, 0, none⟩ = some (.slice za zn zc) ∧ X.cell? ⟨c, 0, none⟩ = some (.slice oa on oc) ∧ X.cell? ⟨sv, 0, none⟩ = some (.slice (some ⟨gI, 0, none⟩) k k) ∧ X.cell? ⟨sv, 1, none⟩ = some (.slice (some ⟨gO, 0, none⟩) k k) := fun X hX =>
                            ⟨(World.cell?_of_block (a := ⟨ci, 0, none⟩) (hX ci niI niO)).trans m1, (World.cell?_of_block (a := ⟨c, 0, none⟩) (hX c ncI ncO)).trans m2, (World.cell?_of_block (a := ⟨sv, 0, none⟩) (hX sv nsI nsO)).trans m3, (World.cell?_of_block (a := ⟨sv, 1, none⟩) (hX sv nsI nsO)).trans m4⟩
                          have ko0 : KeepO gI gO wc wc := fun _ _ _ => rfl
                          have koI : ∀ X v, KeepO gI gO wc X → KeepO gI gO wc (X.setCell ⟨gI, q, none⟩ v) := fun X v h b h1 h2 => (Below.heap_setCell _ _ _ _ h1).trans (h b h1 h2)
                          have koO : ∀ X v, KeepO gI gO wc X → KeepO gI gO wc (X.setCell ⟨gO, q, none⟩ v) := fun X v h b h1 h2 => (Below.heap_setCell _ _ _ _ h2).trans (h b h1 h2)
                          have kod : ∀ X, KeepO gI gO wc X → KeepO gI gO wc X.drew := fun X h => h
                          clear o5 w5 o6 w6 hI6 gi gwi go gwo s0 s1 n1 n2 hEq1 hEq2 hE0 hE1 hcl HC hB5 hI7 y5 y6 six
                          go_wp2_with fail
                          go_region_held3 (fun X => X.cell? ⟨ci, 0, none⟩ = some (.slice za zn zc) ∧ X.cell? ⟨c, 0, none⟩ = some (.slice oa on oc) ∧ X.cell? ⟨sv, 0, none⟩ = some (.slice (some ⟨gI, 0, none⟩) k k) ∧ X.cell? ⟨sv, 1, none⟩ = some (.slice (some ⟨gO, 0, none⟩) k k)) ((refine hS _ ?_; repeat (first | exact ko0 | apply koI | apply koO | apply kod))) (fail)
                          all_goals
                            have hA1 := (HI7.out.setI Hy5.out q).setO (Hy6.out.keep (Keep.setCell (a := ⟨gI, q, none⟩) (u := .slice za zn zc) (p' := fun b => w.heap.size + 7 ≤ b ∧ b ≠ c ∧ b ≠ ci) fun b hb _ => ⟨hb, fun e => HI7.out.rI.np (by have e' : b = gI := e; exact e' ▸ hb)⟩)) q
                            have hA2 := (HI7.out.setO Hy6.out q).setI (Hy5.out.keep (Keep.setCell (a := ⟨gO, q, none⟩) (u := .slice oa on oc) (p' := fun b => w.heap.size + 7 ≤ b ∧ b ≠ c ∧ b ≠ ci) fun b hb _ => ⟨hb, fun e => HI7.out.rO.np (by have e' : b = gO := e; exact e' ▸ hb)⟩)) q
                            have hA3 := hA1.mono (p' := (w.heap.size + 7 ≤ ·)) (fun b hb => hb.1) (fun b hb hh => by omega)
                            have hA4 := hA2.mono (p' := (w.heap.size + 7 ≤ ·)) (fun b hb => hb.1) (fun b hb hh => by omega)
                            have eS := HS.out
                            unfold stepW at eS
                            dsimp only at eS
                            have e1 : (sweepW L I O (k - q)).1 = I1.set q (inW L I1 q) := by rw [eS]
                            have e2 : (sweepW L I O (k - q)).2.1 = O1.set q (outW L I1 q) := by rw [eS]
                            have e3 : (sweepW L I O (k - q)).2.2 = (fl || !b1 || !b2) := by
                              rw [eS, ← Hb1.out, ← Hb2.out]; simp
                            rw [← e1, ← e2] at hA3 hA4
                            have HE3 := hid_of e3
                            have HA3 := hid_of hA3
                            have HA4 := hid_of hA4
                            clear hA1 hA2 hA3 hA4 eS e1 e2 e3 HS Hb1 Hb2 HI7 Hy5 Hy6 hS ko0 koI koO kod m1 m2 m3 m4 m5 m6 fI fO
                            go_wp2_with fail
                            go_roundw
                            case rel => exact ⟨q, by omega, rfl, by rw [HE3.out], by first | exact HA3.out | exact HA4.out | exact HA3.out.below (bel_refl _).drew | exact HA4.out.below (bel_refl _).drew⟩
                            case measure => simp [intOf]
end Go.Proofs.Ytcihobmjohpnkaa
