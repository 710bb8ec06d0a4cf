/- 'live.After': the closure, 'Each', the walk. -/
import Derived.Test.YtcihobmjohpnkaaLvI
import Derived.Test.YtcihobmjohpnkaaRfL
import Derived.Outline
import Derived.Deep.QuietTactic
import Derived.BigQuiet
import Derived.Deep.RegionHeld3
namespace Go.Proofs.Ytcihobmjohpnkaa
open Go.RowKit Go.Sort

/-- What is wanted behind instruction k of a block at whose end ob is. -/
def aftW (l : List InsD) (k : Nat) (ob : List Nat) : List Nat := backD l (k + 1) ob

theorem grown_alloc {A B : World} {r : Option Nat} (h : A.grownBy B r) (o : Obj) : A.grownBy (B.alloc o) r := grown_trans h (World.grownBy_alloc B o r)
theorem grown_below {A B C : World} {r : Option Nat} (h : A.grownBy B r) (hb : Below B.heap.size B C) : A.grownBy C r :=
  ⟨hb.os.trans h.os, hb.tape.trans h.tape, hb.output.trans h.output, Nat.le_trans h.size hb.size, fun k hk hne => (hb.block k (by have := h.size; omega)).trans (h.block k hk hne)⟩
theorem grown_set {A B : World} {r : Option Nat} (h : A.grownBy B r) {a : Addr} (ha : A.heap.size ≤ a.block ∨ r = some a.block) (u : Value) : A.grownBy (B.setCell a u) r :=
  ⟨h.os, h.tape, h.output, by simpa using h.size, fun k hk hne => (Below.heap_setCell _ _ _ _ (fun e => by
    rcases ha with ha | ha
    · omega
    · exact hne (by rw [e]; exact ha.symm))).trans (h.block k hk hne)⟩

set_option maxRecDepth 100000 in
set_option maxHeartbeats 2000000 in
/-- The closure: another instruction than the one that is asked for. -/
theorem aft_other (w : World) (k i : Int) (ins : InsD) (a : Option Addr) (len cap : Nat) (za : Option Addr) (zn zc : Nat) (pi po : Nat) (hi : w.cell? ⟨pi, 0, none⟩ = some (.int .i64 i)) (hne : k ≠ i) :
    Calls Try.prog 85 #[.int .i64 k, insV ins (.slice a len cap), .agg #[.slice za zn zc], .pointer (some ⟨pi, 0, none⟩), .pointer (some ⟨po, 0, none⟩)] w fun e w' => e = .returned (.tuple #[]) ∧ Below w.heap.size w w' := by
  obtain ⟨ik, idd, ia, ib, inn, iname, iargs, it, jf⟩ := ins
  unfold insV
  dsimp only
  have hd : (k == i) = false := by simpa using hne
  have hl := lt_of_cell hi
  go_enter Try.func85, Try.ntmps85
  go_wp2_with fail
  go_end0
  exact ⟨rfl, bel_alloc (bel_alloc (bel_refl w) _) _⟩

set_option maxRecDepth 100000 in
set_option maxHeartbeats 2000000 in
theorem aft_this (w : World) (i : Int) (ins : InsD) (a : Option Addr) (len cap : Nat) (za : Option Addr) (zn zc : Nat) (pi po : Nat) (hi : w.cell? ⟨pi, 0, none⟩ = some (.int .i64 i)) {ov : Value} (ho : w.heap[po]? = some (.cells #[ov] 25)) {ws : List Nat} (hz : IsWords (· < w.heap.size) w (.slice za zn zc) ws) (hg : Good1 ws) :
    Calls Try.prog 85 #[.int .i64 i, insV ins (.slice a len cap), .agg #[.slice za zn zc], .pointer (some ⟨pi, 0, none⟩), .pointer (some ⟨po, 0, none⟩)] w fun e w' =>
      e = .returned (.tuple #[]) ∧ ∃ la lc, w'.heap[po]? = some (.cells #[.slice la (listI ws).length lc] 25) ∧ w'.ownsRow w.heap.size 3 1 (.slice la (listI ws).length lc) (listI ws).length (ints (listI ws)) ∧ w.grownBy w' (some po) := by
  obtain ⟨ik, idd, ia, ib, inn, iname, iargs, it, jf⟩ := ins
  unfold insV
  dsimp only
  have hd : (i == i) = true := by simp
  have hl := lt_of_cell hi
  have hlo := lt_of_block ho
  go_enter Try.func85, Try.ntmps85
  go_wp2_with fail
  generalize hW : ((w.alloc _).alloc _) = W
  have hB : Below w.heap.size w W := by rw [← hW]; exact bel_alloc (bel_alloc (bel_refl w) _) _
  have hs := hB.size
  have hk2 : W.heap[w.heap.size + 1]? = some (.cells #[.slice za zn zc] 96) := by rw [← hW]; exact heap_alloc_eq _ _ _ (by simp)
  clear hW
  refine (list_c W (hz.keep (p' := (· < W.heap.size)) (fun b hb hlt => ⟨by show b < W.heap.size; omega, hB.block b hlt⟩)) (by have := hg.2; omega) hg.1.1).mono ?_
  rintro e W2 ⟨z, rfl, hz2, hb2⟩
  obtain ⟨la, lc, rfl, -⟩ := owns_slice hz2
  have hB2 := bel_call hB hb2
  have ho2 := (hB2.block po hlo).trans ho
  have c2 := cell_of_one ho2
  have f2 := free_of_one ho2
  have hs2 := hB2.size
  have hr := (owns_mono hz2 hs).kept (World.ownsRow.kept_set ⟨po, 0, none⟩ (Value.slice la (listI ws).length lc)) (by
    cases hob : (Value.slice la (listI ws).length lc).ownBlock with
    | none => exact .inl rfl
    | some b => exact .inr fun e => by have := (hz2.lt b hob).1; simp at e; omega)
  have hh := one_setCell (u := .slice la (listI ws).length lc) ho2
  have hg2 : w.grownBy (W2.setCell ⟨po, 0, none⟩ (.slice la (listI ws).length lc)) (some po) := grown_set ⟨hB2.os, hB2.tape, hB2.output, hB2.size, fun k hk _ => hB2.block k hk⟩ (.inr rfl) _
  have HF := hid_of (And.intro hh (And.intro hr hg2))
  clear hz2 hb2 hB2 hB hr hh hg2 hz ho
  go_wp2_with fail
  go_end0
  exact ⟨rfl, la, lc, HF.out.1, HF.out.2.1, HF.out.2.2⟩

section
/- 'live.Sets.Each' with the closure of 'After'. -/
open Go.RowKit Go.Sort

/-- What the closure has written: nothing while instruction i is still to come. -/
def OutSt (B po : Nat) (l : List InsD) (ob : List Nat) (i r : Nat) (W : World) : Prop :=
  (r ≤ i → ∃ la lc, W.heap[po]? = some (.cells #[.slice la (listI (aftW l i ob)).length lc] 25) ∧ W.ownsRow B 3 1 (.slice la (listI (aftW l i ob)).length lc) (listI (aftW l i ob)).length (ints (listI (aftW l i ob)))) ∧
  (i < r → W.heap[po]? = some (.cells #[.slice none 0 0] 25))
theorem OutSt.below {B po : Nat} {l : List InsD} {ob : List Nat} {i r : Nat} {W W' : World} (h : OutSt B po l ob i r W) (hb : Below W.heap.size W W') (hp : po < W.heap.size) : OutSt B po l ob i r W' :=
  ⟨fun hr => let ⟨la, lc, h1, h2⟩ := h.1 hr; ⟨la, lc, (hb.block po hp).trans h1, owns_below h2 hb⟩, fun hr => (hb.block po hp).trans (h.2 hr)⟩
theorem OutSt.set {B po : Nat} {l : List InsD} {ob : List Nat} {i r : Nat} {W : World} (h : OutSt B po l ob i r W) {a : Addr} (ha : a.block < B) (hp : po ≠ a.block) (u : Value) : OutSt B po l ob i r (W.setCell a u) :=
  ⟨fun hr => let ⟨la, lc, h1, h2⟩ := h.1 hr; ⟨la, lc, (Below.heap_setCell _ _ _ _ hp).trans h1, ownsRow_setCell_below h2 ha u⟩, fun hr => (Below.heap_setCell _ _ _ _ hp).trans (h.2 hr)⟩
/-- One instruction on. -/
theorem OutSt.step {B po : Nat} {l : List InsD} {ob : List Nat} {i q : Nat} {W : World} (h : OutSt B po l ob i (q + 1) W) (hne : q ≠ i) : OutSt B po l ob i q W :=
  ⟨fun hr => h.1 (by omega), fun hr => h.2 (by omega)⟩

set_option maxRecDepth 100000 in
set_option maxHeartbeats 8000000 in
theorem each_live (w : World) (nm : ByteArray) (va : Option Addr) (vn vc : Nat) (pa : Option Addr) (pn pc : Nat) (re : ByteArray) (ba : Option Addr) (n bc : Nat) {L : List (List InsD)} {O : List (List Nat)} (ia : Option Addr) (iN ic : Nat) (oa : Option Addr) (on oc : Nat) (pi po b i : Nat)
    (h : IsBlocks (fun b => b < w.heap.size ∧ b ≠ po) w (.slice ba n bc) L) (hO : IsSets (fun b => b < w.heap.size ∧ b ≠ po) w (.slice oa on oc) O) (hlO : O.length = L.length) (gO : ∀ ws ∈ O, Good1 ws) (hbd : ∀ l ∈ L, l.length ≤ 100000 ∧ ∀ i ∈ l, i.args.length ≤ 400000)
    (hb : b < L.length) (hpi : w.cell? ⟨pi, 0, none⟩ = some (.int .i64 (i : Int))) (hne : pi ≠ po) (hpo : w.heap[po]? = some (.cells #[.slice none 0 0] 25)) (hi : i < (L.getD b []).length) :
    Calls Try.prog 84 #[.agg #[.slice ia iN ic, .slice oa on oc], funcV nm va vn vc pa pn pc re ba n bc, .int .i64 (b : Int), .func (.func 85) #[] #[.pointer (some ⟨pi, 0, none⟩), .pointer (some ⟨po, 0, none⟩)]] w fun e w' =>
      e = .returned (.tuple #[]) ∧ OutSt w.heap.size po (L.getD b []) (O.getD b []) i 0 w' ∧ w.grownBy w' (some po) := by
  have hlo := lt_of_block hpo
  have hlpi := lt_of_cell hpi
  obtain ⟨_, _, hv0, hl0, hx⟩ := id h
  simp only [Value.slice.injEq] at hv0
  obtain ⟨rfl, hnL, rfl⟩ := hv0
  obtain ⟨_, _, hv1, hl1, hxo⟩ := id hO
  simp only [Value.slice.injEq] at hv1
  obtain ⟨rfl, hoL, rfl⟩ := hv1
  have hbO : b < O.length := by omega
  rcases hx with hx | ⟨bb, off, rfl, hpb, hx⟩
  · rw [hx] at hb; simp at hb
  rcases hxo with hxo | ⟨gb, goff, rfl, hgb, hxo⟩
  · rw [hxo] at hbO; simp at hbO
  obtain ⟨vi, c1, ai, capi, rfl, ⟨hli0, hli⟩, hxi⟩ := hx b hb
  obtain ⟨vo, o1, hvo⟩ := hxo b hbO
  obtain ⟨za, zn, zc, rfl⟩ := words_slice hvo
  rw [Nat.mul_one] at c1 o1
  have hbl := hbd _ (List.getElem_mem hb)
  have hLk : L.getD b [] = L[b] := by simp [List.getD, hb]
  have hOk : O.getD b [] = O[b] := by simp [List.getD, hbO]
  have hgo := gO _ (List.getElem_mem hbO)
  rw [hLk] at hi ⊢
  rw [hOk]
  generalize L[b] = l at c1 hli0 hli hxi hbl hi ⊢
  generalize O[b] = ob at hvo hgo ⊢
  obtain ⟨hbl1, hbl2⟩ := hbl
  have HB2 := hid_of hbl2
  have HGO := hid_of hgo
  have hb1 : (b : Int) < (n : Int) := by omega
  have hb2 : (b : Int) < (on : Int) := by omega
  have hb0 : (0 : Int) ≤ (b : Int) := by omega
  have hlb := lt_of_cell c1
  have hx0 := c1
  have hlg := lt_of_cell o1
  have hlb1 : bb < w.heap.size + 1 := by omega
  have hlb2 : bb < w.heap.size + 1 + 1 := by omega
  have hlg1 : gb < w.heap.size + 1 := by omega
  unfold funcV
  clear hx hxo hLk hOk hnL hoL hl0 hl1 hbd gO hlO hbl2 hgo
  go_enter Try.func84, Try.ntmps84
  go_wp2_with fail
  have hW0 := bel_alloc (bel_alloc (bel_alloc (bel_refl w) (.cells #[Value.slice ia iN ic, Value.slice (some ⟨gb, goff, none⟩) on oc] 90)) (.cells #[Value.string nm, Value.slice va vn vc, Value.slice pa pn pc, Value.string re, Value.slice (some ⟨bb, off, none⟩) n bc] 44)) (.cells #[Value.slice za zn zc] 96)
  have hg0 : w.grownBy (((w.alloc (.cells #[Value.slice ia iN ic, Value.slice (some ⟨gb, goff, none⟩) on oc] 90)).alloc (.cells #[Value.string nm, Value.slice va vn vc, Value.slice pa pn pc, Value.string re, Value.slice (some ⟨bb, off, none⟩) n bc] 44)).alloc (.cells #[Value.slice za zn zc] 96)) (some po) := ⟨hW0.os, hW0.tape, hW0.output, hW0.size, fun k hk _ => hW0.block k hk⟩
  have HW0 := hid_of hW0
  have HG0 := hid_of hg0
  clear hW0 hg0 c1 o1
  have c1 := hx0
  go_loopw [9] (fun s9 wx => ∃ (r : Nat) (za : Option Addr) (zn zc : Nat), r ≤ l.length ∧ s9 = .int .i64 ((r : Int) - 1) ∧ wx.heap[w.heap.size + 1 + 1]? = some (.cells #[.slice za zn zc] 96) ∧ IsWords (fun b => b ≠ po ∧ b ≠ w.heap.size + 1 + 1) wx (.slice za zn zc) (backD l r ob) ∧
      Row wx (w.heap.size + 1) 44 (funcC nm va vn vc pa pn pc re (some ⟨bb, off, none⟩) n bc) ∧ OutSt (w.heap.size + 3) po l ob i r wx ∧ w.grownBy wx (some po) ∧ w.heap.size + 3 ≤ wx.heap.size) (fun s9 _ => (intOf s9 + 1).toNat)
  case atStart =>
    refine ⟨l.length, za, zn, zc, Nat.le_refl _, rfl, heap_alloc_eq _ _ _ (by simp), ?_, heap_alloc_ne _ _ _ _ (heap_alloc_eq _ _ _ (by simp)), ?_, HG0.out, by simp⟩
    · rw [backD_all]; exact hvo.keep (fun b hb hlt => ⟨⟨hb.2, by omega⟩, HW0.out.block b hb.1⟩)
    · exact ⟨fun hh => by omega, fun _ => (HW0.out.block po hlo).trans hpo⟩
  case round =>
    obtain ⟨r, za, zn, zc, hr, rfl, o2, hz, hf, hO2, hg, hsz⟩ := hrel
    rcases r with _ | q
    · have eq0 : (((0 : Nat) : Int) - 1) = -1 := rfl
      rw [eq0]
      clear eq0 o2 hz hf hx0
      have hO3 : OutSt w.heap.size po l ob i 0 wr := ⟨fun hr => let ⟨la, lc, h1, h2⟩ := hO2.1 hr; ⟨la, lc, h1, owns_mono h2 (by omega)⟩, hO2.2⟩
      have HO3 := hid_of hO3
      have HG := hid_of hg
      clear hO2 hO3 hg
      go_wp2_with fail
      go_end0
      exact ⟨rfl, HO3.out, HG.out⟩
    · have eq1 : (((q + 1 : Nat) : Int) - 1) = (q : Int) := by omega
      rw [eq1]
      clear eq1
      have hql : q < l.length := by omega
      have hkp : Keep (fun b => b < w.heap.size ∧ b ≠ po) (fun b => b < w.heap.size ∧ b ≠ po) w wr := fun b hb _ => ⟨hb, hg.block b hb.1 (by simpa using hb.2)⟩
      have k1 := hkp.cell (o := off + b) hpb c1
      have kp := hg.cell hpi (by simpa using hne)
      rcases hxi with hxi | ⟨lb, lo, rfl, hplb, hxi⟩
      · rw [hxi] at hql; simp at hql
      have hci := CIns.keep hplb (hxi q hql) hkp
      have EG := hid_of (backD_succ hql ob)
      obtain ⟨ii, hli1⟩ : ∃ ii, l[q] = ii := ⟨_, rfl⟩
      have hia := HB2.out _ (List.getElem_mem hql)
      rw [hli1] at hci EG hia
      obtain ⟨ik, idd, ja, ib, inn, iname, iargs, it, jf⟩ := ii
      obtain ⟨d0, d1, d2, d3, d4, d5, ⟨v6, d6, hv6⟩, d7, d8⟩ := hci
      obtain ⟨a6, cap6, rfl, hl6, hx6⟩ := id hv6
      dsimp only at d0 d1 d2 d3 d4 d5 d6 d7 d8 hv6 hl6 hia
      have gB := backD_good l (q + 1) HGO.out
      have c4 := hf.cell (k := 4) (v := .slice (some ⟨bb, off, none⟩) n bc) rfl
      have o3 := cell_of_one o2
      have hlw : lb < wr.heap.size := lt_of_cell d0
      have hbw : bb < wr.heap.size := lt_of_cell k1
      have hpiw : pi < wr.heap.size := by omega
      have hzl := words_lt hz
      have hax := lt_of_block o2
      have hcall : ∀ W1, Below wr.heap.size wr W1 → Calls Try.prog 85 #[.int .i64 (q : Int), .agg #[.int .i64 ik, .int .i64 idd, .int .i64 ja, .int .i64 ib, .int .i64 inn, .string iname, .slice a6 iargs.length cap6, .int .i64 it, .int .i64 jf], .agg #[.slice za zn zc], .pointer (some ⟨pi, 0, none⟩), .pointer (some ⟨po, 0, none⟩)] W1
          fun e W2 => e = .returned (.tuple #[]) ∧ W1.grownBy W2 (some po) ∧ OutSt (w.heap.size + 3) po l ob i q W2 := fun W1 hb => by
        have kp1 := (hb.cell (p := ⟨pi, 0, none⟩) hpiw).trans kp
        by_cases hqi : q = i
        · subst hqi
          have hpn := (hb.block po (by omega)).trans (hO2.2 (by omega))
          refine (aft_this W1 (q : Int) ⟨ik, idd, ja, ib, inn, iname, iargs, it, jf⟩ a6 iargs.length cap6 za zn zc pi po kp1 hpn (hzl.keep (p' := (· < W1.heap.size)) (fun b hb2 hlt => ⟨by have := hb.size; show b < W1.heap.size; omega, hb.block b hlt⟩)) gB).mono ?_
          rintro e W2 ⟨rfl, la, lc, h1, h2, h3⟩
          exact ⟨rfl, h3, fun _ => ⟨la, lc, h1, owns_mono h2 (by have := hb.size; omega)⟩, fun hh => by omega⟩
        · refine (aft_other W1 (q : Int) (i : Int) ⟨ik, idd, ja, ib, inn, iname, iargs, it, jf⟩ a6 iargs.length cap6 za zn zc pi po kp1 (by omega)).mono ?_
          rintro e W2 ⟨rfl, h3⟩
          have := hb.size
          exact ⟨rfl, ⟨h3.os, h3.tape, h3.output, h3.size, fun k hk _ => h3.block k hk⟩, ((hO2.below hb (by omega)).below h3 (by omega)).step hqi⟩
      have HC := hid_of hcall
      have hkI := hkp
      clear hli1 hx6 hcall hO2 hpi hpo c1
      go_wp2_with fail
      generalize hW1 : wr.alloc _ = W1
      have hb1 : Below wr.heap.size wr W1 := by rw [← hW1]; exact bel_alloc (bel_refl wr) _
      have hs1 : W1.heap.size = wr.heap.size + 1 := by rw [← hW1]; simp
      have hr1 : Row W1 wr.heap.size 36 [.int .i64 ik, .int .i64 idd, .int .i64 ja, .int .i64 ib, .int .i64 inn, .string iname, .slice a6 iargs.length cap6, .int .i64 it, .int .i64 jf] := by rw [← hW1]; exact heap_alloc_eq _ _ _ rfl
      clear hW1
      refine (HC.out W1 hb1).mono ?_
      rintro e W2 ⟨rfl, hg2, hO3⟩
      have hg3 : wr.grownBy W2 (some po) := grown_trans ⟨hb1.os, hb1.tape, hb1.output, hb1.size, fun k hk _ => hb1.block k hk⟩ hg2
      have hs2 := hg2.size
      have r2 := hr1.keep (hg2.block _ hr1.lt (by simp; omega))
      have e0 := r2.cell (k := 0) rfl
      have e1 := r2.cell (k := 1) rfl
      have e2 := r2.cell (k := 2) rfl
      have e3 := r2.cell (k := 3) rfl
      have e4 := r2.cell (k := 4) rfl
      have e5 := r2.cell (k := 5) rfl
      have e6 := r2.cell (k := 6) rfl
      have e7 := r2.cell (k := 7) rfl
      have e8 := r2.cell (k := 8) rfl
      have o4 := (hg3.block (w.heap.size + 1 + 1) (lt_of_block o2) (by simp; omega)).trans o2
      have o5 := cell_of_one o4
      have f2 := hf.keep (hg3.block _ hf.lt (by simp; omega))
      have z2 : IsWords (fun b => b ≠ po ∧ b ≠ w.heap.size + 1 + 1) W2 (.slice za zn zc) (backD l (q + 1) ob) := hz.keep (fun b hb hlt => ⟨hb, hg3.block b hlt (by simpa using hb.1)⟩)
      have a2 : IsInts (· < W2.heap.size) W2 (.slice a6 iargs.length cap6) iargs := hv6.keep (fun b hb hlt => ⟨by show b < W2.heap.size; omega, hg3.block b hlt (by simpa using hb.2)⟩)
      have hbk := hid_of (back_c W2 ⟨ik, idd, ja, ib, inn, iname, iargs, it, jf⟩ a6 iargs.length cap6 (words_lt z2) gB.1.1 (by have := gB.2; omega) a2 (by show iargs.length ≤ 1000000; omega))
      unfold insV at hbk
      rw [← EG.out] at hbk
      have hgw := grown_trans hg hg3
      have hg2W := hg2
      clear hz hf hg hr1 r2 hv6 a2 z2 hb1 HC d0 d1 d2 d3 d4 d5 d6 d7 d8 k1 kp c4 o3 hzl hkp hkI hg2 hg3 hg2W o2
      go_wp2_with fail
      refine hbk.out.mono ?_
      rintro e W3 ⟨z, rfl, hz3, hb3⟩
      obtain ⟨ya, yn, yc, rfl⟩ := words_slice hz3
      have hs3 := hb3.size
      have o6 := (hb3.block _ (lt_of_block o4)).trans o4
      have o7 := cell_of_one o6
      have o8 := free_of_one o6
      have f3 := (f2.keep (hb3.block _ f2.lt)).other (a := ⟨w.heap.size + 1 + 1, 0, none⟩) (by show w.heap.size + 1 ≠ w.heap.size + 1 + 1; omega) (.slice ya yn yc)
      have o9 := one_setCell (u := .slice ya yn yc) o6
      have z4 := hz3.keep (p' := fun b => b ≠ po ∧ b ≠ w.heap.size + 1 + 1) (Keep.setCell (a := ⟨w.heap.size + 1 + 1, 0, none⟩) (u := .slice ya yn yc) fun b hb _ => ⟨⟨by omega, by omega⟩, by show b ≠ w.heap.size + 1 + 1; omega⟩)
      have hO4 := (hO3.below hb3 (by omega)).set (a := ⟨w.heap.size + 1 + 1, 0, none⟩) (by show w.heap.size + 1 + 1 < w.heap.size + 3; omega) (by show po ≠ w.heap.size + 1 + 1; omega) (.slice ya yn yc)
      have hg4 := grown_set (grown_below hgw hb3) (a := ⟨w.heap.size + 1 + 1, 0, none⟩) (.inl (by show w.heap.size ≤ w.heap.size + 1 + 1; omega)) (.slice ya yn yc)
      have HH := hid_of (And.intro o9 (And.intro z4 (And.intro f3 (And.intro hO4 hg4))))
      clear o4 o5 o6 o9 z4 f3 f2 hO4 hO3 hg4 hgw hbk hz3 e0 e1 e2 e3 e4 e5 e6 e7 e8
      go_wp2_with fail
      go_roundw
      case rel => exact ⟨q, ya, yn, yc, by omega, rfl, HH.out.1, HH.out.2.1, HH.out.2.2.1, HH.out.2.2.2.1, HH.out.2.2.2.2, by simp; omega⟩
      case measure => simp [intOf]
end

section
/- 'live.After': the walk. -/
open Go.RowKit Go.Sort

set_option maxRecDepth 100000 in
set_option maxHeartbeats 4000000 in
theorem after_out (w : World) (nm : ByteArray) (va : Option Addr) (vn vc : Nat) (pa : Option Addr) (pn pc : Nat) (re : ByteArray) (ba : Option Addr) (n bc : Nat) {L : List (List InsD)} (b i : Int)
    (h : IsBlocks (· < w.heap.size) w (.slice ba n bc) L) (hout : ¬ (0 ≤ b ∧ b < L.length ∧ 0 ≤ i ∧ i < (L.getD b.toNat []).length)) :
    Calls Try.prog 48 #[funcV nm va vn vc pa pn pc re ba n bc, .int .i64 b, .int .i64 i] w fun e w' => e = .returned (.slice none 0 0) ∧ Below w.heap.size w w' := by
  obtain ⟨_, _, hv0, hl0, hx⟩ := id h
  simp only [Value.slice.injEq] at hv0
  obtain ⟨rfl, hnL, rfl⟩ := hv0
  have hB := bel_alloc (bel_alloc (bel_refl w) (.cells #[.string nm, .slice va vn vc, .slice pa pn pc, .string re, .slice ba n bc] 44)) (.cells #[.int .i64 i] 3)
  unfold funcV
  by_cases h1 : b < 0
  · have d1 : decide (b < 0) = true := by simpa using h1
    clear hx hout h1 hnL
    go_enter Try.func48, Try.ntmps48
    go_wp2_with fail
    go_quiet (fail)
    go_wp2_with fail
    go_ret
    exact ⟨rfl, bel_drewN hB _⟩
  · have d1 : decide (b < 0) = false := by simpa using h1
    obtain ⟨bn, rfl⟩ : ∃ bn : Nat, b = bn := ⟨b.toNat, by omega⟩
    by_cases h2 : (n : Int) ≤ (bn : Int)
    · have d2 : decide ((bn : Int) ≥ (n : Int)) = true := by simpa using h2
      have d2' : decide (n ≤ bn) = true := by simp; omega
      clear hx hout h1 hnL h2
      go_enter Try.func48, Try.ntmps48
      go_wp2_with fail
      go_quiet (fail)
      go_wp2_with fail
      go_ret
      exact ⟨rfl, bel_drewN hB _⟩
    · have d2 : decide ((bn : Int) ≥ (n : Int)) = false := by simpa using h2
      have d2' : decide (n ≤ bn) = false := by simp; omega
      have hbL : bn < L.length := by omega
      by_cases h3 : i < 0
      · have d3 : decide (i < 0) = true := by simpa using h3
        clear hx hout h1 hnL h2 hbL h3
        go_enter Try.func48, Try.ntmps48
        go_wp2_with fail
        go_quiet (fail)
        go_wp2_with fail
        go_ret
        exact ⟨rfl, bel_drewN hB _⟩
      · have d3 : decide (i < 0) = false := by simpa using h3
        obtain ⟨iN, rfl⟩ : ∃ iN : Nat, i = iN := ⟨i.toNat, by omega⟩
        rcases hx with hx | ⟨bb, off, rfl, hpb, hx⟩
        · rw [hx] at hbL; simp at hbL
        obtain ⟨vi, c1, ai, capi, rfl, ⟨hli0, hli⟩, hxi⟩ := hx bn hbL
        rw [Nat.mul_one] at c1
        have hLk : L.getD bn [] = L[bn] := by simp [List.getD, hbL]
        have hge : L[bn].length ≤ iN := by
          rw [Int.toNat_natCast, hLk] at hout
          omega
        generalize L[bn] = l at c1 hge hli hli0
        have d4 : decide ((iN : Int) ≥ (l.length : Int)) = true := by simp; omega
        have d4' : decide (l.length ≤ iN) = true := by simp; omega
        have hlb := lt_of_cell c1
        have hb1 : (bn : Int) < (n : Int) := by omega
        have hb0 : (0 : Int) ≤ (bn : Int) := by omega
        have hlb1 : bb < w.heap.size + 1 := by omega
        clear hx hout h1 hnL h2 hbL h3 hxi hge hLk
        go_enter Try.func48, Try.ntmps48
        go_wp2_with fail
        go_quiet (fail)
        go_wp2_with fail
        go_ret
        exact ⟨rfl, bel_drewN hB _⟩

set_option maxRecDepth 100000 in
set_option maxHeartbeats 8000000 in
theorem after_in (w : World) (nm : ByteArray) (va : Option Addr) (vn vc : Nat) (pa : Option Addr) (pn pc : Nat) (re : ByteArray) (ba : Option Addr) (n bc : Nat) {L : List (List InsD)} (bn iN : Nat)
    (h : IsBlocks (· < w.heap.size) w (.slice ba n bc) L) (hl : n ≤ 1000) (hbd : ∀ l ∈ L, l.length ≤ 100000 ∧ ∀ i ∈ l, i.args.length ≤ 400000) (hbL : bn < L.length) (hi : iN < (L.getD bn []).length) :
    Calls Try.prog 48 #[funcV nm va vn vc pa pn pc re ba n bc, .int .i64 (bn : Int), .int .i64 (iN : Int)] w fun e w' => ∃ I O z, e = .returned z ∧ IsLive L I O ∧
      w'.ownsRow w.heap.size 3 1 z (listI (aftW (L.getD bn []) iN (O.getD bn []))).length (ints (listI (aftW (L.getD bn []) iN (O.getD bn [])))) ∧ Below w.heap.size w w' := by
  obtain ⟨_, _, hv0, hl0, hx⟩ := id h
  simp only [Value.slice.injEq] at hv0
  obtain ⟨rfl, hnL, rfl⟩ := hv0
  rcases hx with hx | ⟨bb, off, rfl, hpb, hx⟩
  · rw [hx] at hbL; simp at hbL
  obtain ⟨vi, c1, ai, capi, rfl, ⟨hli0, hli⟩, hxi⟩ := hx bn hbL
  rw [Nat.mul_one] at c1
  have hLk : L.getD bn [] = L[bn] := by simp [List.getD, hbL]
  have HLN := hid_of (And.intro hnL (And.intro hbL hi))
  have HBD := hid_of hbd
  have hiL : iN < L[bn].length := by rw [← hLk]; exact hi
  obtain ⟨ll, hll⟩ : ∃ ll, L[bn].length = ll := ⟨_, rfl⟩
  rw [hll] at c1 hiL hli hli0
  have d1 : decide ((bn : Int) < 0) = false := by simp
  have d2 : decide ((bn : Int) ≥ (n : Int)) = false := by simp; omega
  have d2' : decide (n ≤ bn) = false := by simp; omega
  have d3 : decide ((iN : Int) < 0) = false := by simp
  have d4 : decide ((iN : Int) ≥ (ll : Int)) = false := by simp; omega
  have d4' : decide (ll ≤ iN) = false := by simp; omega
  have hlb := lt_of_cell c1
  have hb1 : (bn : Int) < (n : Int) := by omega
  have hb0 : (0 : Int) ≤ (bn : Int) := by omega
  have hlb1 : bb < w.heap.size + 1 := by omega
  have HH := hid_of h
  unfold funcV
  clear hx hnL hbL hi hxi hLk hbd hll hl0 h
  go_enter Try.func48, Try.ntmps48
  go_wp2_with fail
  go_quiet (fail)
  go_wp2_with fail
  generalize hW : World.alloc _ (.cells #[Value.slice none 0 0] 25) = W
  have hB : Below w.heap.size w W := by rw [← hW]; exact bel_alloc (bel_drewN (bel_alloc (bel_alloc (bel_refl w) _) _) nq) _
  have hs : W.heap.size = w.heap.size + 3 := by rw [← hW]; simp
  have hk0 : Row W w.heap.size 44 [.string nm, .slice va vn vc, .slice pa pn pc, .string re, .slice (some ⟨bb, off, none⟩) n bc] := by
    rw [← hW]; exact heap_alloc_ne _ _ _ _ (show (World.heap _)[_]? = _ from heap_alloc_ne _ _ _ _ (heap_alloc_eq _ _ _ rfl))
  have hk1 : W.heap[w.heap.size + 1]? = some (.cells #[.int .i64 (iN : Int)] 3) := by
    rw [← hW]; exact heap_alloc_ne _ _ _ _ (show (World.heap _)[_]? = _ from heap_alloc_eq _ _ _ (by simp))
  have hk2 : W.heap[w.heap.size + 1 + 1]? = some (.cells #[.slice none 0 0] 25) := by rw [← hW]; exact heap_alloc_eq _ _ _ (by simp)
  clear hW
  have hS : ∀ X : World, X.heap[w.heap.size]? = W.heap[w.heap.size]? → (X.cell? ⟨w.heap.size, 0, none⟩ = some (.string nm) ∧ X.cell? ⟨w.heap.size, 1, none⟩ = some (.slice va vn vc) ∧ X.cell? ⟨w.heap.size, 2, none⟩ = some (.slice pa pn pc) ∧ X.cell? ⟨w.heap.size, 3, none⟩ = some (.string re) ∧ X.cell? ⟨w.heap.size, 4, none⟩ = some (.slice (some ⟨bb, off, none⟩) n bc)) := fun X hX => by
    have r := hk0.keep hX
    exact ⟨r.cell rfl, r.cell rfl, r.cell rfl, r.cell rfl, r.cell rfl⟩
  have hOf : ∀ X, Below W.heap.size W X → Calls Try.prog 81 #[.agg #[.string nm, .slice va vn vc, .slice pa pn pc, .string re, .slice (some ⟨bb, off, none⟩) n bc]] X fun e X' => ∃ I O ia iN ic oa oN oc, e = .returned (.agg #[.slice ia iN ic, .slice oa oN oc]) ∧ IsLive L I O ∧ IsSets (W.heap.size ≤ ·) X' (.slice oa oN oc) O ∧ Below W.heap.size W X' ∧ X'.heap[w.heap.size]? = W.heap[w.heap.size]? := fun X hX => by
    refine (of_live X nm va vn vc pa pn pc re (some ⟨bb, off, none⟩) n bc (HH.out.keep (fun b hb hlt => ⟨by have := hX.size; show b < X.heap.size; omega, (hX.block b (by omega)).trans (hB.block b hlt)⟩)) hl (fun l hl => ⟨(HBD.out l hl).1, fun i hi => by have := (HBD.out l hl).2 i hi; omega⟩)).mono ?_
    rintro e X' ⟨I, O, vi, vo, rfl, hL, hvi, hvo, hb⟩
    obtain ⟨ia, iN, ic, rfl⟩ := sets_slice hvi
    obtain ⟨oa, oN, oc, rfl⟩ := sets_slice hvo
    exact ⟨I, O, _, _, _, _, _, _, rfl, hL, hvo.keep (Keep.refl _ fun b hb _ => Nat.le_trans hX.size hb), bel_call hX hb, (bel_call hX hb).block _ (by omega)⟩
  have hEa : ∀ X I O ia jN ic oa oN oc, Below W.heap.size W X → IsLive L I O → IsSets (W.heap.size ≤ ·) X (.slice oa oN oc) O → Calls Try.prog 84 #[.agg #[.slice ia jN ic, .slice oa oN oc], .agg #[.string nm, .slice va vn vc, .slice pa pn pc, .string re, .slice (some ⟨bb, off, none⟩) n bc], .int .i64 (bn : Int), .func (.func 85) #[] #[.pointer (some ⟨w.heap.size + 1, 0, none⟩), .pointer (some ⟨w.heap.size + 1 + 1, 0, none⟩)]] X
      fun e X' => e = .returned (.tuple #[]) ∧ OutSt X.heap.size (w.heap.size + 1 + 1) (L.getD bn []) (O.getD bn []) iN 0 X' ∧ X.grownBy X' (some (w.heap.size + 1 + 1)) ∧ X'.heap[w.heap.size]? = W.heap[w.heap.size]? := fun X I O ia jN ic oa oN oc hX hL hvo => by
    have hsX := hX.size
    refine (each_live X nm va vn vc pa pn pc re (some ⟨bb, off, none⟩) n bc ia jN ic oa oN oc (w.heap.size + 1) (w.heap.size + 1 + 1) bn iN (HH.out.keep (fun b hb hlt => ⟨⟨by omega, by omega⟩, (hX.block b (by omega)).trans (hB.block b hlt)⟩)) (hvo.keep (Keep.refl X fun b hb hlt => ⟨hlt, by omega⟩)) (by rw [hL.lO]) hL.gO HBD.out HLN.out.2.1
      (cell_of_one ((hX.block _ (by omega)).trans hk1)) (by omega) ((hX.block _ (by omega)).trans hk2) HLN.out.2.2).mono ?_
    rintro e X' ⟨rfl, h1, h2⟩
    exact ⟨rfl, h1, h2, (h2.block _ (by omega) (by simp; omega)).trans (hX.block _ (by omega))⟩
  have hE0 : Below W.heap.size W W := bel_refl W
  have hE1 : Below W.heap.size W W.drew := hE0.drew
  have h0 : W.heap[w.heap.size]? = W.heap[w.heap.size]? := rfl
  have HK := hid_of (And.intro hk1 hk2)
  clear hk1 hk2
  go_region_held3 (fun X => X.cell? ⟨w.heap.size, 0, none⟩ = some (.string nm) ∧ X.cell? ⟨w.heap.size, 1, none⟩ = some (.slice va vn vc) ∧ X.cell? ⟨w.heap.size, 2, none⟩ = some (.slice pa pn pc) ∧ X.cell? ⟨w.heap.size, 3, none⟩ = some (.string re) ∧ X.cell? ⟨w.heap.size, 4, none⟩ = some (.slice (some ⟨bb, off, none⟩) n bc)) (first | exact hS _ h0 | exact hS _ hx2 | exact hS _ hx3)
    (first
      | (go_at_call 81; (with_reducible refine (hOf _ hE1).mono ?_); rintro e X2 ⟨I, O, ia, jN, ic, oa, oN, oc, rfl, hL, hvo, hb2, hx2⟩)
      | (go_at_call 84; (with_reducible refine (hEa _ I O _ _ _ _ _ _ hb2 hL hvo).mono ?_); rintro e X3 ⟨rfl, hO3, hg3, hx3⟩))
  all_goals
    obtain ⟨la, lc, hla, hown⟩ := hO3.1 (Nat.zero_le _)
    have c9 := cell_of_one hla
    have hs2 := hb2.size
    have HR := hid_of (owns_mono hown (base' := w.heap.size) (by omega))
    have hB3 := hid_of (bel_grown (bel_call hB hb2) hg3 (fun k hk => by simp at hk; omega))
    have HL := hid_of hL
    clear hO3 hla hown hg3 hb2 hvo hL
    go_wp2_with fail
    go_ret
    exact ⟨I, O, _, rfl, HL.out, HR.out, hB3.out⟩
end
end Go.Proofs.Ytcihobmjohpnkaa
