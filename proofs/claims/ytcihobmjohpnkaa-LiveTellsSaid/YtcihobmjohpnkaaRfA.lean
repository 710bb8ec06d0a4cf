/- The reference's 'Afters': what it has in memory. -/
import Derived.Test.YtcihobmjohpnkaaIRow
import Derived.Test.YtcihobmjohpnkaaRfL
namespace Go.Proofs.Ytcihobmjohpnkaa
open Go.RowKit Go.Sort

/-- Between the blocks: 'all' lies at G, f's box at B. -/
structure AfSt (w : World) (B : Nat) (fc : List Value) (G : Nat) (vo : Value) (O : List (List Int)) (A : List (List (List Int))) (W : World) : Prop where
  hG : B < G
  fb : Row W B 44 fc
  rO : IsRows (fun b => B + 1 ≤ b ∧ b < G) W vo O
  rA : RRow (fun b => B + 1 ≤ b ∧ b ≠ G) G A W
  bel : Below B w W
/-- Inside a block: its row lies at g. -/
structure AfIn (w : World) (B : Nat) (fc : List Value) (G g : Nat) (vo : Value) (O : List (List Int)) (A : List (List (List Int))) (R : List (List Int)) (W : World) : Prop where
  hG : B < G
  hg : G < g
  fb : Row W B 44 fc
  rO : IsRows (fun b => B + 1 ≤ b ∧ b < G) W vo O
  rA : RRow (fun b => B + 1 ≤ b ∧ b ≠ G ∧ b ≠ g) G A W
  rl : IRow (fun b => B + 1 ≤ b ∧ b ≠ G ∧ b ≠ g) g R W
  bel : Below B w W
section
variable {w W W' : World} {B G g : Nat} {fc : List Value} {vo : Value} {O : List (List Int)} {A : List (List (List Int))} {R : List (List Int)}
theorem AfSt.below (h : AfSt w B fc G vo O A W) (hb : Below W.heap.size W W') : AfSt w B fc G vo O A W' :=
  ⟨h.hG, h.fb.keep (hb.block _ h.fb.lt), h.rO.keep (Keep.below hb), h.rA.below hb, h.bel.trans (hb.mono (Nat.le_of_lt h.fb.lt))⟩
theorem AfIn.below (h : AfIn w B fc G g vo O A R W) (hb : Below W.heap.size W W') : AfIn w B fc G g vo O A R W' :=
  ⟨h.hG, h.hg, h.fb.keep (hb.block _ h.fb.lt), h.rO.keep (Keep.below hb), h.rA.below hb, h.rl.below hb, h.bel.trans (hb.mono (Nat.le_of_lt h.fb.lt))⟩
theorem AfSt.open (h : AfSt w B fc G vo O A W) (n : Nat) : AfIn w B fc G W.heap.size vo O A (List.replicate n []) (W.alloc (.cells (List.replicate n (Value.slice none 0 0)).toArray 25)) := by
  have hb := bel_alloc (bel_refl W) (.cells (List.replicate n (Value.slice none 0 0)).toArray 25)
  have hGl := h.rA.lt
  exact ⟨h.hG, hGl, h.fb.keep (hb.block _ h.fb.lt), h.rO.keep (Keep.below hb), h.rA.keep (hb.block _ hGl) (fun b hp hlt => ⟨⟨hp.1, hp.2, by omega⟩, hb.block b hlt⟩) (fun hh => hh.2.1 rfl),
    IRow.start (heap_alloc_eq _ _ _ rfl) (fun hh => hh.2.2 rfl), h.bel.trans (hb.mono (Nat.le_of_lt h.fb.lt))⟩
theorem AfIn.setl (h : AfIn w B fc G g vo O A R W) {z : Value} {ws : List Int} (hz : IsInts (fun b => B + 1 ≤ b ∧ b ≠ G ∧ b ≠ g) W z ws) (j : Nat) : AfIn w B fc G g vo O A (R.set j ws) (W.setCell ⟨g, j, none⟩ z) :=
  have hG := h.hG
  have hg := h.hg
  ⟨h.hG, h.hg, h.fb.other (by show B ≠ g; omega) z, h.rO.keep (Keep.setCell fun b hp _ => ⟨hp, by show b ≠ g; omega⟩), h.rA.other (by show G ≠ g; omega) (fun hh => hh.2.2 rfl) z, h.rl.set hz j, h.bel.setCell (by show B ≤ g; omega) z⟩
theorem AfIn.close (h : AfIn w B fc G g vo O A R W) (hl : R.length ≤ 100000) (j : Nat) : AfSt w B fc G vo O (A.set j R) (W.setCell ⟨G, j, none⟩ (.slice (some ⟨g, 0, none⟩) R.length R.length)) :=
  have hG := h.hG
  have hg := h.hg
  have hA : RRow (fun b => B + 1 ≤ b ∧ b ≠ G) G A W := h.rA.keep rfl (Keep.refl W fun _ hb _ => ⟨hb.1, hb.2.1⟩) (fun hh => hh.2 rfl)
  ⟨h.hG, h.fb.other (by show B ≠ G; omega) _, h.rO.keep (Keep.setCell fun b hp _ => ⟨hp, by show b ≠ G; omega⟩), hA.set (h.rl.rows (p' := fun b => B + 1 ≤ b ∧ b ≠ G) ⟨by omega, by omega⟩ (fun _ hb => ⟨hb.1, hb.2.1⟩) hl) j, h.bel.setCell (by show B ≤ G; omega) _⟩
theorem AfSt.rows (h : AfSt w B fc G vo O A W) (hl : A.length ≤ 100000) : IsRows3 (B ≤ ·) W (.slice (some ⟨G, 0, none⟩) A.length A.length) A :=
  have hG := h.hG
  h.rA.rows (by omega) (fun _ hb => by omega) hl
end
/-- What stands behind each place of a block, by 'backD'. -/
def aftersL (b : List InsD) (o : List Nat) : List (List Int) := (List.range b.length).map fun k => listI (backD b (k + 1) o)
def aftersA (L : List (List InsD)) (O : List (List Nat)) : List (List (List Int)) := (List.range L.length).map fun b => aftersL (L.getD b []) (O.getD b [])

theorem afters_eq {L : List (List InsD)} {O : List (List Nat)} {A : List (List (List Int))} (hl : A.length = L.length) (h : ∀ b, b < L.length → A.getD b [] = aftersL (L.getD b []) (O.getD b [])) : A = aftersA L O := by
  refine List.ext_getElem (by simp [aftersA, hl]) fun j h1 h2 => ?_
  have := h j (by omega)
  simp [List.getD, h1] at this
  simp [aftersA, this, List.getD]
theorem aftersL_eq {l : List InsD} {o : List Nat} {R : List (List Int)} (hl : R.length = l.length) (h : ∀ j, 0 ≤ j → j < l.length → R.getD j [] = listI (backD l (j + 1) o)) : R = aftersL l o := by
  refine List.ext_getElem (by simp [aftersL, hl]) fun j h1 h2 => ?_
  have := h j (by omega) (by omega)
  simp [List.getD, h1] at this
  simp [aftersL, this]

set_option maxRecDepth 100000 in
set_option maxHeartbeats 20000000 in
theorem afters_c (w : World) (nm : ByteArray) (va : Option Addr) (vn vc : Nat) (pa : Option Addr) (pn pc : Nat) (re : ByteArray) (ba : Option Addr) (n bc : Nat) {L : List (List InsD)}
    (h : IsBlocks (· < w.heap.size) w (.slice ba n bc) L) (hl : n ≤ 1000) (hbd : ∀ l ∈ L, l.length ≤ 100000 ∧ ∀ i ∈ l, i.args.length ≤ 400000) :
    Calls Try.prog 45 #[funcV nm va vn vc pa pn pc re ba n bc] w fun e w' => ∃ I O u, e = .returned u ∧ IsLive L I O ∧ IsRows3 (w.heap.size ≤ ·) w' u (aftersA L O) ∧ Below w.heap.size w w' := by
  have hOf := hid_of (fun W (hh : IsBlocks (· < W.heap.size) W (.slice ba n bc) L) => liveR_c W nm va vn vc pa pn pc re ba n bc hh hl hbd)
  have hnL : n = L.length := by obtain ⟨_, _, hv0, hl0, hx⟩ := id h; simp only [Value.slice.injEq] at hv0; exact hv0.2.1
  have HNL := hid_of hnL
  have HBD := hid_of hbd
  have HH := hid_of h
  unfold funcV at hOf ⊢
  clear hnL hbd
  have hB := bel_alloc (bel_refl w) (.cells #[.string nm, .slice va vn vc, .slice pa pn pc, .string re, .slice ba n bc] 44)
  have H1 := hid_of (h.keep (p' := fun b => b < (w.alloc (.cells #[.string nm, .slice va vn vc, .slice pa pn pc, .string re, .slice ba n bc] 44)).heap.size) (fun b hb hlt => ⟨by simp; omega, hB.block b hlt⟩))
  have HK0 : Hid (Row (w.alloc (.cells #[.string nm, .slice va vn vc, .slice pa pn pc, .string re, .slice ba n bc] 44)) w.heap.size 44 (funcC nm va vn vc pa pn pc re ba n bc)) := heap_alloc_eq _ _ _ rfl
  have HB := hid_of hB
  clear hB h
  go_enter Try.func45, Try.ntmps45
  go_wp2_with fail
  refine (hOf.out _ H1.out).mono ?_
  rintro e W1 ⟨I, O, vi, vo, rfl, hL, hi, ho, hb1⟩
  have hs1 := hb1.size
  simp only [World.size_alloc] at hs1
  have hk1 := hb1.block w.heap.size (by simp)
  have hS0 : AfSt w w.heap.size (funcC nm va vn vc pa pn pc re ba n bc) W1.heap.size vo (O.map listI) (List.replicate n []) (W1.alloc (.cells (List.replicate n (Value.slice none 0 0)).toArray 28)) := by
    have hb := bel_alloc (bel_refl W1) (.cells (List.replicate n (Value.slice none 0 0)).toArray 28)
    refine ⟨by omega, Row.keep (Row.keep HK0.out hk1) (hb.block _ (by omega)), ho.keep (fun b hp hlt => ⟨⟨by simp at hp; omega, hlt⟩, hb.block b hlt⟩), RRow.start (heap_alloc_eq _ _ _ rfl) (fun hh => hh.2 rfl), ?_⟩
    exact bel_call (bel_call HB.out hb1) hb
  have HS0 := hid_of hS0
  have HL := hid_of hL
  have c4 := (Row.keep HK0.out hk1).cell (k := 4) (v := .slice ba n bc) rfl
  clear hL hi ho hb1 hk1 hS0 hOf H1 HK0 HB
  obtain ⟨oa, oN, oc, rfl⟩ : ∃ a n c, vo = .slice a n c := by obtain ⟨_, _, h, -⟩ := HS0.out.rO; exact ⟨_, _, _, h⟩
  go_wp2_with (at_make; refine stop_here ?_)
  refine stop_go (mk_rows3 rfl _ _ rfl n rfl rfl (by omega) ?_)
  clear c4
  refine k_at (fun W => AfSt w w.heap.size (funcC nm va vn vc pa pn pc re ba n bc) W1.heap.size (.slice oa oN oc) (O.map listI) (List.replicate n []) W) HS0.out ?_
  intro W0 hI0
  clear HS0
  obtain ⟨G, HG⟩ : ∃ G, Hid (W1.heap.size = G) := ⟨_, (rfl : W1.heap.size = _)⟩
  rw [HG.out] at hI0 hs1 ⊢
  go_wp2_with fail
  go_loopw [6] (fun s6 wx => ∃ (k : Nat) (A : List (List (List Int))), k ≤ n ∧ s6 = .int .i64 k ∧ Hid (A.length = n) ∧ Hid (∀ b, b < k → A.getD b [] = aftersL (L.getD b []) (O.getD b [])) ∧ AfSt w w.heap.size (funcC nm va vn vc pa pn pc re ba n bc) G (.slice oa oN oc) (O.map listI) A wx) (fun s6 _ => n - (intOf s6).toNat)
  case atStart => exact ⟨0, _, by omega, rfl, (by simp [Hid] : Hid ((List.replicate n ([] : List (List Int))).length = n)), hid_of (fun b hb => by omega), hI0⟩
  case round =>
    obtain ⟨k, A, hk, rfl, HA, HE, hI1⟩ := hrel
    clear hI0
    have c4 := hI1.fb.cell (k := 4) (v := .slice ba n bc) rfl
    by_cases hlt : k < n
    · have hlq : k < L.length := by rw [← HNL.out]; omega
      obtain ⟨_, _, hv0, -, hx⟩ := id HH.out
      simp only [Value.slice.injEq] at hv0
      obtain ⟨rfl, -, rfl⟩ := hv0
      rcases hx with hx | ⟨b, off, rfl, hpb, hx⟩
      · rw [hx] at hlq; simp at hlq
      obtain ⟨vi, c1, ai, capi, rfl, ⟨hli0, hli⟩, hxi⟩ := hx k hlq
      rw [Nat.mul_one] at c1
      have hbl := HBD.out _ (List.getElem_mem hlq)
      have hLk : L.getD k [] = L[k] := by simp [List.getD, hlq]
      obtain ⟨l, hl1, HLk⟩ : ∃ l, L[k] = l ∧ Hid (L.getD k [] = l) := ⟨L[k], rfl, hLk⟩
      rw [hl1] at c1 hli0 hli hxi hbl
      have C1 := hid_of c1
      replace c1 := (hI1.bel.cell (p := ⟨b, off + k, none⟩) hpb).trans c1
      obtain ⟨hbl1, hbl2⟩ := hbl
      have HB2 := hid_of hbl2
      have HO1 := hid_of (hI1.open l.length)
      have hk0 : (0 : Int) ≤ (k : Int) := by omega
      have hkn : (k : Int) < (n : Int) := by omega
      clear hI1 hx hl1 hLk hbl2
      go_wp2_with (at_make; refine stop_here ?_)
      refine stop_go (mk_rowsI rfl _ _ rfl l.length rfl rfl (by omega) ?_)
      clear c1 c4
      refine k_at (fun W => AfIn w w.heap.size (funcC nm va vn vc pa pn pc re (some ⟨b, off, none⟩) n bc) G wr.heap.size (.slice oa oN oc) (O.map listI) A (List.replicate l.length []) W) HO1.out ?_
      intro W2 hI2
      clear HO1
      obtain ⟨g, Hg⟩ : ∃ g, Hid (wr.heap.size = g) := ⟨_, (rfl : wr.heap.size = _)⟩
      rw [Hg.out] at hI2 ⊢
      have hkO : k < (O.map listI).length := by rw [List.length_map, HL.out.lO, ← HNL.out]; exact hlt
      have hoN : (O.map listI).length = n := by rw [List.length_map, HL.out.lO, ← HNL.out]
      have hrO := hI2.rO
      obtain ⟨_, _, hv1, -, hx⟩ := id hrO
      simp only [Value.slice.injEq] at hv1
      obtain ⟨rfl, hoN2, rfl⟩ := hv1
      rw [hoN] at hoN2
      have hoN3 : n = oN := hoN2.symm
      subst hoN3
      rcases hx with hx | ⟨b2, off2, rfl, hpb2, hx⟩
      · rw [hx] at hkO; simp at hkO
      obtain ⟨vx, c2, hvx⟩ := hx k hkO
      rw [Nat.mul_one] at c2
      have eo : (O.map listI)[k] = listI (O.getD k []) := by
        have hkO2 : k < O.length := by simpa using hkO
        simp [List.getD, hkO2]
      rw [eo] at hvx
      obtain ⟨ob, Hob⟩ : ∃ ob, Hid (O.getD k [] = ob) := ⟨_, (rfl : O.getD k [] = _)⟩
      rw [Hob.out] at hvx
      have gO : Good1 ob := by rw [← Hob.out]; exact good_getD HL.out.gO k
      have HOG := hid_of gO
      obtain ⟨xa, xc, rfl, -, -⟩ := id hvx
      have hgG := hI2.hg
      have hx0 := hid_of (hvx.mono (p' := fun b => w.heap.size + 1 ≤ b ∧ b ≠ G ∧ b ≠ g) (fun b hb => ⟨hb.1, by omega, by omega⟩))
      have HI2 := hid_of hI2
      clear hx hvx hrO hI2 eo gO hkO hoN
      go_wp2_with fail
      clear c2
      go_loopw [8, 9] (fun s8 s9 wx => ∃ (r : Nat) (R : List (List Int)), r ≤ l.length ∧ s9 = .int .i64 ((r : Int) - 1) ∧ Hid (R.length = l.length) ∧ Hid (∀ j, r ≤ j → j < l.length → R.getD j [] = listI (backD l (j + 1) ob)) ∧ Hid (IsInts (fun b => w.heap.size + 1 ≤ b ∧ b ≠ G ∧ b ≠ g) wx s8 (listI (backD l r ob))) ∧ Hid (AfIn w w.heap.size (funcC nm va vn vc pa pn pc re (some ⟨b, off, none⟩) n bc) G g (.slice (some ⟨b2, off2, none⟩) n oc) (O.map listI) A R wx)) (fun _ s9 _ => (intOf s9 + 1).toNat)
      case atStart =>
        refine ⟨l.length, _, Nat.le_refl _, rfl, (by simp [Hid] : Hid ((List.replicate l.length ([] : List Int)).length = l.length)), hid_of (fun j h1 h2 => by omega), ?_, HI2⟩
        rw [backD_all]; exact hx0
      case round =>
        obtain ⟨r, R, hr, rfl, HRl, HRe, HX, HI⟩ := hrel
        clear HI2 hx0
        obtain ⟨xa, xc, rfl, -, -⟩ := id HX.out
        rcases r with _ | q
        · have eq0 : (((0 : Nat) : Int) - 1) = -1 := rfl
          rw [eq0]
          have hRe : R = aftersL l ob := aftersL_eq HRl.out HRe.out
          have hk2 : k < A.length := by rw [HA.out]; exact hlt
          obtain ⟨ja, jc, c7, -⟩ := HI.out.rA.get (j := k) hk2
          have f7 := HI.out.rA.frozen k
          have hcl := HI.out.close (by have := HRl.out; omega) k
          rw [HRl.out] at hcl
          have HCL := hid_of hcl
          have HA2 : Hid ((A.set k R).length = n) := by simpa [Hid] using HA.out
          have HE2 : Hid (∀ b, b < k + 1 → (A.set k R).getD b [] = aftersL (L.getD b []) (O.getD b [])) := fun b' hb' => by
            rw [getDR_set]
            by_cases e : k = b'
            · subst e; rw [if_pos ⟨rfl, hk2⟩, HLk.out, Hob.out]; exact hRe
            · rw [if_neg (by omega)]; exact HE.out b' (by omega)
          clear eq0 hRe hcl HE HA hxi
          go_wp2_with fail
          go_roundw
          case rel => exact ⟨k + 1, A.set k R, by omega, by go_num, HA2, HE2, HCL.out⟩
          case measure => simp [intOf]; omega
        · have eq1 : (((q + 1 : Nat) : Int) - 1) = (q : Int) := by omega
          rw [eq1]
          clear eq1
          have hql : q < l.length := by omega
          rcases hxi with hxi | ⟨lb, lo, rfl, hplb, hxi⟩
          · rw [hxi] at hql; simp at hql
          have hqR : q < R.length := by rw [HRl.out]; exact hql
          obtain ⟨ja, jc, c7, -⟩ := HI.out.rl.get (j := q) hqR
          have f7 := HI.out.rl.frozen q
          have hI3 := HI.out.setl HX.out q
          have hX3 := HX.out.keep (p' := fun b => w.heap.size + 1 ≤ b ∧ b ≠ G ∧ b ≠ g) (Keep.setCell (a := ⟨g, q, none⟩) (u := .slice xa (listI (backD l (q + 1) ob)).length xc) fun b hb _ => ⟨hb, hb.2.2⟩)
          have HI3 := hid_of hI3
          have HX3 := hid_of hX3
          clear hI3 hX3
          have HRe2 : Hid (∀ j, q ≤ j → j < l.length → (R.set q (listI (backD l (q + 1) ob))).getD j [] = listI (backD l (j + 1) ob)) := fun j h1 h2 => by
            rw [getDI_set]
            by_cases e : q = j
            · subst e; rw [if_pos ⟨rfl, hqR⟩]
            · rw [if_neg (by omega)]; exact HRe.out j (by omega) h2
          clear HI HX
          have k1 := (HI3.out.bel.cell (p := ⟨b, off + k, none⟩) hpb).trans C1.out
          have k4 := HI3.out.fb.cell (k := 4) (v := .slice (some ⟨b, off, none⟩) n bc) rfl
          have hci := CIns.keep (p := (· < w.heap.size)) (p' := (· < w.heap.size)) hplb (hxi q hql) (Keep.belowB HI3.out.bel)
          have EG := hid_of (backD_succ hql ob)
          obtain ⟨i, hli1⟩ : ∃ i, l[q] = i := ⟨_, rfl⟩
          have hia := HB2.out _ (List.getElem_mem hql)
          rw [hli1] at hci EG hia
          obtain ⟨ik, idd, ia, ib, inn, iname, iargs, it, jf⟩ := i
          obtain ⟨d0, d1, d2, d3, d4, d5, ⟨v6, d6, hv6⟩, d7, d8⟩ := hci
          obtain ⟨a6, cap6, rfl, hl6, hx6⟩ := id hv6
          dsimp only at d0 d1 d2 d3 d4 d5 d6 d7 d8 hv6 hl6 hia
          have gB := backD_good l (q + 1) HOG.out
          have hszb := HI3.out.rl.lt
          have hszB := HI3.out.fb.lt
          have hBk := hid_of (backR_c _ ⟨ik, idd, ia, ib, inn, iname, iargs, it, jf⟩ a6 iargs.length cap6 (hv6.keep (Keep.refl _ fun b hb hlt => hlt)) hia (HX3.out.keep (p' := (· < (wr.setCell ⟨g, q, none⟩ (.slice xa (listI (backD l (q + 1) ob)).length xc)).heap.size)) (Keep.refl _ fun b hb hlt => hlt)) (by have := listI_good gB; omega))
          unfold insV at hBk
          rw [backI_list gB.2, ← EG.out] at hBk
          clear hli1 hx6 gB hv6 hl6 hxi
          go_wp2_with fail
          refine hBk.out.mono ?_
          rintro e W6 ⟨z, rfl, hz, hb6⟩
          have hI6 := hid_of (HI3.out.below hb6)
          have hz2 := hid_of (hz.keep (p' := fun b => w.heap.size + 1 ≤ b ∧ b ≠ G ∧ b ≠ g) (Keep.refl W6 fun b hb _ => ⟨by omega, by omega, by omega⟩))
          have HRl2 : Hid ((R.set q (listI (backD l (q + 1) ob))).length = l.length) := by simpa [Hid] using HRl.out
          clear hBk hz hb6 EG d0 d1 d2 d3 d4 d5 d6 d7 d8 k1 k4 c7 f7
          go_wp2_with fail
          go_roundw
          case rel => exact ⟨q, _, by omega, rfl, HRl2, HRe2, hz2, hI6⟩
          case measure => simp [intOf]
    · obtain rfl : k = n := by omega
      have hAe : A = aftersA L O := afters_eq (by have := HA.out; have := HNL.out; omega) (by have := HE.out; rw [← HNL.out]; exact this)
      have hR := hI1.rows (by have := HA.out; omega)
      rw [HA.out] at hR
      have HR := hid_of (And.intro (hAe ▸ hR) hI1.bel)
      clear hI1 hAe hR
      go_wp2_with fail
      go_ret
      exact ⟨I, O, _, rfl, HL.out, HR.out.1, HR.out.2⟩
end Go.Proofs.Ytcihobmjohpnkaa
