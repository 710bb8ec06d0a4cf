/- The general solver: a node of many neighbours is chosen for. -/
import Derived.Test.YtdomnbgjafdnjaaPgTk
namespace Go.Proofs.Ytdomnbgjafdnjaa
open Go.RowKit Go.Maps Go.ChangeMaps

theorem nsS_congr {S S1 : PS} {n k : Nat} (h : ∀ j, S1.near k j = S.near k j) : nsS S1 n k = nsS S n k := by
  unfold nsS
  exact List.filter_congr fun x _ => by rw [h]
theorem ok_set {ys : List Int} (h : OkV ys) (j : Nat) {x : Int} (hx : 0 ≤ x ∧ x ≤ 1099511627776) : OkV (ys.set j x) := fun i => by
  rw [List.getD_eq_getElem?_getD, List.getElem?_set]
  by_cases e : j = i
  · subst e
    by_cases h2 : j < ys.length
    · simp [h2]; exact hx
    · simp [h2]
  · rw [if_neg e, ← List.getD_eq_getElem?_getD]; exact h i
/-- Node k has chosen. -/
def PS.chosen (S : PS) (k K : Nat) : PS := { S with l := S.l.set k (K : Int) }
theorem SS.setl {w W : World} {L : Pl} {ow : Nat → Tg} {n : Nat} {S : PS} {us : List (Nat × List Int)} {uv : Value} {uvs : List Value} (h : SS w L ow n S us uv uvs W) {k K : Nat} (hk : k < n) (hK : K < L.cs k) :
    SS w L ow n (S.chosen k K) us uv uvs (W.setCell ⟨L.lb, k, none⟩ (.int .i64 (K : Int))) := by
  have kt : KT ow (fun t => t = .lb) W (W.setCell ⟨L.lb, k, none⟩ (.int .i64 (K : Int))) := fun b hb hne => Below.heap_setCell _ _ _ _ (by rintro rfl; exact hne h.ts.2.1)
  have hlr := h.lr.set k (.int .i64 (K : Int))
  rw [ints_set] at hlr
  refine ⟨h.sv.keep (h.svK kt (by simp)), hlr, ⟨by simp [PS.chosen, h.ll.1], fun j hj => ?_⟩, h.gr.keep (h.grK kt (by simp)), h.xrK kt (by simp), h.mrK kt (by simp), fun j hj => ?_, fun j hj => ?_, h.unK kt (by simp), h.ul, fun j hj => (h.cl j hj).keep kt (by simp), h.ts, h.tv, h.tu, fun b hb => h.nw b (by simpa using hb), h.tl, h.lo,
    h.bel.setCell (show w.heap.size ≤ (⟨L.lb, k, none⟩ : Addr).block from h.lo.2.1) _⟩
  · have hj2 := h.ll.2 j hj
    simp only [PS.chosen]
    rw [List.getD_eq_getElem?_getD, List.getElem?_set]
    by_cases e : k = j
    · subst e
      have : k < S.l.length := by rw [h.ll.1]; exact hk
      simp [this]; omega
    · rw [if_neg e, ← List.getD_eq_getElem?_getD]; exact hj2
  · have := h.vrK kt hj (by simp)
    exact ⟨this.row, this.len, this.cap, this.ok⟩
  · obtain ⟨f, hf⟩ := h.prK kt hj (by simp) (by simp)
    exact ⟨f, hf.of_near fun _ => rfl⟩
/-- What the first loop of 'fix' leaves. -/
structure FxI (W : World) (ug ck : Nat) (v : Value) (ns : List Int) (X : World) : Prop where
  ys : ∃ ys, RowP X ug 3 (ints ys) ∧ ys.length = ck ∧ OkV ys
  bel : Below W.heap.size W X
  ni : IsInts (fun b => W.heap.size ≤ b ∧ b ≠ ug) X v ns
  lo : W.heap.size ≤ ug
theorem FxI.keep {W X Y : World} {ug ck : Nat} {v : Value} {ns : List Int} (h : FxI W ug ck v ns X) (hb : Below X.heap.size X Y) : FxI W ug ck v ns Y := by
  obtain ⟨ys, h1, h2⟩ := h.ys
  exact ⟨⟨ys, h1.keep (hb.block _ h1.lt), h2⟩, bel_call h.bel hb, h.ni.keep (fun b hb2 hlt => ⟨hb2, hb.block b hlt⟩), h.lo⟩
theorem FxI.put {W X : World} {ug ck : Nat} {v : Value} {ns ys : List Int} (h : FxI W ug ck v ns X) (h1 : RowP X ug 3 (ints ys)) (hl : ys.length = ck) (ho : OkV ys) {j : Nat} (hj : j < ck) {x : Int} (hx : 0 ≤ x ∧ x ≤ 1099511627776) (q : Nat) : FxI W ug ck v ns ((X.drewN q).setCell ⟨ug, j, none⟩ (.int .i64 x)) := by
  have h2 := (show RowP (X.drewN q) ug 3 (ints ys) from h1).set (k := j) (by simp [ints]; omega) (.int .i64 x)
  rw [ints_set] at h2
  refine ⟨⟨_, h2, by simpa using hl, ok_set ho j hx⟩, (bel_drewN h.bel q).setCell (show W.heap.size ≤ (⟨ug, j, none⟩ : Addr).block from h.lo) _, h.ni.keep (fun b hb _ => ⟨hb, Below.heap_setCell _ _ _ _ hb.2⟩), h.lo⟩
/-- What 'fix' may leave. -/
def FixR (S S' : PS) (cs : Nat → Nat) (n k : Nat) : Prop := S'.near = (dropS S k (nsS S n k)).near ∧ S'.gone = (S.out k).gone ∧ ∃ K, K < cs k ∧ S'.l = S.l.set k (K : Int)
/-- Behind some neighbours, in the last loop. -/
def FxL (S S' : PS) (k K : Nat) (ns : List Int) : Prop := S'.near = (dropS S k ns).near ∧ S'.gone = S.gone ∧ S'.l = S.l.set k (K : Int)
theorem FxL.step {S S' : PS} {k K i : Nat} {ns : List Int} (h : FxL S S' k K (ns.take i)) (hi : i < ns.length) (m : Nat) (hm : ns[i] = (m : Int)) (ys : List Int) : FxL S ((S'.vec m ys).drop m k) k K (ns.take (i + 1)) := by
  obtain ⟨h1, h2, h3⟩ := h
  refine ⟨?_, h2, h3⟩
  rw [dropS_take hi, hm]
  simp only [PS.drop, PS.vec, Int.toNat_natCast, h1]

set_option maxRecDepth 100000 in
set_option maxHeartbeats 16000000 in
theorem fix_k {w W : World} {L : Pl} {ow : Nat → Tg} {n k : Nat} {S : PS} {us : List (Nat × List Int)} {uv : Value} {uvs : List Value} (hS : SS w L ow n S us uv uvs W) (hk : k < n) (hn3 : n ≤ 300) (hg : S.gone k = false)
    (hns : ∀ m ∈ nsS S n k, S.gone m.toNat = false ∧ m.toNat ≠ k) :
    Calls Try.prog 27 #[.pointer (some ⟨L.sb, 0, none⟩), .int .i64 (k : Int)] W fun e w' => e = .returned (.tuple #[]) ∧ ∃ S', FixR S S' L.cs n k ∧ SS w L ow n S' us uv uvs w' := by
  obtain ⟨xs, hxs, hxp⟩ := hS.xr
  have hvk := hS.vr k hk
  have hcap := hvk.cap
  have hvl := hvk.len
  have hxi : IsInts (fun b => b < W.heap.size) W (.slice (some ⟨L.vb k, 0, none⟩) (L.cs k) (L.vc k)) (S.nodes k) := by
    have := hvk.row.ints (p := fun b => b < W.heap.size) (c := L.vc k) hvk.row.lt (by omega) (by omega)
    rw [hvl] at this
    exact this
  have hCl := cloneV_c W hxi (by omega) (by omega)
  rw [hvl] at hCl
  obtain ⟨nk, Hnk⟩ : ∃ nk, Hid ((nsS S n k).length = nk) := ⟨_, (rfl : (nsS S n k).length = _)⟩
  have HAR : Hid (∀ X S1, SS w L ow n S1 us uv uvs X → (∀ j, S1.near k j = S.near k j) → S1.gone k = false → Calls Try.prog 36 #[.pointer (some ⟨L.sb, 0, none⟩), .int .i64 (k : Int)] X fun e w' => (∃ la lc, e = .returned (.slice la nk lc) ∧ IsInts (fun b => X.heap.size ≤ b) w' (.slice la nk lc) (nsS S n k)) ∧ Below X.heap.size X w') := fun X S1 h1 h2 h3 => by
    obtain ⟨f, hf⟩ := h1.pr k hk
    obtain ⟨ms, hms, -, hmp⟩ := h1.mr
    refine (around_k (m := n) X hf.mv (by omega) hf.dom L.sb L.mb 0 n L.mc k (h1.sv.cell (k := 1) rfl) hk (by rw [Nat.zero_add]; exact hms.cell (hmp k hk h3))).mono ?_
    rintro e w' ⟨v, rfl, hv, hb⟩
    rw [hf.keys, nsS_congr h2] at hv
    obtain ⟨la, lc, rfl, -⟩ := owns_slice hv
    have hi := ints_of_owns (p := fun b => X.heap.size ≤ b) hv (by have := nsS_length S n k; omega) (fun b _ e2 _ => e2)
    rw [Hnk.out] at hi ⊢
    exact ⟨⟨la, lc, rfl, hi⟩, hb⟩
  obtain ⟨f, hf⟩ := hS.pr k hk
  obtain ⟨ms, hms, -, hmp⟩ := hS.mr
  obtain ⟨sb, Hsb⟩ : ∃ v, Hid (L.sb = v) := ⟨_, (rfl : L.sb = _)⟩
  obtain ⟨xb, Hxb⟩ : ∃ v, Hid (L.xb = v) := ⟨_, (rfl : L.xb = _)⟩
  obtain ⟨xc, Hxc⟩ : ∃ v, Hid (L.xc = v) := ⟨_, (rfl : L.xc = _)⟩
  obtain ⟨mb, Hmb⟩ : ∃ v, Hid (L.mb = v) := ⟨_, (rfl : L.mb = _)⟩
  obtain ⟨mc, Hmc⟩ : ∃ v, Hid (L.mc = v) := ⟨_, (rfl : L.mc = _)⟩
  obtain ⟨lb, Hlb⟩ : ∃ v, Hid (L.lb = v) := ⟨_, (rfl : L.lb = _)⟩
  obtain ⟨gb, Hgb⟩ : ∃ v, Hid (L.gb = v) := ⟨_, (rfl : L.gb = _)⟩
  obtain ⟨ck, Hck⟩ : ∃ v, Hid (L.cs k = v) := ⟨_, (rfl : L.cs k = _)⟩
  obtain ⟨vbk, Hvbk⟩ : ∃ v, Hid (L.vb k = v) := ⟨_, (rfl : L.vb k = _)⟩
  obtain ⟨vck, Hvck⟩ : ∃ v, Hid (L.vc k = v) := ⟨_, (rfl : L.vc k = _)⟩
  obtain ⟨pbk, Hpbk⟩ : ∃ v, Hid (L.pb k = v) := ⟨_, (rfl : L.pb k = _)⟩
  have HCE : Hid (∀ X S1, SS w L ow n S1 us uv uvs X → S1.gone k = false → X.cell? ⟨sb, 0, none⟩ = some (.slice (some ⟨xb, 0, none⟩) n xc) ∧ X.cell? ⟨sb, 1, none⟩ = some (.slice (some ⟨mb, 0, none⟩) n mc) ∧ X.cell? ⟨sb, 3, none⟩ = some (.slice (some ⟨lb, 0, none⟩) n n) ∧ X.cell? ⟨sb, 4, none⟩ = some (.slice (some ⟨gb, 0, none⟩) n n) ∧ X.cell? ⟨mb, k, none⟩ = some (.map (some pbk))) := fun X S1 h1 h2 => by
    obtain ⟨ms, hms, -, hmp⟩ := h1.mr
    rw [← Hsb.out, ← Hxb.out, ← Hxc.out, ← Hmb.out, ← Hmc.out, ← Hlb.out, ← Hgb.out, ← Hpbk.out]
    exact ⟨h1.sv.cell (k := 0) rfl, h1.sv.cell (k := 1) rfl, h1.sv.cell (k := 3) rfl, h1.sv.cell (k := 4) rfl, hms.cell (hmp k hk h2)⟩
  have HS := hid_of hS
  have HF := hid_of hf
  have HG := hid_of hg
  have HNS := hid_of hns
  have HXS := hid_of hxs
  have HXP := hid_of hxp
  have hc0 : 0 < ck ∧ ck ≤ 32 := by rw [← Hck.out]; exact hcap.2
  have hok := hid_of hvk.ok
  have HVL : Hid ((S.nodes k).length = ck) := hvl.trans Hck.out
  obtain ⟨q0, q1, -, -, -⟩ := HCE.out W S hS hg
  have qx := hxs.cell (hxp k hk)
  have hkz : (k : Int) < (n : Int) := by omega
  rw [Hxb.out, Hvbk.out, Hck.out, Hvck.out] at qx
  rw [Hvbk.out, Hck.out, Hvck.out] at hCl
  have HCL := hid_of hCl
  rw [Hsb.out] at HAR ⊢
  clear hS hf hms hmp hg hns hxs hxp hvk hcap hvl hxi hCl
  go_enter Try.func27, Try.ntmps27
  go_wp2_with fail
  refine HCL.out.mono ?_
  rintro e W1 ⟨v, rfl, hv, hb1⟩
  have hvlt := hv.lt
  obtain ⟨va, vq, rfl, hva⟩ := owns_slice hv
  obtain ⟨ug, rfl⟩ := hva hc0.1
  obtain ⟨hug, hugl⟩ := hvlt ug rfl
  obtain ⟨_, -, -, hvq, -⟩ := owns_block hv
  have hrv := RowP.of_owns hv
  have hAr := HAR.out W1 S (HS.out.below hb1) (fun _ => rfl) HG.out
  have HA1 := hid_of hAr
  have HR1 := hid_of (And.intro hrv hb1)
  clear hv hva hvlt hrv hAr HCL q0 q1 qx hb1
  go_wp2_with fail
  refine HA1.out.mono ?_
  rintro e W2 ⟨⟨la, lc, rfl, hni⟩, hb2⟩
  have HF0 : Hid (FxI W ug ck (.slice la nk lc) (nsS S n k) W2) := by
    have h1 := HR1.out.2.size
    exact ⟨⟨_, HR1.out.1.keep (hb2.block ug hugl), HVL.out, hok.out⟩, bel_call HR1.out.2 hb2, hni.keep (fun b hb _ => ⟨⟨by omega, by omega⟩, rfl⟩), hug⟩
  have hnk3 : nk ≤ 300 := by rw [← Hnk.out]; have := nsS_length S n k; omega
  clear hni hb2 HA1 HR1 hugl
  go_wp2_with fail
  go_loopw [25] (fun s25 wx => ∃ i : Nat, i ≤ nk ∧ s25 = .int .i64 i ∧ Hid (FxI W ug ck (.slice la nk lc) (nsS S n k) wx)) (fun s25 _ => nk - (intOf s25).toNat)
  case atStart => exact ⟨0, by omega, rfl, HF0⟩
  case round =>
    obtain ⟨i, hi, rfl, HI⟩ := hrel
    clear HF0
    by_cases hit : i < nk
    · have hix : i < (nsS S n k).length := by rw [Hnk.out]; exact hit
      have hni := HI.out.ni
      obtain ⟨nb, no, rfl, -, cn⟩ := ints_at hni hix
      have hgk : (nsS S n k).getD i 0 = (nsS S n k)[i] := by simp [List.getD, hix]
      rw [hgk] at cn
      have hmem := List.getElem_mem hix
      obtain ⟨⟨hr0, hr1⟩, hsm⟩ := mem_nsS.1 hmem
      obtain ⟨mN, HmN⟩ : ∃ mN : Nat, Hid ((nsS S n k)[i] = mN) := ⟨(nsS S n k)[i].toNat, by show _ = _; omega⟩
      rw [HmN.out] at cn hr0 hr1 hsm
      simp only [Int.toNat_natCast] at hsm
      obtain ⟨M, hM⟩ : ∃ M, S.near k mN = some M := Option.isSome_iff_exists.1 hsm
      have hmn : mN < n := by omega
      obtain ⟨ob, mcm, rb, rc, hfm, hMx, hOM⟩ := HF.out.yes mN hmn M hM
      have hSr := HS.out.below HI.out.bel
      obtain ⟨-, q1, -, -, qm⟩ := HCE.out wr S hSr HG.out
      have hlk := (HF.out.mv.keep (HI.out.bel.block _ HF.out.mv.lt)).look (In64.of (x := (mN : Int)) (by omega) (by omega)) hfm
      rw [Hck.out] at hlk hMx hOM
      rw [Hpbk.out] at hlk
      have HMX := hid_of hMx
      have HOM := hid_of hOM
      have hiz : (i : Int) < (nk : Int) := by omega
      obtain ⟨cm, Hcm⟩ : ∃ v, Hid (L.cs mN = v) := ⟨_, (rfl : L.cs mN = _)⟩
      obtain ⟨vbm, Hvbm⟩ : ∃ v, Hid (L.vb mN = v) := ⟨_, (rfl : L.vb mN = _)⟩
      obtain ⟨vcm, Hvcm⟩ : ∃ v, Hid (L.vc mN = v) := ⟨_, (rfl : L.vc mN = _)⟩
      have hcm : 0 < cm ∧ cm ≤ 32 := by rw [← Hcm.out]; exact (HS.out.vr mN hmn).cap.2
      rw [Hcm.out] at HOM
      have HI0 := HI
      clear hni hgk hmem hr0 hr1 hsm hfm hMx hOM hSr HI
      go_wp2_with fail
      clear hlk q1 qm cn
      go_loopw [39] (fun s39 wx => ∃ j : Nat, j ≤ ck ∧ s39 = .int .i64 j ∧ Hid (FxI W ug ck (.slice (some ⟨nb, no, none⟩) nk lc) (nsS S n k) wx)) (fun s39 _ => ck - (intOf s39).toNat)
      case atStart => exact ⟨0, by omega, rfl, HI0⟩
      case round =>
        obtain ⟨j, hj, rfl, HI⟩ := hrel
        clear HI0
        by_cases hjt : j < ck
        · have hR := (HMX.out.keep (q := fun b => b < wr.heap.size) (W' := wr) (fun b _ hlt => ⟨by have := HI.out.bel.size; omega, HI.out.bel.block b hlt⟩)).rows
          obtain ⟨b0, o0, a0, n0, c0, ha0, -, k0, k1, hn0, -⟩ := rows_at2 hR (show j < M.length by rw [HOM.out.rows]; exact hjt)
          simp only [Option.some.injEq, Addr.mk.injEq, and_true] at ha0
          obtain ⟨rfl, rfl⟩ := ha0
          rw [Nat.zero_add] at k0
          have hml := HOM.out.cols j hjt
          rw [hml] at hn0
          subst hn0
          have hCl := cloneV_c wr k1 (by omega) (by omega)
          rw [hml] at hCl
          have HCL := hid_of hCl
          have HML := hid_of hml
          have hjz : (j : Int) < (ck : Int) := by omega
          have HSr := hid_of (HS.out.below HI.out.bel)
          clear hR k1 hml hCl
          go_wp2_with fail
          clear k0
          refine HCL.out.mono ?_
          rintro e2 W3 ⟨v, rfl, hv, hb3⟩
          have hvlt := hv.lt
          obtain ⟨va, vq2, rfl, hva⟩ := owns_slice hv
          obtain ⟨xg, rfl⟩ := hva hcm.1
          obtain ⟨hxg, -⟩ := hvlt xg rfl
          obtain ⟨_, -, -, hvq2, -⟩ := owns_block hv
          have hS3 := HSr.out.below hb3
          obtain ⟨q0, -, -, -, -⟩ := HCE.out W3 S hS3 HG.out
          have qx : W3.cell? ⟨xb, mN, none⟩ = some (.slice (some ⟨vbm, 0, none⟩) n0 vcm) := by
            rw [← Hxb.out, ← Hvbm.out, ← Hvcm.out, ← Hcm.out]
            exact (HXS.out.keep ((hb3.block L.xb (by have := HXS.out.lt; have := HI.out.bel.size; omega)).trans (HI.out.bel.block L.xb HXS.out.lt))).cell (HXP.out mN hmn)
          have hvm := hS3.vr mN hmn
          have hyi : IsInts (fun b => b < wr.heap.size) W3 (.slice (some ⟨vbm, 0, none⟩) n0 vcm) (S.nodes mN) := by
            have hl := (HS.out.vr mN hmn).row.lt
            have hc := hvm.cap
            have hv2 := hvm.len
            have := hvm.row.ints (p := fun b => b < wr.heap.size) (c := L.vc mN) (by have := HI.out.bel.size; omega) (by omega) (by omega)
            rw [hv2, Hvbm.out, Hvcm.out, Hcm.out] at this
            exact this
          have hAd := add_c W3 (c := vq2) (RowP.of_owns hv) hyi (by omega) HML.out (HOM.out.ok j) hvm.ok (by omega)
          have HAD := hid_of hAd
          have HB3 := hid_of hb3
          have hNL : Hid ((S.nodes mN).length = n0) := by show _ = _; rw [← Hcm.out]; exact hvm.len
          have HNO := hid_of hvm.ok
          have hmz : (mN : Int) < (n : Int) := by omega
          clear hv hva hvlt hS3 hvm hyi hAd HSr HCL hb3
          go_wp2_with fail
          refine HAD.out.mono ?_
          rintro e3 W4 ⟨rfl, hr4, hon⟩
          have hB4 : Below wr.heap.size wr W4 := hon.bel _ _ HB3.out hxg
          have hI4 := HI.out.keep hB4
          obtain ⟨ys, hyr, hyl, hyo⟩ := hI4.ys
          obtain ⟨zs, Hzs⟩ : ∃ zs, Hid (addS (M.getD j []) (S.nodes mN) = zs) := ⟨_, (rfl : addS (M.getD j []) (S.nodes mN) = _)⟩
          have hzl : zs.length = n0 := by rw [← Hzs.out, addS_length (by rw [HML.out]; exact hNL.out.symm)]; exact HML.out
          have hzo : OkV zs := by rw [← Hzs.out]; exact fun q => addS_ok (HOM.out.ok j) HNO.out q
          rw [Hzs.out] at hr4
          have hi4 : IsInts (fun _ => True) W4 (.slice (some ⟨xg, 0, none⟩) n0 vq2) zs := by
            have := hr4.ints (p := fun _ => True) (c := vq2) trivial (by omega) (by omega)
            rw [hzl] at this
            exact this
          obtain ⟨li, Hli⟩ : ∃ li, Hid (leastS zs = li) := ⟨_, (rfl : leastS zs = _)⟩
          have hlil : li < n0 := by rw [← Hli.out, ← hzl]; exact leastS_lt (by omega)
          have hle : ∀ q, Calls Try.prog 41 #[.slice (some ⟨xg, 0, none⟩) n0 vq2] (W4.drewN q) fun e w' => e = .returned (.int .i64 (li : Nat)) ∧ ∃ m, w' = (W4.drewN q).drewN m := fun q => by
            have := least_c (W4.drewN q) (hi4.keep (p' := fun _ => True) (Keep.below (bel_drewN (bel_refl W4) q)))
            rw [Hli.out] at this
            exact this
          obtain ⟨y, Hy⟩ : ∃ y, Hid (ys.getD j 0 = y) := ⟨_, (rfl : ys.getD j 0 = _)⟩
          obtain ⟨mv, Hmv⟩ : ∃ mv, Hid (zs.getD li 0 = mv) := ⟨_, (rfl : zs.getD li 0 = _)⟩
          have cv := hr4.cell (k := li) (v := .int .i64 mv) (by
            have h1 : li < zs.length := by omega
            have h2 := Hmv.out
            simp only [List.getD, List.getElem?_eq_getElem h1, Option.getD_some] at h2
            simp [ints, h1, h2])
          have cy := hyr.cell (k := j) (v := .int .i64 y) (by
            have h1 : j < ys.length := by omega
            have h2 := Hy.out
            simp only [List.getD, List.getElem?_eq_getElem h1, Option.getD_some] at h2
            simp [ints, h1, h2])
          have fy := hyr.frozen j
          have hyo2 := hyo j
          rw [Hy.out] at hyo2
          have hmo : 0 ≤ mv ∧ mv ≤ 1099511627776 := by rw [← Hmv.out]; exact hzo li
          obtain ⟨nv, Hnv⟩ : ∃ nv, Hid (min (y + mv) 1099511627776 = nv) := ⟨_, (rfl : min (y + mv) 1099511627776 = _)⟩
          have hpl : ∀ X : World, Calls Try.prog 22 #[.int .i64 y, .int .i64 mv] X fun e w' => e = .returned (.int .i64 nv) ∧ w' = X := fun X => by
            have := plus_c X y mv ⟨hyo2.1, by omega⟩ hmo
            rw [Hnv.out] at this
            exact this
          have hnv : 0 ≤ nv ∧ nv ≤ 1099511627776 := by rw [← Hnv.out]; omega
          have HF : Hid (∀ q, FxI W ug ck (.slice (some ⟨nb, no, none⟩) nk lc) (nsS S n k) ((W4.drewN q).setCell ⟨ug, j, none⟩ (.int .i64 nv))) := fun q => hI4.put hyr hyl hyo hjt hnv q
          have hgx : ug ≠ xg := by have := HI.out.ys; obtain ⟨_, h, -⟩ := this; have := h.lt; omega
          have hlz2 : (li : Int) < (n0 : Int) := by omega
          clear hr4 hon hB4 hI4 hyr hyl hyo hzl hzo hi4 hyo2 hmo hnv HAD HB3 HI q0 qx
          go_wp2_with fail
          have hS0 : ∀ d, (W4.drewN d).cell? ⟨xg, li, none⟩ = some (.int .i64 mv) := fun _ => cv
          have hS1 : ∀ d, ((W4.drewN d).setCell ⟨ug, j, none⟩ (.int .i64 nv)).cell? ⟨xg, li, none⟩ = some (.int .i64 mv) := fun d => (World.cell?_of_block (a := ⟨xg, li, none⟩) (Below.heap_setCell _ _ _ _ hgx.symm)).trans cv
          clear cv
          refine wp_region_noPanic ?_
          refine wp_region_held_drew (S := fun Y => Y.cell? ⟨xg, li, none⟩ = some (.int .i64 mv)) (by kernel_rfl) (by first | exact hS0 0 | exact hS0 1 | exact hS0 _) (fun hHeld => ?_)
          refine wpAnyH_take (i := 0) (v := ?_) rfl (by kernel_rfl) (by kernel_rfl) (by kernel_rfl) (fun _ _ _ h => h) (Or.inl ⟨by rfl, ?_⟩) (by assumption) ?_
          rotate_left
          · intro w hSw; (try dsimp only at hSw); go_simp; all_goals (with_reducible rfl)
          refine wpAnyH_take (i := 1) (v := ?_) rfl (by kernel_rfl) (by kernel_rfl) (by kernel_rfl) (fun _ _ _ h => h) (Or.inl ⟨by rfl, ?_⟩) (by assumption) ?_
          rotate_left
          · intro w hSw; (try dsimp only at hSw); go_simp; all_goals (with_reducible rfl)
          refine wpAnyH_take (i := 2) (v := ?_) rfl (by kernel_rfl) (by kernel_rfl) (by kernel_rfl) (fun _ _ _ h => h) (Or.inl ⟨by rfl, ?_⟩) (by assumption) ?_
          rotate_left
          · intro w hSw; (try dsimp only at hSw); go_simp; all_goals (with_reducible rfl)
          refine wpAnyH_take (i := 3) (v := ?_) rfl (by kernel_rfl) (by kernel_rfl) (by kernel_rfl) (fun _ _ _ h => h) (Or.inl ⟨by rfl, ?_⟩) (by assumption) ?_
          rotate_left
          · intro w hSw; (try dsimp only at hSw); go_simp; all_goals (with_reducible rfl)
          refine wpAnyH_take (i := 4) (v := ?_) rfl (by kernel_rfl) (by kernel_rfl) (by kernel_rfl) (fun _ _ _ h => h) (Or.inl ⟨by rfl, ?_⟩) (by assumption) ?_
          rotate_left
          · intro w hSw; (try dsimp only at hSw); go_simp; all_goals (with_reducible rfl)
          refine wpAnyH_take (i := 6) (v := ?_) rfl (by kernel_rfl) (by kernel_rfl) (by kernel_rfl) (fun _ _ _ h => h) (Or.inl ⟨by rfl, ?_⟩) (by assumption) ?_
          rotate_left
          · intro w hSw; (try dsimp only at hSw); go_simp; all_goals (with_reducible rfl)
          refine wpAnyH_take (i := 7) (v := ?_) rfl (by kernel_rfl) (by kernel_rfl) (by kernel_rfl) (fun _ _ _ h => h) (Or.inl ⟨by rfl, ?_⟩) (by assumption) ?_
          rotate_left
          · intro w hSw; (try dsimp only at hSw); go_simp; all_goals (with_reducible rfl)
          try simp only [Act.put, List.setIfInBounds_toArray]
          refine wpAnyH_ready (rs := [5, 8]) (by kernel_rfl) (by simp) ?_
          refine AllReadyH.cons rfl (fun K hK => ?_) (AllReadyH.cons rfl (fun K hK => ?_) AllReadyH.nil)
          · skip
            go_simp
            refine hK.out _ _ (by (first | exact hS0 0 | exact hS0 1 | exact hS0 _ | exact hS1 _)) (fun hHeld => ?_)
            clear hK K
            try simp only [Act.put, List.setIfInBounds_toArray, List.set_cons_zero, List.set_cons_succ]
            refine wpAnyH_ready (rs := [8]) (by kernel_rfl) (by simp) ?_
            refine AllReadyH.cons rfl (fun K hK => ?_) AllReadyH.nil
            go_simp
            (go_at_call 41; refine (hle _).mono ?_; rintro e4 Y ⟨rfl, q, rfl⟩; go_wp2_with fail)
            refine hK.out _ _ (by (first | exact hS0 0 | exact hS0 1 | exact hS0 _ | exact hS1 _)) (fun hHeld => ?_)
            clear hK K
            try simp only [Act.put, List.setIfInBounds_toArray, List.set_cons_zero, List.set_cons_succ]
            refine wpAnyH_take (i := 9) (v := ?_) rfl (by kernel_rfl) (by kernel_rfl) (by kernel_rfl) (fun _ _ _ h => h) (Or.inl ⟨by rfl, ?_⟩) (by assumption) ?_
            rotate_left
            · intro w hSw; (try dsimp only at hSw); go_simp; all_goals (with_reducible rfl)
            refine wpAnyH_take (i := 10) (v := ?_) rfl (by kernel_rfl) (by kernel_rfl) (by kernel_rfl) (fun _ _ _ h => h) (Or.inl ⟨by rfl, ?_⟩) (by assumption) ?_
            rotate_left
            · intro w hSw; (try dsimp only at hSw); go_simp; all_goals (with_reducible rfl)
            refine wpAnyH_ready (rs := [11]) (by kernel_rfl) (by simp) ?_
            refine AllReadyH.cons rfl (fun K hK => ?_) AllReadyH.nil
            go_simp
            (go_at_call 22; refine (hpl _).mono ?_; rintro e5 Y ⟨rfl, rfl⟩; go_wp2_with fail)
            refine hK.out _ _ (by (first | exact hS0 0 | exact hS0 1 | exact hS0 _ | exact hS1 _)) (fun hHeld => ?_)
            clear hK K
            try simp only [Act.put, List.setIfInBounds_toArray, List.set_cons_zero, List.set_cons_succ]
            refine wpAnyH_take (i := 12) (v := ?_) rfl (by kernel_rfl) (by kernel_rfl) (by kernel_rfl) (fun _ _ _ h => h) (Or.inl ⟨by rfl, ?_⟩) (by assumption) ?_
            rotate_left
            · intro w hSw; (try dsimp only at hSw); go_simp; all_goals (with_reducible rfl)
            refine wpAnyH_ready (rs := [13]) (by kernel_rfl) (by simp) ?_
            refine AllReadyH.cons rfl (fun K hK => ?_) AllReadyH.nil
            go_simp
            refine hK.out _ _ (by (first | exact hS0 0 | exact hS0 1 | exact hS0 _ | exact hS1 _)) (fun hHeld => ?_)
            clear hK K
            try simp only [Act.put, List.setIfInBounds_toArray, List.set_cons_zero, List.set_cons_succ]
            refine wpAnyH_done (by kernel_rfl) ?_ _
            refine NoPanic.normal ?_
            clear hS0 hS1 cy fy hle hpl
            go_wp2_with fail
            go_roundw
            all_goals first | exact ⟨j + 1, by omega, by go_num, HF.out _⟩ | (simp [intOf]; omega)
          · skip
            go_simp
            (go_at_call 41; refine (hle _).mono ?_; rintro e4 Y ⟨rfl, q, rfl⟩; go_wp2_with fail)
            refine hK.out _ _ (by (first | exact hS0 0 | exact hS0 1 | exact hS0 _ | exact hS1 _)) (fun hHeld => ?_)
            clear hK K
            try simp only [Act.put, List.setIfInBounds_toArray, List.set_cons_zero, List.set_cons_succ]
            refine wpAnyH_take (i := 9) (v := ?_) rfl (by kernel_rfl) (by kernel_rfl) (by kernel_rfl) (fun _ _ _ h => h) (Or.inl ⟨by rfl, ?_⟩) (by assumption) ?_
            rotate_left
            · intro w hSw; (try dsimp only at hSw); go_simp; all_goals (with_reducible rfl)
            refine wpAnyH_take (i := 10) (v := ?_) rfl (by kernel_rfl) (by kernel_rfl) (by kernel_rfl) (fun _ _ _ h => h) (Or.inl ⟨by rfl, ?_⟩) (by assumption) ?_
            rotate_left
            · intro w hSw; (try dsimp only at hSw); go_simp; all_goals (with_reducible rfl)
            refine wpAnyH_ready (rs := [5]) (by kernel_rfl) (by simp) ?_
            refine AllReadyH.cons rfl (fun K hK => ?_) AllReadyH.nil
            go_simp
            refine hK.out _ _ (by (first | exact hS0 0 | exact hS0 1 | exact hS0 _ | exact hS1 _)) (fun hHeld => ?_)
            clear hK K
            try simp only [Act.put, List.setIfInBounds_toArray, List.set_cons_zero, List.set_cons_succ]
            refine wpAnyH_ready (rs := [11]) (by kernel_rfl) (by simp) ?_
            refine AllReadyH.cons rfl (fun K hK => ?_) AllReadyH.nil
            go_simp
            (go_at_call 22; refine (hpl _).mono ?_; rintro e5 Y ⟨rfl, rfl⟩; go_wp2_with fail)
            refine hK.out _ _ (by (first | exact hS0 0 | exact hS0 1 | exact hS0 _ | exact hS1 _)) (fun hHeld => ?_)
            clear hK K
            try simp only [Act.put, List.setIfInBounds_toArray, List.set_cons_zero, List.set_cons_succ]
            refine wpAnyH_take (i := 12) (v := ?_) rfl (by kernel_rfl) (by kernel_rfl) (by kernel_rfl) (fun _ _ _ h => h) (Or.inl ⟨by rfl, ?_⟩) (by assumption) ?_
            rotate_left
            · intro w hSw; (try dsimp only at hSw); go_simp; all_goals (with_reducible rfl)
            refine wpAnyH_ready (rs := [13]) (by kernel_rfl) (by simp) ?_
            refine AllReadyH.cons rfl (fun K hK => ?_) AllReadyH.nil
            go_simp
            refine hK.out _ _ (by (first | exact hS0 0 | exact hS0 1 | exact hS0 _ | exact hS1 _)) (fun hHeld => ?_)
            clear hK K
            try simp only [Act.put, List.setIfInBounds_toArray, List.set_cons_zero, List.set_cons_succ]
            refine wpAnyH_done (by kernel_rfl) ?_ _
            refine NoPanic.normal ?_
            clear hS0 hS1 cy fy hle hpl
            go_wp2_with fail
            go_roundw
            all_goals first | exact ⟨j + 1, by omega, by go_num, HF.out _⟩ | (simp [intOf]; omega)
        · obtain rfl : j = ck := by omega
          have HI2 := HI
          clear HI
          go_wp2_with fail
          go_roundw
          case rel => exact ⟨i + 1, by omega, by go_num, HI2⟩
          case measure => simp [intOf]; omega
    · obtain rfl : i = nk := by omega
      obtain ⟨ys, hyr, hyl, hyo⟩ := HI.out.ys
      have hi4 : IsInts (fun _ => True) wr (.slice (some ⟨ug, 0, none⟩) ck vq) ys := by
        have := hyr.ints (p := fun _ => True) (c := vq) trivial (by omega) (by omega)
        rw [hyl] at this
        exact this
      have hle := least_c wr hi4
      obtain ⟨K, HK⟩ : ∃ K, Hid (leastS ys = K) := ⟨_, (rfl : leastS ys = _)⟩
      have hKc : K < ck := by rw [← HK.out, ← hyl]; exact leastS_lt (by omega)
      rw [HK.out] at hle
      have hSr := HS.out.below HI.out.bel
      obtain ⟨-, -, q3, -, -⟩ := HCE.out wr S hSr HG.out
      have HSL : Hid (∀ q, SS w L ow n (S.chosen k K) us uv uvs ((wr.drewN q).setCell ⟨lb, k, none⟩ (.int .i64 (K : Int)))) := fun q => by rw [← Hlb.out]; exact (hSr.drewN q).setl hk (by rw [Hck.out]; exact hKc)
      have cl := hSr.lr.cell (k := k) (v := .int .i64 (S.l.getD k 0)) (by have := hSr.ll.1; simp [ints, List.getD, show k < S.l.length by omega])
      have fl := hSr.lr.frozen k
      rw [Hlb.out] at cl fl
      have HLE := hid_of hle
      clear hyr hyl hyo hi4 hle hSr HI
      go_wp2_with fail
      refine HLE.out.mono ?_
      rintro e4 W4 ⟨rfl, q, rfl⟩
      have hSY := HSL.out q
      have HA2 := hid_of (HAR.out _ _ hSY (fun _ => rfl) HG.out)
      have HSY := hid_of hSY
      clear hSY HSL HLE
      go_wp2_with fail
      clear q3 cl fl
      refine HA2.out.mono ?_
      rintro e5 W5 ⟨⟨la2, lc2, rfl, hni⟩, hb5⟩
      have HL0 : Hid (∃ S', FxL S S' k K ((nsS S n k).take 0) ∧ SS w L ow n S' us uv uvs W5 ∧ IsInts (fun b => ow b = .old) W5 (.slice la2 i lc2) (nsS S n k)) :=
        ⟨S.chosen k K, ⟨rfl, rfl, rfl⟩, HSY.out.below hb5, hni.keep (fun b hb _ => ⟨HSY.out.nw b hb, rfl⟩)⟩
      clear hni hb5 HA2 HSY
      go_wp2_with fail
      go_loopw [83] (fun s83 wx => ∃ t : Nat, t ≤ i ∧ s83 = .int .i64 t ∧ Hid (∃ S', FxL S S' k K ((nsS S n k).take t) ∧ SS w L ow n S' us uv uvs wx ∧ IsInts (fun b => ow b = .old) wx (.slice la2 i lc2) (nsS S n k))) (fun s83 _ => i - (intOf s83).toNat)
      case atStart => exact ⟨0, by omega, rfl, HL0⟩
      case round =>
        obtain ⟨t, ht, rfl, HX⟩ := hrel
        clear HL0
        by_cases hit2 : t < i
        · obtain ⟨S', hR, hS', hni⟩ := HX.out
          have hix : t < (nsS S n k).length := by rw [Hnk.out]; exact hit2
          obtain ⟨nb2, no2, rfl, -, cn⟩ := ints_at hni hix
          have hgk : (nsS S n k).getD t 0 = (nsS S n k)[t] := by simp [List.getD, hix]
          rw [hgk] at cn
          have hmem := List.getElem_mem hix
          obtain ⟨hm0, hm1⟩ := HNS.out _ hmem
          obtain ⟨⟨hr0, hr1⟩, hsm⟩ := mem_nsS.1 hmem
          obtain ⟨mN, HmN⟩ : ∃ mN : Nat, Hid ((nsS S n k)[t] = mN) := ⟨(nsS S n k)[t].toNat, by show _ = _; omega⟩
          rw [HmN.out] at cn hr0 hr1 hsm hm0 hm1
          simp only [Int.toNat_natCast] at hsm hm0 hm1
          obtain ⟨M, hM⟩ : ∃ M, S.near k mN = some M := Option.isSome_iff_exists.1 hsm
          have hmn : mN < n := by omega
          have hgS : S'.gone k = false := by rw [hR.2.1]; exact HG.out
          have hgm : S'.gone mN = false := by rw [hR.2.1]; exact hm0
          have hnr : S'.near k mN = some M := by
            rw [hR.1]
            exact ((dropS_same k _ S).2.2 (fun m hm => (HNS.out m (List.mem_of_mem_take hm)).2) mN).trans hM
          obtain ⟨f, hf⟩ := hS'.pr k hk
          obtain ⟨ob, mcm, rb, rc, hfm, hMx, hOM⟩ := hf.yes mN hmn M hnr
          obtain ⟨q0, q1, -, -, qm⟩ := HCE.out wr S' hS' hgS
          obtain ⟨cm, Hcm⟩ : ∃ v, Hid (L.cs mN = v) := ⟨_, (rfl : L.cs mN = _)⟩
          obtain ⟨vbm, Hvbm⟩ : ∃ v, Hid (L.vb mN = v) := ⟨_, (rfl : L.vb mN = _)⟩
          obtain ⟨vcm, Hvcm⟩ : ∃ v, Hid (L.vc mN = v) := ⟨_, (rfl : L.vc mN = _)⟩
          obtain ⟨pbm, Hpbm⟩ : ∃ v, Hid (L.pb mN = v) := ⟨_, (rfl : L.pb mN = _)⟩
          have qx : wr.cell? ⟨xb, mN, none⟩ = some (.slice (some ⟨vbm, 0, none⟩) cm vcm) := by
            obtain ⟨xs2, hxs2, hxp2⟩ := hS'.xr
            rw [← Hxb.out, ← Hvbm.out, ← Hvcm.out, ← Hcm.out]
            exact hxs2.cell (hxp2 mN hmn)
          have hlk0 := hf.mv.look (In64.of (x := (mN : Int)) (by omega) (by omega)) hfm
          have hlk1 := (hf.mv.keep (W' := wr.drew) rfl).look (In64.of (x := (mN : Int)) (by omega) (by omega)) hfm
          rw [Hpbk.out, Hck.out] at hlk0 hlk1
          rw [Hck.out] at hMx hOM
          obtain ⟨b0, o0, a0, n0, c0, ha0, -, k0, k1, hn0, -⟩ := rows_at2 hMx.rows (show K < M.length by rw [hOM.rows]; exact hKc)
          simp only [Option.some.injEq, Addr.mk.injEq, and_true] at ha0
          obtain ⟨rfl, rfl⟩ := ha0
          rw [Nat.zero_add] at k0
          have hml := hOM.cols K hKc
          rw [hml, Hcm.out] at hn0
          subst hn0
          have hvm := hS'.vr mN hmn
          have hcp := hvm.cap
          have hAd : ∀ q, Calls Try.prog 39 #[.slice (some ⟨vbm, 0, none⟩) n0 vcm, .slice a0 n0 c0] (wr.drewN q) fun e w' => e = .returned (.tuple #[]) ∧ SS w L ow n (S'.vec mN (addS (S'.nodes mN) (M.getD K []))) us uv uvs w' ∧ KT ow (fun t => t = .vec mN) wr w' ∧ wr.heap.size ≤ w'.heap.size := fun q => by
            rw [← Hvbm.out, ← Hvcm.out, ← Hcm.out]
            rw [← Hcm.out] at k1
            refine (add_c (wr.drewN q) (c := L.vc mN) (hvm.row.keep rfl) (k1.keep (p' := fun b => ow b = .mat k mN) (w' := wr.drewN q) (fun b hb _ => ⟨hb, rfl⟩)) (by rw [(hS'.tv mN hmn).1]; simp) hvm.len hvm.ok (hOM.ok K) (by omega)).mono ?_
            rintro e w' ⟨rfl, h1, h2⟩
            refine ⟨rfl, (hS'.drewN q).turn hmn h1 (by rw [addS_length (by rw [hml]; exact hvm.len)]; exact hvm.len) (fun q => addS_ok hvm.ok (hOM.ok K) q) ⟨hvm.row.lt, Nat.le_of_eq h2.sz, fun b _ hne => h2.kq b hne, h2.bel⟩, fun b hb hne => ?_, Nat.le_of_eq h2.sz⟩
            exact h2.kq b (by rintro rfl; exact hne (hS'.tv mN hmn).1)
          have HRS := hid_of (hR.step hix mN HmN.out (addS (S'.nodes mN) (M.getD K [])))
          have HNI := hid_of hni
          have HM0 := hid_of hm0
          have HGM : Hid ((S'.vec mN (addS (S'.nodes mN) (M.getD K []))).gone k = false ∧ (S'.vec mN (addS (S'.nodes mN) (M.getD K []))).gone mN = false) := ⟨hgS, hgm⟩
          have hiz : (t : Int) < (i : Int) := by omega
          have hmz : (mN : Int) < (n : Int) := by omega
          have hKz : (K : Int) < (ck : Int) := by omega
          clear hR hS' hni hgk hmem hm0 hm1 hr0 hr1 hsm hgS hgm hnr hf hfm hMx hOM k1 hml hvm hcp HX
          obtain ⟨S1, HS1⟩ : ∃ S1, Hid (S'.vec mN (addS (S'.nodes mN) (M.getD K [])) = S1) := ⟨_, (rfl : S'.vec mN (addS (S'.nodes mN) (M.getD K [])) = _)⟩
          rw [HS1.out] at HRS HGM hAd
          go_upto_region 17 with fail
          clear cn
          go_cut [] (fun wx => Hid (SS w L ow n S1 us uv uvs wx ∧ KT ow (fun t => t = .vec mN) wr wx ∧ wr.heap.size ≤ wx.heap.size))
          case first =>
            go_region_law (first
              | (go_simp; go_at_call 39; refine (hAd _).mono ?_; rintro e6 Y6 ⟨rfl, h61, h62, h63⟩))
            all_goals (try go_wp2_with fail)
            all_goals go_meet
            all_goals exact ⟨h61, h62, h63⟩
          case rest =>
            have HC := hcut
            obtain ⟨hS1, hkt, -⟩ := HC.out
            obtain ⟨-, c1, -, -, -⟩ := HCE.out wc S1 hS1 HGM.out.1
            obtain ⟨ms2, hms2, -, hmp2⟩ := hS1.mr
            have cm2 := hms2.cell (hmp2 mN hmn HGM.out.2)
            rw [Hmb.out, Hpbm.out] at cm2
            obtain ⟨f2, hf2⟩ := hS1.pr mN hmn
            have HM2 := hid_of hf2.mv
            have HF2 := hid_of hf2
            have HPT : Hid (ow (L.pb mN) = .map mN) := (hS1.tv mN hmn).2
            rw [Hpbm.out] at HM2
            clear q0 q1 qm qx hlk0 hlk1 k0 hAd hS1 hkt hms2 hmp2 hf2 hcut
            obtain ⟨W3, hr3, hM3, ht3⟩ := HM2.out.dele (x := (k : Int)) (In64.of (by omega) (by omega)) 0
            rw [← Hpbm.out] at hM3 ht3
            have hSd : SS w L ow n S1 us uv uvs wc := HC.out.1
            have hS3 := hSd.dele hmn hk HF2.out hM3 ht3
            have h3k := mapTurned_kt ht3 HPT.out
            have hsz2 := HC.out.2.1
            have hsz3 : wr.heap.size ≤ wc.heap.size := HC.out.2.2
            have H3 : Hid (∃ S', FxL S S' k K ((nsS S n k).take (t + 1)) ∧ SS w L ow n S' us uv uvs W3 ∧ IsInts (fun b => ow b = .old) W3 (.slice (some ⟨nb2, no2, none⟩) i lc2) (nsS S n k)) :=
              ⟨_, HRS.out, hS3, HNI.out.keep (fun b hb hlt => ⟨hb, (h3k b (show b < wc.heap.size by omega) (by rw [hb]; simp)).trans (hsz2 b hlt (by rw [hb]; simp))⟩)⟩
            clear hSd hS3 h3k hsz2 hsz3 hM3 ht3 HC HM2 HF2
            go_wp2_with fail
            go_roundw
            case rel => exact ⟨t + 1, by omega, by go_num, H3⟩
            case measure => simp [intOf]; omega
        · obtain rfl : t = i := by omega
          obtain ⟨S', hR, hS', -⟩ := HX.out
          rw [List.take_of_length_le (by rw [Hnk.out]; exact Nat.le_refl _)] at hR
          have hgS : S'.gone k = false := by rw [hR.2.1]; exact HG.out
          obtain ⟨-, c1, -, -, cm⟩ := HCE.out wr S' hS' hgS
          obtain ⟨ms2, hms2, -, -⟩ := hS'.mr
          have fm := hms2.frozen k
          rw [Hmb.out] at fm
          have HH := hid_of (hS'.half hk)
          rw [Hmb.out] at HH
          have HFR : Hid (FixR S (S'.out k) L.cs n k) := ⟨hR.1, by simp only [PS.out, hR.2.1], K, by rw [Hck.out]; exact hKc, hR.2.2⟩
          clear hR hS' hgS hms2 HX
          go_upto_region 21 with fail
          refine wp_at (fun Y => Half w L ow n S' us uv uvs k wr Y) HH.out ?_
          clear c1 cm fm HH
          intro Y hH
          have hsv := hH.ss.sv.keep hH.sv
          have hgr := hH.ss.gr.keep hH.gr
          have c4 := hsv.cell (k := 4) rfl
          have cg := hgr.cell (k := k) (v := .bool (S'.gone k)) (by simp [Go.Proofs.Ytdomnbgjafdnjaa.bools, hk])
          have fg := hgr.frozen k
          have HD := hid_of (hH.done hk)
          rw [Hsb.out, Hgb.out] at c4
          rw [Hgb.out] at cg fg HD
          clear hH hsv hgr
          go_wp2_with fail
          go_end0
          exact ⟨rfl, _, HFR.out, HD.out⟩
end Go.Proofs.Ytdomnbgjafdnjaa
