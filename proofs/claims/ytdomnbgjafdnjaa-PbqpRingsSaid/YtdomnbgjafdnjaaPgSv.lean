/- The general solver: Solve, of any problem that may be. -/
import Derived.Test.YtdomnbgjafdnjaaPgNx
import Derived.Test.YtdomnbgjafdnjaaPgC
namespace Go.Proofs.Ytdomnbgjafdnjaa
open Go.RowKit Go.Maps Go.ChangeMaps

/-- What Solve chooses. -/
structure SolR (N : List (List Int)) (Es : List EdgeD) (l : List Int) : Prop where
  len : l.length = N.length
  ok : allIn N l l.length = true
  ez : RedP N.length (nrE (beginS N Es)) (fun _ => false) → OptS (beginS N Es) (csN N) N.length l
theorem SolI.fin {N : List (List Int)} {Es : List EdgeD} {S : PS} {us : List (Nat × List Int)} {cs : Nat → Nat} (hcs : cs = csN N) (h : SolI cs N.length (beginS N Es) S us) (hO : OkS cs N.length S) (hg : ∀ j, j < N.length → S.gone j = true) (hl : S.l.length = N.length) (hi : ∀ k, k < N.length → 0 ≤ S.l.getD k 0 ∧ S.l.getD k 0 < cs k) : SolR N Es (undoS S us S.l) := by
  subst hcs
  have hlen : (undoS S us S.l).length = N.length := by rw [undoS_length, hl]
  refine ⟨hlen, ?_, fun hr => ?_⟩
  · rw [hlen]
    refine List.all_eq_true.2 fun k hk => ?_
    have := h.range hO (vs := us) (fun _ hu => hu) hi hl k (List.mem_range.1 hk)
    unfold inB
    simp only [Bool.and_eq_true, decide_eq_true_eq]
    exact this
  · have e : (beginS N Es).gone = fun _ => false := funext fun q => begin_gone N Es q
    exact (h.ez (by rw [e]; exact hr)).2 _ hl (OptS.all hg)

set_option maxRecDepth 100000 in
set_option maxHeartbeats 16000000 in
theorem solve_g {p : Nat → Prop} (w : World) {na : Option Addr} {nl nc : Nat} {ea : Option Addr} {el ec : Nat} {N : List (List Int)} {Es : List EdgeD} (hp : ∀ b, p b → b < w.heap.size) (h : IsPq p w na nl nc ea el ec N Es) (hc : chkS N Es = 0) (h0 : 0 < nl) :
    Calls Try.prog 14 #[costsV na nl nc ea el ec] w fun e w' => ∃ lb l, e = .returned (.tuple #[.slice (some ⟨lb, 0, none⟩) nl nl, .int .i64 (costP N Es l), .int .i64 0]) ∧ w.heap.size ≤ lb ∧ Row w' lb 3 (ints l) ∧ SolR N Es l ∧ Below w.heap.size w w' := by
  obtain ⟨hn3, hle, -, -⟩ := chk_ok hc
  have hNL := (sl_len h.nd).1
  have HNL := hid_of hNL
  have HP : Hid (∀ X, Below w.heap.size w X → IsPq p X na nl nc ea el ec N Es) := fun X hX => h.keep (fun b hb hlt => ⟨hb, hX.block b (hp b hb)⟩)
  have hB0 := bel_alloc (bel_refl w) (.cells #[.slice na nl nc, .slice ea el ec] 25)
  have HCK := hid_of (check_c (p := p) (w.alloc (.cells #[.slice na nl nc, .slice ea el ec] 25)) (fun b hb => by have := hp b hb; simp; omega) (HP.out _ hB0))
  rw [hc] at HCK
  have HBG : Hid (∀ X, Below w.heap.size w X → Calls Try.prog 24 #[costsV na nl nc ea el ec] X fun e w' => ∃ (L : Pl) (ow : Nat → Tg), e = .returned (.pointer (some ⟨L.sb, 0, none⟩)) ∧ (∀ k, L.cs k = (N.getD k []).length) ∧ SS X L ow nl (beginS N Es) [] (.slice none 0 0) [] w') := fun X hX =>
    begin_g (p := p) X (fun b hb => by have := hp b hb; have := hX.size; omega) (HP.out X hX) hc h0
  have hxn : nl ≤ 300 := by omega
  have HCO : Hid (∀ X lb l, Below w.heap.size w X → w.heap.size ≤ lb → l.length = nl → Row X lb 3 (ints l) → ∀ Y, BkS X Y → Calls Try.prog 11 #[costsV na nl nc ea el ec, .slice (some ⟨lb, 0, none⟩) nl nl] Y fun e w' => e = .returned (.int .i64 (costP N Es l)) ∧ BkS X w') := fun X lb l hX hlo hl2 hr Y hY => by
    have hlr : IsInts (fun b => b < Y.heap.size) Y (.slice (some ⟨lb, 0, none⟩) nl nl) l := by
      have h1 := hr.keep (hY.block lb hr.lt)
      have := ints_of_row (p := fun b => b < Y.heap.size) h1 h1.lt (by omega)
      rw [hl2] at this
      exact this
    have hpq : IsPq (fun b => b < Y.heap.size) Y na nl nc ea el ec N Es := (HP.out Y (bel_call hX hY)).keep (Keep.refl Y fun b hb hlt => hlt)
    have := costP_c (p := fun b => b < Y.heap.size) Y (fun b hb => hb) hpq hlr
    exact this.mono (by rintro e w' ⟨rfl, hb⟩; exact ⟨rfl, bel_call hY hb⟩)
  have HB0 := hid_of hB0
  obtain ⟨S0, HS0⟩ : ∃ S0, Hid (beginS N Es = S0) := ⟨_, (rfl : beginS N Es = _)⟩
  have hbo := begin_ok hc Es.length (Nat.le_refl _)
  rw [List.take_length, HS0.out] at hbo
  rw [← hNL] at hbo
  have HBO := hid_of hbo
  rw [HS0.out] at HBG
  clear h hB0 hn3 hle hNL hc hbo
  go_enter Try.func14, Try.ntmps14
  go_wp2_with fail
  refine HCK.out.mono ?_
  rintro e W1 ⟨rfl, hb1⟩
  have r1 : Row W1 w.heap.size 25 [.slice na nl nc, .slice ea el ec] := Row.keep (W := w.alloc (.cells #[.slice na nl nc, .slice ea el ec] 25)) (heap_alloc_eq _ _ _ rfl) (hb1.block _ (by simp))
  have hB1 := bel_call HB0.out hb1
  have HB1 := hid_of hB1
  have HR1 := hid_of r1
  have a0 := r1.cell (k := 0) rfl
  have a1 := r1.cell (k := 1) rfl
  have HBE := hid_of (HBG.out W1 hB1)
  have hw1 : w.heap.size < W1.heap.size := r1.lt
  clear HCK HBG hb1 r1 hB1
  go_wp2_with fail
  refine HBE.out.mono ?_
  rintro e W2 ⟨L, ow, rfl, hLc, hS⟩
  have hcs : L.cs = csN N := funext hLc
  have HCS := hid_of hcs
  clear HBE a0 a1 hLc
  have HTT : Hid (∃ S us ow uv uvs, SS W1 L ow nl S us uv uvs W2 ∧ SolI L.cs nl S0 S us ∧ (alS S nl).length ≤ nl) :=
    ⟨_, [], ow, _, _, hS, SolI.init HBO.out.2, by have := List.length_filter_le (fun v => !S0.gone v) (List.range nl); rw [List.length_range] at this; exact this⟩
  clear hS hcs
  go_wp2_with fail
  go_loopg [7] nl (fun gh _s7 wx => gh ≤ nl ∧ Hid (∃ S us ow uv uvs, SS W1 L ow nl S us uv uvs wx ∧ SolI L.cs nl S0 S us ∧ (alS S nl).length ≤ gh))
  case atStart => exact ⟨Nat.le_refl _, HTT⟩
  case round =>
    obtain ⟨hgh, HK⟩ := hrel
    clear HTT
    obtain ⟨S, us, ow, uv, uvs, hS, hI, hal⟩ := HK.out
    have HNX := hid_of (next_g hS hxn)
    have HS := hid_of hS
    have HI := hid_of hI
    have HAL := hid_of hal
    clear hS hI hal HK
    go_wp2_with fail
    refine HNX.out.mono ?_
    rintro e W3 ⟨z, y, rfl, hNR, hB3⟩
    clear HNX
    have HS3 := hid_of (HS.out.below hB3)
    clear hB3 HS
    rcases hNR.out with ⟨k, hk, rfl, rfl, hg, hd⟩ | ⟨k, hk, rfl, rfl, hg, hd⟩ | ⟨rfl, rfl, hd⟩
    · have HTK := hid_of (take_k HS3.out hk hxn hg (fun m hm => HI.out.wf.ns hg hm) HI.out.wf.no hd (by have := HI.out.ul; omega))
      have hk0 : decide ((k : Int) < 0) = false := by simp
      clear hNR
      go_wp2_with fail
      refine HTK.out.mono ?_
      rintro e W4 ⟨rfl, ow2, uv2, uvs2, hT2⟩
      have hst := HI.out.take HS3.out.okS hT2.okS hk hg hd
      obtain ⟨gg, rfl⟩ : ∃ gg, gk = gg + 1 := ⟨gk - 1, by have := HAL.out; have := hst.2; omega⟩
      have HT2 : Hid (∃ S us ow uv uvs, SS W1 L ow nl S us uv uvs W4 ∧ SolI L.cs nl S0 S us ∧ (alS S nl).length ≤ gg) := ⟨_, _, ow2, uv2, uvs2, hT2, hst.1, by have := HAL.out; have := hst.2; omega⟩
      clear hT2 HTK hst HAL HI HS3 hd
      go_wp2_with fail
      go_roundg gg
      case rel => exact ⟨by omega, HT2⟩
      case measure => omega
    · have HTK := hid_of (fix_k HS3.out hk hxn hg (fun m hm => HI.out.wf.ns hg hm))
      have hk0 : decide ((k : Int) < 0) = false := by simp
      clear hNR
      go_wp2_with fail
      refine HTK.out.mono ?_
      rintro e W4 ⟨rfl, S', hFR, hT2⟩
      have hst := HI.out.fix hFR hk hg hd
      obtain ⟨gg, rfl⟩ : ∃ gg, gk = gg + 1 := ⟨gk - 1, by have := HAL.out; have := hst.2; omega⟩
      have HT2 : Hid (∃ S us ow uv uvs, SS W1 L ow nl S us uv uvs W4 ∧ SolI L.cs nl S0 S us ∧ (alS S nl).length ≤ gg) := ⟨_, _, _, _, _, hT2, hst.1, by have := HAL.out; have := hst.2; omega⟩
      clear hT2 HTK hst HAL HI HS3 hd hFR
      go_wp2_with fail
      go_roundg gg
      case rel => exact ⟨by omega, HT2⟩
      case measure => omega
    · clear hNR
      obtain ⟨k, Hk⟩ : ∃ k, Hid (us.length = k) := ⟨_, (rfl : us.length = _)⟩
      have hun := HS3.out.un
      have hul := HS3.out.ul
      rw [hul, Hk.out] at hun
      have hk3 : k ≤ nl := by rw [← Hk.out]; have := HI.out.ul; omega
      obtain ⟨ua, uc, rfl, hua⟩ := owns_slice hun
      have c2 := HS3.out.sv.cell (k := 2) rfl
      have HUN := hid_of hun
      have HUL : Hid (uvs.length = k) := hul.trans Hk.out
      have hL0 : Row W3 L.lb 3 (ints (undoS S (us.drop k) S.l)) := by rw [List.drop_of_length_le (by rw [Hk.out]; exact Nat.le_refl _)]; exact HS3.out.lr
      have hlb0 := hL0.lt
      have hlbw := HS3.out.lo.2.1
      have HL0 := hid_of hL0
      have HBL := hid_of HS3.out.bel
      have HD := hid_of hd
      have HUA := hid_of hua
      clear hun hul hL0 hd hua
      go_wp2_with fail
      clear c2
      have HS0' : Hid (Row W3 L.lb 3 (ints (undoS S (us.drop k) S.l)) ∧ (∀ b, b < W3.heap.size → b ≠ L.lb → W3.heap[b]? = W3.heap[b]?) ∧ W3.heap.size ≤ W3.heap.size ∧ Below W1.heap.size W1 W3) := ⟨HL0.out, fun _ _ _ => rfl, Nat.le_refl _, HBL.out⟩
      clear HL0 HBL
      go_loopw [9] (fun s9 wx => ∃ m : Nat, m ≤ k ∧ s9 = .int .i64 ((m : Int) - 1) ∧ Hid (Row wx L.lb 3 (ints (undoS S (us.drop m) S.l)) ∧ (∀ b, b < W3.heap.size → b ≠ L.lb → wx.heap[b]? = W3.heap[b]?) ∧ W3.heap.size ≤ wx.heap.size ∧ Below W1.heap.size W1 wx)) (fun s9 _ => (intOf s9 + 1).toNat)
      case atStart => exact ⟨k, Nat.le_refl _, rfl, HS0'⟩
      case round =>
        obtain ⟨m, hm, rfl, HX⟩ := hrel
        clear HS0'
        obtain ⟨hrl, hkq, hsz, hbl⟩ := HX.out
        have hkt : KT ow (fun t => t = .lb) W3 wr := fun b hb hne => hkq b hb (by rintro rfl; exact hne HS3.out.ts.2.1)
        have hsv := HS3.out.sv.keep (HS3.out.svK hkt (by simp))
        by_cases hm0 : m = 0
        · subst hm0
          rw [List.drop_zero] at hrl
          obtain ⟨ls, Hls⟩ : ∃ ls, Hid (undoS S us S.l = ls) := ⟨_, (rfl : undoS S us S.l = _)⟩
          have hR : Hid (SolR N Es ls) := by
            have e1 := HI.out
            have e2 := HS3.out.okS
            have e3 := HD.out
            have e4 := HS3.out.ll
            rw [HNL.out] at e1 e2 e3 e4
            rw [← HS0.out] at e1
            show SolR N Es ls
            rw [← Hls.out]
            exact e1.fin HCS.out e2 e3 e4.1 e4.2
          rw [Hls.out] at hrl
          have e0 := (HR1.out.keep (hbl.block _ hw1)).cell (k := 0) rfl
          have e1 := (HR1.out.keep (hbl.block _ hw1)).cell (k := 1) rfl
          have e3 := hsv.cell (k := 3) rfl
          have hBX : Below w.heap.size w wr := bel_call HB1.out hbl
          obtain ⟨sb, Hsb⟩ : ∃ v, Hid (L.sb = v) := ⟨_, (rfl : L.sb = _)⟩
          obtain ⟨lb, Hlb⟩ : ∃ v, Hid (L.lb = v) := ⟨_, (rfl : L.lb = _)⟩
          have hCo := HCO.out wr L.lb ls hBX (by omega) (hR.out.len.trans HNL.out.symm) hrl
          have HLO : Hid (w.heap.size ≤ L.lb) := by show _ ≤ _; omega
          rw [Hlb.out] at hCo hrl e3 HLO
          rw [Hsb.out] at e3
          obtain ⟨D, HD2⟩ : ∃ D, Hid (costP N Es ls = D) := ⟨_, (rfl : costP N Es ls = _)⟩
          rw [HD2.out] at hCo
          have hE0 : BkS wr wr := bel_refl wr
          have hl0 := lt_of_cell e0
          have hl3 := lt_of_cell e3
          dsimp only at hl0 hl3
          have hKS : ∀ Y, BkS wr Y → Y.cell? ⟨w.heap.size, 0, none⟩ = some (.slice na nl nc) ∧ Y.cell? ⟨w.heap.size, 1, none⟩ = some (.slice ea el ec) ∧ Y.cell? ⟨sb, 3, none⟩ = some (.slice (some ⟨lb, 0, none⟩) nl nl) := fun Y hY =>
            ⟨(World.cell?_of_block (a := ⟨w.heap.size, 0, none⟩) (hY.block _ hl0)).trans e0, (World.cell?_of_block (a := ⟨w.heap.size, 1, none⟩) (hY.block _ hl0)).trans e1, (World.cell?_of_block (a := ⟨sb, 3, none⟩) (hY.block _ hl3)).trans e3⟩
          have HRL := hid_of hrl
          have HBX := hid_of hBX
          clear e0 e1 e3 hrl hBX hsv hbl hkq hsz hkt HX HUN HI HS3
          rw [Hsb.out]
          go_wp2_with fail
          go_region_held3 (fun Y => Y.cell? ⟨w.heap.size, 0, none⟩ = some (.slice na nl nc) ∧ Y.cell? ⟨w.heap.size, 1, none⟩ = some (.slice ea el ec) ∧ Y.cell? ⟨sb, 3, none⟩ = some (.slice (some ⟨lb, 0, none⟩) nl nl))
            ((refine hKS _ ?_; (first | with_reducible assumption | exact bk_drew hE0)))
            (first | (go_at_call 11; refine (hCo _ ?_).mono ?_; (first | with_reducible assumption | exact bk_drew hE0); rintro e5 Y5 ⟨rfl, hE5⟩))
          all_goals (try go_wp2_with fail)
          all_goals go_ret3
          all_goals exact ⟨lb, ls, by rw [HD2.out]; rfl, HLO.out, HRL.out.keep (hE5.block lb HRL.out.lt), hR.out, bel_call HBX.out hE5⟩
        · obtain ⟨j, rfl⟩ : ∃ j, m = j + 1 := ⟨m - 1, by omega⟩
          have hjx : j < uvs.length := by rw [HUL.out]; omega
          have hju : j < us.length := by rw [Hk.out]; omega
          have hcl := (HS3.out.cl j hjx).keep hkt (by simp)
          obtain ⟨ub, hub0⟩ := HUA.out (by omega)
          subst hub0
          obtain ⟨u, Hu⟩ : ∃ u, Hid (us[j] = u) := ⟨_, (rfl : us[j] = _)⟩
          have hgu : us.getD j (0, []) = u := by rw [← Hu.out]; simp [List.getD, hju]
          have hmu : u ∈ us := by rw [← Hu.out]; exact List.getElem_mem hju
          rw [hgu] at hcl
          have hdr : us.drop j = u :: us.drop (j + 1) := by rw [List.drop_eq_getElem_cons hju, Hu.out]
          obtain ⟨a1, a2, a3, a4⟩ := HI.out.hv u hmu
          obtain ⟨k1, ns⟩ := u
          dsimp only at a1 a2 a3 a4 hcl
          obtain ⟨lcur, Hlc⟩ : ∃ lcur, Hid (undoS S (us.drop (j + 1)) S.l = lcur) := ⟨_, (rfl : undoS S (us.drop (j + 1)) S.l = _)⟩
          have hset : undoS S (us.drop j) S.l = lcur.set k1 (leastS (accS (fun m => (S.near k1 m.toNat).getD []) lcur (S.nodes k1) ns) : Nat) := by
            rw [hdr, ← Hlc.out]; rfl
          have hvk := HS3.out.vrK hkt a1 (by simp)
          obtain ⟨f, hf⟩ := HS3.out.prK hkt a1 (by simp) (by simp)
          have hOk := HS3.out.okS
          have hin : ∀ i, i < nl → 0 ≤ lcur.getD i 0 ∧ lcur.getD i 0 < L.cs i := by
            have := HI.out.range hOk (vs := us.drop (j + 1)) (fun v hv => List.mem_of_mem_drop hv) HS3.out.ll.2 HS3.out.ll.1
            rw [Hlc.out] at this
            exact this
          have hllen : lcur.length = nl := by rw [← Hlc.out, undoS_length]; exact HS3.out.ll.1
          rw [Hlc.out] at hrl
          obtain ⟨o, l, e, s, q, lc, la, hcu, ⟨t1, t2, t3, t4, t5⟩, q1, ⟨q2, q2'⟩, q3, q4, q5⟩ := hcl
          have eu : wr.cell? ⟨ub, j, none⟩ = some uvs[j] := by
            have h1 := HUN.out.cellAt j (by omega)
            have hub := HUN.out.lt ub rfl
            rw [World.cell?_of_block (a := ⟨ub, j, none⟩) (hkq ub hub.2 (fun e => by have h2 := HS3.out.tu ub rfl; rw [e, HS3.out.ts.2.1] at h2; simp at h2)), h1]
            simp [hjx]
          rw [hcu] at eu
          have hvl := hvk.len
          have hvi : IsInts (fun b => b < wr.heap.size) wr (.slice (some ⟨L.vb k1, 0, none⟩) (S.nodes k1).length (L.vc k1)) (S.nodes k1) := hvk.row.ints hvk.row.lt (by have := hvk.cap; omega) (by have := hvk.cap; omega)
          rw [← hvl] at q1
          have hcs32 : ∀ i, i < nl → L.cs i ≤ 32 := fun i hi => (HS3.out.vr i hi).cap.2.2
          have hCK := clo_k (p := fun b => b < wr.heap.size) wr (E := fun m => (S.near k1 m.toNat).getD []) (fun b hb => hb) q1 hvi hvk.ok (by have := hvk.cap; omega) (by have := hvk.cap; omega) q2 (q2'.keep (Keep.refl _ fun b _ hlt => hlt)) a3 q3 hf.mv (fun m hm => by
            obtain ⟨hr0, hsm⟩ := a4 m hm
            obtain ⟨M, hM⟩ := Option.isSome_iff_exists.1 hsm
            have hmk : m.toNat < nl := by omega
            obtain ⟨ob, mc, rb, rc, f1, f2, f3⟩ := hf.yes m.toNat hmk M hM
            have hmm : ((m.toNat : Nat) : Int) = m := by omega
            rw [hmm] at f1
            have hi2 := hin _ hmk
            refine ⟨hr0, some ⟨ob, 0, none⟩, mc, L.cs m.toNat, by rw [hvl]; exact f1, ?_, ?_, by have := hcs32 m.toNat hmk; omega, hi2.1, hi2.2⟩
            · rw [hM, hvl]; exact f2.rows.keep (Keep.refl _ fun b _ hlt => hlt)
            · rw [hM, hvl]; exact f3) q4 q5 (hsv.cell (k := 3) rfl) hrl hllen a1 hxn
          rw [← hset] at hCK
          have HCL := hid_of hCK
          have b2 := hsv.cell (k := 2) rfl
          have hjz : ((j + 1 : Nat) : Int) - 1 = (j : Int) := by omega
          rw [hjz]
          have hj0 : (0 : Int) ≤ (j : Int) := by omega
          have hjk : (j : Int) < (k : Int) := by omega
          clear hrl hkq hsz hsv hcu t1 t2 t3 t4 t5 q1 q2 q2' q3 q4 q5 hvk hvi hvl hf hin hset hCK hjx hjz hm0 hkt hOk hllen hcs32 a1 a2 a3 a4 hdr hmu hgu Hu
          go_wp2_with fail
          refine HCL.out.mono ?_
          rintro e9 w9 ⟨rfl, hr9, hk9, hs9, hb9⟩
          obtain ⟨-, hkq, hsz, -⟩ := HX.out
          have HX9 : Hid (Row w9 L.lb 3 (ints (undoS S (us.drop j) S.l)) ∧ (∀ b, b < W3.heap.size → b ≠ L.lb → w9.heap[b]? = W3.heap[b]?) ∧ W3.heap.size ≤ w9.heap.size ∧ Below W1.heap.size W1 w9) := ⟨hr9, fun b hb hne => (hk9 b (by omega) hne).trans (hkq b hb hne), by omega, hb9 W1 hbl hlbw⟩
          clear hr9 hk9 hs9 hb9 hkq hsz HCL hbl eu b2
          go_wp2_with fail
          go_roundw
          case rel => exact ⟨j, by omega, by go_num, HX9⟩
          case measure => first | (simp [intOf]; omega) | simp [intOf]
end Go.Proofs.Ytdomnbgjafdnjaa
