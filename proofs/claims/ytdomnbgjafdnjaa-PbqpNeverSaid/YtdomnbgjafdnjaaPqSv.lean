/- The general solver, where on the way each node has no or one neighbour. -/
import Derived.Test.YtdomnbgjafdnjaaPqSp
namespace Go.Proofs.Ytdomnbgjafdnjaa
open Go.RowKit Go.Maps Go.ChangeMaps

set_option maxRecDepth 100000 in
set_option maxHeartbeats 16000000 in
theorem solve_k {p : Nat → Prop} (w : World) {na : Option Addr} {nl nc : Nat} {ea : Option Addr} {el ec : Nat} {N : List (List Int)} {Es : List EdgeD} (hp : ∀ b, p b → b < w.heap.size) (h : IsPq p w na nl nc ea el ec N Es) (hc : chkS N Es = 0) (h0 : 0 < nl) (hfr : Fresh N Es) (hth : Thin (beginS N Es) nl) :
    Calls Try.prog 14 #[costsV na nl nc ea el ec] w fun e w' => ∃ lb, e = .returned (.tuple #[.slice (some ⟨lb, 0, none⟩) nl nl, .int .i64 (costP N Es (choS (beginS N Es) nl nl)), .int .i64 0]) ∧ w.heap.size ≤ lb ∧ Row w' lb 3 (ints (choS (beginS N Es) nl nl)) ∧ Below w.heap.size w w' := by
  obtain ⟨hn3, hle, -, -⟩ := chk_ok hc
  have hNL := (sl_len h.nd).1
  have HP : Hid (∀ X, Below w.heap.size w X → IsPq p X na nl nc ea el ec N Es) := fun X hX => h.keep (fun b hb hlt => ⟨hb, hX.block b (hp b hb)⟩)
  have hB0 := bel_alloc (bel_refl w) (.cells #[.slice na nl nc, .slice ea el ec] 25)
  have HCK := hid_of (check_c (p := p) (w.alloc (.cells #[.slice na nl nc, .slice ea el ec] 25)) (fun b hb => by have := hp b hb; simp; omega) (HP.out _ hB0))
  rw [hc] at HCK
  have HBG : Hid (∀ X, Below w.heap.size w X → Calls Try.prog 24 #[costsV na nl nc ea el ec] X fun e w' => ∃ (L : Pl) (ow : Nat → Tg), e = .returned (.pointer (some ⟨L.sb, 0, none⟩)) ∧ (∀ k, L.cs k = (N.getD k []).length) ∧ SS X L ow nl (beginS N Es) [] (.slice none 0 0) [] w') := fun X hX =>
    begin_k (p := p) X (fun b hb => by have := hp b hb; have := hX.size; omega) (HP.out X hX) hc h0 hfr
  have hxn : nl ≤ 300 := by omega
  obtain ⟨D, HD⟩ : ∃ D, Hid (costP N Es (choS (beginS N Es) nl nl) = D) := ⟨_, (rfl : costP N Es (choS (beginS N Es) nl nl) = _)⟩
  rw [HD.out]
  have HCO : Hid (∀ X lb, Below w.heap.size w X → w.heap.size ≤ lb → Row X lb 3 (ints (choS (beginS N Es) nl nl)) → ∀ Y, BkS X Y → Calls Try.prog 11 #[costsV na nl nc ea el ec, .slice (some ⟨lb, 0, none⟩) nl nl] Y fun e w' => e = .returned (.int .i64 D) ∧ BkS X w') := fun X lb hX hlo hr Y hY => by
    have hl2 : (choS (beginS N Es) nl nl).length = nl := choS_length _ _ _
    have hlr : IsInts (fun b => b < Y.heap.size) Y (.slice (some ⟨lb, 0, none⟩) nl nl) (choS (beginS N Es) nl nl) := by
      have h1 := hr.keep (hY.block lb hr.lt)
      have := ints_of_row (p := fun b => b < Y.heap.size) h1 h1.lt (by omega)
      rw [hl2] at this
      exact this
    have hpq : IsPq (fun b => b < Y.heap.size) Y na nl nc ea el ec N Es := (HP.out Y (bel_call hX hY)).keep (Keep.refl Y fun b hb hlt => hlt)
    have := costP_c (p := fun b => b < Y.heap.size) Y (fun b hb => hb) hpq hlr
    rw [HD.out] at this
    exact this.mono (by rintro e w' ⟨rfl, hb⟩; exact ⟨rfl, bel_call hY hb⟩)
  have HB0 := hid_of hB0
  have HTH := hid_of hth
  obtain ⟨S0, HS0⟩ : ∃ S0, Hid (beginS N Es = S0) := ⟨_, (rfl : beginS N Es = _)⟩
  have HGN : Hid (∀ j, S0.gone j = false) := fun j => by rw [← HS0.out]; exact begin_gone N Es j
  rw [HS0.out] at HBG HCO HTH
  rw [HS0.out]
  clear h hB0 hn3 hle hNL hfr hth hc
  go_enter Try.func14, Try.ntmps14
  go_wp2_with fail
  refine HCK.out.mono ?_
  rintro e W1 ⟨rfl, hb1⟩
  have r1 : Row W1 w.heap.size 25 [.slice na nl nc, .slice ea el ec] := Row.keep (W := w.alloc (.cells #[.slice na nl nc, .slice ea el ec] 25)) (heap_alloc_eq _ _ _ rfl) (hb1.block _ (by simp))
  have hB1 := bel_call HB0.out hb1
  have HB1 := hid_of hB1
  have HR1 := hid_of r1
  have a0 := r1.cell (k := 0) rfl
  have a1 := r1.cell (k := 1) rfl
  have HBE := hid_of (HBG.out W1 hB1)
  have hw1 : w.heap.size < W1.heap.size := r1.lt
  clear HCK HBG hb1 r1 hB1
  go_wp2_with fail
  refine HBE.out.mono ?_
  rintro e W2 ⟨L, ow, rfl, hLc, hS⟩
  clear HBE a0 a1 hLc
  have HTT : Hid (∃ ow uv uvs, SS W1 L ow nl (takenS S0 nl 0) (usS S0 nl 0) uv uvs W2) := ⟨ow, _, _, hS⟩
  clear hS
  go_wp2_with fail
  go_loopg [7] nl (fun gh _s7 wx => ∃ k : Nat, k + gh = nl ∧ Hid (∃ ow uv uvs, SS W1 L ow nl (takenS S0 nl k) (usS S0 nl k) uv uvs wx))
  case atStart => exact ⟨0, by omega, HTT⟩
  case round =>
    obtain ⟨k, hkg, HK⟩ := hrel
    clear HTT
    obtain ⟨ow, uv, uvs, hS⟩ := HK.out
    have hNX := next_k hS (k := k) (by omega) hxn (fun j hj => by rw [takenS_gone nl HGN.out]; simpa using hj) (fun hlt => ⟨by rw [takenS_gone nl HGN.out]; simp, Nat.le_trans (HTH.out k hlt).1 (by omega)⟩)
    by_cases hlt : k < nl
    · rw [if_pos hlt, decide_eq_true hlt] at hNX
      have HNX := hid_of hNX
      have hTK := take_k hS hlt hxn (by rw [takenS_gone nl HGN.out]; simp) (fun m hm => by
        have := (HTH.out k hlt).2 m hm
        rw [takenS_gone nl HGN.out]
        refine ⟨by simp; omega, by omega⟩) (HTH.out k hlt).1 (by rw [usS_length]; omega)
      have HTK := hid_of hTK
      clear hNX hS HK hTK
      go_wp2_with fail
      refine HNX.out.mono ?_
      rintro e w' ⟨rfl, rfl⟩
      have hk0 : decide ((k : Int) < 0) = false := by simp
      go_wp2_with fail
      refine HTK.out.mono ?_
      rintro e w' ⟨rfl, ow2, uv2, uvs2, hT2⟩
      rw [← usS_succ] at hT2
      have HT2 : Hid (∃ ow uv uvs, SS W1 L ow nl (takenS S0 nl (k + 1)) (usS S0 nl (k + 1)) uv uvs w') := ⟨ow2, uv2, uvs2, hT2⟩
      clear hT2 HTK HNX
      go_wp2_with fail
      go_roundg (nl - (k + 1))
      case rel => exact ⟨k + 1, by omega, HT2⟩
      case measure => omega
    · obtain rfl : k = nl := by omega
      rw [if_neg hlt, decide_eq_false hlt] at hNX
      have HNX := hid_of hNX
      have hul : uvs.length = k := by rw [hS.ul, usS_length]
      have hun := hS.un
      rw [hul] at hun
      obtain ⟨ua, uc, rfl, hua⟩ := owns_slice hun
      obtain ⟨ub, rfl⟩ := hua (by omega)
      have HUN := hid_of hun
      have HUL := hid_of hul
      have HS := hid_of hS
      have c2 := hS.sv.cell (k := 2) rfl
      have hL0 : Row wr L.lb 3 (ints (choS S0 k 0)) := hS.lr
      have HRD : Hid (∀ j, j < k → Ready S0 k L.cs j) := fun j hj => hS.ready HTH.out hj
      have HCS : Hid (∀ j, j < k → L.cs j ≤ 32) := fun j hj => (hS.vr j hj).cap.2.2
      have hlb0 := hL0.lt
      have hlbw := hS.lo.2.1
      have hbel0 := hS.bel
      clear hNX hS HK hun hlt
      go_wp2_with fail
      refine HNX.out.mono ?_
      rintro e w' ⟨rfl, rfl⟩
      go_wp2_with fail
      clear c2
      have HS0' : Hid (Row w' L.lb 3 (ints (choS S0 k 0)) ∧ (∀ b, b < w'.heap.size → b ≠ L.lb → w'.heap[b]? = w'.heap[b]?) ∧ w'.heap.size ≤ w'.heap.size ∧ Below W1.heap.size W1 w') := ⟨hL0, fun _ _ _ => rfl, Nat.le_refl _, hbel0⟩
      clear hL0 HNX hbel0
      go_loopw [9] (fun s9 wx => ∃ m : Nat, m ≤ k ∧ s9 = .int .i64 ((m : Int) - 1) ∧ Hid (Row wx L.lb 3 (ints (choS S0 k (k - m))) ∧ (∀ b, b < w'.heap.size → b ≠ L.lb → wx.heap[b]? = w'.heap[b]?) ∧ w'.heap.size ≤ wx.heap.size ∧ Below W1.heap.size W1 wx)) (fun s9 _ => (intOf s9 + 1).toNat)
      case atStart => exact ⟨k, Nat.le_refl _, rfl, by rw [Nat.sub_self]; exact HS0'⟩
      case round =>
        obtain ⟨m, hm, rfl, HX⟩ := hrel
        clear HS0'
        obtain ⟨hrl, hkq, hsz, hbl⟩ := HX.out
        have hkt : KT ow (fun t => t = .lb) w' wr := fun b hb hne => hkq b hb (by rintro rfl; exact hne HS.out.ts.2.1)
        have hsv := HS.out.sv.keep (HS.out.svK hkt (by simp))
        by_cases hm0 : m = 0
        · subst hm0
          rw [Nat.sub_zero] at hrl
          have e0 := (HR1.out.keep (hbl.block _ hw1)).cell (k := 0) rfl
          have e1 := (HR1.out.keep (hbl.block _ hw1)).cell (k := 1) rfl
          have e3 := hsv.cell (k := 3) rfl
          have hBX : Below w.heap.size w wr := bel_call HB1.out hbl
          obtain ⟨sb, Hsb⟩ : ∃ v, Hid (L.sb = v) := ⟨_, (rfl : L.sb = _)⟩
          obtain ⟨lb, Hlb⟩ : ∃ v, Hid (L.lb = v) := ⟨_, (rfl : L.lb = _)⟩
          have hCo := HCO.out wr L.lb hBX (by omega) hrl
          have HLO : Hid (w.heap.size ≤ L.lb) := by show _ ≤ _; omega
          rw [Hlb.out] at hCo hrl e3 HLO
          rw [Hsb.out] at e3
          have hE0 : BkS wr wr := bel_refl wr
          have hl0 := lt_of_cell e0
          have hl3 := lt_of_cell e3
          dsimp only at hl0 hl3
          have hKS : ∀ Y, BkS wr Y → Y.cell? ⟨w.heap.size, 0, none⟩ = some (.slice na k nc) ∧ Y.cell? ⟨w.heap.size, 1, none⟩ = some (.slice ea el ec) ∧ Y.cell? ⟨sb, 3, none⟩ = some (.slice (some ⟨lb, 0, none⟩) k k) := fun Y hY =>
            ⟨(World.cell?_of_block (a := ⟨w.heap.size, 0, none⟩) (hY.block _ hl0)).trans e0, (World.cell?_of_block (a := ⟨w.heap.size, 1, none⟩) (hY.block _ hl0)).trans e1, (World.cell?_of_block (a := ⟨sb, 3, none⟩) (hY.block _ hl3)).trans e3⟩
          have HRL := hid_of hrl
          have HBX := hid_of hBX
          clear e0 e1 e3 hrl hBX hsv hbl hkq hsz hkt HX HS HUN HRD HCS
          rw [Hsb.out]
          go_wp2_with fail
          go_region_held3 (fun Y => Y.cell? ⟨w.heap.size, 0, none⟩ = some (.slice na k nc) ∧ Y.cell? ⟨w.heap.size, 1, none⟩ = some (.slice ea el ec) ∧ Y.cell? ⟨sb, 3, none⟩ = some (.slice (some ⟨lb, 0, none⟩) k k))
            ((refine hKS _ ?_; (first | with_reducible assumption | exact bk_drew hE0)))
            (first | (go_at_call 11; refine (hCo _ ?_).mono ?_; (first | with_reducible assumption | exact bk_drew hE0); rintro e5 Y5 ⟨rfl, hE5⟩))
          all_goals (try go_wp2_with fail)
          all_goals go_ret3
          all_goals exact ⟨lb, rfl, HLO.out, HRL.out.keep (hE5.block lb HRL.out.lt), bel_call HBX.out hE5⟩
        · obtain ⟨j, rfl⟩ : ∃ j, m = j + 1 := ⟨m - 1, by omega⟩
          have hjk2 : j < k := by omega
          have hjx : j < uvs.length := by rw [HUL.out]; omega
          have hcl := (HS.out.cl j hjx).keep hkt (by simp)
          rw [usS_get S0 k hjk2] at hcl
          have HKJ : Hid (k - (k - (j + 1) + 1) = j ∧ k - j = k - (j + 1) + 1) := ⟨by omega, by omega⟩
          obtain ⟨d, Hd⟩ : ∃ d, Hid (k - (j + 1) = d) := ⟨_, (rfl : k - (j + 1) = _)⟩
          have hkd : k - (d + 1) = j := by rw [← Hd.out]; exact HKJ.out.1
          have hvk := HS.out.vrK hkt hjk2 (by simp)
          obtain ⟨f, hf⟩ := HS.out.prK hkt hjk2 (by simp) (by simp)
          have hRd := HRD.out j hjk2
          have hin := fun (i : Nat) (hi : i < k) => choS_in HRD.out d (by rw [← Hd.out]; omega) hi
          have hset : (choS S0 k d).set j (leastS (accS (fun m => ((takenS S0 k k).near j m.toNat).getD []) (choS S0 k d) ((takenS S0 k k).nodes j) (nsS (takenS S0 k j) k j)) : Nat) = choS S0 k (k - j) := by
            rw [HKJ.out.2, Hd.out]
            show _ = (choS S0 k d).set (k - (d + 1)) _
            rw [hkd]
          rw [Hd.out] at hrl
          obtain ⟨o, l, e, s, q, lc, la, hcu, ⟨t1, t2, t3, t4, t5⟩, q1, ⟨q2, q2'⟩, q3, q4, q5⟩ := hcl
          dsimp only at hcu q1 q2 q2' q3 q4 q5
          have eu : wr.cell? ⟨ub, j, none⟩ = some uvs[j] := by
            have h1 := HUN.out.cellAt j (by omega)
            have hub := HUN.out.lt ub rfl
            rw [World.cell?_of_block (a := ⟨ub, j, none⟩) (hkq ub hub.2 (fun e => by have h2 := HS.out.tu ub rfl; rw [e, HS.out.ts.2.1] at h2; simp at h2)), h1]
            simp [hjx]
          rw [hcu] at eu
          have hvl := hvk.len
          have hvi : IsInts (fun b => b < wr.heap.size) wr (.slice (some ⟨L.vb j, 0, none⟩) ((takenS S0 k k).nodes j).length (L.vc j)) ((takenS S0 k k).nodes j) := hvk.row.ints hvk.row.lt (by have := hvk.cap; omega) (by have := hvk.cap; omega)
          rw [← hvl] at q1
          have hCK := clo_k (p := fun b => b < wr.heap.size) wr (E := fun m => ((takenS S0 k k).near j m.toNat).getD []) (fun b hb => hb) q1 hvi hvk.ok (by have := hvk.cap; omega) (by have := hvk.cap; omega) q2 (q2'.keep (Keep.refl _ fun b _ hlt => hlt)) (by have := (HTH.out j hjk2).1; omega) q3 hf.mv (fun m hm => by
            obtain ⟨hr0, M, hM, hO⟩ := hRd.ns m hm
            have hmk : m.toNat < k := by omega
            obtain ⟨ma, mc, f1, f2, f3⟩ := hf.yes m.toNat hmk M hM
            have hmm : ((m.toNat : Nat) : Int) = m := by omega
            rw [hmm] at f1
            have hi2 := hin _ hmk
            refine ⟨hr0, ma, mc, L.cs m.toNat, by rw [hvl]; exact f1, ?_, ?_, by have := HCS.out m.toNat hmk; omega, hi2.1, hi2.2⟩
            · rw [hM, hvl]; exact f2.keep (Keep.refl _ fun b _ hlt => hlt)
            · rw [hM, hvl]; exact hO) q4 q5 (hsv.cell (k := 3) rfl) hrl (choS_length _ _ _) hjk2 hxn
          rw [hset] at hCK
          have HCL := hid_of hCK
          have b2 := hsv.cell (k := 2) rfl
          have hjz : ((j + 1 : Nat) : Int) - 1 = (j : Int) := by omega
          rw [hjz]
          have hj0 : (0 : Int) ≤ (j : Int) := by omega
          have hjk : (j : Int) < (k : Int) := by omega
          clear hrl hkq hsz hsv hcu t1 t2 t3 t4 t5 q1 q2 q2' q3 q4 q5 hvk hvi hvl hf hRd hin hset hCK hjx hjz hm0 hkt
          go_wp2_with fail
          refine HCL.out.mono ?_
          rintro e9 w9 ⟨rfl, hr9, hk9, hs9, hb9⟩
          obtain ⟨-, hkq, hsz, -⟩ := HX.out
          have HX9 : Hid (Row w9 L.lb 3 (ints (choS S0 k (k - j))) ∧ (∀ b, b < w'.heap.size → b ≠ L.lb → w9.heap[b]? = w'.heap[b]?) ∧ w'.heap.size ≤ w9.heap.size ∧ Below W1.heap.size W1 w9) := ⟨hr9, fun b hb hne => (hk9 b (by omega) hne).trans (hkq b hb hne), by omega, hb9 W1 hbl hlbw⟩
          clear hr9 hk9 hs9 hb9 hkq hsz HCL hbl eu b2
          go_wp2_with fail
          go_roundw
          case rel => exact ⟨j, by omega, by go_num, HX9⟩
          case measure => first | (simp [intOf]; omega) | simp [intOf]
end Go.Proofs.Ytdomnbgjafdnjaa
