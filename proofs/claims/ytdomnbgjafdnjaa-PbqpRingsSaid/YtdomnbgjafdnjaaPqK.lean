/- 'pbqp.Cost' and the reference's 'Cost': the walks. -/
import Derived.Test.YtdomnbgjafdnjaaPqCk
import Derived.Test.YtdomnbgjafdnjaaPqR
namespace Go.Proofs.Ytdomnbgjafdnjaa
open Go.RowKit

theorem ints_at {p : Nat → Prop} {w : World} {a : Option Addr} {n cap : Nat} {l : List Int} (h : IsInts p w (.slice a n cap) l) {k : Nat} (hk : k < l.length) :
    ∃ b off, a = some ⟨b, off, none⟩ ∧ p b ∧ w.cell? ⟨b, off + k, none⟩ = some (.int .i64 (l.getD k 0)) := by
  obtain ⟨b, off, rfl, hp, hc⟩ := sl_at h (by omega)
  have := hc k hk
  unfold CInt at this
  rw [Nat.mul_one] at this
  exact ⟨b, off, rfl, hp, by rw [this]; simp [List.getD, hk]⟩
theorem rows_at2 {p : Nat → Prop} {w : World} {a : Option Addr} {n cap : Nat} {N : List (List Int)} (h : IsRows p w (.slice a n cap) N) {k : Nat} (hk : k < N.length) :
    ∃ b off a' n' c', a = some ⟨b, off, none⟩ ∧ p b ∧ w.cell? ⟨b, off + k, none⟩ = some (.slice a' n' c') ∧ IsInts p w (.slice a' n' c') (N.getD k []) ∧ n' = (N.getD k []).length ∧ n' ≤ 140737488351232 := by
  have e : N.getD k [] = N[k] := by simp [List.getD, hk]
  rw [e]
  exact rows_at h hk

set_option maxRecDepth 100000 in
set_option maxHeartbeats 16000000 in
theorem costP_c {p : Nat → Prop} (w : World) {na : Option Addr} {nl nc : Nat} {ea : Option Addr} {el ec : Nat} {N : List (List Int)} {E : List EdgeD} {la : Option Addr} {ln lc : Nat} {l : List Int}
    (hp : ∀ b, p b → b < w.heap.size) (h : IsPq p w na nl nc ea el ec N E) (hl : IsInts p w (.slice la ln lc) l) :
    Calls Try.prog 11 #[costsV na nl nc ea el ec, .slice la ln lc] w fun e w' => e = .returned (.int .i64 (costP N E l)) ∧ Below w.heap.size w w' := by
  have HNL := hid_of (sl_len h.nd).1
  have HEL := hid_of (sl_len h.ed).1
  have HLL := hid_of (sl_len hl).1
  obtain ⟨D, HD⟩ : ∃ D, Hid (costP N E l = D) := ⟨_, (rfl : costP N E l = _)⟩
  rw [HD.out]
  have HP : Hid (∀ X, Below w.heap.size w X → IsPq p X na nl nc ea el ec N E) := fun X hX => h.keep (fun b hb hlt => ⟨hb, hX.block b (hp b hb)⟩)
  have HL : Hid (∀ X, Below w.heap.size w X → IsInts p X (.slice la ln lc) l) := fun X hX => hl.keep (fun b hb hlt => ⟨hb, hX.block b (hp b hb)⟩)
  have hB0 := bel_alloc (bel_refl w) (.cells #[.slice na nl nc, .slice ea el ec] 25)
  have HCK := hid_of (check_c (p := p) (w.alloc (.cells #[.slice na nl nc, .slice ea el ec] 25)) (fun b hb => by have := hp b hb; simp; omega) (HP.out _ hB0))
  obtain ⟨C, HC⟩ : ∃ C, Hid (chkS N E = C) := ⟨_, (rfl : chkS N E = _)⟩
  rw [HC.out] at HCK
  have HB0 := hid_of hB0
  clear h hl hB0
  go_enter Try.func11, Try.ntmps11
  go_wp2_with fail
  refine HCK.out.mono ?_
  rintro e W ⟨rfl, hb⟩
  have r1 : Row W w.heap.size 25 [.slice na nl nc, .slice ea el ec] := Row.keep (W := w.alloc (.cells #[.slice na nl nc, .slice ea el ec] 25)) (heap_alloc_eq _ _ _ rfl) (hb.block _ (by simp))
  have HB := hid_of (bel_call HB0.out hb)
  have a0 := r1.cell (k := 0) rfl
  have a1 := r1.cell (k := 1) rfl
  clear HCK hb r1
  by_cases h0 : C ≠ 0
  · have d0 : (C != 0) = true := by simpa using h0
    have d0' : (C == 0) = false := by simpa using h0
    have HF : Hid (D = 1099511627776) := by show _ = _; rw [← HD.out]; unfold costP; rw [if_pos (.inl (by rw [HC.out]; exact h0))]
    clear h0
    go_wp2_with fail
    go_ret
    exact ⟨by rw [HF.out]; rfl, HB.out⟩
  obtain rfl : C = 0 := by omega
  by_cases h1 : ln ≠ nl
  · have d1 : ((ln : Int) != (nl : Int)) = true := by simp; omega
    have d1' : (ln != nl) = true := by simpa using h1
    have HF : Hid (D = 1099511627776) := by show _ = _; rw [← HD.out]; unfold costP; rw [if_pos (.inr (by have := HNL.out; have := HLL.out; omega))]
    clear h0 h1
    go_wp2_with fail
    go_ret
    exact ⟨by rw [HF.out]; rfl, HB.out⟩
  obtain rfl : ln = nl := by omega
  have HD2 : Hid (D = if allIn N l ln = true then min (nSum N l ln + eSum E l el) infC else infC) := by
    show _ = _
    rw [← HD.out]
    unfold costP
    rw [if_neg (by rw [HC.out]; have := HNL.out; have := HLL.out; omega), ← HLL.out, ← HEL.out]
  clear h0 h1
  have hn300 : ln ≤ 300 := by have := (chk_ok HC.out).1; have := HNL.out; omega
  have hel : el ≤ 2000 := by have := (chk_ok HC.out).2.1; have := HEL.out; omega
  go_wp2_with fail
  go_loop [5, 23] (fun s5 s23 => ∃ (k : Nat) (S : Int), k ≤ ln ∧ s23 = .int .i64 k ∧ s5 = .int .i64 S ∧ Hid (allIn N l k = true) ∧ Hid (min (nSum N l k) infC = S)) (fun _ s23 => ln - (intOf s23).toNat)
  case atStart => exact ⟨0, 0, by omega, rfl, rfl, by show _ = _; rfl, by show _ = _; rfl⟩
  case round =>
    obtain ⟨k, S, hk, rfl, rfl, HA, HS⟩ := hrel
    have hns := nSum_ok HC.out (show k ≤ N.length by have := HNL.out; omega) HA.out
    have hS0 : 0 ≤ S ∧ S ≤ 1099511627776 := by have := HS.out; unfold infC at this; omega
    by_cases hlt : k < ln
    · have hkN : k < N.length := by have := HNL.out; omega
      obtain ⟨lb, lo, rfl, -, c1⟩ := ints_at (HL.out W HB.out) (show k < l.length by have := HLL.out; omega)
      obtain ⟨nb, no, a3, n3, c3, rfl, -, ck, hi, hn3, hn3m⟩ := rows_at2 (HP.out W HB.out).nd hkN
      obtain ⟨v, Hv⟩ : ∃ v, Hid (l.getD k 0 = v) := ⟨_, (rfl : l.getD k 0 = _)⟩
      rw [Hv.out] at c1
      have HIN : Hid (inB N l k = (decide (0 ≤ v) && decide (v < n3))) := by show _ = _; unfold inB; rw [Hv.out, hn3]
      have HAF : Hid (inB N l k = false → D = 1099511627776) := fun hf => by rw [HD2.out, if_neg (by rw [allIn_false hlt hf]; simp)]
      have HN3 := hid_of hn3
      have HI := hid_of hi
      have hkz : (k : Int) < (ln : Int) := by omega
      clear hi hn3 hkN hns
      by_cases h0 : v < 0
      · have d0 : decide (v < 0) = true := by simpa using h0
        have HF : Hid (D = 1099511627776) := HAF.out (by rw [HIN.out]; simp; omega)
        clear h0
        go_wp2_with fail
        go_ret
        exact ⟨by rw [HF.out]; rfl, HB.out⟩
      have d0 : decide (v < 0) = false := by simpa using h0
      by_cases h1 : v ≥ (n3 : Int)
      · have d1 : decide (v ≥ (n3 : Int)) = true := by simpa using h1
        have d1' : decide ((n3 : Int) ≤ v) = true := by simpa using h1
        have HF : Hid (D = 1099511627776) := HAF.out (by rw [HIN.out]; simp; omega)
        clear h0 h1
        go_wp2_with fail
        go_ret
        exact ⟨by rw [HF.out]; rfl, HB.out⟩
      obtain ⟨vN, rfl⟩ : ∃ vN : Nat, v = vN := ⟨v.toNat, by omega⟩
      have d1 : decide ((vN : Int) ≥ (n3 : Int)) = false := by simp; omega
      have d1' : decide ((n3 : Int) ≤ (vN : Int)) = false := by simp; omega
      have d1'' : decide (n3 ≤ vN) = false := by simp; omega
      have HIT : Hid (inB N l k = true) := by show _ = _; rw [HIN.out]; simp; omega
      obtain ⟨ib, io, rfl, -, ci⟩ := ints_at HI.out (show vN < (N.getD k []).length by have := HN3.out; omega)
      have hnt := nT_ok HC.out (show k < N.length by have := HNL.out; omega) HIT.out
      have hvt : nT N l k = (N.getD k []).getD vN 0 := by unfold nT; rw [Hv.out, Int.toNat_natCast]
      rw [hvt] at hnt
      obtain ⟨x, Hx⟩ : ∃ x, Hid ((N.getD k []).getD vN 0 = x) := ⟨_, (rfl : (N.getD k []).getD vN 0 = _)⟩
      rw [Hx.out] at ci hnt
      have HPL := hid_of (plus_c W S x ⟨hS0.1, by omega⟩ hnt)
      have HNS : Hid (min (nSum N l (k + 1)) infC = min (S + x) 1099511627776) := by
        show _ = _
        have hns := nSum_ok HC.out (show k ≤ N.length by have := HNL.out; omega) HA.out
        have := HS.out
        unfold nSum
        rw [hvt, Hx.out]
        unfold infC at this ⊢
        obtain ⟨x0, x1⟩ := hnt
        omega
      have HAL : Hid (allIn N l (k + 1) = true) := by show _ = _; rw [allIn_succ, HA.out, HIT.out]; rfl
      have hv0 : (vN : Int) < (n3 : Int) := by omega
      clear h0 h1 hnt hvt hS0
      go_wp2_with fail
      refine HPL.out.mono ?_
      rintro e w' ⟨rfl, rfl⟩
      obtain ⟨S2, HS2⟩ : ∃ S2, Hid (min (S + x) 1099511627776 = S2) := ⟨_, (rfl : min (S + x) 1099511627776 = _)⟩
      rw [HS2.out] at HNS ⊢
      go_wp2_with fail
      go_round
      case rel => exact ⟨k + 1, S2, by omega, by go_num, rfl, HAL, HNS⟩
      case measure => simp [intOf]; omega
    · obtain rfl : k = ln := by omega
      have HD3 : Hid (D = min (nSum N l k + eSum E l el) infC) := by show _ = _; rw [HD2.out, if_pos HA.out]
      have hlN : l.length = N.length := by have := HLL.out; have := HNL.out; omega
      have HAA : Hid (allIn N l l.length = true) := by show _ = _; rw [← HLL.out]; exact HA.out
      have HLN := hid_of hlN
      have HNS := hid_of hns
      clear hns hlN
      go_wp2_with fail
      clear a0 a1
      go_loopw [5, 54] (fun s5 s54 wx => ∃ (i : Nat) (T : Int), i ≤ el ∧ s54 = .int .i64 i ∧ s5 = .int .i64 T ∧ Hid (min (nSum N l k + eSum E l i) infC = T) ∧ Hid (Below w.heap.size w wx)) (fun _ s54 _ => el - (intOf s54).toNat)
      case atStart => exact ⟨0, S, by omega, rfl, rfl, by show _ = _; rw [← HS.out]; unfold eSum; rw [Int.add_zero], HB⟩
      case round =>
        obtain ⟨i, T, hi, rfl, rfl, HT, HX⟩ := hrel
        have hes := eSum_ok HC.out HLN.out HAA.out (show i ≤ E.length by have := HEL.out; omega)
        have hT0 : 0 ≤ T ∧ T ≤ 1099511627776 := by have := HT.out; have := HNS.out; unfold infC at *; omega
        by_cases hit : i < el
        · have hix : i < E.length := by have := HEL.out; omega
          obtain ⟨eb, eo, rfl, hpe, hc⟩ := sl_at (HP.out wr HX.out).ed (by omega)
          have hci := hc i hix
          have hin := edge_in HC.out HLN.out HAA.out (List.getElem_mem hix)
          have hsu : eSum E l (i + 1) = eSum E l i + eT l E[i] := by show eSum E l i + eT l (E.getD i default) = _; simp [List.getD, hix]
          obtain ⟨x, Hx⟩ : ∃ x, Hid (E[i] = x) := ⟨_, (rfl : E[i] = _)⟩
          rw [Hx.out] at hci hin hsu
          obtain ⟨xa, xb, M⟩ := x
          obtain ⟨c0, c1, v2, c2, hM⟩ := hci
          obtain ⟨ma, mc, rfl, -, -⟩ := id hM
          dsimp only at c0 c1 c2 hM hin
          obtain ⟨⟨i1, i2⟩, ⟨i3, i4⟩, ⟨i5, i6⟩, ⟨i7, i8⟩, i9, i10⟩ := hin
          obtain ⟨aN, rfl⟩ : ∃ aN : Nat, xa = aN := ⟨xa.toNat, by omega⟩
          obtain ⟨bN, rfl⟩ : ∃ bN : Nat, xb = bN := ⟨xb.toNat, by omega⟩
          simp only [Int.toNat_natCast] at i5 i6 i7 i8
          obtain ⟨lb, lo, rfl, hplb, q1⟩ := ints_at (HL.out wr HX.out) (show aN < l.length by omega)
          obtain ⟨lb', lo', hla, -, q2⟩ := ints_at (HL.out wr HX.out) (show bN < l.length by omega)
          simp only [Option.some.injEq, Addr.mk.injEq, and_true] at hla
          obtain ⟨rfl, rfl⟩ := hla
          obtain ⟨uN, HuN⟩ : ∃ uN : Nat, Hid (l.getD aN 0 = uN) := ⟨(l.getD aN 0).toNat, by show _ = _; omega⟩
          obtain ⟨vN, HvN⟩ : ∃ vN : Nat, Hid (l.getD bN 0 = vN) := ⟨(l.getD bN 0).toNat, by show _ = _; omega⟩
          rw [HuN.out] at q1 i5 i6 i8
          rw [HvN.out] at q2 i7 i8
          simp only [Int.toNat_natCast] at i5 i6 i8
          obtain ⟨mb, mo, a4, n4, c4, rfl, hpm, q3, hi4, hn4, hn4m⟩ := rows_at2 hM (show uN < M.length by omega)
          obtain ⟨ib, io, rfl, hpi, q4⟩ := ints_at hi4 (show vN < (M.getD uN []).length by omega)
          obtain ⟨y, Hy⟩ : ∃ y, Hid ((M.getD uN []).getD vN 0 = y) := ⟨_, (rfl : (M.getD uN []).getD vN 0 = _)⟩
          have hety : eT l ⟨(aN : Int), (bN : Int), M⟩ = y := by
            rw [← Hy.out]
            unfold eT
            dsimp only
            rw [Int.toNat_natCast, Int.toNat_natCast, HuN.out, HvN.out, Int.toNat_natCast, Int.toNat_natCast]
          rw [Hy.out] at q4
          rw [hety] at i9 i10 hsu
          have HSU : Hid (min (nSum N l k + eSum E l (i + 1)) infC = min (T + y) 1099511627776) := by
            show _ = _
            have := HT.out; have := HNS.out
            rw [hsu]
            unfold infC at *
            omega
          have hnM : ((M.length : Nat) : Int) ≤ 140737488351232 := by have := (sl_len hM).2.2; omega
          have j1 : (aN : Int) < (k : Int) := by have := HLL.out; omega
          have j2 : (bN : Int) < (k : Int) := by have := HLL.out; omega
          have j3 : (uN : Int) < (M.length : Int) := by omega
          have j4 : (vN : Int) < (n4 : Int) := by omega
          obtain ⟨ml, Hml⟩ : ∃ ml, Hid (M.length = ml) := ⟨_, (rfl : M.length = _)⟩
          rw [Hml.out] at c2 hnM j3 hM
          have hizz : (i : Int) < (el : Int) := by omega
          have hw := HX.out.size
          have hl1 := hp lb hplb
          have hm1 := hp mb hpm
          have hi1 := hp ib hpi
          clear hc hM hi4 hn4 hety hsu i1 i2 i3 i4 i5 i6 i7 i8 hes hplb hpm hpi hpe
          go_wp2_with fail
          have hbA := bel_alloc (bel_refl wr) (.cells #[.int .i64 (aN : Int), .int .i64 (bN : Int), .slice (some ⟨mb, mo, none⟩) ml mc] 32)
          refine wp_at (fun X => Row X wr.heap.size 32 [.int .i64 (aN : Int), .int .i64 (bN : Int), .slice (some ⟨mb, mo, none⟩) ml mc] ∧ X.cell? ⟨lb, lo + aN, none⟩ = some (.int .i64 (uN : Int)) ∧ X.cell? ⟨lb, lo + bN, none⟩ = some (.int .i64 (vN : Int)) ∧ X.cell? ⟨mb, mo + uN, none⟩ = some (.slice (some ⟨ib, io, none⟩) n4 c4) ∧ X.cell? ⟨ib, io + vN, none⟩ = some (.int .i64 y) ∧ Below w.heap.size w X)
            ⟨heap_alloc_eq _ _ _ rfl, (World.cell?_of_block (a := ⟨lb, lo + aN, none⟩) (hbA.block lb (by omega))).trans q1, (World.cell?_of_block (a := ⟨lb, lo + bN, none⟩) (hbA.block lb (by omega))).trans q2, (World.cell?_of_block (a := ⟨mb, mo + uN, none⟩) (hbA.block mb (by omega))).trans q3, (World.cell?_of_block (a := ⟨ib, io + vN, none⟩) (hbA.block ib (by omega))).trans q4, bel_call HX.out hbA⟩ ?_
          clear q1 q2 q3 q4 c0 c1 c2 hbA
          rintro Wq ⟨rq, q1, q2, q3, q4, hbq⟩
          have c0 := rq.cell (k := 0) rfl
          have c1 := rq.cell (k := 1) rfl
          have c2 := rq.cell (k := 2) rfl
          have hsm : ∀ q, Calls Try.prog 22 #[.int .i64 T, .int .i64 y] (Wq.drewN q) fun e w' => e = .returned (.int .i64 (min (T + y) 1099511627776)) ∧ ∃ m, w' = (Wq.drewN q).drewN m := fun q =>
            (plus_c (Wq.drewN q) T y ⟨hT0.1, by omega⟩ ⟨i9, i10⟩).mono (by rintro e w' ⟨rfl, rfl⟩; exact ⟨rfl, 0, rfl⟩)
          obtain ⟨S2, HS2⟩ : ∃ S2, Hid (min (T + y) 1099511627776 = S2) := ⟨_, (rfl : min (T + y) 1099511627776 = _)⟩
          rw [HS2.out] at HSU hsm
          have HBQ := hid_of hbq
          clear rq hbq hT0 i9 i10
          go_quiet ((go_at_call 22; exact Calls.quiet_of (hsm _)))
          have HBN := hid_of (bel_drewN HBQ.out nq)
          clear c0 c1 c2 q1 q2 q3 q4 hsm
          go_wp2_with fail
          go_roundw
          case rel => exact ⟨i + 1, S2, by omega, by go_num, rfl, HSU, HBN⟩
          case measure => simp [intOf]; omega
        · obtain rfl : i = el := by omega
          have HF : Hid (D = T) := by show _ = _; rw [HD3.out, HT.out]
          clear hes
          go_wp2_with fail
          go_ret
          exact ⟨by rw [HF.out]; rfl, HX.out⟩


set_option maxRecDepth 100000 in
set_option maxHeartbeats 16000000 in
theorem costR_c {p : Nat → Prop} (w : World) {na : Option Addr} {nl nc : Nat} {ea : Option Addr} {el ec : Nat} {N : List (List Int)} {E : List EdgeD} {la : Option Addr} {ln lc : Nat} {l : List Int}
    (hp : ∀ b, p b → b < w.heap.size) (h : IsPq p w na nl nc ea el ec N E) (hl : IsInts p w (.slice la ln lc) l) :
    Calls Try.prog 12 #[costsV na nl nc ea el ec, .slice la ln lc] w fun e w' => e = .returned (.int .i64 (costP N E l)) ∧ Below w.heap.size w w' := by
  have HNL := hid_of (sl_len h.nd).1
  have HEL := hid_of (sl_len h.ed).1
  have HLL := hid_of (sl_len hl).1
  obtain ⟨D, HD⟩ : ∃ D, Hid (costP N E l = D) := ⟨_, (rfl : costP N E l = _)⟩
  rw [HD.out]
  have HP : Hid (∀ X, Below w.heap.size w X → IsPq p X na nl nc ea el ec N E) := fun X hX => h.keep (fun b hb hlt => ⟨hb, hX.block b (hp b hb)⟩)
  have HL : Hid (∀ X, Below w.heap.size w X → IsInts p X (.slice la ln lc) l) := fun X hX => hl.keep (fun b hb hlt => ⟨hb, hX.block b (hp b hb)⟩)
  have hB0 := bel_alloc (bel_refl w) (.cells #[.slice na nl nc, .slice ea el ec] 25)
  have HCK := hid_of (checkR_c (p := p) (w.alloc (.cells #[.slice na nl nc, .slice ea el ec] 25)) (fun b hb => by have := hp b hb; simp; omega) (HP.out _ hB0))
  obtain ⟨C, HC⟩ : ∃ C, Hid (chkS N E = C) := ⟨_, (rfl : chkS N E = _)⟩
  rw [HC.out] at HCK
  have HB0 := hid_of hB0
  clear h hl hB0
  go_enter Try.func12, Try.ntmps12
  go_wp2_with fail
  refine HCK.out.mono ?_
  rintro e W ⟨rfl, hb⟩
  have r1 : Row W w.heap.size 25 [.slice na nl nc, .slice ea el ec] := Row.keep (W := w.alloc (.cells #[.slice na nl nc, .slice ea el ec] 25)) (heap_alloc_eq _ _ _ rfl) (hb.block _ (by simp))
  have HB := hid_of (bel_call HB0.out hb)
  have a0 := r1.cell (k := 0) rfl
  have a1 := r1.cell (k := 1) rfl
  have HR := hid_of r1
  clear HCK hb r1
  by_cases h0 : C ≠ 0
  · have d0 : (C != 0) = true := by simpa using h0
    have d0' : (C == 0) = false := by simpa using h0
    have HF : Hid (D = 1099511627776) := by show _ = _; rw [← HD.out]; unfold costP; rw [if_pos (.inl (by rw [HC.out]; exact h0))]
    clear h0
    go_wp2_with fail
    go_ret
    exact ⟨by rw [HF.out]; rfl, HB.out⟩
  obtain rfl : C = 0 := by omega
  by_cases h1 : ln ≠ nl
  · have d1 : ((ln : Int) != (nl : Int)) = true := by simp; omega
    have d1' : (ln != nl) = true := by simpa using h1
    have HF : Hid (D = 1099511627776) := by show _ = _; rw [← HD.out]; unfold costP; rw [if_pos (.inr (by have := HNL.out; have := HLL.out; omega))]
    clear h0 h1
    go_wp2_with fail
    go_ret
    exact ⟨by rw [HF.out]; rfl, HB.out⟩
  obtain rfl : ln = nl := by omega
  have HD2 : Hid (D = if allIn N l ln = true then min (nSum N l ln + eSum E l el) infC else infC) := by
    show _ = _
    rw [← HD.out]
    unfold costP
    rw [if_neg (by rw [HC.out]; have := HNL.out; have := HLL.out; omega), ← HLL.out, ← HEL.out]
  clear h0 h1
  have hn300 : ln ≤ 300 := by have := (chk_ok HC.out).1; have := HNL.out; omega
  have hel : el ≤ 2000 := by have := (chk_ok HC.out).2.1; have := HEL.out; omega
  have HRB : Hid (Row W w.heap.size 25 [.slice na ln nc, .slice ea el ec] ∧ Below w.heap.size w W) := ⟨HR.out, HB.out⟩
  go_wp2_with fail
  clear a0 a1
  go_loopw [5, 6] (fun s5 s6 wx => ∃ (k : Nat) (S : Int), k ≤ ln ∧ s6 = .int .i64 k ∧ s5 = .int .i64 S ∧ Hid (allIn N l k = true) ∧ Hid (nSum N l k = S) ∧ Hid (Row wx w.heap.size 25 [.slice na ln nc, .slice ea el ec] ∧ Below w.heap.size w wx)) (fun _ s6 _ => ln - (intOf s6).toNat)
  case atStart => exact ⟨0, 0, by omega, rfl, rfl, by show _ = _; rfl, by show _ = _; rfl, HRB⟩
  case round =>
    obtain ⟨k, S, hk, rfl, rfl, HA, HS, HX⟩ := hrel
    clear HRB
    have hns := nSum_ok HC.out (show k ≤ N.length by have := HNL.out; omega) HA.out
    have hS0 : 0 ≤ S ∧ S ≤ 400000000000000 := by have := HS.out; unfold infC at hns; omega
    have a0 := HX.out.1.cell (k := 0) rfl
    have a1 := HX.out.1.cell (k := 1) rfl
    by_cases hlt : k < ln
    · have hkN : k < N.length := by have := HNL.out; omega
      obtain ⟨lb, lo, rfl, -, c1⟩ := ints_at (HL.out wr HX.out.2) (show k < l.length by have := HLL.out; omega)
      obtain ⟨nb, no, a3, n3, c3, rfl, -, ck, hi, hn3, hn3m⟩ := rows_at2 (HP.out wr HX.out.2).nd hkN
      obtain ⟨v, Hv⟩ : ∃ v, Hid (l.getD k 0 = v) := ⟨_, (rfl : l.getD k 0 = _)⟩
      rw [Hv.out] at c1
      have HIN : Hid (inB N l k = (decide (0 ≤ v) && decide (v < n3))) := by show _ = _; unfold inB; rw [Hv.out, hn3]
      have HAF : Hid (inB N l k = false → D = 1099511627776) := fun hf => by rw [HD2.out, if_neg (by rw [allIn_false hlt hf]; simp)]
      have HN3 := hid_of hn3
      have HI := hid_of hi
      have hkz : (k : Int) < (ln : Int) := by omega
      clear hi hn3 hkN hns
      by_cases h0 : v < 0
      · have d0 : decide (v < 0) = true := by simpa using h0
        have HF : Hid (D = 1099511627776) := HAF.out (by rw [HIN.out]; simp; omega)
        clear h0
        go_wp2_with fail
        go_quiet (fail)
        go_wp2_with fail
        go_ret
        exact ⟨by rw [HF.out]; rfl, bel_drewN HX.out.2 _⟩
      have d0 : decide (v < 0) = false := by simpa using h0
      by_cases h1 : v ≥ (n3 : Int)
      · have d1 : decide (v ≥ (n3 : Int)) = true := by simpa using h1
        have d1' : decide ((n3 : Int) ≤ v) = true := by simpa using h1
        have HF : Hid (D = 1099511627776) := HAF.out (by rw [HIN.out]; simp; omega)
        clear h0 h1
        go_wp2_with fail
        go_quiet (fail)
        go_wp2_with fail
        go_ret
        exact ⟨by rw [HF.out]; rfl, bel_drewN HX.out.2 _⟩
      obtain ⟨vN, rfl⟩ : ∃ vN : Nat, v = vN := ⟨v.toNat, by omega⟩
      have d1 : decide ((vN : Int) ≥ (n3 : Int)) = false := by simp; omega
      have d1' : decide ((n3 : Int) ≤ (vN : Int)) = false := by simp; omega
      have d1'' : decide (n3 ≤ vN) = false := by simp; omega
      have HIT : Hid (inB N l k = true) := by show _ = _; rw [HIN.out]; simp; omega
      obtain ⟨ib, io, rfl, -, ci⟩ := ints_at HI.out (show vN < (N.getD k []).length by have := HN3.out; omega)
      have hnt := nT_ok HC.out (show k < N.length by have := HNL.out; omega) HIT.out
      have hvt : nT N l k = (N.getD k []).getD vN 0 := by unfold nT; rw [Hv.out, Int.toNat_natCast]
      rw [hvt] at hnt
      obtain ⟨x, Hx⟩ : ∃ x, Hid ((N.getD k []).getD vN 0 = x) := ⟨_, (rfl : (N.getD k []).getD vN 0 = _)⟩
      rw [Hx.out] at ci hnt
      have HNS : Hid (nSum N l (k + 1) = S + x) := by show _ = _; rw [← HS.out, ← Hx.out, ← hvt]; rfl
      have HAL : Hid (allIn N l (k + 1) = true) := by show _ = _; rw [allIn_succ, HA.out, HIT.out]; rfl
      have hv0 : (vN : Int) < (n3 : Int) := by omega
      obtain ⟨x0, x1⟩ := hnt
      obtain ⟨S0, S1⟩ := hS0
      have x2 : x ≤ 1099511627776 := x1
      clear h0 h1 hvt x1
      refine wp_at (fun X => X.cell? ⟨w.heap.size, 0, none⟩ = some (.slice (some ⟨nb, no, none⟩) ln nc) ∧ X.cell? ⟨lb, lo + k, none⟩ = some (.int .i64 (vN : Int)) ∧ X.cell? ⟨nb, no + k, none⟩ = some (.slice (some ⟨ib, io, none⟩) n3 c3) ∧ X.cell? ⟨ib, io + vN, none⟩ = some (.int .i64 x) ∧ Row X w.heap.size 25 [.slice (some ⟨nb, no, none⟩) ln nc, .slice ea el ec] ∧ Below w.heap.size w X) ⟨a0, c1, ck, ci, HX.out.1, HX.out.2⟩ ?_
      clear a0 a1 c1 ck ci HX HI
      rintro Wq ⟨a0, c1, ck, ci, hr, hb⟩
      have HR1 := hid_of hr
      have HB1 := hid_of hb
      clear hr hb
      go_wp2_with fail
      go_quiet (fail)
      refine k_at (fun X => X.cell? ⟨w.heap.size, 0, none⟩ = some (.slice (some ⟨nb, no, none⟩) ln nc) ∧ X.cell? ⟨lb, lo + k, none⟩ = some (.int .i64 (vN : Int)) ∧ X.cell? ⟨nb, no + k, none⟩ = some (.slice (some ⟨ib, io, none⟩) n3 c3) ∧ X.cell? ⟨ib, io + vN, none⟩ = some (.int .i64 x) ∧ Row X w.heap.size 25 [.slice (some ⟨nb, no, none⟩) ln nc, .slice ea el ec] ∧ Below w.heap.size w X) ⟨a0, c1, ck, ci, HR1.out, bel_drewN HB1.out nq⟩ ?_
      clear a0 c1 ck ci HR1 HB1
      rintro Wr ⟨a0, c1, ck, ci, hr, hb⟩
      have HX2 : Hid (Row Wr w.heap.size 25 [.slice (some ⟨nb, no, none⟩) ln nc, .slice ea el ec] ∧ Below w.heap.size w Wr) := ⟨hr, hb⟩
      clear hr hb
      go_wp2_with fail
      go_quiet (fail)
      have HX3 : Hid (Row (Wr.drewN nq) w.heap.size 25 [.slice (some ⟨nb, no, none⟩) ln nc, .slice ea el ec] ∧ Below w.heap.size w (Wr.drewN nq)) := ⟨HX2.out.1, bel_drewN HX2.out.2 _⟩
      clear a0 c1 ck ci
      go_wp2_with fail
      go_roundw
      case rel => exact ⟨k + 1, S + x, by omega, by go_num, by go_num, HAL, HNS, HX3⟩
      case measure => simp [intOf]; omega
    · obtain rfl : k = ln := by omega
      have HD3 : Hid (D = min (nSum N l k + eSum E l el) infC) := by show _ = _; rw [HD2.out, if_pos HA.out]
      have hlN : l.length = N.length := by have := HLL.out; have := HNL.out; omega
      have HAA : Hid (allIn N l l.length = true) := by show _ = _; rw [← HLL.out]; exact HA.out
      have HLN := hid_of hlN
      have HNS := hid_of hns
      have HXX := hid_of HX.out
      clear hns hlN
      go_wp2_with fail
      clear a0 a1
      go_loopw [5, 7] (fun s5 s7 wx => ∃ (i : Nat) (T : Int), i ≤ el ∧ s7 = .int .i64 i ∧ s5 = .int .i64 T ∧ Hid (nSum N l k + eSum E l i = T) ∧ Hid (Row wx w.heap.size 25 [.slice na k nc, .slice ea el ec] ∧ Below w.heap.size w wx)) (fun _ s7 _ => el - (intOf s7).toNat)
      case atStart => exact ⟨0, S, by omega, rfl, rfl, by show _ = _; rw [← HS.out]; unfold eSum; rw [Int.add_zero], HXX⟩
      case round =>
        obtain ⟨i, T, hi, rfl, rfl, HT, HX⟩ := hrel
        clear HXX
        have hes := eSum_ok HC.out HLN.out HAA.out (show i ≤ E.length by have := HEL.out; omega)
        have hT0 : 0 ≤ T ∧ T ≤ 4000000000000000 := by have := HT.out; have := HNS.out; unfold infC at *; omega
        have a0 := HX.out.1.cell (k := 0) rfl
        have a1 := HX.out.1.cell (k := 1) rfl
        by_cases hit : i < el
        · have hix : i < E.length := by have := HEL.out; omega
          obtain ⟨eb, eo, rfl, hpe, hc⟩ := sl_at (HP.out wr HX.out.2).ed (by omega)
          have hci := hc i hix
          have hin := edge_in HC.out HLN.out HAA.out (List.getElem_mem hix)
          have hsu : eSum E l (i + 1) = eSum E l i + eT l E[i] := by show eSum E l i + eT l (E.getD i default) = _; simp [List.getD, hix]
          obtain ⟨x, Hx⟩ : ∃ x, Hid (E[i] = x) := ⟨_, (rfl : E[i] = _)⟩
          rw [Hx.out] at hci hin hsu
          obtain ⟨xa, xb, M⟩ := x
          obtain ⟨c0, c1, v2, c2, hM⟩ := hci
          obtain ⟨ma, mc, rfl, -, -⟩ := id hM
          dsimp only at c0 c1 c2 hM hin
          obtain ⟨⟨i1, i2⟩, ⟨i3, i4⟩, ⟨i5, i6⟩, ⟨i7, i8⟩, i9, i10⟩ := hin
          obtain ⟨aN, rfl⟩ : ∃ aN : Nat, xa = aN := ⟨xa.toNat, by omega⟩
          obtain ⟨bN, rfl⟩ : ∃ bN : Nat, xb = bN := ⟨xb.toNat, by omega⟩
          simp only [Int.toNat_natCast] at i5 i6 i7 i8
          obtain ⟨lb, lo, rfl, hplb, q1⟩ := ints_at (HL.out wr HX.out.2) (show aN < l.length by omega)
          obtain ⟨lb', lo', hla, -, q2⟩ := ints_at (HL.out wr HX.out.2) (show bN < l.length by omega)
          simp only [Option.some.injEq, Addr.mk.injEq, and_true] at hla
          obtain ⟨rfl, rfl⟩ := hla
          obtain ⟨uN, HuN⟩ : ∃ uN : Nat, Hid (l.getD aN 0 = uN) := ⟨(l.getD aN 0).toNat, by show _ = _; omega⟩
          obtain ⟨vN, HvN⟩ : ∃ vN : Nat, Hid (l.getD bN 0 = vN) := ⟨(l.getD bN 0).toNat, by show _ = _; omega⟩
          rw [HuN.out] at q1 i5 i6 i8
          rw [HvN.out] at q2 i7 i8
          simp only [Int.toNat_natCast] at i5 i6 i8
          obtain ⟨mb, mo, a4, n4, c4, rfl, hpm, q3, hi4, hn4, hn4m⟩ := rows_at2 hM (show uN < M.length by omega)
          obtain ⟨ib, io, rfl, hpi, q4⟩ := ints_at hi4 (show vN < (M.getD uN []).length by omega)
          obtain ⟨y, Hy⟩ : ∃ y, Hid ((M.getD uN []).getD vN 0 = y) := ⟨_, (rfl : (M.getD uN []).getD vN 0 = _)⟩
          have hety : eT l ⟨(aN : Int), (bN : Int), M⟩ = y := by
            rw [← Hy.out]
            unfold eT
            dsimp only
            rw [Int.toNat_natCast, Int.toNat_natCast, HuN.out, HvN.out, Int.toNat_natCast, Int.toNat_natCast]
          rw [Hy.out] at q4
          rw [hety] at i9 i10 hsu
          have HSU : Hid (nSum N l k + eSum E l (i + 1) = T + y) := by show _ = _; have := HT.out; rw [hsu]; omega
          have hnM : ((M.length : Nat) : Int) ≤ 140737488351232 := by have := (sl_len hM).2.2; omega
          have j1 : (aN : Int) < (k : Int) := by have := HLL.out; omega
          have j2 : (bN : Int) < (k : Int) := by have := HLL.out; omega
          have j3 : (uN : Int) < (M.length : Int) := by omega
          have j4 : (vN : Int) < (n4 : Int) := by omega
          obtain ⟨ml, Hml⟩ : ∃ ml, Hid (M.length = ml) := ⟨_, (rfl : M.length = _)⟩
          rw [Hml.out] at c2 hnM j3 hM
          have hizz : (i : Int) < (el : Int) := by omega
          have hw := HX.out.2.size
          have hl1 := hp lb hplb
          have hm1 := hp mb hpm
          have hi1 := hp ib hpi
          obtain ⟨T0, T1⟩ := hT0
          have y1 : y ≤ 1099511627776 := i10
          have hgl := HX.out.1.lt
          clear hc hM hi4 hn4 hety hsu i1 i2 i3 i4 i5 i6 i7 i8 hes hplb hpm hpi hpe i10
          go_wp2_with fail
          have hbA := bel_alloc (bel_refl wr) (.cells #[.int .i64 (aN : Int), .int .i64 (bN : Int), .slice (some ⟨mb, mo, none⟩) ml mc] 32)
          refine wp_at (fun X => Row X wr.heap.size 32 [.int .i64 (aN : Int), .int .i64 (bN : Int), .slice (some ⟨mb, mo, none⟩) ml mc] ∧ X.cell? ⟨lb, lo + aN, none⟩ = some (.int .i64 (uN : Int)) ∧ X.cell? ⟨lb, lo + bN, none⟩ = some (.int .i64 (vN : Int)) ∧ X.cell? ⟨mb, mo + uN, none⟩ = some (.slice (some ⟨ib, io, none⟩) n4 c4) ∧ X.cell? ⟨ib, io + vN, none⟩ = some (.int .i64 y) ∧ Row X w.heap.size 25 [.slice na k nc, .slice (some ⟨eb, eo, none⟩) el ec] ∧ Below w.heap.size w X)
            ⟨heap_alloc_eq _ _ _ rfl, (World.cell?_of_block (a := ⟨lb, lo + aN, none⟩) (hbA.block lb (by omega))).trans q1, (World.cell?_of_block (a := ⟨lb, lo + bN, none⟩) (hbA.block lb (by omega))).trans q2, (World.cell?_of_block (a := ⟨mb, mo + uN, none⟩) (hbA.block mb (by omega))).trans q3, (World.cell?_of_block (a := ⟨ib, io + vN, none⟩) (hbA.block ib (by omega))).trans q4, HX.out.1.keep (hbA.block _ hgl), bel_call HX.out.2 hbA⟩ ?_
          clear q1 q2 q3 q4 c0 c1 c2 hbA a0 a1 HX
          rintro Wq ⟨rq, q1, q2, q3, q4, hrq, hbq⟩
          have c0 := rq.cell (k := 0) rfl
          have c1 := rq.cell (k := 1) rfl
          have c2 := rq.cell (k := 2) rfl
          have HBQ : Hid (Row Wq w.heap.size 25 [.slice na k nc, .slice (some ⟨eb, eo, none⟩) el ec] ∧ Below w.heap.size w Wq) := ⟨hrq, hbq⟩
          clear rq hrq hbq
          go_quiet (fail)
          have HBN : Hid (Row (Wq.drewN nq) w.heap.size 25 [.slice na k nc, .slice (some ⟨eb, eo, none⟩) el ec] ∧ Below w.heap.size w (Wq.drewN nq)) := ⟨HBQ.out.1, bel_drewN HBQ.out.2 nq⟩
          clear c0 c1 c2 q1 q2 q3 q4
          go_wp2_with fail
          go_roundw
          case rel => exact ⟨i + 1, T + y, by omega, by go_num, by go_num, HSU, HBN⟩
          case measure => simp [intOf]; omega
        · obtain rfl : i = el := by omega
          have HF : Hid (D = min T 1099511627776) := by show _ = _; rw [HD3.out, HT.out]
          clear hes
          by_cases h3 : T > 1099511627776
          · have d3 : decide (T > 1099511627776) = true := by simpa using h3
            have d3' : decide (1099511627776 < T) = true := by simpa using h3
            have HF2 : Hid (D = 1099511627776) := by show _ = _; have := HF.out; omega
            clear h3
            go_wp2_with fail
            go_ret
            exact ⟨by rw [HF2.out]; rfl, HX.out.2⟩
          · have d3 : decide (T > 1099511627776) = false := by simpa using h3
            have d3' : decide (1099511627776 < T) = false := by simpa using h3
            have HF2 : Hid (D = T) := by show _ = _; have := HF.out; omega
            clear h3
            go_wp2_with fail
            go_ret
            exact ⟨by rw [HF2.out]; rfl, HX.out.2⟩
end Go.Proofs.Ytdomnbgjafdnjaa
