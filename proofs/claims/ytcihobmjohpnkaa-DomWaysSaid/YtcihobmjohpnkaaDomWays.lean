/- 'DomWays': the walk. -/
import Derived.Test.YtcihobmjohpnkaaDom15
import Derived.Test.YtcihobmjohpnkaaSuccsR
namespace Go.Proofs.Ytcihobmjohpnkaa
open Go.RowKit Go.Sort

theorem and_one (x : Int) : ∃ m : Nat, m ≤ 1 ∧ bits .and .i64 x 1 = (m : Int) := by
  refine ⟨(BitVec.ofInt 64 x &&& BitVec.ofInt 64 1).toNat, ?_, ?_⟩
  · rw [BitVec.toNat_and]
    have : (BitVec.ofInt 64 1).toNat = 1 := by decide
    rw [this]; exact Nat.and_le_right
  · have h : (BitVec.ofInt 64 x &&& BitVec.ofInt 64 1).toNat ≤ 1 := by
      rw [BitVec.toNat_and]
      have : (BitVec.ofInt 64 1).toNat = 1 := by decide
      rw [this]; exact Nat.and_le_right
    unfold bits
    show IntKind.wrap .i64 (((BitVec.ofInt 64 x &&& BitVec.ofInt 64 1).toNat : Nat) : Int) = _
    rw [IntKind.wrap_i64]
    omega

/-- A way from block 0: where it is, and what it has seen. -/
structure WayAt (L : List (List InsD)) (S : List Bool) (b : Nat) : Prop where
  len : S.length = L.length
  lt : b < L.length
  way : Way (succS L) 0 b
  zero : S.getD 0 false = true
  here : S.getD b false = true
  off : ∀ a : Nat, a < L.length → S.getD a false = false → Way (succX L a) 0 b
theorem getDB_set {S : List Bool} (b k : Nat) : (S.set b true).getD k false = if b = k ∧ k < S.length then true else S.getD k false := by
  rw [List.getD_eq_getElem?_getD, List.getElem?_set, List.getD_eq_getElem?_getD]
  by_cases h1 : b = k
  · by_cases h2 : k < S.length
    · subst h1; simp [h2]
    · subst h1; simp [h2]
  · simp [h1]
theorem WayAt.start {L : List (List InsD)} (hn : 0 < L.length) : WayAt L ((List.replicate L.length false).set 0 true) 0 := by
  have h0 : ((List.replicate L.length false).set 0 true).getD 0 false = true := by rw [getDB_set, if_pos ⟨rfl, by simpa using hn⟩]
  refine ⟨by simp, hn, .here _, h0, h0, fun a ha hs => ?_⟩
  exact .here _
theorem WayAt.step {L : List (List InsD)} {S : List Bool} {b y : Nat} (h : WayAt L S b) (hy : (y : Int) ∈ succS L b) : WayAt L (S.set y true) y := by
  have hr := succS_range L b _ hy
  refine ⟨by rw [List.length_set]; exact h.len, by omega, .on h.way hy, ?_, ?_, fun a ha hs => ?_⟩
  · rw [getDB_set]; split
    · rfl
    · exact h.zero
  · rw [getDB_set, if_pos ⟨rfl, by rw [h.len]; omega⟩]
  · rw [getDB_set] at hs
    split at hs
    · cases hs
    · rename_i hh
      have hne : y ≠ a := fun e => hh ⟨e, by rw [h.len]; exact ha⟩
      exact .on (h.off a ha hs) (List.mem_filter.2 ⟨hy, by simp; omega⟩)
/-- What is over the block where the way is has been seen. -/
theorem WayAt.over {L : List (List InsD)} {S : List Bool} {b a : Nat} (h : WayAt L S b) (ha : a < L.length) (ho : overS L a b = true) : S.getD a false = true := by
  have hb := order_way (by have := h.lt; omega) h.way
  have hd := (dm_over hb).2 ho
  cases hs : S.getD a false with
  | true => rfl
  | false =>
    exfalso
    rcases hd.2 with h1 | h1 | h1
    · have : a = b := by omega
      subst this
      rw [h.here] at hs; cases hs
    · have : a = 0 := by omega
      subst this
      rw [h.zero] at hs; cases hs
    · exact h1 (h.off a ha hs)
theorem WayAt.over0 {L : List (List InsD)} {S : List Bool} {b : Nat} (h : WayAt L S b) : overS L 0 b = true :=
  (dm_over (order_way (by have := h.lt; omega) h.way)).1 ⟨h.way, .inr (.inl rfl)⟩

set_option maxRecDepth 100000 in
set_option maxHeartbeats 16000000 in
theorem domWays_c {u v : Value} {L : List (List InsD)} {ts : List Int} (w : World) (h : IsBlocks (· < w.heap.size) w u L) (ht : IsInts (· < w.heap.size) w v ts) :
    Calls Try.prog 13 #[u, v] w fun e w' => e = .returned (.bool true) ∧ Below w.heap.size w w' := by
  obtain ⟨ba, bc, rfl, -, -⟩ := id h
  obtain ⟨ta, tc, rfl, -, -⟩ := id ht
  obtain ⟨n, Hn⟩ : ∃ n, Hid (L.length = n) := ⟨_, (rfl : L.length = _)⟩
  obtain ⟨tn, Htn⟩ : ∃ tn, Hid (ts.length = tn) := ⟨_, (rfl : ts.length = _)⟩
  rw [Hn.out] at h
  rw [Htn.out] at ht
  rw [Hn.out, Htn.out]
  have HAL := hid_of (alive15_c w)
  have HKP : Hid (∀ W, Below w.heap.size w W → IsBlocks (· < W.heap.size) W (.slice ba n bc) L) := fun W hW => h.keep (fun b hb hlt => ⟨Nat.lt_of_lt_of_le hb hW.size, hW.block b hlt⟩)
  have HTS : Hid (∀ W, Below w.heap.size w W → IsInts (· < W.heap.size) W (.slice ta tn tc) ts) := fun W hW => ht.keep (fun b hb hlt => ⟨Nat.lt_of_lt_of_le hb hW.size, hW.block b hlt⟩)
  clear h ht
  go_enter Try.func13, Try.ntmps13
  go_wp2_with fail
  refine HAL.out.mono ?_
  rintro e W ⟨rfl, hb⟩
  have HB := hid_of hb
  have HBg := hid_of (big_c W (HKP.out W hb))
  clear hb HAL
  go_wp2_with fail
  refine HBg.out.mono ?_
  rintro e W1 ⟨r, rfl, rfl, hr⟩
  have HR := hid_of hr
  clear hr HBg
  cases r with
  | true =>
    go_wp2_with fail
    go_ret
    exact ⟨rfl, HB.out⟩
  | false =>
    have hn60 : n ≤ 60 := by rw [← Hn.out]; exact HR.out rfl
    by_cases hn0 : n = 0
    · have hz : ((n : Int) == 0) = true := by simp [hn0]
      clear hn0
      go_wp2_with fail
      go_ret
      exact ⟨rfl, HB.out⟩
    have hz : ((n : Int) == 0) = false := beq_eq_false_iff_ne.2 (by omega)
    by_cases ht2 : 200 < tn
    · have d1 : decide ((tn : Int) > 200) = true := by simp; omega
      have d1' : decide (200 < tn) = true := by simp; omega
      clear ht2 hn0
      go_wp2_with fail
      go_ret
      exact ⟨rfl, HB.out⟩
    have d1 : decide ((tn : Int) > 200) = false := by simp; omega
    have d1' : decide (200 < tn) = false := by simp; omega
    have htn : tn ≤ 200 := by omega
    have hnp : 0 < n := by omega
    have hnz : (0 : Int) < (n : Int) := by omega
    clear ht2 hn0 HR
    have hbm := bel_alloc (bel_refl W1) (.cells (bools (List.replicate n false)).toArray 4)
    have r0 : Row (W1.alloc (.cells (bools (List.replicate n false)).toArray 4)) W1.heap.size 4 (bools (List.replicate n false)) := heap_alloc_eq _ _ _ rfl
    have HQ0 := hid_of (And.intro r0 hbm)
    clear r0 hbm
    go_wp2_with (at_make; refine stop_here ?_)
    refine stop_go (mk_bools rfl _ _ rfl n rfl rfl (by omega) ?_)
    refine k_at (fun X => Row X W1.heap.size 4 (bools (List.replicate n false)) ∧ Below W1.heap.size W1 X) HQ0.out ?_
    rintro W2 ⟨r2, hb2⟩
    obtain ⟨g, Hg⟩ : ∃ g, Hid (W1.heap.size = g) := ⟨_, (rfl : W1.heap.size = _)⟩
    have hgw := HB.out.size
    rw [Hg.out] at r2 hgw ⊢
    have q0 := r2.cell (k := 0) (v := .bool false) (by simp [bools, hnp])
    have f0 := r2.frozen 0
    have R3 := hid_of (r2.set 0 (.bool true))
    have HB3 : Hid (Below w.heap.size w (W2.setCell ⟨g, 0, none⟩ (.bool true))) := (bel_call HB.out hb2).setCell (by show w.heap.size ≤ g; omega) _
    have hS0 := WayAt.start (L := L) (by rw [Hn.out]; exact hnp)
    rw [Hn.out] at hS0
    have HS0 := hid_of hS0
    have R4 : Hid (Row (W2.setCell ⟨g, 0, none⟩ (.bool true)) g 4 (bools ((List.replicate n false).set 0 true))) := by
      have := R3.out
      rw [bools_set] at this
      exact this
    clear HQ0 r2 hb2 hS0 R3
    go_wp2_with fail
    go_loopw [8, 9] (fun s8 s9 wx => ∃ (i b : Nat) (S : List Bool), i ≤ tn ∧ s9 = .int .i64 i ∧ s8 = .int .i64 b ∧ Hid (WayAt L S b) ∧ Hid (Row wx g 4 (bools S)) ∧ Hid (Below w.heap.size w wx)) (fun _ s9 _ => tn - (intOf s9).toNat)
    case atStart => exact ⟨0, 0, _, by omega, rfl, rfl, HS0, R4, HB3⟩
    case round =>
      obtain ⟨i, b, S, hi, rfl, rfl, HS, HR, HBx⟩ := hrel
      clear HS0 R4 HB3
      by_cases hit : i < tn
      · have HSu := hid_of (succsR_c wr (b : Int) (HKP.out wr HBx.out))
        go_wp2_with fail
        refine HSu.out.mono ?_
        rintro e W5 ⟨su, rfl, ho, hb5⟩
        have hsl := succS_length L (b : Int)
        have hi5 : IsInts (fun _ => True) W5 su (succS L (b : Int)) := ints_of_owns ho (by omega) (fun _ _ _ _ => trivial)
        obtain ⟨sa, sc, rfl, -, hx⟩ := id hi5
        have HB5 := hid_of (bel_call HBx.out hb5)
        have HR5 := hid_of (HR.out.keep (hb5.block g HR.out.lt))
        obtain ⟨sl, Hsl⟩ : ∃ sl, Hid ((succS L (b : Int)).length = sl) := ⟨_, (rfl : (succS L (b : Int)).length = _)⟩
        rw [Hsl.out] at hi5 hsl
        have HX := hid_of hx
        rw [Hsl.out]
        clear HSu ho hb5 hx hi5 HR HBx
        by_cases hs0 : sl = 0
        · have hzz : ((sl : Int) == 0) = true := by simp [hs0]
          clear hs0 HX
          go_wp2_with fail
          obtain ⟨wo, rfl⟩ : ∃ wo : World, wo = W5 := ⟨_, rfl⟩
          go_loopw [11] (fun s11 wx => ∃ a : Nat, a ≤ n ∧ s11 = .int .i64 a ∧ Hid (Below wo.heap.size wo wx)) (fun s11 _ => n - (intOf s11).toNat)
          case atStart => exact ⟨0, by omega, rfl, bel_refl _⟩
          case round =>
            obtain ⟨a, ha, rfl, HBa⟩ := hrel
            have HBy := hid_of (bel_call HB5.out HBa.out)
            by_cases hat : a < n
            · have HO := hid_of (domOver_c wr (HKP.out wr HBy.out) (by omega) (a : Int) (b : Int))
              have hsn := fun ho => HS.out.over (a := a) (by rw [Hn.out]; exact hat) ho
              obtain ⟨o, Ho⟩ : ∃ o, Hid (overS L (a : Int) (b : Int) = o) := ⟨_, (rfl : overS L (a : Int) (b : Int) = _)⟩
              rw [Ho.out] at HO hsn
              have HSN := hid_of hsn
              have ha0 : (0 : Int) ≤ (a : Int) := by omega
              have haz : (a : Int) < (n : Int) := by omega
              clear hsn
              go_wp2_with fail
              refine HO.out.mono ?_
              rintro e W7 ⟨rfl, hb7⟩
              have HB7 := hid_of (bel_call HBa.out hb7)
              clear HO hb7
              cases o with
              | false =>
                go_wp2_with fail
                go_roundw
                case rel => exact ⟨a + 1, by omega, by go_num, HB7⟩
                case measure => simp [intOf]; omega
              | true =>
                have hSt : S.getD a false = true := HSN.out rfl
                have haS : a < S.length := by rw [HS.out.len, Hn.out]; exact hat
                have qa := (HR5.out.keep (HB7.out.block g HR5.out.lt)).cell (k := a) (v := .bool true) (by
                  have : S[a] = true := by simpa [List.getD, haS] using hSt
                  simp [bools, haS, this])
                clear hSt haS
                go_wp2_with fail
                go_roundw
                case rel => exact ⟨a + 1, by omega, by go_num, HB7⟩
                case measure => simp [intOf]; omega
            · obtain rfl : a = n := by omega
              have hz0 := domOver_c wr (HKP.out wr HBy.out) (by omega) 0 (b : Int)
              rw [HS.out.over0] at hz0
              have HO := hid_of hz0
              clear hz0
              go_wp2_with fail
              refine HO.out.mono ?_
              rintro e W7 ⟨rfl, hb7⟩
              have HB7 := hid_of (bel_call HBy.out hb7)
              clear HO hb7
              go_wp2_with fail
              go_ret
              exact ⟨rfl, HB7.out⟩
        · have hzz : ((sl : Int) == 0) = false := beq_eq_false_iff_ne.2 (by omega)
          have hslp : 0 < sl := by omega
          have hslx := Hsl.out
          rcases HX.out with hx | ⟨sb, so, rfl, -, hx⟩
          · exfalso; rw [hx] at hslx; simp at hslx; omega
          obtain ⟨_, _, hv3, -, hxt⟩ := id (HTS.out W5 HB5.out)
          simp only [Value.slice.injEq] at hv3
          obtain ⟨rfl, -, rfl⟩ := hv3
          have htt := Htn.out
          rcases hxt with hxt | ⟨tb, to', rfl, -, hxt⟩
          · exfalso; rw [hxt] at htt; simp at htt; omega
          have e1 := hxt i (by omega)
          unfold CInt at e1
          rw [Nat.mul_one] at e1
          obtain ⟨t, Ht⟩ : ∃ t, Hid (ts[i]'(by omega) = t) := ⟨_, (rfl : ts[i]'(by omega) = _)⟩
          rw [Ht.out] at e1
          obtain ⟨m, hm, hand⟩ := and_one t
          have hmod : (m : Int).tmod (sl : Int) = ((m % sl : Nat) : Int) := by rw [Int.tmod_eq_emod_of_nonneg (by omega)]; rfl
          have hq := Nat.mod_lt m hslp
          obtain ⟨q, Hq⟩ : ∃ q, Hid (m % sl = q) := ⟨_, (rfl : m % sl = _)⟩
          rw [Hq.out] at hmod hq
          have hmw : IntKind.i64.wrap ((m : Int).tmod (sl : Int)) = (q : Int) := by rw [hmod, IntKind.wrap_i64]; omega
          have e2 := hx q (by omega)
          unfold CInt at e2
          rw [Nat.mul_one] at e2
          have hyr := succS_range L (b : Int) _ (List.getElem_mem (show q < (succS L (b : Int)).length by omega))
          have hym := List.getElem_mem (show q < (succS L (b : Int)).length by omega)
          obtain ⟨yN, hyN⟩ : ∃ yN : Nat, (succS L (b : Int))[q]'(by omega) = (yN : Int) := ⟨((succS L (b : Int))[q]'(by omega)).toNat, by omega⟩
          rw [hyN] at e2 hyr hym
          have HS2 := hid_of (HS.out.step hym)
          have hyn : yN < n := by rw [← Hn.out]; omega
          have hyS : yN < S.length := by rw [HS.out.len, Hn.out]; exact hyn
          have qy := HR5.out.cell (k := yN) (v := .bool S[yN]) (by simp [bools, hyS])
          have fy := HR5.out.frozen yN
          have R6 : Hid (Row (W5.setCell ⟨g, yN, none⟩ (.bool true)) g 4 (bools (S.set yN true))) := by
            have := HR5.out.set yN (.bool true)
            rw [bools_set] at this
            exact this
          have HB6 : Hid (Below w.heap.size w (W5.setCell ⟨g, yN, none⟩ (.bool true))) := HB5.out.setCell (by show w.heap.size ≤ g; omega) _
          have hi0 : (0 : Int) ≤ (i : Int) := by omega
          have hiz : (i : Int) < (tn : Int) := by omega
          have hq0 : (0 : Int) ≤ (q : Int) := by omega
          have hqz : (q : Int) < (sl : Int) := by omega
          have hy0 : (0 : Int) ≤ (yN : Int) := by omega
          have hyz : (yN : Int) < (n : Int) := by omega
          clear hx hxt hyr hym hyN HX
          go_wp2_with fail
          go_roundw
          case rel => exact ⟨i + 1, yN, _, by omega, by go_num, rfl, HS2, R6, HB6⟩
          case measure => simp [intOf]; omega
      · obtain rfl : i = tn := by omega
        go_wp2_with fail
        obtain ⟨wo, rfl⟩ : ∃ wo : World, wo = wr := ⟨_, rfl⟩
        go_loopw [11] (fun s11 wx => ∃ a : Nat, a ≤ n ∧ s11 = .int .i64 a ∧ Hid (Below wo.heap.size wo wx)) (fun s11 _ => n - (intOf s11).toNat)
        case atStart => exact ⟨0, by omega, rfl, bel_refl _⟩
        case round =>
          obtain ⟨a, ha, rfl, HBa⟩ := hrel
          have HBy := hid_of (bel_call HBx.out HBa.out)
          by_cases hat : a < n
          · have HO := hid_of (domOver_c wr (HKP.out wr HBy.out) (by omega) (a : Int) (b : Int))
            have hsn := fun ho => HS.out.over (a := a) (by rw [Hn.out]; exact hat) ho
            obtain ⟨o, Ho⟩ : ∃ o, Hid (overS L (a : Int) (b : Int) = o) := ⟨_, (rfl : overS L (a : Int) (b : Int) = _)⟩
            rw [Ho.out] at HO hsn
            have HSN := hid_of hsn
            have ha0 : (0 : Int) ≤ (a : Int) := by omega
            have haz : (a : Int) < (n : Int) := by omega
            clear hsn
            go_wp2_with fail
            refine HO.out.mono ?_
            rintro e W7 ⟨rfl, hb7⟩
            have HB7 := hid_of (bel_call HBa.out hb7)
            clear HO hb7
            cases o with
            | false =>
              go_wp2_with fail
              go_roundw
              case rel => exact ⟨a + 1, by omega, by go_num, HB7⟩
              case measure => simp [intOf]; omega
            | true =>
              have hSt : S.getD a false = true := HSN.out rfl
              have haS : a < S.length := by rw [HS.out.len, Hn.out]; exact hat
              have qa := (HR.out.keep (HB7.out.block g HR.out.lt)).cell (k := a) (v := .bool true) (by
                have : S[a] = true := by simpa [List.getD, haS] using hSt
                simp [bools, haS, this])
              clear hSt haS
              go_wp2_with fail
              go_roundw
              case rel => exact ⟨a + 1, by omega, by go_num, HB7⟩
              case measure => simp [intOf]; omega
          · obtain rfl : a = n := by omega
            have hz0 := domOver_c wr (HKP.out wr HBy.out) (by omega) 0 (b : Int)
            rw [HS.out.over0] at hz0
            have HO := hid_of hz0
            clear hz0
            go_wp2_with fail
            refine HO.out.mono ?_
            rintro e W7 ⟨rfl, hb7⟩
            have HB7 := hid_of (bel_call HBy.out hb7)
            clear HO hb7
            go_wp2_with fail
            go_ret
            exact ⟨rfl, HB7.out⟩
end Go.Proofs.Ytcihobmjohpnkaa
