/- 'DomTree': the walk. -/
import Derived.Test.YtcihobmjohpnkaaDomU
namespace Go.Proofs.Ytcihobmjohpnkaa
open Go.RowKit Go.Sort

theorem overK_all (L : List (List InsD)) (b : Int) : overK L b L.length = overL L b := rfl
theorem overK_length (L : List (List InsD)) (b : Int) (k : Nat) : (overK L b k).length ≤ k := by
  unfold overK
  exact Nat.le_trans (List.length_filter_le _ _) (by simp)
theorem overL_off {L : List (List InsD)} {b : Int} (h : b ∉ orderS L) (a : Int) : overS L a b = false := by
  cases ho : overS L a b with
  | false => rfl
  | true => exact absurd (over_mem ho).2 h

set_option maxRecDepth 100000 in
set_option maxHeartbeats 16000000 in
theorem domTree_c {u : Value} {L : List (List InsD)} (w : World) (h : IsBlocks (· < w.heap.size) w u L) :
    Calls Try.prog 11 #[u] w fun e w' => e = .returned (.bool true) ∧ Below w.heap.size w w' := by
  obtain ⟨ba, bc, rfl, -, -⟩ := id h
  obtain ⟨n, Hn⟩ : ∃ n, Hid (L.length = n) := ⟨_, (rfl : L.length = _)⟩
  rw [Hn.out] at h
  rw [Hn.out]
  have HAL := hid_of (alive15_c w)
  have HKP : Hid (∀ W, Below w.heap.size w W → IsBlocks (· < W.heap.size) W (.slice ba n bc) L) := fun W hW => h.keep (fun b hb hlt => ⟨Nat.lt_of_lt_of_le hb hW.size, hW.block b hlt⟩)
  clear h
  go_enter Try.func11, Try.ntmps11
  go_wp2_with fail
  refine HAL.out.mono ?_
  rintro e W ⟨rfl, hb⟩
  have HB := hid_of hb
  have HBg := hid_of (big_c W (HKP.out W hb))
  clear hb HAL
  go_wp2_with fail
  refine HBg.out.mono ?_
  rintro e W1 ⟨r, rfl, rfl, hr⟩
  have HR := hid_of hr
  clear hr HBg
  cases r with
  | true =>
    go_wp2_with fail
    go_ret
    exact ⟨rfl, HB.out⟩
  | false =>
    have hn6 : n ≤ 60 := by rw [← Hn.out]; exact HR.out rfl
    have hln : n ≤ 1000 := by omega
    have HI := hid_of (idom_c W1 (HKP.out W1 HB.out) hln)
    clear HR
    go_wp2_with fail
    refine HI.out.mono ?_
    rintro e W2 ⟨z1, rfl, ho1, hb2⟩
    have hIl : ((List.range L.length).map (idS L)).length = n := by rw [List.length_map, List.length_range]; exact Hn.out
    have hz1 : IsInts (fun _ => True) W2 z1 ((List.range L.length).map (idS L)) := ints_of_owns (by rw [hIl, ← Hn.out]; exact ho1) (by omega) (fun _ _ _ _ => trivial)
    have Hb2 := hid_of (bel_call HB.out hb2)
    have HD := hid_of (doms_c W2 (HKP.out W2 Hb2.out) hln)
    obtain ⟨za, zc, rfl, -, -⟩ := id hz1
    rw [hIl] at hz1 ⊢
    have HZ := hid_of hz1
    clear HI ho1 hb2 hz1 hIl
    go_wp2_with fail
    refine HD.out.mono ?_
    rintro e W3 ⟨G, rfl, hG, hB3, hb3⟩
    have HZ3 := hid_of (HZ.out.keep (Keep.below hb3))
    have Hb3 := hid_of (bel_call Hb2.out hb3)
    have HB3 := hid_of hB3
    have hR := reachedQ_c W3 (HKP.out W3 Hb3.out) (by rw [Hn.out]; omega)
    rw [Hn.out] at hR
    have HR := hid_of hR
    clear HD hB3 hb3 HZ hR
    go_wp2_with fail
    refine HR.out.mono ?_
    rintro e W4 ⟨gr, rfl, hgr, hr4, hb4⟩
    have HZ4 := hid_of (HZ3.out.keep (Keep.below hb4))
    have HB4 := hid_of (HB3.out.below hb4)
    have Hb4 := hid_of (bel_call Hb3.out hb4)
    have HQ4 := hid_of hr4
    have hnn : ((n : Int) != (n : Int)) = false := by simp
    clear HR hr4 hb4 HB3 HZ3 Hb3 Hb2 HB
    go_wp2_with fail
    go_loop [8] (fun s8 => ∃ b : Nat, b ≤ n ∧ s8 = .int .i64 b) (fun s8 => n - (intOf s8).toNat)
    case atStart => exact ⟨0, by omega, rfl⟩
    case round =>
      obtain ⟨b, hb, rfl⟩ := hrel
      by_cases hbt : b < n
      · have hbL : b < L.length := by rw [Hn.out]; exact hbt
        have hb0 : (0 : Int) ≤ (b : Int) := by omega
        have hbz : (b : Int) < (n : Int) := by omega
        have hIn : ((List.range L.length).map (idS L)).length = n := by rw [List.length_map, List.length_range]; exact Hn.out
        obtain ⟨_, _, hv3, -, hx⟩ := id HZ4.out
        simp only [Value.slice.injEq] at hv3
        obtain ⟨rfl, -, rfl⟩ := hv3
        rcases hx with hx | ⟨zb, zo, rfl, -, hx⟩
        · rw [hx] at hIn; simp at hIn; omega
        have hup : ∀ k : Nat, k < n → W4.cell? ⟨zb, zo + k, none⟩ = some (.int .i64 (idS L k)) := fun k hk => by
          have e1 := hx k (by rw [hIn]; exact hk)
          unfold CInt at e1
          rw [Nat.mul_one] at e1
          rw [e1]
          simp
        have HUP := hid_of hup
        obtain ⟨rb, Hrb⟩ : ∃ rb, Hid (decide ((b : Int) ∈ orderS L) = rb) := ⟨_, (rfl : decide ((b : Int) ∈ orderS L) = _)⟩
        have q1 := HQ4.out.cell (k := b) (v := .bool rb) (by rw [reach_cell hbL, Hrb.out])
        obtain ⟨gb, q2, hgb, -⟩ := HB4.out.get hbt
        have hov : ∀ k : Nat, k < n → W4.cell? ⟨gb, k, none⟩ = some (.bool (overS L k b)) := fun k hk => hgb.cell (by rw [domsM_get hbL (by rw [Hn.out]; exact hk)])
        have HOV := hid_of hov
        clear hx hup hgb hov hIn
        cases rb with
        | false =>
          have hno : (b : Int) ∉ orderS L := by have := Hrb.out; simpa using this
          have q3 := HUP.out b hbt
          rw [idS_off hno] at q3
          have HNO := hid_of hno
          clear hno
          go_wp2_with fail
          go_loop [9, 10, 11] (fun s9 s10 s11 => s9 = .int .i64 0 ∧ s10 = .int .i64 (b : Int) ∧ s11 = .int .i64 0) (fun _ _ _ => 0)
          case atStart => exact ⟨rfl, rfl, rfl⟩
          case round =>
            obtain ⟨rfl, rfl, rfl⟩ := hrel
            go_wp2_with fail
            go_loop [12, 13] (fun s12 s13 => ∃ k : Nat, k ≤ n ∧ s12 = .int .i64 0 ∧ s13 = .int .i64 k) (fun _ s13 => n - (intOf s13).toNat)
            case atStart => exact ⟨0, by omega, rfl, rfl⟩
            case round =>
              obtain ⟨k, hk, rfl, rfl⟩ := hrel
              by_cases hkt : k < n
              · have q4 := HOV.out k hkt
                rw [overL_off HNO.out] at q4
                have hk0 : (0 : Int) ≤ (k : Int) := by omega
                have hkz : (k : Int) < (n : Int) := by omega
                go_wp2_with fail
                go_round
                case rel => exact ⟨k + 1, by omega, rfl, by go_num⟩
                case measure => simp [intOf]; omega
              · obtain rfl : k = n := by omega
                go_wp2_with fail
                go_round
                case rel => exact ⟨b + 1, by omega, by go_num⟩
                case measure => simp [intOf]; omega
        | true =>
          have hyes : (b : Int) ∈ orderS L := by have := Hrb.out; simpa using this
          have HU0 := hid_of (UpAt.start hyes)
          have hcl : (overL L (b : Int)).length ≤ n := by rw [← overK_all, ← Hn.out]; exact overK_length _ _ _
          clear hyes
          obtain ⟨cn, Hcn⟩ : ∃ cn, Hid ((overL L (b : Int)).length = cn) := ⟨_, (rfl : (overL L (b : Int)).length = _)⟩
          rw [Hcn.out] at hcl
          go_wp2_with fail
          go_loop [9, 10, 11] (fun s9 s10 s11 => ∃ (i : Nat) (x : Int), i ≤ n ∧ s9 = .int .i64 i ∧ s10 = .int .i64 x ∧ s11 = .int .i64 i ∧ Hid (UpAt L b i x)) (fun _ _ s11 => n - (intOf s11).toNat)
          case atStart => exact ⟨0, b, by omega, rfl, rfl, rfl, HU0⟩
          case round =>
            obtain ⟨i, x, hi, rfl, rfl, rfl, HU⟩ := hrel
            by_cases hx0 : x < 0
            · have hic : i = cn := by rw [HU.out.off hx0, Hcn.out]
              subst hic
              have d1 : decide (x ≥ 0) = false := by simpa using hx0
              have d1' : decide (0 ≤ x) = false := by simpa using hx0
              have d2 : decide ((i : Int) ≤ (n : Int)) = true := by simp; omega
              have d2' : decide (i ≤ n) = true := by simp; omega
              clear hx0
              go_wp2_with fail
              go_loop [12, 13] (fun s12 s13 => ∃ k c : Nat, k ≤ n ∧ c ≤ k ∧ s12 = .int .i64 c ∧ s13 = .int .i64 k ∧ Hid ((overK L b k).length = c)) (fun _ s13 => n - (intOf s13).toNat)
              case atStart => exact ⟨0, 0, by omega, by omega, rfl, rfl, by show _ = _; rfl⟩
              case round =>
                obtain ⟨k, c, hk, hc, rfl, rfl, HC⟩ := hrel
                by_cases hkt : k < n
                · have hs := congrArg List.length (overK_succ L b k)
                  rw [List.length_append, HC.out] at hs
                  have q4 := HOV.out k hkt
                  obtain ⟨ov, Hov⟩ : ∃ ov, Hid (overS L (k : Int) (b : Int) = ov) := ⟨_, (rfl : overS L (k : Int) (b : Int) = _)⟩
                  rw [Hov.out] at q4 hs
                  have HS := hid_of hs
                  have hk0 : (0 : Int) ≤ (k : Int) := by omega
                  have hkz : (k : Int) < (n : Int) := by omega
                  clear hs
                  cases ov with
                  | false =>
                    go_wp2_with fail
                    go_round
                    case rel => exact ⟨k + 1, c, by omega, by omega, rfl, by go_num, by show _ = _; rw [HS.out]; simp⟩
                    case measure => simp [intOf]; omega
                  | true =>
                    go_wp2_with fail
                    go_round
                    case rel => exact ⟨k + 1, c + 1, by omega, by omega, by go_num, by go_num, by show _ = _; rw [HS.out]; simp⟩
                    case measure => simp [intOf]; omega
                · obtain rfl : k = n := by omega
                  have hci : c = i := by rw [← HC.out, ← Hcn.out, ← overK_all, Hn.out]
                  subst hci
                  have hcc : ((c : Int) != (c : Int)) = false := by simp
                  go_wp2_with fail
                  go_round
                  case rel => exact ⟨b + 1, by omega, by go_num⟩
                  case measure => simp [intOf]; omega
            · obtain ⟨xN, rfl⟩ : ∃ xN : Nat, x = xN := ⟨x.toNat, by omega⟩
              have hxl := HU.out.lt
              rw [Hn.out] at hxl
              have hfew := HU.out.few (by omega)
              rw [Hn.out] at hfew
              have hxn : xN < n := by omega
              have q4 := HOV.out xN hxn
              rw [(HU.out.on (by omega)).1] at q4
              have q5 := HUP.out xN hxn
              have HU2 := hid_of HU.out.step
              obtain ⟨y, Hy⟩ : ∃ y, Hid (idS L xN = y) := ⟨_, (rfl : idS L xN = _)⟩
              rw [Hy.out] at q5 HU2
              have d1 : decide ((xN : Int) ≥ 0) = true := by simp
              have d1' : decide (0 ≤ (xN : Int)) = true := by simp
              have d2 : decide ((i : Int) ≤ (n : Int)) = true := by simp; omega
              have d2' : decide (i ≤ n) = true := by simp; omega
              have d3 : decide ((xN : Int) ≥ (n : Int)) = false := by simp; omega
              have d3' : decide (n ≤ xN) = false := by simp; omega
              have hxa : (0 : Int) ≤ (xN : Int) := by omega
              have hxb : (xN : Int) < (n : Int) := by omega
              clear hx0 hxl
              go_wp2_with fail
              go_round
              case rel => exact ⟨i + 1, y, by omega, by go_num, rfl, by go_num, HU2⟩
              case measure => simp [intOf]; omega
      · obtain rfl : b = n := by omega
        go_wp2_with fail
        go_ret
        exact ⟨rfl, Hb4.out⟩
end Go.Proofs.Ytcihobmjohpnkaa
