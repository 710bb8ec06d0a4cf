/- 'ColorMoves' walked: it returns true. -/
import Derived.Test.YtinbfnabngdemaaCwH
import Derived.Test.YtinbfnabngdemaaCrC
namespace Go.Proofs.Ytinbfnabngdemaa
open Go.RowKit

theorem plain_gr2 {w w' : World} {n k B2 en ec ac lc mn mc : Nat} {ea aa la ma : Option Addr} {Z1 Z2 : Nat → Prop} {vs1 vs2 : List Value} {E M : List (Int × Int)} (hn : n ≤ 1000) (hk : k ≤ 1000) {p q : Nat → Prop} (hE : IsPairs p w' (.slice ea en ec) E) (hp : ∀ b, p b → b < w'.heap.size) (hM : IsPairs q w' (.slice ma mn mc) M) (hq : ∀ b, q b → b < w'.heap.size)
    (l1 : RwO (w.heap.size + 2) Z1 (.slice la k lc) vs1 ((List.range k).map fun (c : Nat) => [(c : Int)]) w') (l2 : ∀ b, Z1 b → w.heap.size + 2 ≤ b ∧ b < B2) (n1 : RwO B2 Z2 (.slice aa n ac) vs2 (List.replicate n (upI k)) w') (n2 : ∀ b, Z2 b → B2 ≤ b ∧ b < w'.heap.size) (hB : B2 ≤ w'.heap.size) : IsGr (· < w'.heap.size) w' ⟨ea, en, ec, ma, mn, mc, aa, n, ac, la, k, lc⟩ (plainG n k E M) :=
  ⟨hE.keep (fun b hb2 _ => ⟨hp b hb2, rfl⟩), hM.keep (fun b hb2 _ => ⟨hq b hb2, rfl⟩), n1.rows (by rw [List.length_replicate]; omega) (fun b hb => (n2 b hb).2), l1.rows (by rw [List.length_map, List.length_range]; omega) (fun b hb => by have := (l2 b hb).2; omega)⟩

set_option maxRecDepth 100000 in
set_option maxHeartbeats 8000000 in
theorem colorMoves_c (w : World) {n k : Int} {ma : Option Addr} {mn mc : Nat} {M : List (Int × Int)} (h : IsPairs (· < w.heap.size) w (.slice ma mn mc) M) : Calls Try.prog 7 #[.int .i64 n, .int .i64 k, .slice ma mn mc] w fun e w' => e = .returned (.bool true) ∧ Below w.heap.size w w' := by
  have HM := hid_of h
  have HU := hid_of (sl_len h).1
  have hmc := (sl_len h).2.1
  have hmb := (sl_len h).2.2
  clear h
  go_enter Try.func7, Try.ntmps7
  go_wp2_with fail
  refine (alive_c w).mono ?_
  rintro e W0 ⟨rfl, hb0⟩
  have HB0 := hid_of hb0
  clear hb0
  by_cases h1 : n < 1
  · have e1 : decide (n < 1) = true := by simpa using h1
    clear h1
    go_wp2_with fail
    go_ret
    exact ⟨rfl, HB0.out⟩
  have e1 : decide (n < 1) = false := by simpa using h1
  by_cases h2 : n > 60
  · have e2 : decide (n > 60) = true := by simpa using h2
    have e2' : decide (60 < n) = true := by simpa using h2
    clear h1 h2
    go_wp2_with fail
    go_ret
    exact ⟨rfl, HB0.out⟩
  have e2 : decide (n > 60) = false := by simpa using h2
  have e2' : decide (60 < n) = false := by simpa using h2
  by_cases h3 : k < 1
  · have e3 : decide (k < 1) = true := by simpa using h3
    clear h1 h2 h3
    go_wp2_with fail
    go_ret
    exact ⟨rfl, HB0.out⟩
  have e3 : decide (k < 1) = false := by simpa using h3
  by_cases h4 : k > 30
  · have e4 : decide (k > 30) = true := by simpa using h4
    have e4' : decide (30 < k) = true := by simpa using h4
    clear h1 h2 h3 h4
    go_wp2_with fail
    go_ret
    exact ⟨rfl, HB0.out⟩
  have e4 : decide (k > 30) = false := by simpa using h4
  have e4' : decide (30 < k) = false := by simpa using h4
  by_cases h5 : mn > 100
  · have e5 : decide ((mn : Int) > 100) = true := by simp; omega
    have e5' : decide (100 < (mn : Int)) = true := by simp; omega
    clear h1 h2 h3 h4 h5
    go_wp2_with fail
    go_ret
    exact ⟨rfl, HB0.out⟩
  have e5 : decide ((mn : Int) > 100) = false := by simp; omega
  have e5' : decide (100 < (mn : Int)) = false := by simp; omega
  obtain ⟨n, rfl⟩ : ∃ m : Nat, n = (m : Int) := ⟨n.toNat, by omega⟩
  obtain ⟨k, rfl⟩ : ∃ m : Nat, k = (m : Int) := ⟨k.toNat, by omega⟩
  have hn : 1 ≤ n ∧ n ≤ 60 := by omega
  have hk : 1 ≤ k ∧ k ≤ 30 := by omega
  have hmn : mn ≤ 100 := by omega
  clear h1 h2 h3 h4 h5
  go_wp2_with fail
  refine (plain_c W0 n k (by omega) (by omega)).mono ?_
  rintro e X ⟨aa, ac, la, lc, rfl, hb1, B2, Z1, Z2, vs1, vs2, l1, l2, n1, n2, hB⟩
  clear e1 e2 e2' e3 e4 e4' e5 e5'
  have hwX : Below w.heap.size w X := HB0.out.trans (hb1.mono HB0.out.size)
  have hgr : IsGr (· < X.heap.size) X ⟨none, 0, 0, ma, mn, mc, aa, n, ac, la, k, lc⟩ (plainG n k [] M) :=
    plain_gr2 (p := fun _ => False) (q := (· < w.heap.size)) (by omega) (by omega) ⟨none, 0, rfl, ⟨Nat.le_refl _, by simp⟩, .inl rfl⟩ (fun b hb => hb.elim) (HM.out.keep (fun b hb hlt => ⟨hb, hwX.block b hb⟩)) (fun b hb => by have := hwX.size; omega) l1 l2 n1 n2 hB
  have hfw : Few (plainG n k [] M) := few_plain (by omega) (by omega) (by simp) (by rw [← HU.out]; omega)
  obtain ⟨G, HG⟩ : ∃ G, Hid (plainG n k [] M = G) := ⟨_, (rfl : plainG n k [] M = _)⟩
  have hnA : G.A.length = n := by rw [← HG.out, plain_n]
  rw [HG.out] at hgr hfw
  have HNA := hid_of hnA
  have HGR := hid_of hgr
  have HFW := hid_of hfw
  have HB := hid_of hwX
  clear hb1 l1 l2 n1 n2 hB hwX hgr hfw hnA
  go_upto_region 6 with fail
  refine wp_at (fun Y => Row Y X.heap.size 25 [.slice none 0 0, .slice ma mn mc, .slice aa n ac, .slice la k lc] ∧ Below X.heap.size X Y) ⟨heap_alloc_eq _ _ _ rfl, bel_alloc (bel_refl X) _⟩ ?_
  rintro Y ⟨r0, hY⟩
  have q0 := r0.cell (k := 0) rfl
  have q1 := r0.cell (k := 1) rfl
  have q2 := r0.cell (k := 2) rfl
  have q3 := r0.cell (k := 3) rfl
  have HCk := hid_of (checkR_c Y (gr_keep HGR.out hY) HFW.out)
  have HR := hid_of r0
  have HY := hid_of hY
  clear r0 hY
  by_cases hok : OkG G
  · rw [chk_ok hok] at HCk
    go_wp2_with fail
    refine HCk.out.mono ?_
    rintro e Y1 ⟨rfl, hb1⟩
    clear q0 q1 q2 q3
    have HR1 := hid_of (HR.out.keep (hb1.block _ HR.out.lt))
    have HY1 : Hid (Below X.heap.size X Y1) := bel_call HY.out hb1
    have q0 := HR1.out.cell (k := 0) rfl
    have q1 := HR1.out.cell (k := 1) rfl
    have q2 := HR1.out.cell (k := 2) rfl
    have q3 := HR1.out.cell (k := 3) rfl
    have HCo := hid_of (color_ok Y1 (gr_keep HGR.out HY1.out) hok HFW.out)
    clear hb1 HCk
    go_wp2_with fail
    clear q0 q1 q2 q3
    refine HCo.out.mono ?_
    rintro e Y2 ⟨kb, rfl, hkb, hcl, hkl, hrow, hb2⟩
    have hz : ∀ v, v < n → Y2.cell? ⟨kb, v, none⟩ = some (.int .i64 0) := fun v hv => by
      have h1 : v < (colS G).length := by rw [colS_length, HNA.out]; exact hv
      have h2 : (colS G).getD v (-1) = 0 := by rw [← HG.out]; exact moves_zero hk.1 (by have := hok.m; rw [HNA.out, ← HG.out] at this; exact this) hv
      have h3 : (colS G)[v] = 0 := by rw [← getD_of h1]; exact h2
      have h4 := hrow.cell (k := v) (v := .int .i64 (colS G)[v]) (by simp [ints, h1])
      rw [h3] at h4
      exact h4
    have hend : ∀ p ∈ M, EndP p n := by have := hok.m; rw [HNA.out, ← HG.out] at this; exact this
    have HE := hid_of hend
    have HZ := hid_of hz
    have hYw : Below w.heap.size w Y2 := HB.out.trans ((bel_call HY1.out hb2).mono HB.out.size)
    have HYw := hid_of hYw
    have HMY := hid_of (HM.out.keep (p' := (· < w.heap.size)) (w' := Y2) (fun b hb hlt => ⟨hb, hYw.block b hb⟩))
    have HN := num_c Y2 0
    clear hkb hcl hb2 HCo hrow hz hend hYw
    go_wp2_with fail
    refine HN.mono ?_
    rintro e U ⟨rfl, rfl⟩
    have enn : ((n : Int) == (n : Int)) = true := by simp
    go_wp2_with fail
    clear enn
    go_loopw [11] (fun s11 wx => ∃ i : Nat, i ≤ mn ∧ s11 = .int .i64 i ∧ ∃ q, wx = U.drewN q) (fun s11 _ => mn - (intOf s11).toNat)
    case atStart => exact ⟨0, by omega, rfl, 0, rfl⟩
    case round =>
      obtain ⟨i, hi, rfl, hq⟩ := hrel
      by_cases hlt : i < mn
      · have hiM : i < M.length := by rw [← HU.out]; exact hlt
        have hwr : ∀ a, wr.cell? a = U.cell? a := by obtain ⟨q, rfl⟩ := hq; exact fun _ => rfl
        obtain ⟨b, off, rfl, -, hcc⟩ := sl_at HMY.out (by omega)
        obtain ⟨c1, c2⟩ := hcc i hiM
        have hE := HE.out _ (List.getElem_mem hiM)
        obtain ⟨x, Hx⟩ : ∃ x : Nat, Hid (M[i].1 = (x : Int)) := ⟨M[i].1.toNat, by unfold EndP at hE; show _ = _; omega⟩
        obtain ⟨y, Hy⟩ : ∃ x : Nat, Hid (M[i].2 = (x : Int)) := ⟨M[i].2.toNat, by unfold EndP at hE; show _ = _; omega⟩
        have hxy : x < n ∧ y < n := by unfold EndP at hE; rw [Hx.out, Hy.out] at hE; omega
        rw [Hx.out] at c1
        rw [Hy.out] at c2
        have c1 := (hwr _).trans c1
        have c2 := (hwr _).trans c2
        have z1 := (hwr _).trans (HZ.out x hxy.1)
        have z2 := (hwr _).trans (HZ.out y hxy.2)
        have hxz : (x : Int) < (n : Int) := by omega
        have hyz : (y : Int) < (n : Int) := by omega
        have hiz : (i : Int) < (mn : Int) := by omega
        have HQ := hid_of hq
        clear hcc hE hwr hq Hx Hy hiM hxy
        go_wp2_with fail
        go_quiet (fail)
        all_goals
          go_wp2_with fail
          go_roundw
        all_goals first | exact ⟨i + 1, by omega, by go_num, by obtain ⟨q, rfl⟩ := HQ.out; exact ⟨_, World.drewN_drewN _ _ _⟩⟩ | (simp [intOf]; omega)
      · obtain rfl : mn = i := by omega
        go_wp2_with fail
        go_ret
        obtain ⟨q, rfl⟩ := hq
        exact ⟨rfl, bel_drewN HYw.out q⟩
  · rw [chk_no hok] at HCk
    go_wp2_with fail
    refine HCk.out.mono ?_
    rintro e Y1 ⟨rfl, hb1⟩
    have hYw : Below w.heap.size w Y1 := HB.out.trans ((bel_call HY.out hb1).mono HB.out.size)
    go_wp2_with fail
    go_ret
    exact ⟨rfl, hYw⟩
end Go.Proofs.Ytinbfnabngdemaa
