/- 'pbqp.Check' and what it calls: the walks. -/
import Derived.Test.YtdomnbgjafdnjaaPqO
import Derived.Deep.LoopGhost
import Derived.Deep.QuietTactic
import Derived.BigQuiet
import Derived.BigRegion
namespace Go.Proofs.Ytdomnbgjafdnjaa
open Go.RowKit

theorem hid_of {p : Prop} (h : p) : Hid p := h

theorem plus_c (w : World) (a b : Int) (ha : 0 ≤ a ∧ a ≤ 4611686018427387904) (hb : 0 ≤ b ∧ b ≤ 1099511627776) :
    Calls Try.prog 22 #[.int .i64 a, .int .i64 b] w fun e w' => e = .returned (.int .i64 (min (a + b) 1099511627776)) ∧ w' = w := by
  obtain ⟨a0, a1⟩ := ha
  obtain ⟨b0, b1⟩ := hb
  go_enter Try.func22, Try.ntmps22
  go_wp2_with fail
  all_goals go_ret
  all_goals (refine ⟨?_, rfl⟩; show Ending.returned (Value.int .i64 _) = _; congr 2; omega)

set_option maxRecDepth 100000 in
theorem costsB_c {p : Nat → Prop} {a : Option Addr} {n cap : Nat} {xs : List Int} (w : World) (h : IsInts p w (.slice a n cap) xs) :
    Calls Try.prog 28 #[.slice a n cap] w fun e w' => e = .returned (.bool (costsB xs)) ∧ w' = w := by
  have HN := hid_of (sl_len h).1
  have HX := hid_of h
  have hnb := (sl_len h).2.2
  obtain ⟨B, HB⟩ : ∃ B, Hid (costsB xs = B) := ⟨_, (rfl : costsB xs = _)⟩
  rw [HB.out]
  clear h
  go_enter Try.func28, Try.ntmps28
  go_wp2_with fail
  go_loop [7] (fun s7 => ∃ k : Nat, k ≤ n ∧ s7 = .int .i64 k ∧ Hid ((xs.take k).all okC = true)) (fun s7 => n - (intOf s7).toNat)
  case atStart => exact ⟨0, by omega, rfl, by show _ = _; rfl⟩
  case round =>
    obtain ⟨k, hk, rfl, HA⟩ := hrel
    by_cases hlt : k < n
    · have hkx : k < xs.length := by have := HN.out; omega
      obtain ⟨b, off, rfl, -, hc⟩ := sl_at HX.out (by omega)
      have c1 := hc k hkx
      simp only [CInt, Nat.mul_one] at c1
      have hsn := all_take_succ (f := okC) hkx
      have hfl := all_false_of (f := okC) hkx
      obtain ⟨x, Hx⟩ : ∃ x, Hid (xs[k] = x) := ⟨_, (rfl : xs[k] = _)⟩
      rw [Hx.out] at c1 hsn hfl
      rw [HA.out] at hsn
      have HSN := hid_of hsn
      have HFL := hid_of hfl
      have hkz : (k : Int) < (n : Int) := by omega
      clear hc hsn hfl
      by_cases h0 : x < 0
      · have d0 : decide (x < 0) = true := by simpa using h0
        have HF : Hid (B = false) := by show _ = _; rw [← HB.out]; exact HFL.out (by unfold okC infC; simp; omega)
        clear h0
        go_wp2_with fail
        go_ret
        exact ⟨by rw [HF.out]; rfl, rfl⟩
      have d0 : decide (x < 0) = false := by simpa using h0
      by_cases h1 : x > 1099511627776
      · have d1 : decide (x > 1099511627776) = true := by simpa using h1
        have d1' : decide (1099511627776 < x) = true := by simpa using h1
        have HF : Hid (B = false) := by show _ = _; rw [← HB.out]; exact HFL.out (by unfold okC infC; simp; omega)
        clear h0 h1
        go_wp2_with fail
        go_ret
        exact ⟨by rw [HF.out]; rfl, rfl⟩
      have d1 : decide (x > 1099511627776) = false := by simpa using h1
      have d1' : decide (1099511627776 < x) = false := by simpa using h1
      have HO : Hid ((xs.take (k + 1)).all okC = true) := by show _ = _; rw [HSN.out]; unfold okC infC; simp; omega
      clear h0 h1
      go_wp2_with fail
      go_round
      case rel => exact ⟨k + 1, by omega, by go_num, HO⟩
      case measure => simp [intOf]; omega
    · obtain rfl : k = n := by omega
      have HF : Hid (B = true) := by show _ = _; rw [← HB.out, ← HA.out, HN.out, List.take_length]; rfl
      go_wp2_with fail
      go_ret
      exact ⟨by rw [HF.out]; rfl, rfl⟩
/-- An element of rows: its slice, what it holds. -/
theorem rows_at {p : Nat → Prop} {w : World} {a : Option Addr} {n cap : Nat} {N : List (List Int)} (h : IsRows p w (.slice a n cap) N) {k : Nat} (hk : k < N.length) :
    ∃ b off a' n' c', a = some ⟨b, off, none⟩ ∧ p b ∧ w.cell? ⟨b, off + k, none⟩ = some (.slice a' n' c') ∧ IsInts p w (.slice a' n' c') N[k] ∧ n' = N[k].length ∧ n' ≤ 140737488351232 := by
  obtain ⟨b, off, rfl, hp, hc⟩ := sl_at h (by omega)
  obtain ⟨v, hv, hi⟩ := hc k hk
  obtain ⟨a', c', rfl, -, -⟩ := id hi
  exact ⟨b, off, a', _, c', rfl, hp, by simpa using hv, hi, rfl, (sl_len hi).2.2⟩

set_option maxRecDepth 100000 in
set_option maxHeartbeats 8000000 in
theorem edge_c {p : Nat → Prop} (w : World) {na : Option Addr} {nl nc : Nat} {xa : Option Addr} {xl xc : Nat} {ma : Option Addr} {ml mc : Nat} {N : List (List Int)} (x : EdgeD)
    (hp : ∀ b, p b → b < w.heap.size) (hN : IsRows p w (.slice na nl nc) N) (hM : IsRows p w (.slice ma ml mc) x.cost) :
    Calls Try.prog 29 #[costsV na nl nc xa xl xc, .agg #[.int .i64 x.a, .int .i64 x.b, .slice ma ml mc]] w fun e w' => e = .returned (.bool (edgeB N x)) ∧ Below w.heap.size w w' := by
  obtain ⟨ea, eb, M⟩ := x
  have hnl := (sl_len hN).1
  have hml := (sl_len hM).1
  obtain ⟨B, HB⟩ : ∃ B, Hid (edgeB N ⟨ea, eb, M⟩ = B) := ⟨_, (rfl : edgeB N ⟨ea, eb, M⟩ = _)⟩
  rw [HB.out]
  have HNL := hid_of hnl
  have HML := hid_of hml
  dsimp only at hM HML hml ⊢
  have HN : Hid (∀ X, Below w.heap.size w X → IsRows p X (.slice na nl nc) N) := fun X hX => hN.keep (fun b hb hlt => ⟨hb, hX.block b (hp b hb)⟩)
  have HM : Hid (∀ X, Below w.heap.size w X → IsRows p X (.slice ma ml mc) M) := fun X hX => hM.keep (fun b hb hlt => ⟨hb, hX.block b (hp b hb)⟩)
  clear hN hM hnl hml
  go_enter Try.func29, Try.ntmps29
  go_wp2_with fail
  refine wp_at (fun X => Row X w.heap.size 25 [.slice na nl nc, .slice xa xl xc] ∧ Row X (w.heap.size + 1) 32 [.int .i64 ea, .int .i64 eb, .slice ma ml mc] ∧ Below w.heap.size w X)
    ⟨heap_alloc_ne _ _ _ _ (heap_alloc_eq _ _ _ rfl), heap_alloc_eq _ _ _ (by simp), bel_alloc (bel_alloc (bel_refl w) _) _⟩ ?_
  rintro W ⟨r1, r2, hB⟩
  have a0 := r1.cell (k := 0) rfl
  have b0 := r2.cell (k := 0) rfl
  have b1 := r2.cell (k := 1) rfl
  have b2 := r2.cell (k := 2) rfl
  by_cases h1 : ea < 0
  · have d1 : decide (ea < 0) = true := by simpa using h1
    have HF : Hid (B = false) := by show _ = _; rw [← HB.out]; unfold edgeB endsB; simp; omega
    clear h1
    go_quiet (fail)
    go_wp2_with fail
    go_ret
    exact ⟨by rw [HF.out]; rfl, bel_drewN hB _⟩
  have d1 : decide (ea < 0) = false := by simpa using h1
  by_cases h2 : eb < 0
  · have d2 : decide (eb < 0) = true := by simpa using h2
    have HF : Hid (B = false) := by show _ = _; rw [← HB.out]; unfold edgeB endsB; simp; omega
    clear h2
    go_quiet (fail)
    go_wp2_with fail
    go_ret
    exact ⟨by rw [HF.out]; rfl, bel_drewN hB _⟩
  have d2 : decide (eb < 0) = false := by simpa using h2
  by_cases h3 : ea ≥ (nl : Int)
  · have d3 : decide (ea ≥ (nl : Int)) = true := by simpa using h3
    have d3' : decide ((nl : Int) ≤ ea) = true := by simpa using h3
    have HF : Hid (B = false) := by show _ = _; rw [← HB.out]; have := HNL.out; unfold edgeB endsB; simp; omega
    clear h3
    go_quiet (fail)
    go_wp2_with fail
    go_ret
    exact ⟨by rw [HF.out]; rfl, bel_drewN hB _⟩
  have d3 : decide (ea ≥ (nl : Int)) = false := by simp; omega
  have d3' : decide ((nl : Int) ≤ ea) = false := by simp; omega
  by_cases h4 : eb ≥ (nl : Int)
  · have d4 : decide (eb ≥ (nl : Int)) = true := by simpa using h4
    have d4' : decide ((nl : Int) ≤ eb) = true := by simpa using h4
    have HF : Hid (B = false) := by show _ = _; rw [← HB.out]; have := HNL.out; unfold edgeB endsB; simp; omega
    clear h4
    go_quiet (fail)
    go_wp2_with fail
    go_ret
    exact ⟨by rw [HF.out]; rfl, bel_drewN hB _⟩
  have d4 : decide (eb ≥ (nl : Int)) = false := by simp; omega
  have d4' : decide ((nl : Int) ≤ eb) = false := by simp; omega
  by_cases h5 : ea = eb
  · have d5 : (ea == eb) = true := by simpa using h5
    have HF : Hid (B = false) := by show _ = _; rw [← HB.out]; unfold edgeB endsB; simp; omega
    clear h5
    go_quiet (fail)
    go_wp2_with fail
    go_ret
    exact ⟨by rw [HF.out]; rfl, bel_drewN hB _⟩
  have d5 : (ea == eb) = false := by simpa using h5
  obtain ⟨aN, rfl⟩ : ∃ aN : Nat, ea = aN := ⟨ea.toNat, by omega⟩
  obtain ⟨bN, rfl⟩ : ∃ bN : Nat, eb = bN := ⟨eb.toNat, by omega⟩
  have e1 : decide (aN < nl) = true := by simp; omega
  have e3 : decide (nl ≤ aN) = false := by simp; omega
  have e4 : decide (nl ≤ bN) = false := by simp; omega
  have e5 : (aN == bN) = false := beq_eq_false_iff_ne.2 (by omega)
  have haL : aN < N.length := by have := HNL.out; omega
  have hbL : bN < N.length := by have := HNL.out; omega
  obtain ⟨nb, no, a1, n1, c1, hna, hpn, ca, -, hn1, hn1m⟩ := rows_at (HN.out W hB) haL
  obtain ⟨nb', no', a2, n2, c2, hna', -, cb, -, hn2, hn2m⟩ := rows_at (HN.out W hB) hbL
  rw [hna] at hna'
  simp only [Option.some.injEq, Addr.mk.injEq, and_true] at hna'
  obtain ⟨rfl, rfl⟩ := hna'
  subst hna
  have HNLT : Hid (nb < w.heap.size) := hp nb hpn
  have HE1 : Hid (N.getD aN [] = N[aN]) := by show _ = _; simp [List.getD, haL]
  have HE2 : Hid (N.getD bN [] = N[bN]) := by show _ = _; simp [List.getD, hbL]
  have HN1 := hid_of hn1
  have HN2 := hid_of hn2
  have hazl : (aN : Int) < (nl : Int) := by omega
  have hbzl : (bN : Int) < (nl : Int) := by omega
  have hmlb : ml ≤ 140737488351232 := (sl_len (HM.out W hB)).2.2
  clear hn1 hn2 hpn
  by_cases h6 : ml ≠ n1
  · have d6 : ((ml : Int) != (n1 : Int)) = true := by simp; omega
    have d6' : (ml != n1) = true := by simpa using h6
    have he : endsB N ⟨aN, bN, M⟩ = false := by
      rw [← Bool.not_eq_true, endsB_iff]
      rintro ⟨-, -, -, -, -, hh⟩
      have hh2 : M.length = (N.getD (aN : Int).toNat []).length := hh
      rw [Int.toNat_natCast, HE1.out] at hh2
      have := HN1.out; have := HML.out
      omega
    have HF : Hid (B = false) := by show _ = _; rw [← HB.out]; unfold edgeB; rw [he]; rfl
    clear he
    clear h6
    go_quiet (fail)
    go_wp2_with fail
    go_ret
    exact ⟨by rw [HF.out]; rfl, bel_drewN hB _⟩
  have h6' : ml = n1 := by omega
  have d6 : ((ml : Int) != (n1 : Int)) = false := by simp; omega
  have d6' : (ml != n1) = false := by simpa using h6'
  have HEN : Hid (endsB N ⟨aN, bN, M⟩ = true) := by
    show _ = _
    rw [endsB_iff]
    have := HN1.out; have := HML.out; have := HNL.out
    refine ⟨by simp, by simp, by show (aN : Int) < _; omega, by show (bN : Int) < _; omega, by show (aN : Int) ≠ bN; omega, ?_⟩
    show M.length = (N.getD (aN : Int).toNat []).length
    rw [Int.toNat_natCast, HE1.out]
    omega
  clear h1 h2 h3 h4 h5 h6 h6'
  go_quiet (fail)
  have hB2 := bel_drewN hB nq
  refine k_at (fun X => X.cell? ⟨w.heap.size, 0, none⟩ = some (.slice (some ⟨nb, no, none⟩) nl nc) ∧ X.cell? ⟨w.heap.size + 1, 1, none⟩ = some (.int .i64 (bN : Int)) ∧ X.cell? ⟨w.heap.size + 1, 2, none⟩ = some (.slice ma ml mc) ∧ X.cell? ⟨nb, no + bN, none⟩ = some (.slice a2 n2 c2) ∧ Below w.heap.size w X) ⟨a0, b1, b2, cb, hB2⟩ ?_
  clear a0 b0 b1 b2 ca cb hB hB2 r1 r2
  rintro W2 ⟨a0, b1, b2, cb, hB⟩
  have HB2 := hid_of hB
  clear d1 d2 d3 d3' d4 d4' d5 d6 d6' e1 e3 e4 e5 hB
  go_wp2_with fail
  go_loop [54] (fun s54 => ∃ k : Nat, k ≤ ml ∧ s54 = .int .i64 k ∧ Hid ((M.take k).all (rowB n2) = true)) (fun s54 => ml - (intOf s54).toNat)
  case atStart => exact ⟨0, by omega, rfl, by show _ = _; rfl⟩
  case round =>
    obtain ⟨k, hk, rfl, HA⟩ := hrel
    by_cases hlt : k < ml
    · have hkx : k < M.length := by have := HML.out; omega
      obtain ⟨mb, mo, a3, n3, c3, rfl, -, ck, hi, hn3, hn3m⟩ := rows_at (HM.out W2 HB2.out) hkx
      have hsn := all_take_succ (f := rowB n2) hkx
      have hfl := all_false_of (f := rowB n2) hkx
      have HCB := hid_of (costsB_c W2 hi)
      obtain ⟨x, Hx⟩ : ∃ x, Hid (M[k] = x) := ⟨_, (rfl : M[k] = _)⟩
      rw [Hx.out] at hn3 hsn hfl HCB
      rw [HA.out] at hsn
      have HSN := hid_of hsn
      have HFL := hid_of hfl
      have HN3 := hid_of hn3
      have hkz : (k : Int) < (ml : Int) := by omega
      have HFF : Hid (rowB n2 x = false → B = false) := fun hr => by
        rw [← HB.out]
        unfold edgeB
        have : (M.all (rowB (N.getD (bN : Int).toNat []).length)) = false := by
          rw [Int.toNat_natCast, HE2.out, ← HN2.out]
          exact HFL.out hr
        show (_ && M.all (rowB (N.getD (bN : Int).toNat []).length)) = false
        rw [this, Bool.and_false]
      clear hsn hfl hi hn3
      by_cases h1 : n3 ≠ n2
      · have d1 : ((n3 : Int) != (n2 : Int)) = true := by simp; omega
        have d1' : (n3 != n2) = true := by simpa using h1
        have HF : Hid (B = false) := HFF.out (by have := HN3.out; unfold rowB; simp; omega)
        clear h1
        go_wp2_with fail
        go_ret
        exact ⟨by rw [HF.out]; rfl, HB2.out⟩
      have h1' : n3 = n2 := by omega
      have d1 : ((n3 : Int) != (n2 : Int)) = false := by simp; omega
      have d1' : (n3 != n2) = false := by simpa using h1'
      have HRB : Hid (rowB n2 x = costsB x) := by show _ = _; unfold rowB; rw [← HN3.out, h1']; simp
      clear h1 h1'
      go_wp2_with fail
      refine HCB.out.mono ?_
      rintro e w' ⟨rfl, rfl⟩
      obtain ⟨cb2, Hcb⟩ : ∃ cb2, Hid (costsB x = cb2) := ⟨_, (rfl : costsB x = _)⟩
      rw [Hcb.out]
      cases cb2 with
      | false =>
        have HF : Hid (B = false) := HFF.out (by rw [HRB.out]; exact Hcb.out)
        go_wp2_with fail
        go_ret
        exact ⟨by rw [HF.out]; rfl, HB2.out⟩
      | true =>
        have HO : Hid ((M.take (k + 1)).all (rowB n2) = true) := by show _ = _; rw [HSN.out, HRB.out, Hcb.out]; rfl
        go_wp2_with fail
        go_round
        case rel => exact ⟨k + 1, by omega, by go_num, HO⟩
        case measure => simp [intOf]; omega
    · obtain rfl : k = ml := by omega
      have HF : Hid (B = true) := by
        show _ = _
        rw [← HB.out]
        unfold edgeB
        show (endsB N ⟨aN, bN, M⟩ && M.all (rowB (N.getD (bN : Int).toNat []).length)) = true
        rw [HEN.out, Int.toNat_natCast, HE2.out, ← HN2.out]
        have := HA.out
        rw [HML.out, List.take_length] at this
        rw [this]; rfl
      go_wp2_with fail
      go_ret
      exact ⟨by rw [HF.out]; rfl, HB2.out⟩
end Go.Proofs.Ytdomnbgjafdnjaa
