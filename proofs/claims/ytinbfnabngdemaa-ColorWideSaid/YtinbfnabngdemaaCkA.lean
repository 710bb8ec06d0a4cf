/- The small parts of 'Check': numbers that rise, pairs of nodes, a list that has a number. -/
import Derived.Test.YtinbfnabngdemaaCoO
import Derived.Test.YtinbfnabngdemaaCoL
import Derived.Test.YtinbfnabngdemaaKOwn
namespace Go.Proofs.Ytinbfnabngdemaa
open Go.RowKit

def lastD (xs : List Int) : Int := xs.getLastD (-1)
theorem lastD_nil : lastD [] = -1 := rfl
theorem lastD_snoc (xs : List Int) (x : Int) : lastD (xs ++ [x]) = x := by simp [lastD]
theorem RisP.le_last {xs : List Int} {n : Nat} (h : RisP xs n) : -1 ≤ lastD xs ∧ ∀ a ∈ xs, a ≤ lastD xs := by
  induction xs using co_revind with
  | h0 => exact ⟨by simp [lastD], by simp⟩
  | hs l a ih =>
    rw [lastD_snoc]
    obtain ⟨h1, h2⟩ := h
    have := h2 a (by simp)
    refine ⟨by omega, fun b hb => ?_⟩
    rcases List.mem_append.1 hb with hb | hb
    · have := (List.pairwise_append.1 h1).2.2 b hb a (by simp); omega
    · rw [List.mem_singleton.1 hb]; omega
theorem RisP.snoc {xs : List Int} {n : Nat} {x : Int} : RisP (xs ++ [x]) n ↔ RisP xs n ∧ lastD xs < x ∧ x < (n : Int) := by
  constructor
  · rintro ⟨h1, h2⟩
    have h0 : RisP xs n := ⟨(List.pairwise_append.1 h1).1, fun y hy => h2 y (by simp [hy])⟩
    refine ⟨h0, ?_, (h2 x (by simp)).2⟩
    rcases List.eq_nil_or_concat xs with e | ⟨l, a, e⟩
    · subst e; have := (h2 x (by simp)).1; rw [lastD_nil]; omega
    · rw [List.concat_eq_append] at e
      subst e
      rw [lastD_snoc]
      exact (List.pairwise_append.1 h1).2.2 a (by simp) x (by simp)
  · rintro ⟨h, hx, hn⟩
    obtain ⟨h3, h4⟩ := h.le_last
    refine ⟨List.pairwise_append.2 ⟨h.1, by simp, fun a ha b hb => by rw [List.mem_singleton.1 hb]; have := h4 a ha; omega⟩, fun y hy => ?_⟩
    rcases List.mem_append.1 hy with hy | hy
    · exact h.2 y hy
    · rw [List.mem_singleton.1 hy]; omega
theorem RisP.pre {xs ys : List Int} {n : Nat} (h : RisP (xs ++ ys) n) : RisP xs n := ⟨(List.pairwise_append.1 h.1).1, fun y hy => h.2 y (by simp [hy])⟩
theorem RisP.take {xs : List Int} {n : Nat} (h : RisP xs n) (k : Nat) : RisP (xs.take k) n := by
  rw [← List.take_append_drop k xs] at h; exact h.pre
theorem take_snoc {α : Type} {xs : List α} {k : Nat} (h : k < xs.length) : xs.take (k + 1) = xs.take k ++ [xs[k]] := (List.take_succ_eq_append_getElem h)
theorem ints_cell {p : Nat → Prop} {w : World} {a : Option Addr} {n cap : Nat} {xs : List Int} (h : IsInts p w (.slice a n cap) xs) {k : Nat} (hk : k < xs.length) : ∃ b off, a = some ⟨b, off, none⟩ ∧ p b ∧ w.cell? ⟨b, off + k, none⟩ = some (.int .i64 xs[k]) := by
  obtain ⟨b, off, ha, hp, hc⟩ := sl_at h (by omega)
  have := hc k hk
  unfold CInt at this
  rw [Nat.mul_one] at this
  exact ⟨b, off, ha, hp, this⟩

set_option maxRecDepth 100000 in
theorem rising_c {p : Nat → Prop} {a : Option Addr} {m cap : Nat} {l : List Int} (w : World) (n : Nat) (h : IsInts p w (.slice a m cap) l) :
    Calls Try.prog 23 #[.slice a m cap, .int .i64 (n : Int)] w fun e w' => e = .returned (.bool (decide (RisP l n))) ∧ w' = w := by
  have HN := hid_of (sl_len h).1
  have HH := hid_of h
  have H0 : Hid (RisP (l.take 0) n ∧ lastD (l.take 0) = -1) := ⟨⟨by simp, by simp⟩, by simp [lastD]⟩
  have hmx := (sl_len h).2.2
  obtain ⟨R, HR⟩ : ∃ R, Hid (decide (RisP l n) = R) := ⟨_, (rfl : decide (RisP l n) = _)⟩
  rw [HR.out]
  clear h
  go_enter Try.func23, Try.ntmps23
  go_wp2_with fail
  go_loopw [5, 10] (fun s5 s10 wx => ∃ (k : Nat) (la : Int), k ≤ m ∧ s10 = .int .i64 k ∧ s5 = .int .i64 la ∧ wx = w ∧ Hid (RisP (l.take k) n ∧ lastD (l.take k) = la)) (fun _ s10 _ => m - (intOf s10).toNat)
  case atStart => exact ⟨0, -1, by omega, rfl, rfl, rfl, H0⟩
  case round =>
    obtain ⟨k, la, hk, rfl, rfl, rfl, HK⟩ := hrel
    clear H0
    by_cases hlt : k < m
    · have hkl : k < l.length := by rw [← HN.out]; exact hlt
      obtain ⟨b, off, rfl, -, c1⟩ := ints_cell HH.out hkl
      have hts := take_snoc hkl
      obtain ⟨x, Hx⟩ : ∃ x, Hid (l[k] = x) := ⟨_, (rfl : l[k] = _)⟩
      rw [Hx.out] at c1 hts
      have HTS := hid_of hts
      have hkz : (k : Int) < (m : Int) := by omega
      clear hts
      by_cases h1 : x ≤ la
      · have d1 : decide (x ≤ la) = true := by simpa using h1
        have HF : Hid (R = false) := by
          show _ = _
          rw [← HR.out, decide_eq_false_iff_not]
          intro hR
          have := hR.take (k + 1)
          rw [HTS.out, RisP.snoc, HK.out.2] at this
          omega
        clear h1
        go_wp2_with fail
        go_ret
        exact ⟨ret_bool HF.out.symm, rfl⟩
      · have d1 : decide (x ≤ la) = false := by simpa using h1
        by_cases h2 : x < (n : Int)
        · have d2 : decide (x ≥ (n : Int)) = false := by simp; omega
          have d2' : decide ((n : Int) ≤ x) = false := by simp; omega
          have HN2 : Hid (RisP (l.take (k + 1)) n ∧ lastD (l.take (k + 1)) = x) := by
            show _ ∧ _
            rw [HTS.out, lastD_snoc, RisP.snoc, HK.out.2]
            exact ⟨⟨HK.out.1, by omega, h2⟩, rfl⟩
          clear h1 h2 HK
          go_wp2_with fail
          go_roundw
          case rel => exact ⟨k + 1, x, by omega, by go_num, rfl, trivial, HN2⟩
          case measure => simp [intOf]; omega
        · have d2 : decide (x ≥ (n : Int)) = true := by simp; omega
          have d2' : decide ((n : Int) ≤ x) = true := by simp; omega
          have HF : Hid (R = false) := by
            show _ = _
            rw [← HR.out, decide_eq_false_iff_not]
            intro hR
            have := hR.take (k + 1)
            rw [HTS.out, RisP.snoc] at this
            omega
          clear h1 h2
          go_wp2_with fail
          go_ret
          exact ⟨ret_bool HF.out.symm, rfl⟩
    · obtain rfl : k = m := by omega
      have HF : Hid (R = true) := by
        show _ = _
        rw [← HR.out, decide_eq_true_iff]
        have := HK.out.1
        rw [List.take_of_length_le (by rw [← HN.out]; exact Nat.le_refl _)] at this
        exact this
      go_wp2_with fail
      go_ret
      exact ⟨ret_bool HF.out.symm, rfl⟩

set_option maxRecDepth 100000 in
theorem index_c {p : Nat → Prop} {a : Option Addr} {m cap : Nat} {l : List Int} (w : World) (x : Int) (h : IsInts p w (.slice a m cap) l) :
    Calls Try.prog 35 #[.slice a m cap, .int .i64 x] w fun e w' => ∃ i : Int, e = .returned (.int .i64 i) ∧ decide (i ≥ 0) = decide (x ∈ l) ∧ w' = w := by
  have HN := hid_of (sl_len h).1
  have HH := hid_of h
  have H0 : Hid (x ∉ l.take 0) := by show ¬ _; simp
  have hmx := (sl_len h).2.2
  obtain ⟨R, HR⟩ : ∃ R, Hid (decide (x ∈ l) = R) := ⟨_, (rfl : decide (x ∈ l) = _)⟩
  rw [HR.out]
  clear h
  go_enter Try.func35, Try.ntmps35
  go_wp2_with fail
  go_loopw [8] (fun s8 wx => ∃ k : Nat, k ≤ m ∧ s8 = .int .i64 k ∧ wx = w ∧ Hid (x ∉ l.take k)) (fun s8 _ => m - (intOf s8).toNat)
  case atStart => exact ⟨0, by omega, rfl, rfl, H0⟩
  case round =>
    obtain ⟨k, hk, rfl, rfl, HK⟩ := hrel
    clear H0
    by_cases hlt : k < m
    · have hkl : k < l.length := by rw [← HN.out]; exact hlt
      obtain ⟨b, off, rfl, -, c1⟩ := ints_cell HH.out hkl
      have hts := take_snoc hkl
      have hmem : l[k] ∈ l := List.getElem_mem hkl
      obtain ⟨y, Hy⟩ : ∃ y, Hid (l[k] = y) := ⟨_, (rfl : l[k] = _)⟩
      rw [Hy.out] at c1 hts hmem
      have HTS := hid_of hts
      have HM := hid_of hmem
      have hkz : (k : Int) < (m : Int) := by omega
      clear hts hmem
      by_cases h1 : x = y
      · subst h1
        have d1 : (x == x) = true := by simp
        go_wp2_with fail
        go_ret
        exact ⟨_, rfl, by rw [← HR.out]; simp [HM.out], rfl⟩
      · have d1 : (x == y) = false := by simpa using h1
        have HN2 : Hid (x ∉ l.take (k + 1)) := by
          show ¬ _
          rw [HTS.out, List.mem_append, List.mem_singleton]
          rintro (e | e)
          · exact HK.out e
          · exact h1 e
        clear h1 HK
        go_wp2_with fail
        go_roundw
        case rel => exact ⟨k + 1, by omega, by go_num, trivial, HN2⟩
        case measure => simp [intOf]; omega
    · obtain rfl : k = m := by omega
      have HF : Hid (x ∉ l) := by
        have := HK.out
        rw [List.take_of_length_le (by rw [← HN.out]; exact Nat.le_refl _)] at this
        exact this
      go_wp2_with fail
      go_ret
      exact ⟨_, rfl, by rw [← HR.out]; simp [HF.out], rfl⟩
set_option maxRecDepth 100000 in
theorem contains_c {p : Nat → Prop} {a : Option Addr} {m cap : Nat} {l : List Int} (w : World) (x : Int) (h : IsInts p w (.slice a m cap) l) :
    Calls Try.prog 24 #[.slice a m cap, .int .i64 x] w fun e w' => e = .returned (.bool (decide (x ∈ l))) ∧ w' = w := by
  have HI := hid_of (index_c w x h)
  obtain ⟨R, HR⟩ : ∃ R, Hid (decide (x ∈ l) = R) := ⟨_, (rfl : decide (x ∈ l) = _)⟩
  rw [HR.out] at HI ⊢
  clear h
  go_enter Try.func24, Try.ntmps24
  go_wp2_with fail
  refine HI.out.mono ?_
  rintro e w' ⟨i, rfl, hi, rfl⟩
  have HE := hid_of hi
  clear hi HI
  go_wp2_with fail
  go_ret
  exact ⟨ret_bool HE.out, rfl⟩

theorem end_cases {a b : Int} {n : Nat} (h : ¬ EndP (a, b) n) : a < 0 ∨ (0 ≤ a ∧ b < 0) ∨ (0 ≤ a ∧ 0 ≤ b ∧ (n : Int) ≤ a) ∨ (0 ≤ a ∧ 0 ≤ b ∧ a < n ∧ (n : Int) ≤ b) ∨ (0 ≤ a ∧ 0 ≤ b ∧ a < n ∧ b < (n : Int) ∧ a = b) := by
  unfold EndP at h
  dsimp only at h
  omega
set_option maxRecDepth 100000 in
set_option maxHeartbeats 1000000 in
theorem ends_c {p : Nat → Prop} {a : Option Addr} {m cap : Nat} {l : List (Int × Int)} (w : World) (n : Nat) (h : IsPairs p w (.slice a m cap) l) (hp : ∀ b, p b → b < w.heap.size) :
    Calls Try.prog 22 #[.slice a m cap, .int .i64 (n : Int)] w fun e w' => e = .returned (.bool (decide (∀ q ∈ l, EndP q n))) ∧ Below w.heap.size w w' := by
  have HN := hid_of (sl_len h).1
  have HH := hid_of h
  have HP := hid_of hp
  have H0 : Hid ((∀ q ∈ l.take 0, EndP q n) ∧ Below w.heap.size w w) := ⟨by simp, bel_refl w⟩
  have hmx := (sl_len h).2.2
  obtain ⟨R, HR⟩ : ∃ R, Hid (decide (∀ q ∈ l, EndP q n) = R) := ⟨_, (rfl : decide (∀ q ∈ l, EndP q n) = _)⟩
  rw [HR.out]
  clear h hp
  go_enter Try.func22, Try.ntmps22
  go_wp2_with fail
  go_loopw [9] (fun s9 wx => ∃ (k : Nat), k ≤ m ∧ s9 = .int .i64 k ∧ Hid ((∀ q ∈ l.take k, EndP q n) ∧ Below w.heap.size w wx)) (fun s9 _ => m - (intOf s9).toNat)
  case atStart => exact ⟨0, by omega, rfl, H0⟩
  case round =>
    obtain ⟨k, hk, rfl, HK⟩ := hrel
    clear H0
    by_cases hlt : k < m
    · have hkl : k < l.length := by rw [← HN.out]; exact hlt
      obtain ⟨b, off, rfl, hpb, hc⟩ := sl_at HH.out (by omega)
      obtain ⟨c1, c2⟩ := hc k hkl
      have hbw := HP.out b hpb
      have c1 := (HK.out.2.cell (p := ⟨b, off + k * 2, none⟩) hbw).trans c1
      have c2 := (HK.out.2.cell (p := ⟨b, off + k * 2 + 1, none⟩) hbw).trans c2
      have hts := take_snoc hkl
      have hmem : l[k] ∈ l := List.getElem_mem hkl
      have HB2 := hid_of (fun (u v : Value) => bel_alloc HK.out.2 (.cells #[u, v] 37))
      obtain ⟨⟨x, y⟩, Hy⟩ : ∃ q, Hid (l[k] = q) := ⟨_, (rfl : l[k] = _)⟩
      rw [Hy.out] at c1 c2 hts hmem
      have HTS := hid_of hts
      have HM := hid_of hmem
      have hkz : (k : Int) < (m : Int) := by omega
      dsimp only at c1 c2
      clear hts hmem hc hpb hbw
      by_cases h1 : EndP (x, y) n
      · have HN2 : Hid (∀ q ∈ l.take (k + 1), EndP q n) := by
          show ∀ q, _
          rw [HTS.out]
          intro q hq
          rcases List.mem_append.1 hq with hq | hq
          · exact HK.out.1 q hq
          · rw [List.mem_singleton.1 hq]; exact h1
        unfold EndP at h1
        dsimp only at h1
        have d1 : decide (x < 0) = false := by simp; omega
        have d2 : decide (y < 0) = false := by simp; omega
        have d3 : decide (x ≥ (n : Int)) = false := by simp; omega
        have d3' : decide ((n : Int) ≤ x) = false := by simp; omega
        have d4 : decide (y ≥ (n : Int)) = false := by simp; omega
        have d4' : decide ((n : Int) ≤ y) = false := by simp; omega
        have d5 : (x == y) = false := by simp; omega
        clear h1 HK
        go_wp2_with fail
        go_roundw
        case rel => exact ⟨k + 1, by omega, by go_num, HN2.out, HB2.out _ _⟩
        case measure => simp [intOf]; omega
      · have HF : Hid (R = false) := by
          show _ = _
          rw [← HR.out, decide_eq_false_iff_not]
          exact fun hA => h1 (hA _ HM.out)
        clear HK
        rcases end_cases h1 with h2 | ⟨h2, h3⟩ | ⟨h2, h3, h4⟩ | ⟨h2, h3, h4, h5⟩ | ⟨h2, h3, h4, h5, h6⟩
        · have d1 : decide (x < 0) = true := by simp; omega
          clear h1 h2
          go_wp2_with fail
          go_ret
          exact ⟨ret_bool HF.out.symm, HB2.out _ _⟩
        · have d1 : decide (x < 0) = false := by simp; omega
          have d2 : decide (y < 0) = true := by simp; omega
          clear h1 h2 h3
          go_wp2_with fail
          go_ret
          exact ⟨ret_bool HF.out.symm, HB2.out _ _⟩
        · have d1 : decide (x < 0) = false := by simp; omega
          have d2 : decide (y < 0) = false := by simp; omega
          have d3 : decide (x ≥ (n : Int)) = true := by simp; omega
          have d3' : decide ((n : Int) ≤ x) = true := by simp; omega
          clear h1 h2 h3 h4
          go_wp2_with fail
          go_ret
          exact ⟨ret_bool HF.out.symm, HB2.out _ _⟩
        · have d1 : decide (x < 0) = false := by simp; omega
          have d2 : decide (y < 0) = false := by simp; omega
          have d3 : decide (x ≥ (n : Int)) = false := by simp; omega
          have d3' : decide ((n : Int) ≤ x) = false := by simp; omega
          have d4 : decide (y ≥ (n : Int)) = true := by simp; omega
          have d4' : decide ((n : Int) ≤ y) = true := by simp; omega
          clear h1 h2 h3 h4 h5
          go_wp2_with fail
          go_ret
          exact ⟨ret_bool HF.out.symm, HB2.out _ _⟩
        · have d1 : decide (x < 0) = false := by simp; omega
          have d2 : decide (y < 0) = false := by simp; omega
          have d3 : decide (x ≥ (n : Int)) = false := by simp; omega
          have d3' : decide ((n : Int) ≤ x) = false := by simp; omega
          have d4 : decide (y ≥ (n : Int)) = false := by simp; omega
          have d4' : decide ((n : Int) ≤ y) = false := by simp; omega
          subst h6
          have d5 : (x == x) = true := by simp
          clear h1 h2 h3 h4 h5
          go_wp2_with fail
          go_ret
          exact ⟨ret_bool HF.out.symm, HB2.out _ _⟩
    · obtain rfl : k = m := by omega
      have HF : Hid (R = true) := by
        show _ = _
        rw [← HR.out, decide_eq_true_iff]
        have := HK.out.1
        rw [List.take_of_length_le (by rw [← HN.out]; exact Nat.le_refl _)] at this
        exact this
      have HB := hid_of HK.out.2
      go_wp2_with fail
      go_ret
      exact ⟨ret_bool HF.out.symm, HB.out⟩
end Go.Proofs.Ytinbfnabngdemaa
