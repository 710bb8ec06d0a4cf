/- Where no node has a neighbour: the next node, and what is done behind. -/
import Derived.Test.YtdomnbgjafdnjaaPqS
import Derived.Deep.RegionLaw
import Derived.Deep.RegionHeld3
import Derived.Deep.RegionHeldLaw
import Derived.Deep.AppendLies
import Derived.Deep.DeepCutAuto
namespace Go.Proofs.Ytdomnbgjafdnjaa
open Go.RowKit

def goneS (n k : Nat) : List Bool := List.replicate k true ++ List.replicate (n - k) false
theorem goneS_length {n k : Nat} (h : k ≤ n) : (goneS n k).length = n := by simp [goneS]; omega
theorem goneS_get {n k m : Nat} (hm : m < n) : (goneS n k).getD m true = decide (m < k) := by
  unfold goneS
  rw [List.getD_eq_getElem?_getD]
  by_cases h : m < k
  · rw [List.getElem?_append_left (by simpa using h)]
    simp [h]
  · rw [List.getElem?_append_right (by simp; omega)]
    have : m - k < n - k := by omega
    simp [h, this]
theorem goneS_set {n k : Nat} (h : k < n) : (goneS n k).set k true = goneS n (k + 1) := by
  unfold goneS
  rw [List.set_append_right _ _ (by simp)]
  have : n - k = (n - (k + 1)) + 1 := by omega
  rw [this, List.replicate_succ]
  simp [List.replicate_succ', List.append_assoc]

set_option maxRecDepth 100000 in
set_option maxHeartbeats 4000000 in
theorem next_c (W : World) {sb mb mc gb n k : Nat} (hk : k ≤ n) (hn : n ≤ 300) (q1 : k < n → W.cell? ⟨sb, 1, none⟩ = some (.slice (some ⟨mb, 0, none⟩) n mc)) (q4 : W.cell? ⟨sb, 4, none⟩ = some (.slice (some ⟨gb, 0, none⟩) n n))
    (hg : Row W gb 4 (bools (goneS n k))) (hm : k < n → ∃ b, W.cell? ⟨mb, k, none⟩ = some (.map (some b)) ∧ W.heap[b]? = some (.map #[] 0)) :
    Calls Try.prog 25 #[.pointer (some ⟨sb, 0, none⟩)] W fun e w' => e = .returned (.tuple #[.int .i64 (if k < n then (k : Int) else -1), .bool (decide (k < n))]) ∧ w' = W := by
  have HG := hid_of hg
  have HM := hid_of hm
  have HQ1 := hid_of q1
  obtain ⟨z, Hz⟩ : ∃ z, Hid ((if k < n then (k : Int) else -1) = z) := ⟨_, (rfl : (if k < n then (k : Int) else -1) = _)⟩
  obtain ⟨y, Hy⟩ : ∃ y, Hid (decide (k < n) = y) := ⟨_, (rfl : decide (k < n) = _)⟩
  rw [Hz.out, Hy.out]
  clear hg hm q1
  go_enter Try.func25, Try.ntmps25
  go_wp2_with fail
  go_loop [2, 10] (fun s2 s10 => ∃ m : Nat, m ≤ k ∧ s10 = .int .i64 m ∧ s2 = .int .i64 (-1)) (fun _ s10 => n - (intOf s10).toNat)
  case atStart => exact ⟨0, by omega, rfl, rfl⟩
  case round =>
    obtain ⟨m, hmk, rfl, rfl⟩ := hrel
    by_cases hlt : m < n
    · have g0 := HG.out.cell (k := m) (v := .bool (decide (m < k))) (by rw [bools_get (by rw [goneS_length hk]; exact hlt), goneS_get hlt])
      have hmz : (m : Int) < (n : Int) := by omega
      by_cases hlk : m < k
      · have d0 : decide (m < k) = true := by simpa using hlk
        rw [d0] at g0
        clear d0
        go_wp2_with fail
        go_round
        case rel => exact ⟨m + 1, by omega, by go_num, rfl⟩
        case measure => simp [intOf]; omega
      · obtain rfl : m = k := by omega
        obtain ⟨b, c1, c2⟩ := HM.out hlt
        have q1 := HQ1.out hlt
        have d0 : decide (m < m) = false := by simp
        rw [d0] at g0
        have HZ : Hid (z = m) := by show _ = _; rw [← Hz.out, if_pos hlt]
        have HY : Hid (y = true) := by show _ = _; rw [← Hy.out]; simpa using hlt
        clear d0 hlk
        have hln := run_len_map (P := Try.prog) (w := W) 67 3 b #[] 0 (by kernel_rfl) c2
        go_wp2_with fail
        go_ret2
        exact ⟨by rw [HZ.out, HY.out]; rfl, rfl⟩
    · have hkn : k = n := by omega
      have HZ : Hid (z = -1) := by show _ = _; rw [← Hz.out, if_neg (by omega)]
      have HY : Hid (y = false) := by show _ = _; rw [← Hy.out]; simp; omega
      obtain rfl : m = n := by omega
      clear hkn
      go_wp2_with fail
      go_ret2
      exact ⟨by rw [HZ.out, HY.out]; rfl, rfl⟩

set_option maxRecDepth 100000 in
set_option maxHeartbeats 4000000 in
theorem clo_c {p : Nat → Prop} (W : World) {o l e s m sb lb n j oc : Nat} {a : Option Addr} {xs ls : List Int}
    (qo : W.cell? ⟨o, 0, none⟩ = some (.slice a xs.length oc)) (hx : IsInts p W (.slice a xs.length oc) xs) (h0 : 0 < xs.length) (hxm : xs.length ≤ 1000000)
    (ql : W.cell? ⟨l, 0, none⟩ = some (.slice none 0 0)) (qs : W.cell? ⟨s, 0, none⟩ = some (.pointer (some ⟨sb, 0, none⟩))) (qm : W.cell? ⟨m, 0, none⟩ = some (.int .i64 (j : Int)))
    (q3 : W.cell? ⟨sb, 3, none⟩ = some (.slice (some ⟨lb, 0, none⟩) n n)) (hr : Row W lb 3 (ints ls)) (hn : ls.length = n) (hj : j < n) :
    Calls Try.prog 37 #[.pointer (some ⟨o, 0, none⟩), .pointer (some ⟨l, 0, none⟩), .pointer (some ⟨e, 0, none⟩), .pointer (some ⟨s, 0, none⟩), .pointer (some ⟨m, 0, none⟩)] W
      fun e w' => e = .returned (.tuple #[]) ∧ Row w' lb 3 (ints (ls.set j (leastS xs : Nat))) ∧ (∀ b, b < W.heap.size → b ≠ lb → w'.heap[b]? = W.heap[b]?) ∧ W.heap.size ≤ w'.heap.size ∧ (∀ w0, Below w0.heap.size w0 W → w0.heap.size ≤ lb → Below w0.heap.size w0 w') := by
  have HCL := hid_of (cloneV_c W hx h0 hxm)
  obtain ⟨z, Hz⟩ : ∃ z, Hid (leastS xs = z) := ⟨_, (rfl : leastS xs = _)⟩
  rw [Hz.out]
  obtain ⟨xn, Hxn⟩ : ∃ xn, Hid (xs.length = xn) := ⟨_, (rfl : xs.length = _)⟩
  rw [Hxn.out] at qo HCL
  have HR := hid_of hr
  have HN := hid_of hn
  have hjz : (j : Int) < (n : Int) := by omega
  have ho := lt_of_cell qo
  have hl := lt_of_cell ql
  have hs := lt_of_cell qs
  have hm := lt_of_cell qm
  have h3 := lt_of_cell q3
  dsimp only at ho hl hs hm h3
  have hlb := hr.lt
  clear hx hr hn
  go_enter Try.func37, Try.ntmps37
  go_wp2_with fail
  refine HCL.out.mono ?_
  rintro e1 W1 ⟨v, rfl, hv, hb⟩
  obtain ⟨va, vc, rfl, -⟩ := owns_slice hv
  have ql1 := (World.cell?_of_block (a := ⟨l, 0, none⟩) (hb.block l hl)).trans ql
  have qs1 := (World.cell?_of_block (a := ⟨s, 0, none⟩) (hb.block s hs)).trans qs
  have qm1 := (World.cell?_of_block (a := ⟨m, 0, none⟩) (hb.block m hm)).trans qm
  have q31 := (World.cell?_of_block (a := ⟨sb, 3, none⟩) (hb.block sb h3)).trans q3
  have hr1 := HR.out.keep (hb.block lb hlb)
  have fr1 := hr1.frozen j
  have cr1 := hr1.cell (k := j) (v := .int .i64 (ls.getD j 0)) (by have := HN.out; simp [ints, List.getD, show j < ls.length by omega])
  have HR1 := hid_of hr1
  have HB := hid_of hb
  rw [← Hxn.out] at hv
  have hvi : IsInts (fun _ => True) W1 (.slice va xs.length vc) xs := ints_of_owns hv (by omega) (fun _ _ _ _ => trivial)
  have hle : ∀ q, Calls Try.prog 41 #[.slice va xn vc] (W1.drewN q) fun e w' => e = .returned (.int .i64 (leastS xs : Nat)) ∧ ∃ m, w' = (W1.drewN q).drewN m := fun q => by
    have := least_c (W1.drewN q) (hvi.keep (p' := fun _ => True) (Keep.below (bel_drewN (bel_refl W1) q)))
    rw [Hxn.out] at this
    exact this
  rw [Hz.out] at hle
  clear qo ql qs qm q3 hv hvi hb hr1 HCL
  go_wp2_with fail
  have HROW : Hid (∀ d, Row ((W1.drewN d).setCell ⟨lb, j, none⟩ (.int .i64 z)) lb 3 (ints (ls.set j z))) := fun d => by
    have := (show Row (W1.drewN d) lb 3 (ints ls) from HR1.out).set j (.int .i64 z)
    rw [ints_set] at this
    exact this
  go_loop [12] (fun s12 => s12 = .int .i64 0) (fun _ => 0)
  case atStart => rfl
  case round =>
    subst hrel
    go_wp2_with fail
    go_region_law (first
      | (go_simp; go_at_call 41; refine (hle _).mono ?_; rintro e2 Y ⟨rfl, q, rfl⟩))
    all_goals go_end0
    all_goals exact ⟨rfl, HROW.out _, fun b hb hne => (Below.heap_setCell _ _ _ _ hne).trans (HB.out.block b hb), by have := HB.out.size; simpa using this, fun w0 h0 hl => (bel_drewN (bel_call h0 HB.out) _).setCell hl _⟩
end Go.Proofs.Ytdomnbgjafdnjaa
