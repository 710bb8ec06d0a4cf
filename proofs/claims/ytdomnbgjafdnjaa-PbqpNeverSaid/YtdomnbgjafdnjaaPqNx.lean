/- The general solver: the next node, where it has no more than two neighbours. -/
import Derived.Test.YtdomnbgjafdnjaaPqTk
namespace Go.Proofs.Ytdomnbgjafdnjaa
open Go.RowKit Go.Maps

theorem getD_gone {g : Nat → Bool} {n m : Nat} (hm : m < n) : ((List.range n).map g).getD m true = g m := by simp [List.getD, hm]

set_option maxRecDepth 100000 in
set_option maxHeartbeats 4000000 in
theorem next_k {w W : World} {L : Pl} {ow : Nat → Tg} {n k : Nat} {S : PS} {us : List (Nat × List Int)} {uv : Value} {uvs : List Value} (hS : SS w L ow n S us uv uvs W) (hk : k ≤ n) (hn : n ≤ 300) (h0 : ∀ j, j < k → S.gone j = true) (h1 : k < n → S.gone k = false ∧ (nsS S n k).length ≤ 2) :
    Calls Try.prog 25 #[.pointer (some ⟨L.sb, 0, none⟩)] W fun e w' => e = .returned (.tuple #[.int .i64 (if k < n then (k : Int) else -1), .bool (decide (k < n))]) ∧ w' = W := by
  have HG := hid_of hS.gr
  have HM : Hid (k < n → ∃ es c, W.cell? ⟨L.mb, k, none⟩ = some (.map (some (L.pb k))) ∧ W.heap[L.pb k]? = some (.map es c) ∧ es.size ≤ 2) := fun hlt => by
    obtain ⟨ms, hms, -, hmp⟩ := hS.mr
    obtain ⟨f, hf⟩ := hS.pr k hlt
    obtain ⟨es, c, hb, hs⟩ := hf.mv.size (m := n) (by omega) hf.dom
    rw [hf.keys] at hs
    exact ⟨es, c, hms.cell (hmp k hlt (h1 hlt).1), hb, by have := (h1 hlt).2; omega⟩
  have q1 := hS.sv.cell (k := 1) rfl
  have q4 := hS.sv.cell (k := 4) rfl
  have HQ1 := hid_of q1
  have H0 := hid_of h0
  have H1 := hid_of h1
  obtain ⟨sb, Hsb⟩ : ∃ v, Hid (L.sb = v) := ⟨_, (rfl : L.sb = _)⟩
  obtain ⟨gb, Hgb⟩ : ∃ v, Hid (L.gb = v) := ⟨_, (rfl : L.gb = _)⟩
  obtain ⟨mb, Hmb⟩ : ∃ v, Hid (L.mb = v) := ⟨_, (rfl : L.mb = _)⟩
  obtain ⟨mc, Hmc⟩ : ∃ v, Hid (L.mc = v) := ⟨_, (rfl : L.mc = _)⟩
  rw [Hsb.out, Hmb.out, Hmc.out] at HQ1
  rw [Hsb.out, Hgb.out] at q4
  rw [Hsb.out]
  rw [Hgb.out] at HG
  rw [Hmb.out] at HM
  obtain ⟨z, Hz⟩ : ∃ z, Hid ((if k < n then (k : Int) else -1) = z) := ⟨_, (rfl : (if k < n then (k : Int) else -1) = _)⟩
  obtain ⟨y, Hy⟩ : ∃ y, Hid (decide (k < n) = y) := ⟨_, (rfl : decide (k < n) = _)⟩
  rw [Hz.out, Hy.out]
  clear hS q1 h0 h1
  go_enter Try.func25, Try.ntmps25
  go_wp2_with fail
  go_loop [2, 10] (fun s2 s10 => ∃ m : Nat, m ≤ k ∧ s10 = .int .i64 m ∧ s2 = .int .i64 (-1)) (fun _ s10 => n - (intOf s10).toNat)
  case atStart => exact ⟨0, by omega, rfl, rfl⟩
  case round =>
    obtain ⟨m, hmk, rfl, rfl⟩ := hrel
    by_cases hlt : m < n
    · have g0 := HG.out.cell (k := m) (v := .bool (S.gone m)) (by rw [bools_get (by simpa using hlt), getD_gone hlt])
      have hmz : (m : Int) < (n : Int) := by omega
      by_cases hlk : m < k
      · have d0 : S.gone m = true := H0.out m hlk
        rw [d0] at g0
        clear d0
        go_wp2_with fail
        go_round
        case rel => exact ⟨m + 1, by omega, by go_num, rfl⟩
        case measure => simp [intOf]; omega
      · obtain rfl : m = k := by omega
        obtain ⟨es, c, c1, c2, c3⟩ := HM.out hlt
        have q1 := HQ1.out
        have d0 : S.gone m = false := (H1.out hlt).1
        rw [d0] at g0
        have HZ : Hid (z = m) := by show _ = _; rw [← Hz.out, if_pos hlt]
        have HY : Hid (y = true) := by show _ = _; rw [← Hy.out]; simpa using hlt
        clear d0 hlk
        obtain ⟨pbm, Hpb⟩ : ∃ v, Hid (L.pb m = v) := ⟨_, (rfl : L.pb m = _)⟩
        rw [Hpb.out] at c1 c2
        have hln := run_len_map (P := Try.prog) (w := W) 67 3 pbm es c (by kernel_rfl) c2
        obtain ⟨ez, Hez⟩ : ∃ v, Hid (es.size = v) := ⟨_, (rfl : es.size = _)⟩
        rw [Hez.out] at hln c3
        have hezz : (ez : Int) ≤ 2 := by omega
        go_wp2_with fail
        go_ret2
        exact ⟨by rw [HZ.out, HY.out]; rfl, rfl⟩
    · have hkn : k = n := by omega
      have HZ : Hid (z = -1) := by show _ = _; rw [← Hz.out, if_neg (by omega)]
      have HY : Hid (y = false) := by show _ = _; rw [← Hy.out]; simp; omega
      obtain rfl : m = n := by omega
      clear hkn
      go_wp2_with fail
      go_ret2
      exact ⟨by rw [HZ.out, HY.out]; rfl, rfl⟩
end Go.Proofs.Ytdomnbgjafdnjaa
