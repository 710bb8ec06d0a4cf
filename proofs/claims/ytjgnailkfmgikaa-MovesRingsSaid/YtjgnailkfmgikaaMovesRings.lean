/- The law MovesRings. -/
import Derived.Test.YtjgnailkfmgikaaMovesFan
import Derived.Test.YtjgnailkfmgikaaMvRingsP
namespace Go.Proofs.Ytjgnailkfmgikaa
open Go.RowKit Go.Maps

theorem rcS_bound {ns : List Nat} {c : Nat} {m : Int × Int} (h : m ∈ Mv.rcS ns c) : (0 ≤ m.1 ∧ m.1 ≤ ((Mv.sumS ns + c : Nat) : Int)) ∧ (0 ≤ m.2 ∧ m.2 ≤ ((Mv.sumS ns + c : Nat) : Int)) := by
  rcases List.mem_append.1 h with h | h
  · obtain ⟨a, n, k, hk, ha, rfl, _⟩ := Mv.ringsS_mem h
    have := Nat.mod_lt (k + 1) (show 0 < n by omega)
    dsimp only; omega
  · obtain ⟨k, hk, rfl⟩ := Mv.chainS_mem.1 h
    dsimp only; omega
theorem ringsS_len (ns : List Nat) : (Mv.ringsS ns).length = Mv.sumS ns := by
  have := congrArg List.length (Mv.ringsS_dst ns)
  simpa using this
theorem ringK_len (a n k : Nat) : (Mv.ringK a n k).length = k := by simp [Mv.ringK]
theorem chainS_len (a k : Nat) : (Mv.chainS a k).length = k := by simp [Mv.chainS]

set_option maxRecDepth 100000 in
set_option maxHeartbeats 4000000 in
theorem movesRings_c {p : Nat → Prop} {v : Value} {xs : List Int} (w : World) (h0 : IsInts p w v xs) (c : Int) :
    Calls Try.prog 5 #[v, .int .i64 c] w fun e w' => e = .returned (.bool true) ∧ Below w.heap.size w w' := by
  have h : IsInts (· < w.heap.size) w v xs := h0.keep (Keep.refl w fun _ _ hb => hb)
  clear h0
  obtain ⟨a, cap, hv, hlen, _⟩ := id h
  subst hv
  go_enter Try.func5, Try.ntmps5
  go_wp2_with fail
  refine (alive20_c w).mono ?_
  rintro e w1 ⟨rfl, hB1⟩
  by_cases h10 : 10 < xs.length
  · have hd : decide ((xs.length : Int) > 10) = true := by simpa using (by omega : (10 : Int) < xs.length)
    go_wp2_with fail
    go_ret
    exact ⟨rfl, hB1⟩
  have hd10 : decide ((xs.length : Int) > 10) = false := by simpa using (by omega : (xs.length : Int) ≤ 10)
  by_cases hc0 : c < 0
  · have hd : decide (c < 0) = true := by simpa using hc0
    go_wp2_with fail
    go_ret
    exact ⟨rfl, hB1⟩
  have hdc0 : decide (c < 0) = false := by simpa using (by omega : 0 ≤ c)
  by_cases hc20 : 20 < c
  · have hd : decide (c > 20) = true := by simpa using hc20
    go_wp2_with fail
    go_ret
    exact ⟨rfl, hB1⟩
  have hdc20 : decide (c > 20) = false := by simpa using (by omega : c ≤ 20)
  obtain ⟨C, rfl⟩ : ∃ C : Nat, c = C := ⟨c.toNat, by omega⟩
  have hC20 : C ≤ 20 := by omega
  have hx10 : xs.length ≤ 10 := by omega
  clear h10 hc0 hc20
  go_wp2_with fail
  go_loopg [6, 7, 8, 9] xs.length (fun g s6 s7 s8 s9 wr => ∃ (k S M : Nat) (ns : List Nat) (a6 : Option Addr) (c6 : Nat), k + g = xs.length ∧ s9 = .int .i64 k ∧ s7 = .int .i64 S ∧ s8 = .int .i64 M ∧ Hid (Mv.sumS ns = S ∧ Mv.moreS ns = M) ∧ S ≤ 8 * k ∧ M ≤ 9 * k ∧ s6 = .slice a6 S c6 ∧ wr.ownsRow w.heap.size 30 2 (.slice a6 S c6) S (pairs (Mv.ringsS ns)) ∧ Below w.heap.size w wr)
  case atStart => exact ⟨0, 0, 0, [], none, 0, by omega, rfl, rfl, rfl, (⟨rfl, rfl⟩ : Mv.sumS [] = 0 ∧ Mv.moreS [] = 0), by omega, by omega, rfl, World.ownsRow_nil _ _ _ _, hB1⟩
  case round =>
    obtain ⟨k, S, M, ns, a6, c6, hk, rfl, rfl, rfl, hSM, hS, hM, rfl, ho, hb⟩ := hrel
    clear hB1
    have hsz := hb.size
    have HRL : Hid ((Mv.ringsS ns).length = S) := (ringsS_len ns).trans hSM.out.1
    by_cases hlt : k < xs.length
    · obtain ⟨_, _, hv0, -, hx⟩ := h.keep (Keep.belowB hb)
      simp only [Value.slice.injEq, true_and] at hv0
      obtain ⟨rfl, rfl⟩ := hv0
      rcases hx with rfl | ⟨b, off, rfl, hpb, hx⟩
      · simp at hlt
      have t0 := hx k hlt
      simp only [CInt, Nat.mul_one] at t0
      clear hx
      obtain ⟨x, HX⟩ : ∃ x, Hid (xs[k] = x) := ⟨xs[k], (rfl : xs[k] = xs[k])⟩
      rw [HX.out] at t0
      by_cases hx1 : x < 1
      · have hd : decide (x < 1) = true := by simpa using hx1
        go_wp2_with fail
        go_ret
        exact ⟨rfl, hb⟩
      have hdx1 : decide (x < 1) = false := by simpa using (by omega : 1 ≤ x)
      by_cases hx8 : 8 < x
      · have hd : decide (x > 8) = true := by simpa using hx8
        go_wp2_with fail
        go_ret
        exact ⟨rfl, hb⟩
      have hdx8 : decide (x > 8) = false := by simpa using (by omega : x ≤ 8)
      obtain ⟨n, rfl⟩ : ∃ n : Nat, x = n := ⟨x.toNat, by omega⟩
      have hn1 : 1 ≤ n := by omega
      have hn8 : n ≤ 8 := by omega
      clear hx1 hx8 HX
      go_wp2_with fail
      obtain ⟨go, hgo⟩ : ∃ go, go = gk := ⟨gk, rfl⟩
      go_loopg [6, 11] n (fun g s6 s11 wx => ∃ (j : Nat) (a6 : Option Addr) (c6 : Nat), j + g = n ∧ s11 = .int .i64 j ∧ s6 = .slice a6 (S + j) c6 ∧ wx.ownsRow w.heap.size 30 2 (.slice a6 (S + j) c6) (S + j) (pairs (Mv.ringsS ns ++ Mv.ringK S n j)) ∧ Below w.heap.size w wx)
      case atStart => exact ⟨0, a6, c6, by omega, rfl, rfl, by simpa [Mv.ringK] using ho, hb⟩
      case round =>
        obtain ⟨j, a7, c7, hj, rfl, rfl, ho2, hb2⟩ := hrel
        clear ho hb hsz
        have hsz2 := hb2.size
        by_cases hjn : j < n
        · have hll : (Mv.ringsS ns ++ Mv.ringK S n j).length = S + j := by rw [List.length_append, HRL.out, ringK_len]
          have ho3 : wr.ownsRow w.heap.size 30 2 (.slice a7 (S + j) c7) (Mv.ringsS ns ++ Mv.ringK S n j).length (pairs (Mv.ringsS ns ++ Mv.ringK S n j)) := by rw [hll]; exact ho2
          have hst := Mv.ringK_succ S n j
          have HST : Hid (Mv.ringsS ns ++ Mv.ringK S n (j + 1) = (Mv.ringsS ns ++ Mv.ringK S n j) ++ [((S : Int) + (j : Int), (S : Int) + ((j : Int) + 1) % (n : Int))]) := by
            show _ = _
            rw [hst, List.append_assoc]
            congr 2
          have HLL : Hid ((Mv.ringsS ns ++ Mv.ringK S n j).length = S + j) := hll
          have hnz : (0 : Int) < (n : Int) := by omega
          have hm0 : 0 ≤ ((j : Int) + 1) % (n : Int) := Int.emod_nonneg _ (by omega)
          have hm1 : ((j : Int) + 1) % (n : Int) < (n : Int) := Int.emod_lt_of_pos _ hnz
          clear hll hst ho2
          go_wp2_with (at_builtin; refine stop_here ?_)
          refine stop_go (app_pair rfl _ _ rfl w.heap.size _ (Mv.ringsS ns ++ Mv.ringK S n j) rfl (owns_keep ho3 fun b hb => Below.heap_alloc _ _ _ (ho3.lt b hb).2) _ ((S : Int) + (j : Int), (S : Int) + ((j : Int) + 1) % (n : Int)) rfl (heap_alloc_eq _ _ _ rfl) (by have := HLL.out; omega) (by simp; omega) ?_)
          intro v' w' ho4 hg4 _
          have hb4 : Below w.heap.size w w' := bel_grown (bel_alloc hb2 _) hg4 (fun k hk => (ho3.lt k hk).1)
          rw [← HST.out] at ho4
          have hl4 : (Mv.ringsS ns ++ Mv.ringK S n (j + 1)).length = S + (j + 1) := by rw [List.length_append, HRL.out, ringK_len]
          rw [hl4] at ho4
          obtain ⟨a9, c9, rfl⟩ : ∃ a c, v' = .slice a (S + (j + 1)) c := by
            rcases owns_nilcase ho4 with ⟨_, h2, _⟩ | ⟨g, c, h2⟩
            · omega
            · exact ⟨_, c, h2⟩
          clear hg4 hl4 ho3 hb2
          go_wp2_with fail
          go_roundg (gk - 1)
          case measure => omega
          case rel => exact ⟨j + 1, a9, c9, by omega, by go_num, rfl, ho4, hb4⟩
        · have hje : j = n := by omega
          subst hje
          have ho3 : wr.ownsRow w.heap.size 30 2 (.slice a7 (S + j) c7) (S + j) (pairs (Mv.ringsS (ns ++ [j]))) := by
            rw [Mv.ringsS_snoc, hSM.out.1]; exact ho2
          clear ho2
          by_cases h1j : 1 < j
          · have hd : decide ((j : Int) > 1) = true := by simp; omega
            have hd2 : decide (1 < j) = true := by simpa using h1j
            have hSM2 : Hid (Mv.sumS (ns ++ [j]) = S + j ∧ Mv.moreS (ns ++ [j]) = M + j + 1) := by rw [Mv.sumS_snoc, Mv.moreS_snoc, if_pos h1j, hSM.out.1, hSM.out.2]; exact ⟨rfl, rfl⟩
            clear h1j hSM
            go_wp2_with fail
            go_roundg (go - 1)
            case measure => omega
            case rel => exact ⟨k + 1, S + j, M + j + 1, ns ++ [j], a7, c7, by omega, by go_num, by go_num, by go_num, hSM2, by omega, by omega, rfl, ho3, hb2⟩
          · have hd : decide ((j : Int) > 1) = false := by simp; omega
            have hd2 : decide (1 < j) = false := by simpa using (by omega : j ≤ 1)
            have hSM2 : Hid (Mv.sumS (ns ++ [j]) = S + j ∧ Mv.moreS (ns ++ [j]) = M) := by rw [Mv.sumS_snoc, Mv.moreS_snoc, if_neg h1j, hSM.out.1, hSM.out.2]; exact ⟨rfl, rfl⟩
            clear h1j hSM
            go_wp2_with fail
            go_roundg (go - 1)
            case measure => omega
            case rel => exact ⟨k + 1, S + j, M, ns ++ [j], a7, c7, by omega, by go_num, by go_num, rfl, hSM2, by omega, by omega, rfl, ho3, hb2⟩
    · have hk10 : k ≤ 10 := by omega
      have hdk : decide ((k : Int) < (xs.length : Int)) = false := by simp; omega
      go_wp2_with fail
      clear hdk
      go_loopg [6, 12] C (fun g s6 s12 wx => ∃ (j : Nat) (a6 : Option Addr) (c6 : Nat), j + g = C ∧ s12 = .int .i64 j ∧ s6 = .slice a6 (S + j) c6 ∧ wx.ownsRow w.heap.size 30 2 (.slice a6 (S + j) c6) (S + j) (pairs (Mv.ringsS ns ++ Mv.chainS S j)) ∧ Below w.heap.size w wx)
      case atStart => exact ⟨0, a6, c6, by omega, rfl, rfl, by simpa [Mv.chainS] using ho, hb⟩
      case round =>
        obtain ⟨j, a7, c7, hj, rfl, rfl, ho2, hb2⟩ := hrel
        clear ho hb hsz
        have hsz2 := hb2.size
        by_cases hjn : j < C
        · have hll : (Mv.ringsS ns ++ Mv.chainS S j).length = S + j := by rw [List.length_append, HRL.out, chainS_len]
          have ho3 : wr.ownsRow w.heap.size 30 2 (.slice a7 (S + j) c7) (Mv.ringsS ns ++ Mv.chainS S j).length (pairs (Mv.ringsS ns ++ Mv.chainS S j)) := by rw [hll]; exact ho2
          have hst := Mv.chainS_succ S j
          have HST : Hid (Mv.ringsS ns ++ Mv.chainS S (j + 1) = (Mv.ringsS ns ++ Mv.chainS S j) ++ [((S : Int) + (j : Int), (S : Int) + (j : Int) + 1)]) := by
            show _ = _
            rw [hst, List.append_assoc]
            congr 2
          have HLL : Hid ((Mv.ringsS ns ++ Mv.chainS S j).length = S + j) := hll
          clear hll hst ho2
          go_wp2_with (at_builtin; refine stop_here ?_)
          refine stop_go (app_pair rfl _ _ rfl w.heap.size _ (Mv.ringsS ns ++ Mv.chainS S j) rfl (owns_keep ho3 fun b hb => Below.heap_alloc _ _ _ (ho3.lt b hb).2) _ ((S : Int) + (j : Int), (S : Int) + (j : Int) + 1) rfl (heap_alloc_eq _ _ _ rfl) (by have := HLL.out; omega) (by simp; omega) ?_)
          intro v' w' ho4 hg4 _
          have hb4 : Below w.heap.size w w' := bel_grown (bel_alloc hb2 _) hg4 (fun k hk => (ho3.lt k hk).1)
          rw [← HST.out] at ho4
          have hl4 : (Mv.ringsS ns ++ Mv.chainS S (j + 1)).length = S + (j + 1) := by rw [List.length_append, HRL.out, chainS_len]
          rw [hl4] at ho4
          obtain ⟨a9, c9, rfl⟩ : ∃ a c, v' = .slice a (S + (j + 1)) c := by
            rcases owns_nilcase ho4 with ⟨_, h2, _⟩ | ⟨g, c, h2⟩
            · omega
            · exact ⟨_, c, h2⟩
          clear hg4 hl4 ho3 hb2
          go_wp2_with fail
          go_roundg (gk - 1)
          case measure => omega
          case rel => exact ⟨j + 1, a9, c9, by omega, by go_num, rfl, ho4, hb4⟩
        · have hje : j = C := by omega
          subst hje
          have hll : (Mv.rcS ns j).length = S + j := by rw [Mv.rcS_length, hSM.out.1]
          have hoL : wr.ownsRow w.heap.size 30 2 (.slice a7 (S + j) c7) (Mv.rcS ns j).length (pairs (Mv.rcS ns j)) := by
            rw [hll]; unfold Mv.rcS; rw [hSM.out.1]; exact ho2
          have hip0 : IsPairs (· < wr.heap.size) wr (.slice a7 (S + j) c7) (Mv.rcS ns j) := pairs_of_owns hoL (by omega) (fun _ _ _ hb => hb)
          have hmem : ∀ m ∈ Mv.rcS ns j, (0 ≤ m.1 ∧ m.1 ≤ 100) ∧ (0 ≤ m.2 ∧ m.2 ≤ 100) := fun m hm => by
            have h9 := rcS_bound hm
            rw [hSM.out.1] at h9
            omega
          have hL64 : ∀ m ∈ Mv.rcS ns j, In64 m.1 ∧ In64 m.2 := fun m hm => by
            obtain ⟨h1, h2⟩ := hmem m hm
            exact ⟨in64_small (by omega) (by omega), in64_small (by omega) (by omega)⟩
          have hL99 : ∀ m ∈ Mv.rcS ns j, m.1 ≠ -1 ∧ m.2 ≠ -1 := fun m hm => by
            obtain ⟨h1, h2⟩ := hmem m hm
            omega
          have honce := Mv.rcS_once ns j
          have hcntL := fun G out (hd : Mv.FDone (Mv.rcS ns j) G out) => Mv.rc_cnt hd
          have hlenL := Mv.rc_len (ns := ns) (c := j)
          rw [hSM.out.2] at hlenL
          have hbad : ¬ BadS (Mv.rcS ns j) (-1) := by
            rintro (h1 | ⟨m, hm, h1⟩)
            · exact h1 honce
            · exact h1.elim (hL99 m hm).1 (hL99 m hm).2
          obtain ⟨L, HL⟩ : ∃ L, Hid (Mv.rcS ns j = L) := ⟨_, (rfl : Mv.rcS ns j = Mv.rcS ns j)⟩
          rw [HL.out] at hip0 hmem hL64 hL99 honce hcntL hlenL hbad hll
          rw [← hll] at hip0 ⊢
          have HLN : Hid (L.length ≤ 1000 ∧ L.length ≤ 1000) := by show _ ∧ _; omega
          have HF : Hid ((∀ m ∈ L, In64 m.1 ∧ In64 m.2) ∧ (∀ m ∈ L, m.1 ≠ -1 ∧ m.2 ≠ -1) ∧ Mv.Once L ∧ (Mv.ordS L).length + Mv.cntS ns = M + j ∧ ¬ BadS L (-1) ∧ ∀ G out, Mv.FDone L G out → Mv.Cnt G (Mv.ordS L) (Mv.cntS ns)) := ⟨hL64, hL99, honce, hlenL, hbad, hcntL⟩
          have hip : IsPairs (· < wr.heap.size) wr (.slice a7 L.length c7) L := hip0
          clear hmem hL64 hL99 honce hcntL hlenL hbad hll hoL ho2 hip0 HL hSM HRL
          go_wp2_with fail
          refine (seq_c wr (-1) hip HLN.out.1 HF.out.1).mono ?_
          rintro e w3 ⟨hb3, ⟨hbad, -⟩ | ⟨-, G, out0, n, H, out, v, rfl, ho3, hd, hs⟩⟩
          · exact absurd hbad HF.out.2.2.2.2.1
          · obtain ⟨hlen3, haft, -, -, hcnt⟩ := hs.fin HF.out.2.2.1 HF.out.2.1
            have hn : n = Mv.cntS ns := hcnt.uniq (HF.out.2.2.2.2.2 G out0 hd)
            rw [hn, HF.out.2.2.2.1] at hlen3
            have hB3 := bel_call hb2 hb3
            have hip3 : IsPairs (· < w3.heap.size) w3 (.slice a7 L.length c7) L := (hip.keep (Keep.belowB hb3)).keep (Keep.refl w3 fun x hx _ => by have := hb3.size; omega)
            have his3 : IsPairs (· < w3.heap.size) w3 v out := pairs_of_owns ho3 (by omega) (fun _ _ _ hb => hb)
            have hol : out.length ≤ 10000 := by omega
            obtain ⟨va, vc, hv, -⟩ := id his3
            subst hv
            have HA : Hid ((∀ m ∈ L, Mv.aft out m.1 = m.2) ∧ out.length ≤ 10000) := ⟨haft, hol⟩
            rw [hlen3] at his3 ⊢
            clear hlen3 haft hol hd hs hn ho3 hb3 hip hb2 hcnt
            go_wp2_with fail
            refine (num_c 0 _).mono ?_
            rintro e w' ⟨rfl, rfl⟩
            go_wp2_with fail
            go_loopg [15] L.length (fun g i wr => ∃ k : Nat, k + g = L.length ∧ i = .int .i64 k ∧ Below w3.heap.size w3 wr)
            case atStart => exact ⟨0, by omega, rfl, bel_refl _⟩
            case round =>
              obtain ⟨j2, hj2, rfl, hb5⟩ := hrel
              have hjn2 : L.length ≤ 1000 := HLN.out.1
              have hB5 := bel_call hB3 hb5
              have his5 := (his3.keep (Keep.below hb5)).keep (Keep.refl (p' := (· < wr.heap.size)) wr fun _ _ hb => hb)
              by_cases hjl : j2 < L.length
              · obtain ⟨_, _, hv0, -, hx⟩ := (hip3.keep (Keep.below hb5)).keep (Keep.refl (p' := (· < wr.heap.size)) wr fun _ _ hb => hb)
                simp only [Value.slice.injEq, true_and] at hv0
                obtain ⟨rfl, rfl⟩ := hv0
                rcases hx with rfl | ⟨lb, lo, rfl, hpb, hx⟩
                · simp at hjl
                obtain ⟨t0, t1⟩ := hx j2 hjl
                clear hx
                have hm := HA.out.1 L[j2] (List.getElem_mem hjl)
                obtain ⟨⟨x, y⟩, HM⟩ : ∃ m, Hid (L[j2] = m) := ⟨L[j2], (rfl : L[j2] = L[j2])⟩
                rw [HM.out] at t0 t1 hm
                dsimp only at t0 t1 hm
                have HXY : Hid (Mv.aft out x = y) := hm
                have hA : ∀ X, TwoS wr lb (lo + j2 * 2) (x, y) X → Calls Try.prog 15 #[.slice va (M + j) vc, .int .i64 x] X fun e Y => e = .returned (.int .i64 y) ∧ TwoS wr lb (lo + j2 * 2) (x, y) Y := by
                  intro X hX
                  have hi : IsPairs (· < wr.heap.size) X (.slice va (M + j) vc) out := his5.keep (Keep.below hX.2.2)
                  refine (after_c X x hi HA.out.2).mono ?_
                  rintro e Y ⟨rfl, hb⟩
                  rw [HXY.out]
                  exact ⟨rfl, hX.call hb hpb⟩
                have hE0 : TwoS wr lb (lo + j2 * 2) (x, y) wr := ⟨t0, t1, bel_refl _⟩
                have hyy : (y != y) = false := by simp
                clear hm his5
                go_upto_region 30 with fail
                go_cut [126] (fun bb wx => bb = .bool false ∧ TwoS wr lb (lo + j2 * 2) (x, y) wx)
                case first =>
                  go_region_held3 (fun X => X.cell? ⟨lb, lo + j2 * 2, none⟩ = some (.int .i64 x) ∧ X.cell? ⟨lb, lo + j2 * 2 + 1, none⟩ = some (.int .i64 y) ∧ TwoS wr lb (lo + j2 * 2) (x, y) X) (first | exact ⟨hE0.1, hE0.2.1, hE0⟩ | exact ⟨hE0.1, hE0.2.1, hE0.drew⟩ | exact ⟨hEa.1, hEa.2.1, hEa⟩)
                    (first
                      | (go_at_call 15; refine (hA _ hE0.drew).mono ?_; rintro e Ya ⟨rfl, hEa⟩))
                  all_goals (try go_wp2_with fail)
                  all_goals go_meet
                  all_goals exact ⟨by simp, by assumption⟩
                case rest =>
                  obtain ⟨rfl, hE⟩ := hcut
                  have hb6 := bel_call hb5 hE.2.2
                  clear hA hE0 t0 t1 hE hb5 hB5
                  go_wp2_with fail
                  go_roundg (gk - 1)
                  case measure => omega
                  case rel => exact ⟨j2 + 1, by omega, by go_num, hb6⟩
              · go_wp2_with fail
                go_ret
                exact ⟨rfl, hB5⟩
end Go.Proofs.Ytjgnailkfmgikaa
