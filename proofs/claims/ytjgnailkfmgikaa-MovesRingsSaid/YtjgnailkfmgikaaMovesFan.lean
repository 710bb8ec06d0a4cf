/- The law MovesFan. -/
import Derived.Test.YtjgnailkfmgikaaMvAlive
import Derived.Test.YtjgnailkfmgikaaMvFanP
import Derived.Deep.RegionHeld3
import Derived.Deep.DeepCutAuto
namespace Go.Proofs.Ytjgnailkfmgikaa
open Go.RowKit Go.Maps

/-- Two cells and all that lay. -/
def TwoS (W : World) (b o : Nat) (m : Int × Int) (X : World) : Prop := X.cell? ⟨b, o, none⟩ = some (.int .i64 m.1) ∧ X.cell? ⟨b, o + 1, none⟩ = some (.int .i64 m.2) ∧ Below W.heap.size W X
theorem TwoS.call {W X Y : World} {b o : Nat} {m : Int × Int} (h : TwoS W b o m X) (hb : Below X.heap.size X Y) (hg : b < W.heap.size) : TwoS W b o m Y :=
  ⟨(hb.cell (p := ⟨b, o, none⟩) (by have := h.2.2.size; show b < _; omega)).trans h.1, (hb.cell (p := ⟨b, o + 1, none⟩) (by have := h.2.2.size; show b < _; omega)).trans h.2.1, bel_call h.2.2 hb⟩
theorem TwoS.drew {W X : World} {b o : Nat} {m : Int × Int} (h : TwoS W b o m X) : TwoS W b o m X.drew := ⟨h.1, h.2.1, h.2.2.drew⟩

set_option maxRecDepth 100000 in
set_option maxHeartbeats 4000000 in
theorem movesFan_c (w : World) (n : Int) (back : Bool) :
    Calls Try.prog 6 #[.int .i64 n, .bool back] w fun e w' => e = .returned (.bool true) ∧ Below w.heap.size w w' := by
  go_enter Try.func6, Try.ntmps6
  go_wp2_with fail
  refine (alive20_c w).mono ?_
  rintro e w1 ⟨rfl, hB1⟩
  by_cases h2 : n < 2
  · have hd : decide (n < 2) = true := by simpa using h2
    go_wp2_with fail
    go_ret
    exact ⟨rfl, hB1⟩
  have hd2 : decide (n < 2) = false := by simpa using (by omega : 2 ≤ n)
  by_cases h40 : 40 < n
  · have hd : decide (n > 40) = true := by simpa using h40
    go_wp2_with fail
    go_ret
    exact ⟨rfl, hB1⟩
  have hd40 : decide (n > 40) = false := by simpa using (by omega : n ≤ 40)
  obtain ⟨N, rfl⟩ : ∃ N : Nat, n = N := ⟨n.toNat, by omega⟩
  have hN2 : 2 ≤ N := by omega
  have hN40 : N ≤ 40 := by omega
  clear h2 h40
  go_wp2_with fail
  go_loopg [6, 7] N (fun g s6 i wr => ∃ (k : Nat) (a6 : Option Addr) (c6 : Nat), k + g = N ∧ i = .int .i64 ((k : Int) + 1) ∧ s6 = .slice a6 k c6 ∧ wr.ownsRow w.heap.size 30 2 (.slice a6 k c6) k (pairs (Mv.fanS k false)) ∧ Below w.heap.size w wr)
  case atStart => exact ⟨0, none, 0, by omega, rfl, rfl, World.ownsRow_nil _ _ _ _, hB1⟩
  case round =>
    obtain ⟨k, a6, c6, hk, rfl, rfl, ho, hb⟩ := hrel
    clear hB1
    have hsz := hb.size
    have hlk := Mv.fanS_length k false
    simp only [Bool.false_eq_true, if_false, Nat.add_zero] at hlk
    by_cases hlt : k < N
    · have hst := Mv.fanS_succ k
      have HST : Hid (Mv.fanS (k + 1) false = Mv.fanS k false ++ [((k : Int) + 1, 0)]) := hst
      have ho2 : wr.ownsRow w.heap.size 30 2 (.slice a6 k c6) (Mv.fanS k false).length (pairs (Mv.fanS k false)) := by rw [hlk]; exact ho
      have HLK : Hid ((Mv.fanS k false).length = k) := hlk
      have hle : decide ((k : Int) + 1 ≤ (N : Int)) = true := by simp; omega
      clear hst hlk ho
      go_wp2_with (at_builtin; refine stop_here ?_)
      refine stop_go (app_pair rfl _ _ rfl w.heap.size _ (Mv.fanS k false) rfl (owns_keep ho2 fun b hb => Below.heap_alloc _ _ _ (ho2.lt b hb).2) _ ((k : Int) + 1, 0) rfl (heap_alloc_eq _ _ _ rfl) (by have := HLK.out; omega) (by simp; omega) ?_)
      intro v' w' ho3 hg3 _
      have hb3 : Below w.heap.size w w' := bel_grown (bel_alloc hb _) hg3 (fun k hk => (ho2.lt k hk).1)
      rw [← HST.out] at ho3
      have hl3 := Mv.fanS_length (k + 1) false
      simp only [Bool.false_eq_true, if_false, Nat.add_zero] at hl3
      rw [hl3] at ho3
      obtain ⟨a9, c9, rfl⟩ : ∃ a c, v' = .slice a (k + 1) c := by
        rcases owns_nilcase ho3 with ⟨_, h2, _⟩ | ⟨g, c, h2⟩
        · simp at h2
        · exact ⟨_, c, h2⟩
      clear hg3 hl3 ho2 hb
      go_wp2_with fail
      go_roundg (gk - 1)
      case measure => omega
      case rel => exact ⟨k + 1, a9, c9, by omega, by go_num, rfl, ho3, hb3⟩
    · have hke : k = N := by omega
      have hle : decide ((k : Int) + 1 ≤ (N : Int)) = false := by simp; omega
      subst hke
      have hmem : ∀ m ∈ Mv.fanS k back, (0 ≤ m.1 ∧ m.1 ≤ 40) ∧ (0 ≤ m.2 ∧ m.2 ≤ 40) := fun m hm => by
        rcases Mv.fanS_mem.1 hm with ⟨i, hi, rfl⟩ | ⟨_, rfl⟩
        · dsimp only; omega
        · decide
      have hL64 : ∀ m ∈ Mv.fanS k back, In64 m.1 ∧ In64 m.2 := fun m hm => by
        obtain ⟨h1, h2⟩ := hmem m hm
        exact ⟨in64_small (by omega) (by omega), in64_small (by omega) (by omega)⟩
      have hL99 : ∀ m ∈ Mv.fanS k back, m.1 ≠ 99 ∧ m.2 ≠ 99 := fun m hm => by
        obtain ⟨h1, h2⟩ := hmem m hm
        omega
      have honce := Mv.fanS_once k back
      have hord := Mv.fanS_ord k back
      have hnone := fun G out (hd : Mv.FDone (Mv.fanS k back) G out) x => Mv.fanS_none hN2 hd x
      have hLlen : (Mv.fanS k back).length ≤ 1000 := by rw [Mv.fanS_length]; split <;> omega
      have hbad : ¬ BadS (Mv.fanS k back) 99 := by
        rintro (h1 | ⟨m, hm, h1⟩)
        · exact h1 honce
        · exact h1.elim (hL99 m hm).1 (hL99 m hm).2
      have hlb : (Mv.fanS k true).length = k + 1 := by rw [Mv.fanS_length]; rfl
      have HLB : Hid ((Mv.fanS k true).length = k + 1 ∧ Mv.fanS k true = Mv.fanS k false ++ [(0, 1)] ∧ (Mv.fanS k false).length = k) := ⟨hlb, Mv.fanS_back k, hlk⟩
      obtain ⟨L, HL⟩ : ∃ L, Hid (Mv.fanS k back = L) := ⟨_, (rfl : Mv.fanS k back = Mv.fanS k back)⟩
      rw [HL.out] at hmem hL64 hL99 honce hord hLlen hbad
      have HF : Hid ((∀ m ∈ L, In64 m.1 ∧ In64 m.2) ∧ (∀ m ∈ L, m.1 ≠ 99 ∧ m.2 ≠ 99) ∧ Mv.Once L ∧ (Mv.ordS L).length = L.length ∧ ¬ BadS L 99 ∧ ∀ G out, Mv.FDone L G out → ∀ x, G x = none) := ⟨hL64, hL99, honce, hord, hbad, by rw [← HL.out]; exact hnone⟩
      clear hmem hL64 hL99 honce hord hbad hnone hlb hlk
      go_upto_if 33 with fail
      go_cut [6] (fun s6 wx => ∃ a c, s6 = .slice a L.length c ∧ wx.ownsRow w.heap.size 30 2 (.slice a L.length c) L.length (pairs L) ∧ Below w.heap.size w wx)
      case first =>
        cases back with
        | false =>
          have ho4 : wr.ownsRow w.heap.size 30 2 (.slice a6 L.length c6) L.length (pairs L) := by rw [← HL.out, HLB.out.2.2]; exact ho
          have hLk : L.length = k := by rw [← HL.out]; exact HLB.out.2.2
          have HLK : Hid (L.length = k) := hLk
          clear hLk HLB ho HL
          go_wp2_with fail
          go_meet
          exact ⟨a6, c6, by rw [HLK.out], ho4, hb⟩
        | true =>
          have ho2 : wr.ownsRow w.heap.size 30 2 (.slice a6 k c6) (Mv.fanS k false).length (pairs (Mv.fanS k false)) := by rw [HLB.out.2.2]; exact ho
          have HLL : Hid (L = Mv.fanS k false ++ [(0, 1)] ∧ L.length = k + 1) := by rw [← HL.out]; exact ⟨HLB.out.2.1, HLB.out.1⟩
          clear ho HL
          go_wp2_with (at_builtin; refine stop_here ?_)
          refine stop_go (app_pair rfl _ _ rfl w.heap.size _ (Mv.fanS k false) rfl (owns_keep ho2 fun b hb => Below.heap_alloc _ _ _ (ho2.lt b hb).2) _ (0, 1) rfl (heap_alloc_eq _ _ _ rfl) (by have := HLB.out.2.2; omega) (by simp; omega) ?_)
          intro v' w' ho3 hg3 _
          have hb3 : Below w.heap.size w w' := bel_grown (bel_alloc hb _) hg3 (fun k hk => (ho2.lt k hk).1)
          rw [← HLL.out.1] at ho3
          obtain ⟨a9, c9, rfl⟩ : ∃ a c, v' = .slice a L.length c := by
            rcases owns_nilcase ho3 with ⟨_, h2, _⟩ | ⟨g, c, h2⟩
            · have := HLL.out.2; omega
            · exact ⟨_, c, h2⟩
          clear hg3 ho2 hb HLL HLB
          go_wp2_with fail
          go_meet
          exact ⟨a9, c9, rfl, ho3, hb3⟩
      case rest =>
        obtain ⟨a, c, rfl, hoL, hbL⟩ := hcut
        clear ho hb HLB HL hsz
        have hip : IsPairs (· < wc.heap.size) wc (.slice a L.length c) L := pairs_of_owns hoL (by omega) (fun _ _ _ hb => hb)
        have HLN : Hid (L.length ≤ 1000) := hLlen
        clear hLlen hoL
        go_wp2_with fail
        refine (seq_c wc 99 hip HLN.out HF.out.1).mono ?_
        rintro e w3 ⟨hb3, ⟨hbad, -⟩ | ⟨-, G, out0, n, H, out, v, rfl, ho3, hd, hs⟩⟩
        · exact absurd hbad HF.out.2.2.2.2.1
        · have hn : n = 0 := hs.c.cnt.none fun x _ => HF.out.2.2.2.2.2 G out0 hd x
          obtain ⟨hlen, haft, -, -, -⟩ := hs.fin HF.out.2.2.1 HF.out.2.1
          have hscr := hs.scratch hn HF.out.2.1
          rw [hn, HF.out.2.2.2.1, Nat.add_zero] at hlen
          have hB3 := bel_call hbL hb3
          have hip3 : IsPairs (· < w3.heap.size) w3 (.slice a L.length c) L := (hip.keep (Keep.belowB hb3)).keep (Keep.refl w3 fun x hx _ => by have := hb3.size; omega)
          have his3 : IsPairs (· < w3.heap.size) w3 v out := pairs_of_owns ho3 (by have := HLN.out; omega) (fun _ _ _ hb => hb)
          have hol : out.length ≤ 10000 := by have := HLN.out; omega
          obtain ⟨va, vc, hv, -⟩ := id his3
          subst hv
          have HA : Hid ((∀ m ∈ L, Mv.aft out m.1 = m.2) ∧ Mv.aft out 99 = 99 ∧ out.length ≤ 10000) := ⟨haft, hscr, hol⟩
          rw [hlen] at his3 ⊢
          have hHl : Hid (out.length = L.length) := hlen
          clear hlen haft hscr hol hd hs hn ho3 hb3 hip hbL
          go_wp2_with fail
          refine (num_c 0 _).mono ?_
          rintro e w' ⟨rfl, rfl⟩
          go_wp2_with fail
          refine (cycles_c w3 hip3 HLN.out HF.out.1).mono ?_
          rintro e w4 ⟨hb4, n2, rfl, -, hn2⟩
          obtain ⟨G2, out2, hd2, hc2⟩ := hn2 HF.out.2.2.1
          have hn0 : n2 = 0 := hc2.none fun x _ => HF.out.2.2.2.2.2 G2 out2 hd2 x
          subst hn0
          have hB4 := bel_call hB3 hb4
          have hip4 := (hip3.keep (Keep.below hb4)).keep (Keep.refl (p' := (· < w4.heap.size)) w4 fun _ _ hb => hb)
          have his4 := (his3.keep (Keep.below hb4)).keep (Keep.refl (p' := (· < w4.heap.size)) w4 fun _ _ hb => hb)
          clear hn2 hd2 hc2 hb4 hip3 his3 hB3
          go_wp2_with fail
          go_loopg [10] L.length (fun g i wr => ∃ k : Nat, k + g = L.length ∧ i = .int .i64 k ∧ Below w4.heap.size w4 wr)
          case atStart => exact ⟨0, by omega, rfl, bel_refl _⟩
          case round =>
            obtain ⟨j, hj, rfl, hb5⟩ := hrel
            have hjn : L.length ≤ 1000 := HLN.out
            have hB5 := bel_call hB4 hb5
            have his5 := (his4.keep (Keep.below hb5)).keep (Keep.refl (p' := (· < wr.heap.size)) wr fun _ _ hb => hb)
            by_cases hjl : j < L.length
            · obtain ⟨_, _, hv0, -, hx⟩ := (hip4.keep (Keep.below hb5)).keep (Keep.refl (p' := (· < wr.heap.size)) wr fun _ _ hb => hb)
              simp only [Value.slice.injEq, true_and] at hv0
              obtain ⟨rfl, rfl⟩ := hv0
              rcases hx with rfl | ⟨lb, lo, rfl, hpb, hx⟩
              · simp at hjl
              obtain ⟨t0, t1⟩ := hx j hjl
              clear hx
              have hm := HA.out.1 L[j] (List.getElem_mem hjl)
              obtain ⟨⟨x, y⟩, HM⟩ : ∃ m, Hid (L[j] = m) := ⟨L[j], (rfl : L[j] = L[j])⟩
              rw [HM.out] at t0 t1 hm
              dsimp only at t0 t1 hm
              have HXY : Hid (Mv.aft out x = y) := hm
              have hA : ∀ X, TwoS wr lb (lo + j * 2) (x, y) X → Calls Try.prog 15 #[.slice va L.length vc, .int .i64 x] X fun e Y => e = .returned (.int .i64 y) ∧ TwoS wr lb (lo + j * 2) (x, y) Y := by
                intro X hX
                have hi : IsPairs (· < wr.heap.size) X (.slice va L.length vc) out := his5.keep (Keep.below hX.2.2)
                refine (after_c X x hi HA.out.2.2).mono ?_
                rintro e Y ⟨rfl, hb⟩
                rw [HXY.out]
                exact ⟨rfl, hX.call hb hpb⟩
              have hE0 : TwoS wr lb (lo + j * 2) (x, y) wr := ⟨t0, t1, bel_refl _⟩
              have hyy : (y != y) = false := by simp
              clear hm his5
              go_upto_region 17 with fail
              go_cut [76] (fun bb wx => bb = .bool false ∧ TwoS wr lb (lo + j * 2) (x, y) wx)
              case first =>
                go_region_held3 (fun X => X.cell? ⟨lb, lo + j * 2, none⟩ = some (.int .i64 x) ∧ X.cell? ⟨lb, lo + j * 2 + 1, none⟩ = some (.int .i64 y) ∧ TwoS wr lb (lo + j * 2) (x, y) X) (first | exact ⟨hE0.1, hE0.2.1, hE0⟩ | exact ⟨hE0.1, hE0.2.1, hE0.drew⟩ | exact ⟨hEa.1, hEa.2.1, hEa⟩)
                  (first
                    | (go_at_call 15; refine (hA _ hE0.drew).mono ?_; rintro e Ya ⟨rfl, hEa⟩))
                all_goals (try go_wp2_with fail)
                all_goals go_meet
                all_goals exact ⟨by simp, by assumption⟩
              case rest =>
                obtain ⟨rfl, hE⟩ := hcut
                have hb6 := bel_call hb5 hE.2.2
                clear hA hE0 t0 t1 hE hb5 hB5
                go_wp2_with fail
                go_roundg (gk - 1)
                case measure => omega
                case rel => exact ⟨j + 1, by omega, by go_num, hb6⟩
            · go_wp2_with fail
              refine (after_c wr 99 his5 (by rw [← hHl.out] at *; exact HA.out.2.2)).mono ?_
              rintro e w6 ⟨rfl, hb6⟩
              rw [HA.out.2.1]
              have hB6 := bel_call hB5 hb6
              clear his5
              go_wp2_with fail
              go_ret
              exact ⟨rfl, hB6⟩
end Go.Proofs.Ytjgnailkfmgikaa
