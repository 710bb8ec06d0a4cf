/- The example of the document: two places exchanged. -/
import Derived.Test.YtjgnailkfmgikaaMvAfter
namespace Go.Proofs.Ytjgnailkfmgikaa
open Go.RowKit Go.Maps

theorem num_c (n : Int) (w : World) : Calls Try.prog 11 #[.int .i64 n] w fun e w' => e = .returned (.int .i64 n) ∧ w = w' := by
  go_enter Try.func11, Try.ntmps11
  go_wp2
  go_ret
  exact ⟨rfl, rfl⟩

theorem pairs_of_block {W : World} {g : Nat} {e : TypeId} {xs : List (Int × Int)} {p : Nat → Prop} (h : W.heap[g]? = some (.cells (pairs xs).toArray e (0, 0))) (hp : p g) (hl : xs.length ≤ 140737488351232) : IsPairs p W (.slice (some ⟨g, 0, none⟩) xs.length xs.length) xs := by
  refine ⟨_, _, rfl, ⟨Nat.le_refl _, hl⟩, .inr ⟨g, 0, rfl, hp, fun j hj => ?_⟩⟩
  obtain ⟨g1, g2⟩ := pairs_get hj
  have hc : ∀ k, W.cell? ⟨g, k, none⟩ = (pairs xs)[k]? := fun k => by simp [World.cell?, h]
  exact ⟨by rw [Nat.zero_add, hc, g1], by rw [Nat.zero_add, hc, g2]⟩

theorem ex_not_bad : ¬ BadS [(1, 2), (2, 1)] 9 := by
  rintro (h | ⟨m, hm, h⟩)
  · exact h Mv.ex_once
  · simp at hm; rcases hm with rfl | rfl <;> simp at h
theorem ex_64 : ∀ m ∈ [((1 : Int), (2 : Int)), (2, 1)], In64 m.1 ∧ In64 m.2 := by
  intro m hm
  simp at hm
  rcases hm with rfl | rfl
  · exact ⟨in64_small (by decide) (by decide), in64_small (by decide) (by decide)⟩
  · exact ⟨in64_small (by decide) (by decide), in64_small (by decide) (by decide)⟩

set_option maxRecDepth 100000 in
set_option maxHeartbeats 1000000 in
theorem alive20_c (w : World) : Calls Try.prog 8 #[] w fun e w' => e = .returned (.bool true) ∧ Below w.heap.size w w' := by
  go_enter Try.func8, Try.ntmps8
  go_wp2_with fail
  refine (seq_c (l := [(1, 2), (2, 1)]) (p := fun _ => True) _ 9 (pairs_of_block (e := 30) (heap_alloc_eq _ _ _ rfl) trivial (by decide)) (by decide) ex_64).mono ?_
  rintro e w1 ⟨hb1, ⟨hbad, -⟩ | ⟨-, G, out0, n, H, out, v, rfl, ho, hd, hs⟩⟩
  · exact absurd hbad ex_not_bad
  · obtain ⟨hlen, haft, -, -, hcnt⟩ := hs.fin Mv.ex_once (fun m hm => by simp at hm; rcases hm with rfl | rfl <;> decide)
    have hn := Mv.ex_cnt hd hcnt
    subst hn
    have hl3 : out.length = 3 := by rw [hlen]; decide
    have e1 := haft (1, 2) (by simp)
    have e2 := haft (2, 1) (by simp)
    dsimp only at e1 e2
    have hB1 := bel_call (bel_alloc (bel_refl w) _) hb1
    have hip : IsPairs (fun b => b < w1.heap.size) w1 v out := pairs_of_owns ho (by omega) (fun _ _ _ hb => hb)
    obtain ⟨g, c, rfl⟩ : ∃ g c, v = .slice (some ⟨g, 0, none⟩) 3 c := by
      rcases owns_nilcase ho with ⟨_, h2, _⟩ | ⟨g, c, h2⟩
      · omega
      · rw [hl3] at h2; exact ⟨g, c, h2⟩
    have HE : Hid (Mv.aft out 1 = 2 ∧ Mv.aft out 2 = 1) := ⟨e1, e2⟩
    have HOL : Hid (out.length ≤ 10000) := by show _ ≤ _; omega
    clear haft hcnt hs hd hlen e1 e2 ho hl3 hb1
    go_wp2_with fail
    refine (num_c 0 _).mono ?_
    rintro e w' ⟨rfl, rfl⟩
    go_wp2_with fail
    refine (after_c w1 1 hip HOL.out).mono ?_
    rintro e w2 ⟨rfl, hb2⟩
    rw [HE.out.1]
    have hip2 := hip.keep (Keep.belowB hb2)
    have hB2 := bel_call hB1 hb2
    clear hip hb2 hB1
    go_wp2_with fail
    refine (after_c w2 2 hip2 HOL.out).mono ?_
    rintro e w3 ⟨rfl, hb3⟩
    rw [HE.out.2]
    have hB3 := bel_call hB2 hb3
    clear hip2 hb3 hB2
    go_wp2_with fail
    refine (cycles_c (l := [(1, 2), (2, 1)]) (p := fun _ => True) _ (pairs_of_block (e := 30) (heap_alloc_eq _ _ _ rfl) trivial (by decide)) (by decide) ex_64).mono ?_
    rintro e w4 ⟨hb4, n, rfl, -, hn⟩
    obtain ⟨G2, out2, hd2, hc2⟩ := hn Mv.ex_once
    have hn1 := Mv.ex_cnt hd2 hc2
    subst hn1
    have hB4 := bel_call (bel_alloc hB3 _) hb4
    clear hn hd2 hc2 hb4 hB3
    go_wp2_with fail
    go_ret
    exact ⟨rfl, hB4⟩
end Go.Proofs.Ytjgnailkfmgikaa
