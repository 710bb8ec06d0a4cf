/- The law MovesStill. -/
import Derived.Test.YtjgnailkfmgikaaMvAlive
import Derived.Test.YtjgnailkfmgikaaMvOpen
import Derived.Deep.RegionLaw
import Derived.Deep.AppendLies
namespace Go.Proofs.Ytjgnailkfmgikaa
open Go.RowKit Go.Maps

/-- Each place to itself. -/
def stay (xs : List Int) : List (Int × Int) := xs.map fun x => (x, x)
theorem stay_once {xs : List Int} (h : xs.Nodup) : Mv.Once (stay xs) := by
  unfold Mv.Once stay; rw [List.map_map]
  have : ((fun m : Int × Int => m.1) ∘ fun x => (x, x)) = id := rfl
  rw [this, List.map_id]; exact h
theorem stay_ord (xs : List Int) : Mv.ordS (stay xs) = [] := by
  unfold Mv.ordS Mv.unl stay
  rw [List.map_eq_nil_iff, List.filter_eq_nil_iff]
  intro m hm
  obtain ⟨x, _, rfl⟩ := List.mem_map.1 hm
  simp
theorem stay_snoc (xs : List Int) (x : Int) : stay (xs ++ [x]) = stay xs ++ [(x, x)] := by simp [stay]
theorem stay_length (xs : List Int) : (stay xs).length = xs.length := by simp [stay]

set_option maxRecDepth 100000 in
set_option maxHeartbeats 4000000 in
theorem movesStill_c {p : Nat → Prop} {v : Value} {xs : List Int} (w : World) (h0 : IsInts p w v xs ∧ ∀ x ∈ xs, In64 x) :
    Calls Try.prog 7 #[v] w fun e w' => e = .returned (.bool true) ∧ Below w.heap.size w w' := by
  obtain ⟨h0, h64⟩ := h0
  have h : IsInts (· < w.heap.size) w v xs := h0.keep (Keep.refl w fun _ _ hb => hb)
  clear h0
  obtain ⟨a, cap, hv, hlen, _⟩ := id h
  subst hv
  go_enter Try.func7, Try.ntmps7
  go_wp2_with fail
  refine (alive20_c w).mono ?_
  rintro e w1 ⟨rfl, hB1⟩
  by_cases h40 : 40 < xs.length
  · have hd : decide ((xs.length : Int) > 40) = true := by simpa using (by omega : (40 : Int) < xs.length)
    go_wp2_with fail
    go_ret
    exact ⟨rfl, hB1⟩
  · have hd : decide ((xs.length : Int) > 40) = false := by simpa using (by omega : (xs.length : Int) ≤ 40)
    go_wp2_with fail
    go_loopg [4, 5] xs.length (fun g s4 i wr => ∃ (k : Nat) (a4 : Option Addr) (c4 : Nat), k + g = xs.length ∧ i = .int .i64 k ∧ s4 = .slice a4 k c4 ∧ wr.ownsRow w.heap.size 30 2 (.slice a4 k c4) k (pairs (stay (xs.take k))) ∧ Hid ((xs.take k).Nodup ∧ (99 : Int) ∉ xs.take k) ∧ Below w.heap.size w wr)
    case atStart => exact ⟨0, none, 0, by omega, rfl, rfl, World.ownsRow_nil _ _ _ _, (⟨by simp, by simp⟩ : (xs.take 0).Nodup ∧ (99 : Int) ∉ xs.take 0), hB1⟩
    case round =>
      obtain ⟨k, a4, c4, hk, rfl, rfl, ho, hN, hb⟩ := hrel
      clear hB1
      have hsz := hb.size
      have hlk : (stay (xs.take k)).length = k := by rw [stay_length, List.length_take]; omega
      by_cases hlt : k < xs.length
      · obtain ⟨_, _, hv0, -, hx⟩ := h.keep (Keep.belowB hb)
        simp only [Value.slice.injEq, true_and] at hv0
        obtain ⟨rfl, rfl⟩ := hv0
        rcases hx with rfl | ⟨b, off, rfl, hpb, hx⟩
        · simp at hlt
        have HX : Hid (∀ j (hj : j < xs.length), wr.cell? ⟨b, off + j, none⟩ = some (.int .i64 xs[j])) := fun j hj => by have := hx j hj; simpa [CInt] using this
        clear hx
        have t0 := HX.out k hlt
        have htk := List.take_succ_eq_append_getElem hlt
        obtain ⟨x, HXK⟩ : ∃ x, Hid (xs[k] = x) := ⟨xs[k], (rfl : xs[k] = xs[k])⟩
        rw [HXK.out] at t0 htk
        have HTK : Hid (xs.take (k + 1) = xs.take k ++ [x]) := htk
        clear htk
        go_wp2_with fail
        obtain ⟨go, hgo⟩ : ∃ go, go = gk := ⟨gk, rfl⟩
        go_loopg [6] k (fun g i wx => ∃ (j n : Nat), j + g = k ∧ i = .int .i64 j ∧ Hid (∀ i (hi : i < xs.length), i < j → xs[i] ≠ x) ∧ wx = wr.drewN n)
        case atStart => exact ⟨0, 0, by omega, rfl, (fun i _ hi => by omega), rfl⟩
        case round =>
          obtain ⟨j, n, hj, rfl, hP, rfl⟩ := hrel
          by_cases hjk : j < k
          · have t1 := HX.out j (by omega)
            obtain ⟨y, HY⟩ : ∃ y, Hid (xs[j]'(by omega) = y) := ⟨xs[j]'(by omega), (rfl : xs[j]'(by omega) = xs[j]'(by omega))⟩
            rw [HY.out] at t1
            by_cases he : y = x
            · have hd2 : (y == x) = true := by simpa using he
              clear he
              go_wp2_with fail
              go_quiet (fail)
              go_wp2_with fail
              go_ret
              exact ⟨rfl, bel_drewN (bel_drewN hb _) _⟩
            · have hd2 : (y == x) = false := beq_eq_false_iff_ne.2 he
              have hP2 : Hid (∀ i (hi : i < xs.length), i < j + 1 → xs[i] ≠ x) := fun i hi hij => by
                by_cases e : i = j
                · subst e; rw [HY.out]; exact he
                · exact hP.out i hi (by omega)
              clear he hP
              go_wp2_with fail
              go_quiet (fail)
              go_wp2_with fail
              go_roundg (gk - 1)
              case measure => omega
              case rel => exact ⟨j + 1, _, by omega, by go_num, hP2, rfl⟩
          · have hje : j = k := by omega
            subst hje
            have hfr : x ∉ xs.take j := fun hm => by
              obtain ⟨i, hi, e⟩ := List.mem_iff_getElem.1 hm
              rw [List.getElem_take] at e
              exact hP.out i (by simp at hi; omega) (by simp at hi; omega) e
            by_cases h99 : x = 99
            · have hd2 : (x == 99) = true := by simpa using h99
              clear h99
              go_wp2_with fail
              go_ret
              exact ⟨rfl, bel_drewN hb _⟩
            · have hd2 : (x == 99) = false := beq_eq_false_iff_ne.2 h99
              have hN3 : Hid ((xs.take (j + 1)).Nodup ∧ (99 : Int) ∉ xs.take (j + 1)) := by
                rw [HTK.out]
                exact ⟨Mv.Path.nodup_snoc hN.out.1 hfr, by simp; exact ⟨hN.out.2, fun e => h99 e.symm⟩⟩
              clear h99 hfr hP hN
              have ho5 : (wr.drewN n).ownsRow w.heap.size 30 2 (.slice a4 j c4) j (pairs (stay (xs.take j))) := ho
              have hb5 : Below w.heap.size w (wr.drewN n) := bel_drewN hb n
              have t5 : (wr.drewN n).cell? ⟨b, off + j, none⟩ = some (.int .i64 x) := t0
              clear ho hb t0 HX hsz h
              go_wp2_with fail
              generalize wr.drewN n = W5 at ho5 hb5 t5 ⊢
              obtain ⟨i0, hi0, hz0, hz1, hz2⟩ := info_parts infoPair
              have hbl := lt_of_cell t5
              have hB5 := hb5.size
              have hp1 : pairs (stay (xs.take j)) ++ [Value.int .i64 x, .int .i64 x] = pairs (stay (xs.take (j + 1))) := by rw [HTK.out, stay_snoc]; simp [pairs]
              have hT : ∀ gg cp w1, w1.ownsRow w.heap.size 30 2 (.slice (some ⟨gg, 0, none⟩) (j + 1) cp) (j + 1) (pairs (stay (xs.take j)) ++ [Value.int .i64 x, .int .i64 x]) → ((W5.alloc (.cells #[.int .i64 x, .int .i64 x] 30)).drew).grownBy w1 (Value.slice a4 j c4).ownBlock →
                  w1.ownsRow w.heap.size 30 2 (.slice (some ⟨gg, 0, none⟩) (j + 1) cp) (j + 1) (pairs (stay (xs.take (j + 1)))) ∧ Below w.heap.size w w1 := by
                intro gg cp w1 ho hg
                rw [hp1] at ho
                exact ⟨ho, bel_grown ((bel_alloc hb5 _).drew) hg (fun k hk => (ho5.lt k hk).1)⟩
              clear hb5 hp1 HTK
              go_region_law (first | refine step_append_lies _ (by rfl) _ _ _ (by rfl) w.heap.size 30 i0 _ 2 16 Try.underlying22 hi0 hz0 hz1 hz2 rfl (by omega) (.slice a4 j c4) j (pairs (stay (xs.take j))) (by rfl) ((ho5.alloc _).drew) ⟨W5.heap.size, 0, none⟩ 1 1 [.int .i64 x, .int .i64 x] (by rfl) (by rfl) (World.news_of_block (cs := #[.int .i64 x, .int .i64 x]) (t := 30) (fr := (0, 0)) (heap_alloc_new W5 _)) (by simp [Value.oneCell']) (by omega) (by unfold maxLen; omega) (by omega) (by simp; omega) (W5.heap.size + 1) (by simp) ?_; intro gg cp w1 hown1 hgrow hat hlt; obtain ⟨ho6, hb6⟩ := hT _ _ _ hown1 hgrow)
              all_goals
                (try go_wp2_with fail)
                go_roundg (go - 1)
                case measure => omega
                case rel => exact ⟨j + 1, _, cp, by omega, by go_num, by go_num, ho6, hN3, hb6⟩
      · have hke : k = xs.length := by omega
        have hN2 := hN.out
        rw [hke, List.take_length] at hN2 ho
        have hsl := stay_length xs
        rw [← hsl] at ho hke
        have hip : IsPairs (fun _ => True) wr (.slice a4 (stay xs).length c4) (stay xs) := pairs_of_owns ho (by omega) (fun _ _ _ _ => trivial)
        have hip2 : IsPairs (· < wr.heap.size) wr (.slice a4 (stay xs).length c4) (stay xs) := pairs_of_owns ho (by omega) (fun _ _ _ hb => hb)
        have ho1 := stay_once hN2.1
        have hnb : ¬ BadS (stay xs) 99 := by
          rintro (h1 | ⟨m, hm, h1⟩)
          · exact h1 ho1
          · unfold stay at hm
            obtain ⟨x, hx, rfl⟩ := List.mem_map.1 hm
            simp at h1; subst h1; exact hN2.2 hx
        have hm64 : ∀ m ∈ stay xs, In64 m.1 ∧ In64 m.2 := fun m hm => by
          unfold stay at hm
          obtain ⟨x, hx, rfl⟩ := List.mem_map.1 hm
          exact ⟨h64 x hx, h64 x hx⟩
        have hor := stay_ord xs
        subst hke
        have HL : Hid ((stay xs).length = xs.length ∧ (stay xs).length ≤ 1000) := ⟨hsl, by omega⟩
        obtain ⟨m, HM⟩ : ∃ m, Hid (stay xs = m) := ⟨stay xs, (rfl : stay xs = stay xs)⟩
        rw [HM.out] at hip hip2 ho1 hnb hm64 hor HL ⊢
        have HB : Hid (Mv.Once m ∧ ¬ BadS m 99 ∧ (∀ x ∈ m, In64 x.1 ∧ In64 x.2) ∧ Mv.ordS m = []) := ⟨ho1, hnb, hm64, hor⟩
        have hd9 : decide (m.length < xs.length) = false := by have := HL.out.1; simp; omega
        have hd8 : decide ((m.length : Int) < (xs.length : Int)) = false := by have := HL.out.1; simp; omega
        clear hN hN2 ho hsl hlk ho1 hnb hm64 hor hlt
        go_wp2_with fail
        refine (seq_c wr 99 hip HL.out.2 HB.out.2.2.1).mono ?_
        rintro e w3 ⟨hb3, ⟨hbad, -⟩ | ⟨-, G, out0, n, H, out, v, rfl, ho3, hd, hs⟩⟩
        · exact absurd hbad HB.out.2.1
        · have hn : n = 0 := hs.c.cnt.none (by rw [HB.out.2.2.2]; intro x hx; simp at hx)
          have hlen := (hs.fin HB.out.1 (fun m hm => by
            have h9 := HB.out.2.1
            exact ⟨fun e => h9 (.inr ⟨m, hm, .inl e⟩), fun e => h9 (.inr ⟨m, hm, .inr e⟩)⟩)).1
          rw [HB.out.2.2.2, hn] at hlen
          simp only [List.length_nil, Nat.add_zero] at hlen
          obtain ⟨va, vc, rfl⟩ : ∃ a c, v = .slice a 0 c := by
            rcases owns_nilcase ho3 with ⟨h1, _, _⟩ | ⟨g, c, h1⟩
            · exact ⟨none, 0, h1⟩
            · rw [hlen] at h1; exact ⟨_, c, h1⟩
          have hB3 := bel_call hb hb3
          have hip3 : IsPairs (· < wr.heap.size) w3 _ m := hip2.keep (Keep.belowB hb3)
          clear hd hs hn hlen ho3 hb3 hip hip2 hb
          go_wp2_with fail
          refine (num_c 0 _).mono ?_
          rintro e w' ⟨rfl, rfl⟩
          go_wp2_with fail
          refine (cycles_c w3 hip3 HL.out.2 HB.out.2.2.1).mono ?_
          rintro e w4 ⟨hb4, n2, rfl, -, hn2⟩
          obtain ⟨G2, out2, hd2, hc2⟩ := hn2 HB.out.1
          have hn0 : n2 = 0 := hc2.none (by rw [HB.out.2.2.2]; intro x hx; simp at hx)
          subst hn0
          have hB4 := bel_call hB3 hb4
          clear hn2 hd2 hc2
          go_wp2_with fail
          go_ret
          exact ⟨rfl, hB4⟩
end Go.Proofs.Ytjgnailkfmgikaa
