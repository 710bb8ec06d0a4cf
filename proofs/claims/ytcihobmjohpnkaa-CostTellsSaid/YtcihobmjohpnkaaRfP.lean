/- The reference's 'Filter', 'Put', 'back': the walks. -/
import Derived.Test.YtcihobmjohpnkaaLvB
import Derived.Test.YtcihobmjohpnkaaLvD
import Derived.Deep.QuietTactic
import Derived.BigQuiet
namespace Go.Proofs.Ytcihobmjohpnkaa
open Go.RowKit Go.Sort

theorem filterS_snoc (xs ys : List Int) (x : Int) (b : Bool) : filterS (xs ++ [x]) ys b = filterS xs ys b ++ (if inS ys x == b then [x] else []) := by
  unfold filterS; rw [List.filter_append]; cases h : inS ys x == b <;> simp [h]
theorem filterS_length (xs ys : List Int) (b : Bool) : (filterS xs ys b).length ≤ xs.length := List.length_filter_le _ _

set_option maxRecDepth 100000 in
set_option maxHeartbeats 2000000 in
theorem filter_c {va vb : Value} {xs ys : List Int} (w : World) (has : Bool) (h1 : IsInts (· < w.heap.size) w va xs) (h2 : IsInts (· < w.heap.size) w vb ys) (hl : xs.length ≤ 1000000) :
    Calls Try.prog 110 #[va, vb, .bool has] w fun e w' => ∃ z, e = .returned z ∧ w'.ownsRow w.heap.size 3 1 z (filterS xs ys has).length (ints (filterS xs ys has)) ∧ Below w.heap.size w w' := by
  obtain ⟨a, cap, rfl, -, hx⟩ := id h1
  obtain ⟨b, bcap, rfl, -, -⟩ := id h2
  go_enter Try.func110, Try.ntmps110
  go_wp2_with fail
  go_loopw [7, 8] (fun v i wr => ∃ k : Nat, k ≤ xs.length ∧ i = .int .i64 k ∧ wr.ownsRow w.heap.size 3 1 v (filterS (xs.take k) ys has).length (ints (filterS (xs.take k) ys has)) ∧ Below w.heap.size w wr) (fun _ i _ => xs.length - (intOf i).toNat)
  case atStart => exact ⟨0, by omega, rfl, World.ownsRow_nil _ _ _ _, bel_refl _⟩
  case round =>
    obtain ⟨k, hk, rfl, ho, hB⟩ := hrel
    by_cases hlt : k < xs.length
    · rcases hx with hx | ⟨g, off, rfl, hpb, hx⟩
      · rw [hx] at hlt; simp at hlt
      have c1 := hB.cell (p := ⟨g, off + k * 1, none⟩) hpb
      have c2 := hx k hlt
      unfold CInt at c2
      rw [c2] at c1
      rw [Nat.mul_one] at c1
      have h2' := h2.keep (Keep.belowB hB)
      have HE : Hid (filterS (xs.take (k + 1)) ys has = filterS (xs.take k) ys has ++ (if inS ys xs[k] == has then [xs[k]] else [])) := by
        rw [List.take_succ_eq_append_getElem hlt]; exact filterS_snoc _ _ _ _
      have hfl : (filterS (xs.take k) ys has).length ≤ 1000000 := Nat.le_trans (filterS_length _ _ _) (by simp; omega)
      obtain ⟨x, hxe⟩ : ∃ x, xs[k] = x := ⟨_, rfl⟩
      rw [hxe] at c1 HE
      have hsz := hB.size
      have hgl : g < w.heap.size := hpb
      clear hx hxe c2 hpb
      go_wp2_with fail
      refine (in_c wr h2').mono ?_
      rintro e W1 ⟨rfl, rfl⟩
      cases hb : inS ys x == has with
      | true =>
        rw [hb, if_pos rfl] at HE
        have hb' : (inS ys x == has) = true := hb
        go_wp2_with (at_builtin; refine stop_here ?_)
        refine stop_go (app_int rfl _ _ rfl w.heap.size u7 (filterS (xs.take k) ys has) rfl (ho.alloc _) _ _ rfl (heap_alloc_eq _ _ _ rfl) (by omega) (by simp <;> omega) ?_)
        intro v' w' ho2 hg hv
        have hB2 := bel_grown (bel_alloc hB _) hg (fun k hk => (ho.lt k hk).1)
        rw [← HE.out] at ho2
        clear ho hg hv hB HE
        go_wp2_with fail
        go_roundw
        case rel => exact ⟨k + 1, by omega, by go_num, ho2, hB2⟩
        case measure => simp [intOf]; omega
      | false =>
        rw [hb, if_neg (by simp), List.append_nil] at HE
        have hb' : (inS ys x == has) = false := hb
        have ho2 := ho
        rw [← HE.out] at ho2
        clear ho HE
        go_wp2_with fail
        go_roundw
        case rel => exact ⟨k + 1, by omega, by go_num, ho2, hB⟩
        case measure => simp [intOf]; omega
    · obtain rfl : k = xs.length := by omega
      rw [List.take_length] at ho
      go_wp2_with fail
      go_ret
      exact ⟨_, rfl, ho, hB⟩

theorem tw_at {xs : List Int} {n : Int} {k : Nat} (hk : k ≤ xs.length) (h1 : ∀ j (h : j < xs.length), j < k → xs[j] < n) (h2 : ∀ h : k < xs.length, n ≤ xs[k]) :
    (xs.takeWhile fun x => decide (x < n)) = xs.take k ∧ (xs.dropWhile fun x => decide (x < n)) = xs.drop k := by
  induction xs generalizing k with
  | nil => simp
  | cons x r ih =>
    cases k with
    | zero =>
      have := h2 (by simp)
      simp at this
      have e : ¬ x < n := by omega
      simp [e]
    | succ k =>
      have hx : x < n := h1 0 (by simp) (by omega)
      obtain ⟨i1, i2⟩ := ih (k := k) (by simpa using hk) (fun j h hj => by have := h1 (j + 1) (by simpa using h) (by omega); simpa using this) (fun h => by have := h2 (by simpa using h); simpa using this)
      simp [hx, i1, i2]
theorem putS_has {xs : List Int} {n : Int} {k : Nat} (hf : Bit.fits n = true) (hk : k < xs.length) (h1 : ∀ j (h : j < xs.length), j < k → xs[j] < n) (h2 : xs[k] = n) : putS xs n = xs := by
  unfold putS
  obtain ⟨e1, e2⟩ := tw_at (Nat.le_of_lt hk) h1 (fun h => by omega)
  rw [if_pos hf, e1, e2, List.drop_eq_getElem_cons hk]
  simp only [h2, if_true]
  rw [← h2, ← List.drop_eq_getElem_cons hk, List.take_append_drop]
theorem putS_new {xs : List Int} {n : Int} {k : Nat} (hf : Bit.fits n = true) (hk : k ≤ xs.length) (h1 : ∀ j (h : j < xs.length), j < k → xs[j] < n) (h2 : ∀ h : k < xs.length, n < xs[k]) : putS xs n = xs.take k ++ [n] ++ xs.drop k := by
  unfold putS
  obtain ⟨e1, e2⟩ := tw_at hk h1 (fun h => by have := h2 h; omega)
  rw [if_pos hf, e1, e2]
  by_cases h : k < xs.length
  · rw [List.drop_eq_getElem_cons h]
    have := h2 h
    simp only [if_neg (show ¬ xs[k] = n by omega)]
    simp
  · rw [List.drop_eq_nil_of_le (by omega)]; simp

set_option maxRecDepth 100000 in
set_option maxHeartbeats 4000000 in
theorem put_c {p : Nat → Prop} {va : Value} {xs : List Int} (w : World) (n : Int) (h1 : IsInts p w va xs) (hl : xs.length ≤ 1000000) :
    Calls Try.prog 42 #[va, .int .i64 n] w fun e w' => ∃ z, e = .returned z ∧ IsInts (fun b => p b ∨ w.heap.size ≤ b) w' z (putS xs n) ∧ Below w.heap.size w w' := by
  obtain ⟨a, cap, rfl, hlc, hx⟩ := id h1
  have h1' : IsInts (fun b => p b ∨ w.heap.size ≤ b) w (.slice a xs.length cap) xs := h1.keep (Keep.refl w fun b hb _ => .inl hb)
  by_cases hf : Bit.fits n = true
  · have hf2 : 0 ≤ n ∧ n ≤ 65535 := by unfold Bit.fits at hf; simpa using hf
    obtain ⟨nn, rfl⟩ : ∃ nn : Nat, n = nn := ⟨n.toNat, by omega⟩
    have hd1 : decide ((nn : Int) < 0) = false := by simp
    have hd2 : decide ((nn : Int) > 65535) = false := by simp; omega
    have hd2' : decide (65535 < (nn : Int)) = false := by simp; omega
    have hd3 : decide (65535 < nn) = false := by simp; omega
    have HF := hid_of hf
    clear hf hf2
    go_enter Try.func42, Try.ntmps42
    go_wp2_with fail
    go_loop [5] (fun i => ∃ k : Nat, k ≤ xs.length ∧ i = .int .i64 k ∧ Hid (∀ j (h : j < xs.length), j < k → xs[j] < nn)) (fun i => xs.length - (intOf i).toNat)
    case atStart => exact ⟨0, by omega, rfl, (fun j h hj => by omega : ∀ j (h : j < xs.length), j < 0 → xs[j] < nn)⟩
    case round =>
      obtain ⟨k, hk, rfl, HL⟩ := hrel
      have hsz2 : ∀ k' : Nat, k' ≤ xs.length → k' < 9223372036854775807 := fun k' h => by omega
      by_cases hlt : k < xs.length
      · rcases hx with hx | ⟨b, off, rfl, hpb, hx⟩
        · rw [hx] at hlt; simp at hlt
        have c1 := hx k hlt
        unfold CInt at c1
        rw [Nat.mul_one] at c1
        have hbl := lt_of_cell c1
        by_cases hxn : xs[k] < (nn : Int)
        · have hdx : decide (xs[k] < (nn : Int)) = true := by simpa using hxn
          have HL2 : Hid (∀ j (h : j < xs.length), j < k + 1 → xs[j] < nn) := fun j h hj => by
            by_cases e : j = k
            · subst e; exact hxn
            · exact HL.out j h (by omega)
          clear hx hxn
          go_wp2_with fail
          go_round
          case rel => exact ⟨k + 1, by omega, by go_num, HL2⟩
          case measure => simp [intOf]; omega
        · have hdx : decide (xs[k] < (nn : Int)) = false := by simpa using hxn
          by_cases hxe : xs[k] = (nn : Int)
          · have hde : (xs[k] == (nn : Int)) = true := by simpa using hxe
            have HP := hid_of (putS_has HF.out hlt HL.out hxe)
            clear hx hxn hxe
            go_wp2_with fail
            go_ret
            exact ⟨_, rfl, by rw [HP.out]; exact h1', bel_refl _⟩
          · have hde : (xs[k] == (nn : Int)) = false := by simpa using hxe
            have HP := hid_of (putS_new HF.out hk HL.out (fun h => by omega))
            have hcl1 := ints_drop h1 k
            have hcl2 := ints_take h1 k hk
            clear hx hxn hxe
            by_cases hck : cap = k
            · omega
            · go_wp2_with (at_builtin; refine stop_here ?_)
              refine stop_go (wp_appI rfl _ (.tmp 43) rfl w.heap.size (.slice none 0 0) [] rfl (World.ownsRow_nil _ _ _ _) (xs.drop k) (by rw [List.length_drop]; rfl) (by rw [List.length_drop]; exact hcl1 (cap - k) hk (by omega)) (by simp; omega) (Nat.le_refl _) ?_)
              intro v1 w1 ho1 hg1 _
              rw [List.nil_append] at ho1
              have hB1 := bel_grown (bel_refl w) hg1 (by simp [Value.ownBlock])
              have hs1 := hB1.size
              have hi1 : IsInts (fun b => b < w1.heap.size) w1 v1 (xs.drop k) := ints_of_owns ho1 (by simp; omega) (fun _ _ _ hh => hh)
              obtain ⟨ra, rc, rfl, -⟩ := owns_slice ho1
              have ht1 := hcl2.keep (Keep.below hB1)
              clear hcl1 hcl2 ho1 hg1 h1 h1'
              go_wp2_with (at_builtin; refine stop_here ?_)
              refine stop_go (wp_appI rfl _ (.tmp 47) rfl w1.heap.size (.slice none 0 0) [] rfl (World.ownsRow_nil _ _ _ _) (xs.take k) (by rw [List.length_take, Nat.min_eq_left hk]; rfl) (by rw [List.length_take, Nat.min_eq_left hk]; exact ht1) (by simp; omega) (Nat.le_refl _) ?_)
              intro v2 w2 ho2 hg2 _
              rw [List.nil_append] at ho2
              have hB2 := bel_grown (bel_refl w1) hg2 (by simp [Value.ownBlock])
              have hs2 := hB2.size
              clear ht1 hg2
              go_wp2_with (at_builtin; refine stop_here ?_)
              refine stop_go (app_int rfl _ _ rfl w1.heap.size v2 (xs.take k) rfl (ho2.alloc _) _ _ rfl (heap_alloc_eq _ _ _ rfl) (by simp; omega) (by simp <;> omega) ?_)
              intro v3 w3 ho3 hg3 _
              have hB3 := bel_grown (bel_alloc hB2 _) hg3 (fun k hk => (ho2.lt k hk).1)
              have hs3 := hB3.size
              have hi3 := hi1.keep (Keep.belowB hB3)
              clear ho2 hg3 hB2 hi1
              go_wp2_with (at_builtin; refine stop_here ?_)
              refine stop_go (wp_appI rfl _ (.tmp 52) rfl w1.heap.size v3 (xs.take k ++ [(nn : Int)]) rfl ho3 (xs.drop k) (by rw [List.length_drop]; rfl) hi3 (by simp; omega) (by omega) ?_)
              intro v4 w4 ho4 hg4 _
              have hB4 := bel_grown hB3 hg4 (fun k hk => (ho3.lt k hk).1)
              rw [← HP.out] at ho4
              have hfin : IsInts (fun b => p b ∨ w.heap.size ≤ b) w4 v4 (putS xs nn) := ints_of_owns ho4 (by rw [HP.out]; simp; omega) (fun _ _ hh _ => .inr (by omega))
              have HFN := hid_of hfin
              have hB5 := bel_call hB1 hB4
              clear ho3 hg4 hB3 hi3 ho4 hfin hB4 hB1
              go_wp2_with fail
              go_ret
              exact ⟨_, rfl, HFN.out, hB5⟩
      · obtain rfl : k = xs.length := by omega
        have HP : Hid (putS xs nn = xs ++ [(nn : Int)]) := by
          have := putS_new HF.out hk HL.out (fun h => by omega)
          rw [List.take_length, List.drop_length, List.append_nil] at this
          exact this
        clear hx hlt
        rcases a with _ | ad
        all_goals go_wp2_with (at_builtin; refine stop_here ?_)
        all_goals
          refine stop_go (wp_appI rfl _ (.tmp 43) rfl w.heap.size (.slice none 0 0) [] rfl (World.ownsRow_nil _ _ _ _) [] rfl (ints_empty p w _ _) (by simp) (Nat.le_refl _) ?_)
          intro v1 w1 ho1 hg1 _
          rw [List.nil_append] at ho1
          have hB1 := bel_grown (bel_refl w) hg1 (by simp [Value.ownBlock])
          have hs1 := hB1.size
          obtain ⟨ra, rc, rfl, -⟩ := owns_slice ho1
          have ht1 := h1.keep (Keep.below hB1)
          clear ho1 hg1 h1 h1'
          go_wp2_with (at_builtin; refine stop_here ?_)
          refine stop_go (wp_appI rfl _ (.tmp 47) rfl w1.heap.size (.slice none 0 0) [] rfl (World.ownsRow_nil _ _ _ _) xs rfl (ints_cap ht1 _ (by omega)) (by simp; omega) (Nat.le_refl _) ?_)
          intro v2 w2 ho2 hg2 _
          rw [List.nil_append] at ho2
          have hB2 := bel_grown (bel_refl w1) hg2 (by simp [Value.ownBlock])
          have hs2 := hB2.size
          clear ht1 hg2
          go_wp2_with (at_builtin; refine stop_here ?_)
          refine stop_go (app_int rfl _ _ rfl w1.heap.size v2 xs rfl (ho2.alloc _) _ _ rfl (heap_alloc_eq _ _ _ rfl) (by omega) (by simp <;> omega) ?_)
          intro v3 w3 ho3 hg3 _
          have hB3 := bel_grown (bel_alloc hB2 _) hg3 (fun k hk => (ho2.lt k hk).1)
          have hs3 := hB3.size
          clear ho2 hg3 hB2
          go_wp2_with (at_builtin; refine stop_here ?_)
          refine stop_go (wp_appI rfl _ (.tmp 52) rfl w1.heap.size v3 (xs ++ [(nn : Int)]) rfl ho3 [] rfl (ints_empty p w3 _ _) (by simp; omega) (by omega) ?_)
          intro v4 w4 ho4 hg4 _
          have hB4 := bel_grown hB3 hg4 (fun k hk => (ho3.lt k hk).1)
          rw [List.append_nil, ← HP.out] at ho4
          have hfin : IsInts (fun b => p b ∨ w.heap.size ≤ b) w4 v4 (putS xs nn) := ints_of_owns ho4 (by rw [HP.out]; simp; omega) (fun _ _ hh _ => .inr (by omega))
          have HFN := hid_of hfin
          have hB5 := bel_call hB1 hB4
          clear ho3 hg4 hB3 ho4 hfin hB4 hB1
          go_wp2_with fail
          go_ret
          exact ⟨_, rfl, HFN.out, hB5⟩
  · have HP : Hid (putS xs n = xs) := by
      have : putS xs n = xs := by unfold putS; rw [if_neg hf]
      exact this
    have hf2 : n < 0 ∨ 65535 < n := by
      unfold Bit.fits at hf
      simp at hf
      omega
    by_cases hn : n < 0
    · have hd1 : decide (n < 0) = true := by simpa using hn
      clear hx hf hf2
      go_enter Try.func42, Try.ntmps42
      go_wp2_with fail
      go_ret
      exact ⟨_, rfl, by rw [HP.out]; exact h1', bel_refl _⟩
    · have hd1 : decide (n < 0) = false := by simpa using hn
      have hd2 : decide (n > 65535) = true := by simp; omega
      clear hx hf hf2
      go_enter Try.func42, Try.ntmps42
      go_wp2_with fail
      go_ret
      exact ⟨_, rfl, by rw [HP.out]; exact h1', bel_refl _⟩
end Go.Proofs.Ytcihobmjohpnkaa
