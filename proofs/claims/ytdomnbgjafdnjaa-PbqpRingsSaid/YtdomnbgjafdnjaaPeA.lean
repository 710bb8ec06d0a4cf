/- The reference's rising lists: a number put in, numbers left out; rows of slices of ints that are written. -/
import Derived.Test.YtdomnbgjafdnjaaPqM
import Derived.Test.YtdomnbgjafdnjaaRef1
import Derived.Deep.QuietTactic
import Derived.Deep.Upon
import Derived.BigQuiet
namespace Go.Proofs.Ytdomnbgjafdnjaa
open Go.RowKit

/-- May a number stand in a set? -/
def Bit.fits (n : Int) : Bool := decide (0 ≤ n) && decide (n ≤ 65535)
/-- 'out = append(out, y)': ints. -/
theorem app_int {ops : Array Oper} {rest : List Oper} {o : Oper} {a : Act} {Q : Exit → Act → World → Prop} {W : World}
    (hgd : o.guard = none) (s x : Operand) (hop : o.op = .call { callee := .builtin .append, args := #[s, x], argTypes := #[26, 26] })
    (base : Nat) (v : Value) (zs : List Int) (hs : a.eval s = v) (hown : W.ownsRow base 3 1 v zs.length (ints zs)) (g : Nat) (y : Int) (hx : a.eval x = .slice (some ⟨g, 0, none⟩) 1 1)
    (hc : W.heap[g]? = some (.cells #[.int .i64 y] 3 (0, 0))) (hn : zs.length + 1 ≤ 17592186044416) (hb : base ≤ W.heap.size)
    (h : ∀ v' w', w'.ownsRow base 3 1 v' (zs ++ [y]).length (ints (zs ++ [y])) → W.grownBy w' v.ownBlock → (v'.ownBlock = v.ownBlock ∨ v'.ownBlock = some W.heap.size) → wpList Try.prog ops Q rest (a.put o.dst v') w') :
    wpList Try.prog ops Q (o :: rest) a W := by
  obtain ⟨i0, hi, hz0, hz1, hz2⟩ := info_parts infoInt
  refine wp_app _ hgd s x 26 hop base 3 i0 (.int .i64 0) 1 8 Try.underlying26 hi hz0 hz1 hz2 rfl (by decide) v zs.length (ints zs) hs hown
    ⟨g, 0, none⟩ 1 1 [.int .i64 y] hx rfl ?_ ?_ ?_ ?_ hb ?_
  · intro j u hj
    match j, hj with
    | 0, hj => simp at hj; subst hj; simp [Addr.add, cell_of_one hc]
  · intro u hu; simp at hu; subst hu; rfl
  · unfold maxLen; omega
  · omega
  · intro v' w' ho hg hv
    refine h v' w' ?_ hg hv
    simpa [ints] using ho

theorem rows_of_row {W : World} {g : Nat} {e : TypeId} {vs : List Value} {ll : List (List Int)} {p : Nat → Prop} (h : Row W g e vs) (hp : p g) (hn : vs.length = ll.length) (hl : ll.length ≤ 140737488351232)
    (hel : ∀ j (h1 : j < vs.length) (h2 : j < ll.length), IsInts p W vs[j] ll[j]) : IsRows p W (.slice (some ⟨g, 0, none⟩) ll.length ll.length) ll :=
  ⟨_, _, rfl, ⟨Nat.le_refl _, hl⟩, .inr ⟨g, 0, rfl, hp, fun j hj => ⟨vs[j], h.cell (by simp [hn, hj]), hel j (by omega) hj⟩⟩⟩
theorem wp_appI {ops : Array Oper} {rest : List Oper} {o : Oper} {a : Act} {Q : Exit → Act → World → Prop} {W : World} {p : Nat → Prop}
    (hgd : o.guard = none) (s x : Operand) (hop : o.op = .call { callee := .builtin .append, args := #[s, x], argTypes := #[26, 26] })
    (base : Nat) (v : Value) (zs : List Int) (hs : a.eval s = v) (hown : W.ownsRow base 3 1 v zs.length (ints zs)) {sa : Option Addr} {cap : Nat} (ys : List Int) (hx : a.eval x = .slice sa ys.length cap) (hp : IsInts p W (.slice sa ys.length cap) ys)
    (hl : zs.length + ys.length ≤ 17000000000000) (hb : base ≤ W.heap.size)
    (h : ∀ v' w', w'.ownsRow base 3 1 v' (zs ++ ys).length (ints (zs ++ ys)) → W.grownBy w' v.ownBlock → (v'.ownBlock = v.ownBlock ∨ v'.ownBlock = some W.heap.size) → wpList Try.prog ops Q rest (a.put o.dst v') w') :
    wpList Try.prog ops Q (o :: rest) a W := by
  obtain ⟨i0, hi, hz0, hz1, hz2⟩ := info_parts infoInt
  obtain ⟨sa', c', hv, hl', hx'⟩ := hp
  simp at hv
  obtain ⟨rfl, rfl⟩ := hv
  rcases hx' with rfl | ⟨b, off, rfl, _, hc⟩
  · refine wpList_plain hgd fun K hK => ?_
    have hsrc : Src Try.prog i0.size 26 (.slice sa 0 cap) 0 [] W := by
      cases sa with
      | none => exact Src.ofNil W Try.underlying26 cap
      | some ad => exact Src.ofSlice W Try.underlying26 ad 0 cap [] (by simp) (fun j u hj => by simp at hj) (fun u hu => by simp at hu)
    obtain ⟨va, vc, rfl, hva⟩ := owns_slice hown
    have hle : zs.length ≤ vc := by
      rcases hown.2 with ⟨e, _⟩ | ⟨g, cap', cur, e, _, _, hn, _⟩
      · simp at e; omega
      · simp at e; omega
    have hr := run_append_nothing (P := Try.prog) W 26 26 o.type 3 i0 Try.underlying26 hi va zs.length vc hle _ hsrc
    unfold Oper.wp execOp
    simp only [List.length_nil] at hx
    simp only [hop, resolve, invoke, builtin, Sem.run_bind, Sem.run_pure, Result.andThen_ok, List.map_toArray, List.map_cons, List.map_nil, hs, hx, hr]
    refine hK _ _ (h _ _ (by simpa using hown) (World.grownBy.refl _ _) (.inl rfl))
  · refine wp_app _ hgd s x 26 hop base 3 i0 _ 1 8 Try.underlying26 hi hz0 hz1 hz2 rfl (by decide) v zs.length (ints zs) hs hown
      ⟨b, off, none⟩ ys.length cap (ints ys) hx (by simp) ?_ ?_ ?_ ?_ hb ?_
    · intro j u hj
      have hjl : j < ys.length := by
        by_cases hh : j < ys.length
        · exact hh
        · simp [hh] at hj
      simp [hjl] at hj
      subst hj
      have hc1 := hc j hjl
      unfold CInt at hc1
      rw [Nat.mul_one] at hc1
      have e : (⟨b, off, none⟩ : Addr).add j = ⟨b, off + j, none⟩ := by cases j <;> simp [Addr.add]
      rw [e]; exact hc1
    · intro u hu
      obtain ⟨y, _, rfl⟩ := List.mem_map.1 hu
      rfl
    · unfold maxLen; omega
    · omega
    · intro v' w' ho hg hv
      refine h v' w' ?_ hg hv
      simpa [ints] using ho

theorem ints_drop {p : Nat → Prop} {w : World} {b off n cap : Nat} {xs : List Int} (h : IsInts p w (.slice (some ⟨b, off, none⟩) n cap) xs) (k c : Nat) (hk : k ≤ xs.length) (hc : xs.length - k ≤ c) : IsInts p w (.slice (some ⟨b, off + k, none⟩) (xs.length - k) c) (xs.drop k) := by
  obtain ⟨a', cap', hv, hl, hx⟩ := h
  simp only [Value.slice.injEq] at hv
  obtain ⟨hv, rfl, rfl⟩ := hv
  refine ⟨_, c, by rw [List.length_drop], ⟨by simpa using hc, by simp; omega⟩, ?_⟩
  rcases hx with rfl | ⟨b', off', rfl, hpb, hx⟩
  · exact .inl (by simp)
  · simp only [Option.some.injEq, Addr.mk.injEq, and_true] at hv
    obtain ⟨rfl, rfl⟩ := hv
    refine .inr ⟨b, off + k, rfl, hpb, fun j hj => ?_⟩
    have := hx (k + j) (by simp at hj; omega)
    rw [List.getElem_drop]
    rwa [show off + k + j * 1 = off + (k + j) * 1 by omega]
theorem ints_take {p : Nat → Prop} {w : World} {a : Option Addr} {n cap : Nat} {xs : List Int} (h : IsInts p w (.slice a n cap) xs) (k : Nat) (hk : k ≤ xs.length) : IsInts p w (.slice a k cap) (xs.take k) := by
  obtain ⟨a', cap', hv, hl, hx⟩ := h
  simp only [Value.slice.injEq] at hv
  obtain ⟨rfl, rfl, rfl⟩ := hv
  have e : (xs.take k).length = k := by simp; omega
  refine ⟨_, cap, by rw [e], ⟨by omega, by omega⟩, ?_⟩
  rcases hx with rfl | ⟨b', off', rfl, hpb, hx⟩
  · exact .inl (by simp)
  · exact .inr ⟨b', off', rfl, hpb, fun j hj => by simpa using hx j (by omega)⟩
theorem ints_cap {p : Nat → Prop} {w : World} {a : Option Addr} {n cap : Nat} {xs : List Int} (h : IsInts p w (.slice a n cap) xs) (c : Nat) (hc : n ≤ c) : IsInts p w (.slice a n c) xs := by
  obtain ⟨a', cap', hv, hl, hx⟩ := h
  simp only [Value.slice.injEq] at hv
  obtain ⟨rfl, rfl, rfl⟩ := hv
  exact ⟨_, c, rfl, ⟨hc, hl.2⟩, hx⟩
theorem ints_empty (p : Nat → Prop) (w : World) (a : Option Addr) (c : Nat) : IsInts p w (.slice a 0 c) [] := ⟨a, c, rfl, ⟨by simp, by simp⟩, .inl rfl⟩
/-- A number into a rising list. -/
def putS (l : List Int) (n : Int) : List Int :=
  if Bit.fits n then (l.takeWhile fun x => decide (x < n)) ++ (match l.dropWhile fun x => decide (x < n) with | [] => [n] | x :: r => if x = n then x :: r else n :: x :: r) else l
theorem infoIntsL : (Try.prog.info? 26).map (fun i => (i.zero, i.size, i.bytes)) = some (some (.slice none 0 0), 1, 24) := by kernel_rfl
theorem tw_at {xs : List Int} {n : Int} {k : Nat} (hk : k ≤ xs.length) (h1 : ∀ j (h : j < xs.length), j < k → xs[j] < n) (h2 : ∀ h : k < xs.length, n ≤ xs[k]) :
    (xs.takeWhile fun x => decide (x < n)) = xs.take k ∧ (xs.dropWhile fun x => decide (x < n)) = xs.drop k := by
  induction xs generalizing k with
  | nil => simp
  | cons x r ih =>
    cases k with
    | zero =>
      have := h2 (by simp)
      simp at this
      have e : ¬ x < n := by omega
      simp [e]
    | succ k =>
      have hx : x < n := h1 0 (by simp) (by omega)
      obtain ⟨i1, i2⟩ := ih (k := k) (by simpa using hk) (fun j h hj => by have := h1 (j + 1) (by simpa using h) (by omega); simpa using this) (fun h => by have := h2 (by simpa using h); simpa using this)
      simp [hx, i1, i2]
theorem putS_has {xs : List Int} {n : Int} {k : Nat} (hf : Bit.fits n = true) (hk : k < xs.length) (h1 : ∀ j (h : j < xs.length), j < k → xs[j] < n) (h2 : xs[k] = n) : putS xs n = xs := by
  unfold putS
  obtain ⟨e1, e2⟩ := tw_at (Nat.le_of_lt hk) h1 (fun h => by omega)
  rw [if_pos hf, e1, e2, List.drop_eq_getElem_cons hk]
  simp only [h2, if_true]
  rw [← h2, ← List.drop_eq_getElem_cons hk, List.take_append_drop]
theorem putS_new {xs : List Int} {n : Int} {k : Nat} (hf : Bit.fits n = true) (hk : k ≤ xs.length) (h1 : ∀ j (h : j < xs.length), j < k → xs[j] < n) (h2 : ∀ h : k < xs.length, n < xs[k]) : putS xs n = xs.take k ++ [n] ++ xs.drop k := by
  unfold putS
  obtain ⟨e1, e2⟩ := tw_at hk h1 (fun h => by have := h2 h; omega)
  rw [if_pos hf, e1, e2]
  by_cases h : k < xs.length
  · rw [List.drop_eq_getElem_cons h]
    have := h2 h
    simp only [if_neg (show ¬ xs[k] = n by omega)]
    simp
  · rw [List.drop_eq_nil_of_le (by omega)]; simp

set_option maxRecDepth 100000 in
set_option maxHeartbeats 4000000 in
theorem put_c {p : Nat → Prop} {va : Value} {xs : List Int} (w : World) (n : Int) (h1 : IsInts p w va xs) (hl : xs.length ≤ 1000000) :
    Calls Try.prog 30 #[va, .int .i64 n] w fun e w' => ∃ z, e = .returned z ∧ IsInts (fun b => p b ∨ w.heap.size ≤ b) w' z (putS xs n) ∧ Below w.heap.size w w' := by
  obtain ⟨a, cap, rfl, hlc, hx⟩ := id h1
  have h1' : IsInts (fun b => p b ∨ w.heap.size ≤ b) w (.slice a xs.length cap) xs := h1.keep (Keep.refl w fun b hb _ => .inl hb)
  by_cases hf : Bit.fits n = true
  · have hf2 : 0 ≤ n ∧ n ≤ 65535 := by unfold Bit.fits at hf; simpa using hf
    obtain ⟨nn, rfl⟩ : ∃ nn : Nat, n = nn := ⟨n.toNat, by omega⟩
    have hd1 : decide ((nn : Int) < 0) = false := by simp
    have hd2 : decide ((nn : Int) > 65535) = false := by simp; omega
    have hd2' : decide (65535 < (nn : Int)) = false := by simp; omega
    have hd3 : decide (65535 < nn) = false := by simp; omega
    have HF := hid_of hf
    clear hf hf2
    go_enter Try.func30, Try.ntmps30
    go_wp2_with fail
    go_loop [5] (fun i => ∃ k : Nat, k ≤ xs.length ∧ i = .int .i64 k ∧ Hid (∀ j (h : j < xs.length), j < k → xs[j] < nn)) (fun i => xs.length - (intOf i).toNat)
    case atStart => exact ⟨0, by omega, rfl, (fun j h hj => by omega : ∀ j (h : j < xs.length), j < 0 → xs[j] < nn)⟩
    case round =>
      obtain ⟨k, hk, rfl, HL⟩ := hrel
      have hsz2 : ∀ k' : Nat, k' ≤ xs.length → k' < 9223372036854775807 := fun k' h => by omega
      by_cases hlt : k < xs.length
      · rcases hx with hx | ⟨b, off, rfl, hpb, hx⟩
        · rw [hx] at hlt; simp at hlt
        have c1 := hx k hlt
        unfold CInt at c1
        rw [Nat.mul_one] at c1
        have hbl := lt_of_cell c1
        by_cases hxn : xs[k] < (nn : Int)
        · have hdx : decide (xs[k] < (nn : Int)) = true := by simpa using hxn
          have HL2 : Hid (∀ j (h : j < xs.length), j < k + 1 → xs[j] < nn) := fun j h hj => by
            by_cases e : j = k
            · subst e; exact hxn
            · exact HL.out j h (by omega)
          clear hx hxn
          go_wp2_with fail
          go_round
          case rel => exact ⟨k + 1, by omega, by go_num, HL2⟩
          case measure => simp [intOf]; omega
        · have hdx : decide (xs[k] < (nn : Int)) = false := by simpa using hxn
          by_cases hxe : xs[k] = (nn : Int)
          · have hde : (xs[k] == (nn : Int)) = true := by simpa using hxe
            have HP := hid_of (putS_has HF.out hlt HL.out hxe)
            clear hx hxn hxe
            go_wp2_with fail
            go_ret
            exact ⟨_, rfl, by rw [HP.out]; exact h1', bel_refl _⟩
          · have hde : (xs[k] == (nn : Int)) = false := by simpa using hxe
            have HP := hid_of (putS_new HF.out hk HL.out (fun h => by omega))
            have hcl1 := ints_drop h1 k
            have hcl2 := ints_take h1 k hk
            clear hx hxn hxe
            by_cases hck : cap = k
            · omega
            · go_wp2_with (at_builtin; refine stop_here ?_)
              refine stop_go (wp_appI rfl _ (.tmp 43) rfl w.heap.size (.slice none 0 0) [] rfl (World.ownsRow_nil _ _ _ _) (xs.drop k) (by rw [List.length_drop]; rfl) (by rw [List.length_drop]; exact hcl1 (cap - k) hk (by omega)) (by simp; omega) (Nat.le_refl _) ?_)
              intro v1 w1 ho1 hg1 _
              rw [List.nil_append] at ho1
              have hB1 := bel_grown (bel_refl w) hg1 (by simp [Value.ownBlock])
              have hs1 := hB1.size
              have hi1 : IsInts (fun b => b < w1.heap.size) w1 v1 (xs.drop k) := ints_of_owns ho1 (by simp; omega) (fun _ _ _ hh => hh)
              obtain ⟨ra, rc, rfl, -⟩ := owns_slice ho1
              have ht1 := hcl2.keep (Keep.below hB1)
              clear hcl1 hcl2 ho1 hg1 h1 h1'
              go_wp2_with (at_builtin; refine stop_here ?_)
              refine stop_go (wp_appI rfl _ (.tmp 47) rfl w1.heap.size (.slice none 0 0) [] rfl (World.ownsRow_nil _ _ _ _) (xs.take k) (by rw [List.length_take, Nat.min_eq_left hk]; rfl) (by rw [List.length_take, Nat.min_eq_left hk]; exact ht1) (by simp; omega) (Nat.le_refl _) ?_)
              intro v2 w2 ho2 hg2 _
              rw [List.nil_append] at ho2
              have hB2 := bel_grown (bel_refl w1) hg2 (by simp [Value.ownBlock])
              have hs2 := hB2.size
              clear ht1 hg2
              go_wp2_with (at_builtin; refine stop_here ?_)
              refine stop_go (app_int rfl _ _ rfl w1.heap.size v2 (xs.take k) rfl (ho2.alloc _) _ _ rfl (heap_alloc_eq _ _ _ rfl) (by simp; omega) (by simp <;> omega) ?_)
              intro v3 w3 ho3 hg3 _
              have hB3 := bel_grown (bel_alloc hB2 _) hg3 (fun k hk => (ho2.lt k hk).1)
              have hs3 := hB3.size
              have hi3 := hi1.keep (Keep.belowB hB3)
              clear ho2 hg3 hB2 hi1
              go_wp2_with (at_builtin; refine stop_here ?_)
              refine stop_go (wp_appI rfl _ (.tmp 52) rfl w1.heap.size v3 (xs.take k ++ [(nn : Int)]) rfl ho3 (xs.drop k) (by rw [List.length_drop]; rfl) hi3 (by simp; omega) (by omega) ?_)
              intro v4 w4 ho4 hg4 _
              have hB4 := bel_grown hB3 hg4 (fun k hk => (ho3.lt k hk).1)
              rw [← HP.out] at ho4
              have hfin : IsInts (fun b => p b ∨ w.heap.size ≤ b) w4 v4 (putS xs nn) := ints_of_owns ho4 (by rw [HP.out]; simp; omega) (fun _ _ hh _ => .inr (by omega))
              have HFN := hid_of hfin
              have hB5 := bel_call hB1 hB4
              clear ho3 hg4 hB3 hi3 ho4 hfin hB4 hB1
              go_wp2_with fail
              go_ret
              exact ⟨_, rfl, HFN.out, hB5⟩
      · obtain rfl : k = xs.length := by omega
        have HP : Hid (putS xs nn = xs ++ [(nn : Int)]) := by
          have := putS_new HF.out hk HL.out (fun h => by omega)
          rw [List.take_length, List.drop_length, List.append_nil] at this
          exact this
        clear hx hlt
        rcases a with _ | ad
        all_goals go_wp2_with (at_builtin; refine stop_here ?_)
        all_goals
          refine stop_go (wp_appI rfl _ (.tmp 43) rfl w.heap.size (.slice none 0 0) [] rfl (World.ownsRow_nil _ _ _ _) [] rfl (ints_empty p w _ _) (by simp) (Nat.le_refl _) ?_)
          intro v1 w1 ho1 hg1 _
          rw [List.nil_append] at ho1
          have hB1 := bel_grown (bel_refl w) hg1 (by simp [Value.ownBlock])
          have hs1 := hB1.size
          obtain ⟨ra, rc, rfl, -⟩ := owns_slice ho1
          have ht1 := h1.keep (Keep.below hB1)
          clear ho1 hg1 h1 h1'
          go_wp2_with (at_builtin; refine stop_here ?_)
          refine stop_go (wp_appI rfl _ (.tmp 47) rfl w1.heap.size (.slice none 0 0) [] rfl (World.ownsRow_nil _ _ _ _) xs rfl (ints_cap ht1 _ (by omega)) (by simp; omega) (Nat.le_refl _) ?_)
          intro v2 w2 ho2 hg2 _
          rw [List.nil_append] at ho2
          have hB2 := bel_grown (bel_refl w1) hg2 (by simp [Value.ownBlock])
          have hs2 := hB2.size
          clear ht1 hg2
          go_wp2_with (at_builtin; refine stop_here ?_)
          refine stop_go (app_int rfl _ _ rfl w1.heap.size v2 xs rfl (ho2.alloc _) _ _ rfl (heap_alloc_eq _ _ _ rfl) (by omega) (by simp <;> omega) ?_)
          intro v3 w3 ho3 hg3 _
          have hB3 := bel_grown (bel_alloc hB2 _) hg3 (fun k hk => (ho2.lt k hk).1)
          have hs3 := hB3.size
          clear ho2 hg3 hB2
          go_wp2_with (at_builtin; refine stop_here ?_)
          refine stop_go (wp_appI rfl _ (.tmp 52) rfl w1.heap.size v3 (xs ++ [(nn : Int)]) rfl ho3 [] rfl (ints_empty p w3 _ _) (by simp; omega) (by omega) ?_)
          intro v4 w4 ho4 hg4 _
          have hB4 := bel_grown hB3 hg4 (fun k hk => (ho3.lt k hk).1)
          rw [List.append_nil, ← HP.out] at ho4
          have hfin : IsInts (fun b => p b ∨ w.heap.size ≤ b) w4 v4 (putS xs nn) := ints_of_owns ho4 (by rw [HP.out]; simp; omega) (fun _ _ hh _ => .inr (by omega))
          have HFN := hid_of hfin
          have hB5 := bel_call hB1 hB4
          clear ho3 hg4 hB3 ho4 hfin hB4 hB1
          go_wp2_with fail
          go_ret
          exact ⟨_, rfl, HFN.out, hB5⟩
  · have HP : Hid (putS xs n = xs) := by
      have : putS xs n = xs := by unfold putS; rw [if_neg hf]
      exact this
    have hf2 : n < 0 ∨ 65535 < n := by
      unfold Bit.fits at hf
      simp at hf
      omega
    by_cases hn : n < 0
    · have hd1 : decide (n < 0) = true := by simpa using hn
      clear hx hf hf2
      go_enter Try.func30, Try.ntmps30
      go_wp2_with fail
      go_ret
      exact ⟨_, rfl, by rw [HP.out]; exact h1', bel_refl _⟩
    · have hd1 : decide (n < 0) = false := by simpa using hn
      have hd2 : decide (n > 65535) = true := by simp; omega
      clear hx hf hf2
      go_enter Try.func30, Try.ntmps30
      go_wp2_with fail
      go_ret
      exact ⟨_, rfl, by rw [HP.out]; exact h1', bel_refl _⟩

structure IRow (p : Nat → Prop) (g : Nat) (I : List (List Int)) (W : World) : Prop where
  np : ¬ p g
  ex : ∃ vs : List Value, Row W g 26 vs ∧ vs.length = I.length ∧ ∀ j (h : j < vs.length), IsInts p W vs[j] (I.getD j [])

theorem getDI_set {I : List (List Int)} (b k : Nat) (x : List Int) : (I.set b x).getD k [] = if b = k ∧ k < I.length then x else I.getD k [] := by
  rw [List.getD_eq_getElem?_getD, List.getElem?_set, List.getD_eq_getElem?_getD]
  by_cases h1 : b = k
  · by_cases h2 : k < I.length
    · subst h1; simp [h2]
    · subst h1; simp [h2]
  · simp [h1]
theorem IsInts.mono {p p' : Nat → Prop} {W : World} {v : Value} {xs : List Int} (h : IsInts p W v xs) (hp : ∀ b, p b → p' b) : IsInts p' W v xs := h.keep (Keep.refl W fun b hb _ => hp b hb)
theorem ints_slice {p : Nat → Prop} {w : World} {z : Value} {xs : List Int} (h : IsInts p w z xs) : ∃ za zn zc, z = .slice za zn zc := by obtain ⟨_, _, h, -⟩ := h; exact ⟨_, _, _, h⟩

section
variable {p p' : Nat → Prop} {g : Nat} {I : List (List Int)} {W W' : World}
theorem IRow.lt (h : IRow p g I W) : g < W.heap.size := let ⟨_, h1, _⟩ := h.ex; h1.lt
theorem IRow.keep (h : IRow p g I W) (hb : W'.heap[g]? = W.heap[g]?) (hk : Keep p p' W W') (np : ¬ p' g) : IRow p' g I W' :=
  let ⟨vs, h1, h2, h3⟩ := h.ex; ⟨np, vs, h1.keep hb, h2, fun j hj => (h3 j hj).keep hk⟩
theorem IRow.below (h : IRow p g I W) (hb : Below W.heap.size W W') : IRow p g I W' := h.keep (hb.block g h.lt) (Keep.below hb) h.np
theorem IRow.other (h : IRow p g I W) {a : Addr} (hne : g ≠ a.block) (hp : ¬ p a.block) (u : Value) : IRow p g I (W.setCell a u) :=
  h.keep (Below.heap_setCell _ _ _ _ hne) (Keep.setCell fun _ hb _ => ⟨hb, fun e => hp (e ▸ hb)⟩) h.np
theorem IRow.get (h : IRow p g I W) {j : Nat} (hj : j < I.length) : ∃ a c, W.cell? ⟨g, j, none⟩ = some (.slice a (I.getD j []).length c) ∧ IsInts p W (.slice a (I.getD j []).length c) (I.getD j []) := by
  obtain ⟨vs, h1, h2, h3⟩ := h.ex
  have hj' : j < vs.length := by omega
  have hw := h3 j hj'
  have hc := h1.cell (k := j) (v := vs[j]) (by simp [hj'])
  obtain ⟨a, c, e, -, -⟩ := id hw
  rw [e] at hc hw
  exact ⟨a, c, hc, hw⟩
theorem IRow.frozen (h : IRow p g I W) (k : Nat) : W.frozen? ⟨g, k, none⟩ = false := let ⟨_, h1, _⟩ := h.ex; h1.frozen k
theorem IRow.set (h : IRow p g I W) {z : Value} {ws : List Int} (hz : IsInts p W z ws) (j : Nat) : IRow p g (I.set j ws) (W.setCell ⟨g, j, none⟩ z) := by
  obtain ⟨vs, h1, h2, h3⟩ := h.ex
  have hk : Keep p p W (W.setCell ⟨g, j, none⟩ z) := Keep.setCell fun b hb _ => ⟨hb, fun e => h.np (by have e' : b = g := e; exact e' ▸ hb)⟩
  refine ⟨h.np, vs.set j z, h1.set j z, by simp [h2], fun i hi => ?_⟩
  have hi' : i < vs.length := by simpa using hi
  rw [List.getElem_set, getDI_set]
  by_cases e : j = i
  · rw [if_pos e, if_pos ⟨e, by omega⟩]; exact hz.keep hk
  · rw [if_neg e, if_neg (by omega)]; exact (h3 i hi').keep hk
theorem IRow.rows (h : IRow p g I W) (hg : p' g) (hp : ∀ b, p b → p' b) (hl : I.length ≤ 100000) : IsRows p' W (.slice (some ⟨g, 0, none⟩) I.length I.length) I := by
  obtain ⟨vs, h1, h2, h3⟩ := h.ex
  refine rows_of_row h1 hg h2 (by omega) fun j hj hj2 => ?_
  have := h3 j hj
  have e : I.getD j [] = I[j] := by simp [List.getD, hj2]
  rw [e] at this
  exact this.mono hp
theorem IRow.start {n : Nat} (h : Row W g 26 (List.replicate n (.slice none 0 0))) (np : ¬ p g) : IRow p g (List.replicate n []) W := by
  refine ⟨np, _, h, by simp, fun j hj => ?_⟩
  have e : (List.replicate n ([] : List Int)).getD j [] = [] := by rw [List.getD_eq_getElem?_getD, List.getElem?_replicate]; split <;> rfl
  rw [List.getElem_replicate, e]
  exact ints_nil _ _
end
/-- 'make([][]int, n)'. -/
theorem mk_rowsI {ops : Array Oper} {rest : List Oper} {o : Oper} {a : Act} {Q : Exit → Act → World → Prop} {W : World}
    (hgd : o.guard = none) (l c : Operand) (hop : o.op = Op.makeSlice 22 l c) (n : Nat) (hl : a.eval l = .int .i64 n) (hc : a.eval c = .int .i64 n) (hn : n ≤ 1000000)
    (h : wpList Try.prog ops Q rest (a.put o.dst (.slice (some ⟨W.heap.size, 0, none⟩) n n)) (W.alloc (.cells (List.replicate n (Value.slice none 0 0)).toArray 26))) :
    wpList Try.prog ops Q (o :: rest) a W := by
  obtain ⟨i0, hi, hz0, hz1, hz2⟩ := info_parts infoIntsL
  exact wp_make1 W hgd l c 22 hop 26 i0 _ (.slice none 0 0) 24 Try.underlying22 hi hz0 hz1 hz2 rfl n hl hc (by omega) (by omega) h

/-- The numbers that are (or are not) among others. -/
def filterS (l m : List Int) (has : Bool) : List Int := l.filter fun x => inS m x == has
theorem filterS_snoc (xs ys : List Int) (x : Int) (b : Bool) : filterS (xs ++ [x]) ys b = filterS xs ys b ++ (if inS ys x == b then [x] else []) := by
  unfold filterS; rw [List.filter_append]; cases h : inS ys x == b <;> simp [h]
theorem filterS_length (xs ys : List Int) (b : Bool) : (filterS xs ys b).length ≤ xs.length := List.length_filter_le _ _

set_option maxRecDepth 100000 in
set_option maxHeartbeats 2000000 in
theorem filter_c {va vb : Value} {xs ys : List Int} (w : World) (has : Bool) (h1 : IsInts (· < w.heap.size) w va xs) (h2 : IsInts (· < w.heap.size) w vb ys) (hl : xs.length ≤ 1000000) :
    Calls Try.prog 31 #[va, vb, .bool has] w fun e w' => ∃ z, e = .returned z ∧ w'.ownsRow w.heap.size 3 1 z (filterS xs ys has).length (ints (filterS xs ys has)) ∧ Below w.heap.size w w' := by
  obtain ⟨a, cap, rfl, -, hx⟩ := id h1
  obtain ⟨b, bcap, rfl, -, -⟩ := id h2
  go_enter Try.func31, Try.ntmps31
  go_wp2_with fail
  go_loopw [7, 8] (fun v i wr => ∃ k : Nat, k ≤ xs.length ∧ i = .int .i64 k ∧ wr.ownsRow w.heap.size 3 1 v (filterS (xs.take k) ys has).length (ints (filterS (xs.take k) ys has)) ∧ Below w.heap.size w wr) (fun _ i _ => xs.length - (intOf i).toNat)
  case atStart => exact ⟨0, by omega, rfl, World.ownsRow_nil _ _ _ _, bel_refl _⟩
  case round =>
    obtain ⟨k, hk, rfl, ho, hB⟩ := hrel
    by_cases hlt : k < xs.length
    · rcases hx with hx | ⟨g, off, rfl, hpb, hx⟩
      · rw [hx] at hlt; simp at hlt
      have c1 := hB.cell (p := ⟨g, off + k * 1, none⟩) hpb
      have c2 := hx k hlt
      unfold CInt at c2
      rw [c2] at c1
      rw [Nat.mul_one] at c1
      have h2' := h2.keep (Keep.belowB hB)
      have HE : Hid (filterS (xs.take (k + 1)) ys has = filterS (xs.take k) ys has ++ (if inS ys xs[k] == has then [xs[k]] else [])) := by
        rw [List.take_succ_eq_append_getElem hlt]; exact filterS_snoc _ _ _ _
      have hfl : (filterS (xs.take k) ys has).length ≤ 1000000 := Nat.le_trans (filterS_length _ _ _) (by simp; omega)
      obtain ⟨x, hxe⟩ : ∃ x, xs[k] = x := ⟨_, rfl⟩
      rw [hxe] at c1 HE
      have hsz := hB.size
      have hgl : g < w.heap.size := hpb
      clear hx hxe c2 hpb
      go_wp2_with fail
      refine (in_c wr h2').mono ?_
      rintro e W1 ⟨rfl, rfl⟩
      cases hb : inS ys x == has with
      | true =>
        rw [hb, if_pos rfl] at HE
        have hb' : (inS ys x == has) = true := hb
        go_wp2_with (at_builtin; refine stop_here ?_)
        refine stop_go (app_int rfl _ _ rfl w.heap.size u7 (filterS (xs.take k) ys has) rfl (ho.alloc _) _ _ rfl (heap_alloc_eq _ _ _ rfl) (by omega) (by simp <;> omega) ?_)
        intro v' w' ho2 hg hv
        have hB2 := bel_grown (bel_alloc hB _) hg (fun k hk => (ho.lt k hk).1)
        rw [← HE.out] at ho2
        clear ho hg hv hB HE
        go_wp2_with fail
        go_roundw
        case rel => exact ⟨k + 1, by omega, by go_num, ho2, hB2⟩
        case measure => simp [intOf]; omega
      | false =>
        rw [hb, if_neg (by simp), List.append_nil] at HE
        have hb' : (inS ys x == has) = false := hb
        have ho2 := ho
        rw [← HE.out] at ho2
        clear ho HE
        go_wp2_with fail
        go_roundw
        case rel => exact ⟨k + 1, by omega, by go_num, ho2, hB⟩
        case measure => simp [intOf]; omega
    · obtain rfl : k = xs.length := by omega
      rw [List.take_length] at ho
      go_wp2_with fail
      go_ret
      exact ⟨_, rfl, ho, hB⟩

end Go.Proofs.Ytdomnbgjafdnjaa
