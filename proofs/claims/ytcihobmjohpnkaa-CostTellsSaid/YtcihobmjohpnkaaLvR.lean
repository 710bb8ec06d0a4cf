/- 'virok.Reads': what an instruction reads, as a range over a function tells it; 'live.Uses'. -/
import Derived.Test.YtcihobmjohpnkaaPreds
import Derived.Test.YtcihobmjohpnkaaLvD
namespace Go.Proofs.Ytcihobmjohpnkaa

section
open Go.RowKit Go.Sort Go.Shelf

attribute [local go_sem] Oper.semAt_some

/-- Block b is an instruction's cells. -/
structure InsB (W : World) (b : Nat) (i : InsD) (va : Value) : Prop where
  c0 : W.cell? ⟨b, 0, none⟩ = some (.int .i64 i.k)
  c2 : W.cell? ⟨b, 2, none⟩ = some (.int .i64 i.a)
  c3 : W.cell? ⟨b, 3, none⟩ = some (.int .i64 i.b)
  c6 : W.cell? ⟨b, 6, none⟩ = some va
theorem InsB.kept {n₀ Bo b : Nat} {W W' : World} {i : InsD} {va : Value} (h : InsB W b i va) (hk : KeepsBut n₀ Bo W W') (hp : Prot Bo b W) : InsB W' b i va :=
  ⟨hk.cell _ _ _ hp h.c0, hk.cell _ _ _ hp h.c2, hk.cell _ _ _ hp h.c3, hk.cell _ _ _ hp h.c6⟩
theorem KeepsBut.same (n₀ Bo : Nat) (W : World) : KeepsBut n₀ Bo W W := ⟨Below.refl _ _, fun _ _ _ _ h => h, fun _ _ h => h, fun h => h⟩

theorem undef_bool {b : Bool} (h : some undef = some (Value.bool b)) : False := by simp [undef] at h

set_option maxRecDepth 100000 in
set_option maxHeartbeats 4000000 in
theorem reads1_in (n : Nat) (hn : 1 ≤ n) (lp Bx Bo n₀ : Nat) (va : Value) (i : InsD) (hl : i.args.length ≤ 1000000) (J Jx : List Int → World → Prop) (W : World) (_ : AbidesFrom W.heap.size J)
    (hY : ∀ pre x W, J pre W → pre.length < (usesS i).length → YieldAt Fence.wide (n - 1) Try.prog lp #[.int .i64 x] W fun e W' =>
      (e = .returned (.bool true) ∧ J (pre ++ [x]) W' ∧ KeepsBut n₀ Bo W W') ∨ (e = .returned (.bool false) ∧ Jx (pre ++ [x]) W'))
    (hBx : InsB W Bx i va) (hpx : Prot Bo Bx W) (hgd : Good Bo W) (_ : n₀ ≤ W.heap.size) (hL : IsInts (· < n₀) W va i.args) (h0 : J [] W) :
    CallsIn Fence.wide n Try.prog 104 #[.func (.yield lp) #[] #[], .pointer (some ⟨Bx, 0, none⟩)] W fun e W' => (∃ v, e = .returned v) ∧
      ((∃ ys, ys = usesS i ∧ J ys W') ∨ (∃ pre, True ∧ Jx pre W')) := by
  obtain ⟨aa, cap, rfl, -, -⟩ := id hL
  obtain ⟨k, d, ia, b, nn, name, args, t, f⟩ := i
  dsimp only at hl hL
  unfold usesS at hY ⊢
  dsimp only at hY ⊢
  obtain ⟨c0, c2, c3, c6⟩ := id hBx
  dsimp only at c0 c2 c3 c6
  refine callsIn_of_wp Try.func104 rfl trivial ?_ rfl
  simp only [Try.ntmps104, List.size_toArray, List.length_cons, List.length_nil, Nat.reduceAdd, Nat.reduceSub, Array.replicate_succ, Array.replicate_zero, List.push_toArray, List.append_toArray, List.nil_append, List.cons_append]
  by_cases h2 : k = 2
  · subst h2
    rw [if_pos (by simp)] at hY ⊢
    obtain ⟨fn, tmps, assign, body, hy, hR⟩ := hY [] ia W h0 (by simp)
    gi_wp2
    refine hR.mono ?_
    clear hR hy
    rintro e W3 (⟨rfl, hJ3, hk3⟩ | ⟨rfl, hJx3⟩)
    · obtain ⟨d0, d2, d3, d6⟩ := hBx.kept hk3 hpx
      dsimp only at d0 d2 d3 d6
      clear hBx c0 c2 c3 c6
      (gi_wp2; all_goals (try exact (undef_bool ‹_›).elim))
      all_goals (try (refine ⟨fun f h => (by cases h), ?_⟩; (gi_wp2; all_goals (try exact (undef_bool ‹_›).elim))))
      all_goals (try (refine ⟨fun f h => (by cases h), ?_⟩; (gi_wp2; all_goals (try exact (undef_bool ‹_›).elim))))
      go_end0
      exact ⟨⟨_, rfl⟩, .inl ⟨_, rfl, hJ3⟩⟩
    · (gi_wp2; all_goals (try exact (undef_bool ‹_›).elim))
      all_goals (try (refine ⟨fun f h => (by cases h), ?_⟩; (gi_wp2; all_goals (try exact (undef_bool ‹_›).elim))))
      all_goals (try (refine ⟨fun f h => (by cases h), ?_⟩; (gi_wp2; all_goals (try exact (undef_bool ‹_›).elim))))
      refine bodyPost_ret (results_none rfl _ _ _) rfl ?_
      exact ⟨⟨_, rfl⟩, .inr ⟨_, trivial, hJx3⟩⟩
  by_cases h4 : k = 4
  · subst h4
    rw [if_pos (by simp)] at hY ⊢
    obtain ⟨fn, tmps, assign, body, hy, hR⟩ := hY [] ia W h0 (by simp)
    gi_wp2
    refine hR.mono ?_
    clear hR hy
    rintro e W3 (⟨rfl, hJ3, hk3⟩ | ⟨rfl, hJx3⟩)
    · obtain ⟨d0, d2, d3, d6⟩ := hBx.kept hk3 hpx
      dsimp only at d0 d2 d3 d6
      clear hBx c0 c2 c3 c6
      (gi_wp2; all_goals (try exact (undef_bool ‹_›).elim))
      all_goals (try (refine ⟨fun f h => (by cases h), ?_⟩; (gi_wp2; all_goals (try exact (undef_bool ‹_›).elim))))
      all_goals (try (refine ⟨fun f h => (by cases h), ?_⟩; (gi_wp2; all_goals (try exact (undef_bool ‹_›).elim))))
      go_end0
      exact ⟨⟨_, rfl⟩, .inl ⟨_, rfl, hJ3⟩⟩
    · (gi_wp2; all_goals (try exact (undef_bool ‹_›).elim))
      all_goals (try (refine ⟨fun f h => (by cases h), ?_⟩; (gi_wp2; all_goals (try exact (undef_bool ‹_›).elim))))
      all_goals (try (refine ⟨fun f h => (by cases h), ?_⟩; (gi_wp2; all_goals (try exact (undef_bool ‹_›).elim))))
      refine bodyPost_ret (results_none rfl _ _ _) rfl ?_
      exact ⟨⟨_, rfl⟩, .inr ⟨_, trivial, hJx3⟩⟩
  by_cases h7 : k = 7
  · subst h7
    rw [if_pos (by simp)] at hY ⊢
    obtain ⟨fn, tmps, assign, body, hy, hR⟩ := hY [] ia W h0 (by simp)
    gi_wp2
    refine hR.mono ?_
    clear hR hy
    rintro e W3 (⟨rfl, hJ3, hk3⟩ | ⟨rfl, hJx3⟩)
    · obtain ⟨d0, d2, d3, d6⟩ := hBx.kept hk3 hpx
      dsimp only at d0 d2 d3 d6
      clear hBx c0 c2 c3 c6
      (gi_wp2; all_goals (try exact (undef_bool ‹_›).elim))
      all_goals (try (refine ⟨fun f h => (by cases h), ?_⟩; (gi_wp2; all_goals (try exact (undef_bool ‹_›).elim))))
      all_goals (try (refine ⟨fun f h => (by cases h), ?_⟩; (gi_wp2; all_goals (try exact (undef_bool ‹_›).elim))))
      go_end0
      exact ⟨⟨_, rfl⟩, .inl ⟨_, rfl, hJ3⟩⟩
    · (gi_wp2; all_goals (try exact (undef_bool ‹_›).elim))
      all_goals (try (refine ⟨fun f h => (by cases h), ?_⟩; (gi_wp2; all_goals (try exact (undef_bool ‹_›).elim))))
      all_goals (try (refine ⟨fun f h => (by cases h), ?_⟩; (gi_wp2; all_goals (try exact (undef_bool ‹_›).elim))))
      refine bodyPost_ret (results_none rfl _ _ _) rfl ?_
      exact ⟨⟨_, rfl⟩, .inr ⟨_, trivial, hJx3⟩⟩
  by_cases h9 : k = 9
  · subst h9
    rw [if_pos (by simp)] at hY ⊢
    obtain ⟨fn, tmps, assign, body, hy, hR⟩ := hY [] ia W h0 (by simp)
    gi_wp2
    refine hR.mono ?_
    clear hR hy
    rintro e W3 (⟨rfl, hJ3, hk3⟩ | ⟨rfl, hJx3⟩)
    · obtain ⟨d0, d2, d3, d6⟩ := hBx.kept hk3 hpx
      dsimp only at d0 d2 d3 d6
      clear hBx c0 c2 c3 c6
      (gi_wp2; all_goals (try exact (undef_bool ‹_›).elim))
      all_goals (try (refine ⟨fun f h => (by cases h), ?_⟩; (gi_wp2; all_goals (try exact (undef_bool ‹_›).elim))))
      all_goals (try (refine ⟨fun f h => (by cases h), ?_⟩; (gi_wp2; all_goals (try exact (undef_bool ‹_›).elim))))
      go_end0
      exact ⟨⟨_, rfl⟩, .inl ⟨_, rfl, hJ3⟩⟩
    · (gi_wp2; all_goals (try exact (undef_bool ‹_›).elim))
      all_goals (try (refine ⟨fun f h => (by cases h), ?_⟩; (gi_wp2; all_goals (try exact (undef_bool ‹_›).elim))))
      all_goals (try (refine ⟨fun f h => (by cases h), ?_⟩; (gi_wp2; all_goals (try exact (undef_bool ‹_›).elim))))
      refine bodyPost_ret (results_none rfl _ _ _) rfl ?_
      exact ⟨⟨_, rfl⟩, .inr ⟨_, trivial, hJx3⟩⟩
  rw [if_neg (by omega)] at hY ⊢
  by_cases h5 : k = 5
  · subst h5
    rw [if_pos rfl] at hY ⊢
    obtain ⟨fn, tmps, assign, body, hy, hR⟩ := hY [] ia W h0 (by simp)
    gi_wp2
    refine hR.mono ?_
    clear hR hy
    rintro e W3 (⟨rfl, hJ3, hk3⟩ | ⟨rfl, hJx3⟩)
    · obtain ⟨d0, d2, d3, d6⟩ := hBx.kept hk3 hpx
      dsimp only at d0 d2 d3 d6
      obtain ⟨fn, tmps, assign, body, hy, hR⟩ := hY [ia] b W3 hJ3 (by simp)
      clear hBx c0 c2 c3 c6
      gi_wp2
      refine hR.mono ?_
      clear hR hy
      rintro e W4 (⟨rfl, hJ4, hk4⟩ | ⟨rfl, hJx4⟩)
      · gi_wp2
        go_end0
        exact ⟨⟨_, rfl⟩, .inl ⟨_, rfl, hJ4⟩⟩
      · gi_wp2
        refine bodyPost_ret (results_none rfl _ _ _) rfl ?_
        exact ⟨⟨_, rfl⟩, .inr ⟨_, trivial, hJx4⟩⟩
    · (gi_wp2; all_goals (try exact (undef_bool ‹_›).elim))
      all_goals (try (refine ⟨fun f h => (by cases h), ?_⟩; (gi_wp2; all_goals (try exact (undef_bool ‹_›).elim))))
      all_goals (try (refine ⟨fun f h => (by cases h), ?_⟩; (gi_wp2; all_goals (try exact (undef_bool ‹_›).elim))))
      refine bodyPost_ret (results_none rfl _ _ _) rfl ?_
      exact ⟨⟨_, rfl⟩, .inr ⟨_, trivial, hJx3⟩⟩
  rw [if_neg h5] at hY ⊢
  by_cases h36 : k = 3 ∨ k = 6
  · rw [if_pos h36] at hY ⊢
    have hl2 : args.length ≤ 1000000 := hl
    clear h2 h4 h5 h7 h9
    rcases h36 with rfl | rfl
    all_goals
      gi_wp2
      gi_loopw [4, 36] (fun s4 s36 wx => ∃ m : Nat, m ≤ args.length ∧ s36 = .int .i64 m ∧ J (args.take m) wx ∧ KeepsBut n₀ Bo W wx ∧ Good Bo wx) (fun _ s36 _ => args.length - (intOf s36).toNat)
      case atStart => exact ⟨0, by omega, rfl, by simpa using h0, KeepsBut.same _ _ _, hgd⟩
      case round =>
        obtain ⟨m, hm, rfl, hJm, hKm, hGm⟩ := hrel
        by_cases hmt : m < args.length
        · obtain ⟨_, _, hv0, -, hx⟩ := hL.keep (Keep.belowB hKm.below)
          simp only [Value.slice.injEq, true_and] at hv0
          obtain ⟨rfl, rfl⟩ := hv0
          rcases hx with rfl | ⟨sb, so, rfl, hpb, hx⟩
          · simp at hmt
          have t0 := hx m hmt
          simp only [CInt, Nat.mul_one] at t0
          clear hx
          have ht : args.take (m + 1) = args.take m ++ [args[m]] := List.take_succ_eq_append_getElem hmt
          obtain ⟨fn, tmps, assign, body, hy, hR⟩ := hY _ args[m] wr hJm (by simp; omega)
          obtain ⟨y, HYM⟩ : ∃ y, Hid (args[m] = y) := ⟨args[m], (rfl : args[m] = args[m])⟩
          rw [HYM.out] at hy hR t0 ht
          have HT : Hid (args.take (m + 1) = args.take m ++ [y]) := ht
          clear ht hJm hY hBx c0 c2 c3 c6
          gi_wp2
          refine hR.mono ?_
          clear hR hy
          rintro e W3 (⟨rfl, hJ3, hk3⟩ | ⟨rfl, hJx3⟩)
          · have hK3 := hKm.trans hk3
            have hG3 := hk3.good hGm
            rw [← HT.out] at hJ3
            clear hk3 hKm hGm
            gi_wp2
            go_roundw
            case rel => exact ⟨m + 1, by omega, by go_num, hJ3, hK3, hG3⟩
            case measure => simp [intOf]; omega
          · gi_wp2
            refine bodyPost_ret (results_none rfl _ _ _) rfl ?_
            exact ⟨⟨_, rfl⟩, .inr ⟨_, trivial, hJx3⟩⟩
        · have hme : m = args.length := by omega
          subst hme
          rw [List.take_length] at hJm
          clear hBx c0 c2 c3 c6
          gi_wp2
          go_end0
          exact ⟨⟨_, rfl⟩, .inl ⟨_, rfl, hJm⟩⟩
  · rw [if_neg h36] at hY ⊢
    have e2 : (k == 2) = false := by simpa using h2
    have e3 : (k == 3) = false := by simp; omega
    have e4 : (k == 4) = false := by simpa using h4
    have e5 : (k == 5) = false := by simpa using h5
    have e6 : (k == 6) = false := by simp; omega
    have e7 : (k == 7) = false := by simpa using h7
    have e9 : (k == 9) = false := by simpa using h9
    clear h2 h4 h5 h7 h9 h36
    gi_wp2
    go_end0
    first | exact ⟨⟨_, rfl⟩, .inl ⟨_, rfl, h0⟩⟩ | exact ⟨⟨_, rfl⟩, .inl h0⟩
end

section
/- 'live.Uses'. -/
open Go.RowKit Go.Sort Go.Shelf

attribute [local go_sem] Oper.semAt_some

theorem reads_in (n : Nat) (i : InsD) (a : Option Addr) (len cap : Nat) (w : World) :
    CallsIn Fence.wide n Try.prog 78 #[.agg #[.int .i64 i.k, .int .i64 i.d, .int .i64 i.a, .int .i64 i.b, .int .i64 i.n, .string i.name, .slice a len cap, .int .i64 i.t, .int .i64 i.f]] w fun e w' => e = .returned (.func (.func 104) #[] #[.pointer (some ⟨w.heap.size, 0, none⟩)]) ∧ w' = w.alloc (.cells #[.int .i64 i.k, .int .i64 i.d, .int .i64 i.a, .int .i64 i.b, .int .i64 i.n, .string i.name, .slice a len cap, .int .i64 i.t, .int .i64 i.f] 36) := by
  refine callsIn_of_wp Try.func78 rfl trivial ?_ rfl
  simp only [Try.ntmps78, List.size_toArray, List.length_cons, List.length_nil, Nat.reduceAdd, Nat.reduceSub, Array.replicate_succ, Array.replicate_zero, List.push_toArray, List.append_toArray, List.nil_append, List.cons_append]
  gi_wp2
  go_ret
  exact ⟨rfl, rfl⟩

/-- It tells what is read in its order. -/
theorem reads_stops (n : Nat) (hn : 1 ≤ n) (Bx Bo n₀ : Nat) (va : Value) (i : InsD) (hl : i.args.length ≤ 1000000) (w : World) (hBx : InsB w Bx i va) (hpx : Prot Bo Bx w) (hgd : Good Bo w) (hn0 : n₀ ≤ w.heap.size)
    (hL : IsInts (· < n₀) w va i.args) :
    SeqStopsK Fence.wide n Try.prog 104 #[.pointer (some ⟨Bx, 0, none⟩)] (fun x : Int => #[Value.int .i64 x]) (KeepsBut n₀ Bo) (fun ys => ys = usesS i) (fun _ => True) (usesS i).length w := by
  intro lp J Jx W hW hJ _ hY h0
  obtain ⟨hk, _⟩ := KeepsBut.of_below hgd hn0 hW
  exact reads1_in n hn lp Bx Bo n₀ va i hl J Jx W hJ hY (hBx.kept hk hpx) (hk.prot Bx (lt_of_cell hBx.c0) hpx) (hk.good hgd) (by have := hW.size; omega) (hL.keep (Keep.belowB hk.below)) h0

theorem usesS_length (i : InsD) : (usesS i).length ≤ i.args.length + 2 := by
  unfold usesS
  split
  · simp
  · split
    · simp
    · split
      · omega
      · simp

set_option maxRecDepth 100000 in
set_option maxHeartbeats 4000000 in
theorem uses_in (i : InsD) (a : Option Addr) (len cap : Nat) (w : World) (h : IsInts (· < w.heap.size) w (.slice a len cap) i.args) (hl : i.args.length ≤ 1000000) :
    CallsIn Fence.wide 5 Try.prog 36 #[.agg #[.int .i64 i.k, .int .i64 i.d, .int .i64 i.a, .int .i64 i.b, .int .i64 i.n, .string i.name, .slice a len cap, .int .i64 i.t, .int .i64 i.f]] w fun e w' => ∃ u, e = .returned u ∧ w'.ownsRow w.heap.size 3 1 u (usesS i).length (ints (usesS i)) ∧ Below w.heap.size w w' := by
  obtain ⟨i0, hi, hz0, hz1, hz2⟩ := info_parts infoInt
  refine callsIn_of_wp_marks Try.func36 rfl trivial ?_ rfl
  simp only [Try.ntmps36, List.size_toArray, List.length_cons, List.length_nil, Nat.reduceAdd, Nat.reduceSub, Array.replicate_succ, Array.replicate_zero, List.push_toArray, List.append_toArray, List.nil_append, List.cons_append]
  gi_wp2
  refine ⟨trivial, (reads_in _ i _ _ _ _).mono ?_⟩
  rintro e w' ⟨rfl, rfl⟩
  gi_wp2
  have bO := (Boxed.new (w.alloc (.cells #[.int .i64 i.k, .int .i64 i.d, .int .i64 i.a, .int .i64 i.b, .int .i64 i.n, .string i.name, .slice a len cap, .int .i64 i.t, .int .i64 i.f] 36)) 25 (.slice none 0 0)).alloc (.cells #[.int .i64 i.k, .int .i64 i.d, .int .i64 i.a, .int .i64 i.b, .int .i64 i.n, .string i.name, .slice a len cap, .int .i64 i.t, .int .i64 i.f] 36)
  have hIB : InsB (((w.alloc (.cells #[.int .i64 i.k, .int .i64 i.d, .int .i64 i.a, .int .i64 i.b, .int .i64 i.n, .string i.name, .slice a len cap, .int .i64 i.t, .int .i64 i.f] 36)).alloc (.cells #[.slice none 0 0] 25)).alloc (.cells #[.int .i64 i.k, .int .i64 i.d, .int .i64 i.a, .int .i64 i.b, .int .i64 i.n, .string i.name, .slice a len cap, .int .i64 i.t, .int .i64 i.f] 36)) (w.heap.size + 1 + 1) i (.slice a len cap) := by
    have hr : Row (((w.alloc (.cells #[.int .i64 i.k, .int .i64 i.d, .int .i64 i.a, .int .i64 i.b, .int .i64 i.n, .string i.name, .slice a len cap, .int .i64 i.t, .int .i64 i.f] 36)).alloc (.cells #[.slice none 0 0] 25)).alloc (.cells #[.int .i64 i.k, .int .i64 i.d, .int .i64 i.a, .int .i64 i.b, .int .i64 i.n, .string i.name, .slice a len cap, .int .i64 i.t, .int .i64 i.f] 36)) (w.heap.size + 1 + 1) 36 [.int .i64 i.k, .int .i64 i.d, .int .i64 i.a, .int .i64 i.b, .int .i64 i.n, .string i.name, .slice a len cap, .int .i64 i.t, .int .i64 i.f] := heap_alloc_eq _ _ _ (by simp)
    exact ⟨hr.cell rfl, hr.cell rfl, hr.cell rfl, hr.cell rfl⟩
  simp only [World.size_alloc] at bO
  have hB0 : Below w.heap.size w (((w.alloc (.cells #[.int .i64 i.k, .int .i64 i.d, .int .i64 i.a, .int .i64 i.b, .int .i64 i.n, .string i.name, .slice a len cap, .int .i64 i.t, .int .i64 i.f] 36)).alloc (.cells #[.slice none 0 0] 25)).alloc (.cells #[.int .i64 i.k, .int .i64 i.d, .int .i64 i.a, .int .i64 i.b, .int .i64 i.n, .string i.name, .slice a len cap, .int .i64 i.t, .int .i64 i.f] 36)) := bel_alloc (bel_alloc (bel_alloc (bel_refl w) _) _) _
  have hsz : (((w.alloc (.cells #[.int .i64 i.k, .int .i64 i.d, .int .i64 i.a, .int .i64 i.b, .int .i64 i.n, .string i.name, .slice a len cap, .int .i64 i.t, .int .i64 i.f] 36)).alloc (.cells #[.slice none 0 0] 25)).alloc (.cells #[.int .i64 i.k, .int .i64 i.d, .int .i64 i.a, .int .i64 i.b, .int .i64 i.n, .string i.name, .slice a len cap, .int .i64 i.t, .int .i64 i.f] 36)).heap.size = w.heap.size + 3 := by simp
  obtain ⟨W0, hW0⟩ : ∃ W0, ((w.alloc (.cells #[.int .i64 i.k, .int .i64 i.d, .int .i64 i.a, .int .i64 i.b, .int .i64 i.n, .string i.name, .slice a len cap, .int .i64 i.t, .int .i64 i.f] 36)).alloc (.cells #[.slice none 0 0] 25)).alloc (.cells #[.int .i64 i.k, .int .i64 i.d, .int .i64 i.a, .int .i64 i.b, .int .i64 i.n, .string i.name, .slice a len cap, .int .i64 i.t, .int .i64 i.f] 36) = W0 := ⟨_, rfl⟩
  rw [hW0] at bO hIB hB0 hsz ⊢
  have hgd : Good (w.heap.size + 1) W0 := ⟨by omega, fun v hv b' hb' => by rw [bO.cell] at hv; cases hv; simp [Value.ownBlock] at hb'⟩
  have hpx : Prot (w.heap.size + 1) (w.heap.size + 1 + 1) W0 := ⟨by omega, fun v hv e => by rw [bO.cell] at hv; cases hv; simp [Value.ownBlock] at e⟩
  refine wpIn_rangeFunc_ownF (w := W0) rfl (by omega) (gf := 104) (lb := #[.pointer (some ⟨w.heap.size + 1 + 1, 0, none⟩)]) rfl trivial (enters_of Try.func104 (by kernel_rfl) rfl)
    (reads_stops 4 (by omega) (w.heap.size + 1 + 1) (w.heap.size + 1) w.heap.size _ i hl W0 hIB hpx hgd (by omega) (h.keep (Keep.belowB hB0))) KeepsBut.trans ?hkb (Below.refl _ _) (fun _ => rfl)
    (fun pre W => (∃ v, Boxed W (w.heap.size + 1) 25 v ∧ W.ownsRow (w.heap.size + 1) 3 1 v pre.length (ints pre) ∧ True) ∧ Below w.heap.size w W)
    (fun _ _ _ => False)
    ?hown
    (fun _ _ _ _ _ hs _ _ => hs)
    ⟨⟨_, bO, World.ownsRow_nil _ _ _ _, trivial⟩, hB0⟩
    (fun x => { tmps := #[.agg #[.int .i64 i.k, .int .i64 i.d, .int .i64 i.a, .int .i64 i.b, .int .i64 i.n, .string i.name, .slice a len cap, .int .i64 i.t, .int .i64 i.f], .pointer (some ⟨w.heap.size, 0, none⟩), .slice none 0 0, .pointer (some ⟨w.heap.size + 1, 0, none⟩), .int .i64 x, .agg #[.int .i64 i.k, .int .i64 i.d, .int .i64 i.a, .int .i64 i.b, .int .i64 i.n, .string i.name, .slice a len cap, .int .i64 i.t, .int .i64 i.f], .func (.func 104) #[] #[.pointer (some ⟨w.heap.size + 1 + 1, 0, none⟩)], .int .i64 x, undef, undef, undef, undef, undef], defers := [] }) ?assign ?body ?done ?stop
  case hkb =>
    intro W l o o' hl ho hc hw
    have hBo : (W.putObj l o').heap[w.heap.size + 1]? = W.heap[w.heap.size + 1]? := World.putObj_heap_other (by omega)
    have hsz' : (W.putObj l o').heap.size = W.heap.size := by simp
    refine ⟨belowK_b (w := W0) (by omega) W l o o' hl ho hc hw, fun b o1 v _ hcv => cell_kept hcv (grownBy_putObj' W l o') (fun r e => by cases e; exact ⟨o, ho, hc⟩), fun b _ hp => ⟨hp.1, fun v hv => hp.2 v (by rw [← cell_of_block hBo]; exact hv)⟩, fun hG => ⟨by rw [hsz']; exact hG.1, fun v hv b hb => by rw [hsz']; exact hG.2 v (by rw [← cell_of_block hBo]; exact hv) b hb⟩⟩
  case hown =>
    exact OwnFrom.and (Own.from (holdsRow_own (w.heap.size + 1) (w.heap.size + 1) 25 3 1 (fun pre : List Int => pre.length) (fun pre => ints pre) (fun _ _ => True)) _)
      (ownFrom_below (Nat.le_refl _) (by omega))
  case assign =>
    intro lp x W K hK
    gi_wp2
    exact hK
  case body =>
    rintro lp pre x W ⟨⟨v, hv, hrow, -⟩, hB⟩ hlt
    have hc := hv.cell
    have hpl := usesS_length i
    gi_wp2_with (gi_at_builtin; refine wpIn_app _ rfl _ _ 25 rfl (w.heap.size + 1) 3 i0 (.int .i64 0) 1 8 Try.underlying25 hi hz0 hz1 hz2 rfl (by decide) _ _ _ rfl (hrow.alloc _) ⟨W.heap.size, 0, none⟩ 1 1 [.int .i64 x] rfl rfl (cell_one_new _ _ _) (by simp [Value.oneCell']) (by unfold maxLen; omega) (by omega) (by have := hv.lt; simp; omega) ?_; intro v' w1 hown' hgrow hblk; obtain ⟨g', cap', rfl⟩ := ownsRow_succ hown'; obtain ⟨hv1, hv2, hr2, hk2, hb2⟩ := hv.appended (by decide) hrow (by have := hv.lt; omega) (by omega) hown' hgrow; have hKB := KeepsBut.appended (n₀ := w.heap.size) hv hv1 (owns_mono hown' (by omega)) hgrow (hb2.mono (by omega)) hblk; have hc1 := hv1.cell; have hf1 := hv1.frozen; clear hown' hgrow hblk)
    refine ⟨hk2, hKB, ⟨⟨_, hv2, ?_, trivial⟩, hB.trans (hb2.mono (by omega))⟩⟩
    simpa [ints] using hr2
  case done =>
    rintro D ys W hD rfl ⟨⟨v, hv, hrow, -⟩, hB⟩ hK
    have hc := hv.cell
    gi_wp2
    refine ⟨by simp, .inl ⟨_, _, rfl, run_takeDeferred hK, ?_⟩⟩
    exact ⟨_, results_tmp rfl _ _ _, v, rfl, ownsRow_putObj (owns_mono hrow (by omega)) _ hK rfl, hB.trans (belowK_b (w := w) (Nat.le_refl _) W D _ _ (by omega) hK rfl rfl)⟩
  case stop =>
    rintro D c pre W _ _ h _
    exact h.elim

/-- 'live.Uses'. -/
theorem uses_c (w : World) (i : InsD) (a : Option Addr) (len cap : Nat) (h : IsInts (· < w.heap.size) w (.slice a len cap) i.args) (hl : i.args.length ≤ 1000000) :
    Calls Try.prog 36 #[insV i (.slice a len cap)] w fun e w' => ∃ z, e = .returned z ∧ w'.ownsRow w.heap.size 3 1 z (usesS i).length (ints (usesS i)) ∧ Below w.heap.size w w' :=
  callsIn_wide.1 (uses_in i a len cap w h hl)
end
end Go.Proofs.Ytcihobmjohpnkaa
