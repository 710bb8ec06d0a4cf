/- 'virok.Reads': what an instruction reads, as a range over a function tells it; 'live.Uses'. -/
import Derived.Test.YtcihobmjohpnkaaPreds
import Derived.Test.YtcihobmjohpnkaaLvD
namespace Go.Proofs.Ytcihobmjohpnkaa
open Go.RowKit Go.Sort Go.Shelf

attribute [local go_sem] Oper.semAt_some

/-- Block b is an instruction's cells. -/
structure InsB (W : World) (b : Nat) (i : InsD) (va : Value) : Prop where
  c0 : W.cell? ⟨b, 0, none⟩ = some (.int .i64 i.k)
  c2 : W.cell? ⟨b, 2, none⟩ = some (.int .i64 i.a)
  c3 : W.cell? ⟨b, 3, none⟩ = some (.int .i64 i.b)
  c6 : W.cell? ⟨b, 6, none⟩ = some va
theorem InsB.kept {n₀ Bo b : Nat} {W W' : World} {i : InsD} {va : Value} (h : InsB W b i va) (hk : KeepsBut n₀ Bo W W') (hp : Prot Bo b W) : InsB W' b i va :=
  ⟨hk.cell _ _ _ hp h.c0, hk.cell _ _ _ hp h.c2, hk.cell _ _ _ hp h.c3, hk.cell _ _ _ hp h.c6⟩
theorem KeepsBut.same (n₀ Bo : Nat) (W : World) : KeepsBut n₀ Bo W W := ⟨Below.refl _ _, fun _ _ _ _ h => h, fun _ _ h => h, fun h => h⟩

theorem undef_bool {b : Bool} (h : some undef = some (Value.bool b)) : False := by simp [undef] at h

set_option maxRecDepth 100000 in
set_option maxHeartbeats 4000000 in
theorem reads1_in (n : Nat) (hn : 1 ≤ n) (lp Bx Bo n₀ : Nat) (va : Value) (i : InsD) (hl : i.args.length ≤ 1000000) (J Jx : List Int → World → Prop) (W : World) (_ : AbidesFrom W.heap.size J)
    (hY : ∀ pre x W, J pre W → pre.length < (usesS i).length → YieldAt Fence.wide (n - 1) Try.prog lp #[.int .i64 x] W fun e W' =>
      (e = .returned (.bool true) ∧ J (pre ++ [x]) W' ∧ KeepsBut n₀ Bo W W') ∨ (e = .returned (.bool false) ∧ Jx (pre ++ [x]) W'))
    (hBx : InsB W Bx i va) (hpx : Prot Bo Bx W) (hgd : Good Bo W) (_ : n₀ ≤ W.heap.size) (hL : IsInts (· < n₀) W va i.args) (h0 : J [] W) :
    CallsIn Fence.wide n Try.prog 104 #[.func (.yield lp) #[] #[], .pointer (some ⟨Bx, 0, none⟩)] W fun e W' => (∃ v, e = .returned v) ∧
      ((∃ ys, ys = usesS i ∧ J ys W') ∨ (∃ pre, True ∧ Jx pre W')) := by
  obtain ⟨aa, cap, rfl, -, -⟩ := id hL
  obtain ⟨k, d, ia, b, nn, name, args, t, f⟩ := i
  dsimp only at hl hL
  unfold usesS at hY ⊢
  dsimp only at hY ⊢
  obtain ⟨c0, c2, c3, c6⟩ := id hBx
  dsimp only at c0 c2 c3 c6
  refine callsIn_of_wp Try.func104 rfl trivial ?_ rfl
  simp only [Try.ntmps104, List.size_toArray, List.length_cons, List.length_nil, Nat.reduceAdd, Nat.reduceSub, Array.replicate_succ, Array.replicate_zero, List.push_toArray, List.append_toArray, List.nil_append, List.cons_append]
  by_cases h2 : k = 2
  · subst h2
    rw [if_pos (by simp)] at hY ⊢
    obtain ⟨fn, tmps, assign, body, hy, hR⟩ := hY [] ia W h0 (by simp)
    gi_wp2
    refine hR.mono ?_
    clear hR hy
    rintro e W3 (⟨rfl, hJ3, hk3⟩ | ⟨rfl, hJx3⟩)
    · obtain ⟨d0, d2, d3, d6⟩ := hBx.kept hk3 hpx
      dsimp only at d0 d2 d3 d6
      clear hBx c0 c2 c3 c6
      (gi_wp2; all_goals (try exact (undef_bool ‹_›).elim))
      all_goals (try (refine ⟨fun f h => (by cases h), ?_⟩; (gi_wp2; all_goals (try exact (undef_bool ‹_›).elim))))
      all_goals (try (refine ⟨fun f h => (by cases h), ?_⟩; (gi_wp2; all_goals (try exact (undef_bool ‹_›).elim))))
      go_end0
      exact ⟨⟨_, rfl⟩, .inl ⟨_, rfl, hJ3⟩⟩
    · (gi_wp2; all_goals (try exact (undef_bool ‹_›).elim))
      all_goals (try (refine ⟨fun f h => (by cases h), ?_⟩; (gi_wp2; all_goals (try exact (undef_bool ‹_›).elim))))
      all_goals (try (refine ⟨fun f h => (by cases h), ?_⟩; (gi_wp2; all_goals (try exact (undef_bool ‹_›).elim))))
      refine bodyPost_ret (results_none rfl _ _ _) rfl ?_
      exact ⟨⟨_, rfl⟩, .inr ⟨_, trivial, hJx3⟩⟩
  by_cases h4 : k = 4
  · subst h4
    rw [if_pos (by simp)] at hY ⊢
    obtain ⟨fn, tmps, assign, body, hy, hR⟩ := hY [] ia W h0 (by simp)
    gi_wp2
    refine hR.mono ?_
    clear hR hy
    rintro e W3 (⟨rfl, hJ3, hk3⟩ | ⟨rfl, hJx3⟩)
    · obtain ⟨d0, d2, d3, d6⟩ := hBx.kept hk3 hpx
      dsimp only at d0 d2 d3 d6
      clear hBx c0 c2 c3 c6
      (gi_wp2; all_goals (try exact (undef_bool ‹_›).elim))
      all_goals (try (refine ⟨fun f h => (by cases h), ?_⟩; (gi_wp2; all_goals (try exact (undef_bool ‹_›).elim))))
      all_goals (try (refine ⟨fun f h => (by cases h), ?_⟩; (gi_wp2; all_goals (try exact (undef_bool ‹_›).elim))))
      go_end0
      exact ⟨⟨_, rfl⟩, .inl ⟨_, rfl, hJ3⟩⟩
    · (gi_wp2; all_goals (try exact (undef_bool ‹_›).elim))
      all_goals (try (refine ⟨fun f h => (by cases h), ?_⟩; (gi_wp2; all_goals (try exact (undef_bool ‹_›).elim))))
      all_goals (try (refine ⟨fun f h => (by cases h), ?_⟩; (gi_wp2; all_goals (try exact (undef_bool ‹_›).elim))))
      refine bodyPost_ret (results_none rfl _ _ _) rfl ?_
      exact ⟨⟨_, rfl⟩, .inr ⟨_, trivial, hJx3⟩⟩
  by_cases h7 : k = 7
  · subst h7
    rw [if_pos (by simp)] at hY ⊢
    obtain ⟨fn, tmps, assign, body, hy, hR⟩ := hY [] ia W h0 (by simp)
    gi_wp2
    refine hR.mono ?_
    clear hR hy
    rintro e W3 (⟨rfl, hJ3, hk3⟩ | ⟨rfl, hJx3⟩)
    · obtain ⟨d0, d2, d3, d6⟩ := hBx.kept hk3 hpx
      dsimp only at d0 d2 d3 d6
      clear hBx c0 c2 c3 c6
      (gi_wp2; all_goals (try exact (undef_bool ‹_›).elim))
      all_goals (try (refine ⟨fun f h => (by cases h), ?_⟩; (gi_wp2; all_goals (try exact (undef_bool ‹_›).elim))))
      all_goals (try (refine ⟨fun f h => (by cases h), ?_⟩; (gi_wp2; all_goals (try exact (undef_bool ‹_›).elim))))
      go_end0
      exact ⟨⟨_, rfl⟩, .inl ⟨_, rfl, hJ3⟩⟩
    · (gi_wp2; all_goals (try exact (undef_bool ‹_›).elim))
      all_goals (try (refine ⟨fun f h => (by cases h), ?_⟩; (gi_wp2; all_goals (try exact (undef_bool ‹_›).elim))))
      all_goals (try (refine ⟨fun f h => (by cases h), ?_⟩; (gi_wp2; all_goals (try exact (undef_bool ‹_›).elim))))
      refine bodyPost_ret (results_none rfl _ _ _) rfl ?_
      exact ⟨⟨_, rfl⟩, .inr ⟨_, trivial, hJx3⟩⟩
  by_cases h9 : k = 9
  · subst h9
    rw [if_pos (by simp)] at hY ⊢
    obtain ⟨fn, tmps, assign, body, hy, hR⟩ := hY [] ia W h0 (by simp)
    gi_wp2
    refine hR.mono ?_
    clear hR hy
    rintro e W3 (⟨rfl, hJ3, hk3⟩ | ⟨rfl, hJx3⟩)
    · obtain ⟨d0, d2, d3, d6⟩ := hBx.kept hk3 hpx
      dsimp only at d0 d2 d3 d6
      clear hBx c0 c2 c3 c6
      (gi_wp2; all_goals (try exact (undef_bool ‹_›).elim))
      all_goals (try (refine ⟨fun f h => (by cases h), ?_⟩; (gi_wp2; all_goals (try exact (undef_bool ‹_›).elim))))
      all_goals (try (refine ⟨fun f h => (by cases h), ?_⟩; (gi_wp2; all_goals (try exact (undef_bool ‹_›).elim))))
      go_end0
      exact ⟨⟨_, rfl⟩, .inl ⟨_, rfl, hJ3⟩⟩
    · (gi_wp2; all_goals (try exact (undef_bool ‹_›).elim))
      all_goals (try (refine ⟨fun f h => (by cases h), ?_⟩; (gi_wp2; all_goals (try exact (undef_bool ‹_›).elim))))
      all_goals (try (refine ⟨fun f h => (by cases h), ?_⟩; (gi_wp2; all_goals (try exact (undef_bool ‹_›).elim))))
      refine bodyPost_ret (results_none rfl _ _ _) rfl ?_
      exact ⟨⟨_, rfl⟩, .inr ⟨_, trivial, hJx3⟩⟩
  rw [if_neg (by omega)] at hY ⊢
  by_cases h5 : k = 5
  · subst h5
    rw [if_pos rfl] at hY ⊢
    obtain ⟨fn, tmps, assign, body, hy, hR⟩ := hY [] ia W h0 (by simp)
    gi_wp2
    refine hR.mono ?_
    clear hR hy
    rintro e W3 (⟨rfl, hJ3, hk3⟩ | ⟨rfl, hJx3⟩)
    · obtain ⟨d0, d2, d3, d6⟩ := hBx.kept hk3 hpx
      dsimp only at d0 d2 d3 d6
      obtain ⟨fn, tmps, assign, body, hy, hR⟩ := hY [ia] b W3 hJ3 (by simp)
      clear hBx c0 c2 c3 c6
      gi_wp2
      refine hR.mono ?_
      clear hR hy
      rintro e W4 (⟨rfl, hJ4, hk4⟩ | ⟨rfl, hJx4⟩)
      · gi_wp2
        go_end0
        exact ⟨⟨_, rfl⟩, .inl ⟨_, rfl, hJ4⟩⟩
      · gi_wp2
        refine bodyPost_ret (results_none rfl _ _ _) rfl ?_
        exact ⟨⟨_, rfl⟩, .inr ⟨_, trivial, hJx4⟩⟩
    · (gi_wp2; all_goals (try exact (undef_bool ‹_›).elim))
      all_goals (try (refine ⟨fun f h => (by cases h), ?_⟩; (gi_wp2; all_goals (try exact (undef_bool ‹_›).elim))))
      all_goals (try (refine ⟨fun f h => (by cases h), ?_⟩; (gi_wp2; all_goals (try exact (undef_bool ‹_›).elim))))
      refine bodyPost_ret (results_none rfl _ _ _) rfl ?_
      exact ⟨⟨_, rfl⟩, .inr ⟨_, trivial, hJx3⟩⟩
  rw [if_neg h5] at hY ⊢
  by_cases h36 : k = 3 ∨ k = 6
  · rw [if_pos h36] at hY ⊢
    have hl2 : args.length ≤ 1000000 := hl
    clear h2 h4 h5 h7 h9
    rcases h36 with rfl | rfl
    all_goals
      gi_wp2
      gi_loopw [4, 36] (fun s4 s36 wx => ∃ m : Nat, m ≤ args.length ∧ s36 = .int .i64 m ∧ J (args.take m) wx ∧ KeepsBut n₀ Bo W wx ∧ Good Bo wx) (fun _ s36 _ => args.length - (intOf s36).toNat)
      case atStart => exact ⟨0, by omega, rfl, by simpa using h0, KeepsBut.same _ _ _, hgd⟩
      case round =>
        obtain ⟨m, hm, rfl, hJm, hKm, hGm⟩ := hrel
        by_cases hmt : m < args.length
        · obtain ⟨_, _, hv0, -, hx⟩ := hL.keep (Keep.belowB hKm.below)
          simp only [Value.slice.injEq, true_and] at hv0
          obtain ⟨rfl, rfl⟩ := hv0
          rcases hx with rfl | ⟨sb, so, rfl, hpb, hx⟩
          · simp at hmt
          have t0 := hx m hmt
          simp only [CInt, Nat.mul_one] at t0
          clear hx
          have ht : args.take (m + 1) = args.take m ++ [args[m]] := List.take_succ_eq_append_getElem hmt
          obtain ⟨fn, tmps, assign, body, hy, hR⟩ := hY _ args[m] wr hJm (by simp; omega)
          obtain ⟨y, HYM⟩ : ∃ y, Hid (args[m] = y) := ⟨args[m], (rfl : args[m] = args[m])⟩
          rw [HYM.out] at hy hR t0 ht
          have HT : Hid (args.take (m + 1) = args.take m ++ [y]) := ht
          clear ht hJm hY hBx c0 c2 c3 c6
          gi_wp2
          refine hR.mono ?_
          clear hR hy
          rintro e W3 (⟨rfl, hJ3, hk3⟩ | ⟨rfl, hJx3⟩)
          · have hK3 := hKm.trans hk3
            have hG3 := hk3.good hGm
            rw [← HT.out] at hJ3
            clear hk3 hKm hGm
            gi_wp2
            go_roundw
            case rel => exact ⟨m + 1, by omega, by go_num, hJ3, hK3, hG3⟩
            case measure => simp [intOf]; omega
          · gi_wp2
            refine bodyPost_ret (results_none rfl _ _ _) rfl ?_
            exact ⟨⟨_, rfl⟩, .inr ⟨_, trivial, hJx3⟩⟩
        · have hme : m = args.length := by omega
          subst hme
          rw [List.take_length] at hJm
          clear hBx c0 c2 c3 c6
          gi_wp2
          go_end0
          exact ⟨⟨_, rfl⟩, .inl ⟨_, rfl, hJm⟩⟩
  · rw [if_neg h36] at hY ⊢
    have e2 : (k == 2) = false := by simpa using h2
    have e3 : (k == 3) = false := by simp; omega
    have e4 : (k == 4) = false := by simpa using h4
    have e5 : (k == 5) = false := by simpa using h5
    have e6 : (k == 6) = false := by simp; omega
    have e7 : (k == 7) = false := by simpa using h7
    have e9 : (k == 9) = false := by simpa using h9
    clear h2 h4 h5 h7 h9 h36
    gi_wp2
    go_end0
    first | exact ⟨⟨_, rfl⟩, .inl ⟨_, rfl, h0⟩⟩ | exact ⟨⟨_, rfl⟩, .inl h0⟩
end Go.Proofs.Ytcihobmjohpnkaa
