/- The reference's 'Regs'. -/
import Derived.Test.YtcihobmjohpnkaaLvE
import Derived.Test.YtcihobmjohpnkaaMore
import Derived.Deep.Upon
namespace Go.Proofs.Ytcihobmjohpnkaa
open Go.RowKit Go.Sort

/-- 'append([]int(nil), l...)'. -/
theorem wp_cloneI {ops : Array Oper} {rest : List Oper} {o : Oper} {a : Act} {Q : Exit → Act → World → Prop} {W : World} {p : Nat → Prop}
    (hgd : o.guard = none) (s x : Operand) (hop : o.op = .call { callee := .builtin .append, args := #[s, x], argTypes := #[25, 25] })
    (hs : a.eval s = .slice none 0 0) {sa : Option Addr} {cap : Nat} {l : List Int} (hx : a.eval x = .slice sa l.length cap) (hp : IsInts p W (.slice sa l.length cap) l) (hl : l.length ≤ 1000000)
    (h : ∀ v' w', w'.ownsRow W.heap.size 3 1 v' l.length (ints l) → Below W.heap.size W w' → wpList Try.prog ops Q rest (a.put o.dst v') w') :
    wpList Try.prog ops Q (o :: rest) a W := by
  obtain ⟨i0, hi, hz0, hz1, hz2⟩ := info_parts infoInt
  obtain ⟨sa', c', hv, hl', hx'⟩ := hp
  simp at hv
  obtain ⟨rfl, rfl⟩ := hv
  rcases hx' with rfl | ⟨b, off, rfl, _, hc⟩
  · refine wpList_plain hgd fun K hK => ?_
    have hsrc : Src Try.prog i0.size 25 (.slice sa 0 cap) 0 [] W := by
      cases sa with
      | none => exact Src.ofNil W Try.underlying25 cap
      | some ad => exact Src.ofSlice W Try.underlying25 ad 0 cap [] (by simp) (fun j u hj => by simp at hj) (fun u hu => by simp at hu)
    have hr := run_append_nothing (P := Try.prog) W 25 25 o.type 3 i0 Try.underlying25 hi none 0 0 (Nat.le_refl _) _ hsrc
    unfold Oper.wp execOp
    simp only [List.length_nil] at hx
    simp only [hop, resolve, invoke, builtin, Sem.run_bind, Sem.run_pure, Result.andThen_ok, List.map_toArray, List.map_cons, List.map_nil, hs, hx, hr]
    exact hK _ _ (h _ _ (World.ownsRow_nil _ _ _ _) (Below.refl _ _))
  · refine wp_app _ hgd s x 25 hop W.heap.size 3 i0 _ 1 8 Try.underlying25 hi hz0 hz1 hz2 rfl (by decide) (.slice none 0 0) 0 [] hs (World.ownsRow_nil _ _ _ _)
      ⟨b, off, none⟩ l.length cap (ints l) hx (by simp) ?_ ?_ ?_ ?_ (Nat.le_refl _) ?_
    · intro j u hj
      have hjl : j < l.length := by
        by_cases hh : j < l.length
        · exact hh
        · simp [hh] at hj
      simp [hjl] at hj
      subst hj
      have hc1 := hc j hjl
      unfold CInt at hc1
      rw [Nat.mul_one] at hc1
      have e : (⟨b, off, none⟩ : Addr).add j = ⟨b, off + j, none⟩ := by cases j <;> simp [Addr.add]
      rw [e]; exact hc1
    · intro u hu
      obtain ⟨y, _, rfl⟩ := List.mem_map.1 hu
      rfl
    · unfold maxLen; omega
    · omega
    · intro v' w' ho hg _
      refine h v' w' ?_ ((Below.refl _ W).grown hg (Nat.le_refl _) fun k hk => by simp [Value.ownBlock] at hk)
      simpa using ho

set_option maxRecDepth 100000 in
theorem regs_c {p : Nat → Prop} (w : World) (i : InsD) (va : Value) (h : IsInts p w va i.args) (hla : i.args.length ≤ 1000000) :
    Calls Try.prog 37 #[insV i va] w fun e w' => ∃ z, e = .returned z ∧ IsInts (w.heap.size ≤ ·) w' z (usesS i) ∧ Below w.heap.size w w' := by
  obtain ⟨k, d, ia, b, n, name, args, t, f⟩ := i
  obtain ⟨aa, cap, rfl, hl, hx⟩ := h
  unfold insV usesS
  have h0 : IsInts p w (.slice aa args.length cap) args := ⟨aa, cap, rfl, hl, hx⟩
  dsimp only at hl hx hla ⊢
  have hd0 := bel_alloc (bel_refl w) (.cells #[.int .i64 k, .int .i64 d, .int .i64 ia, .int .i64 b, .int .i64 n, .string name, .slice aa args.length cap, .int .i64 t, .int .i64 f] 36)
  by_cases h2 : k = 2
  · subst h2; rw [if_pos (by simp)]
    clear hx
    go_enter Try.func37, Try.ntmps37
    go_wp2_with fail
    go_ret
    exact ⟨_, rfl, ints_of_row (xs := [ia]) (e := 3) (heap_alloc_eq _ _ _ (by simp)) (by simp) (by simp), bel_alloc hd0 _⟩
  by_cases h4 : k = 4
  · subst h4; rw [if_pos (by simp)]
    clear hx
    go_enter Try.func37, Try.ntmps37
    go_wp2_with fail
    go_ret
    exact ⟨_, rfl, ints_of_row (xs := [ia]) (e := 3) (heap_alloc_eq _ _ _ (by simp)) (by simp) (by simp), bel_alloc hd0 _⟩
  by_cases h7 : k = 7
  · subst h7; rw [if_pos (by simp)]
    clear hx
    go_enter Try.func37, Try.ntmps37
    go_wp2_with fail
    go_ret
    exact ⟨_, rfl, ints_of_row (xs := [ia]) (e := 3) (heap_alloc_eq _ _ _ (by simp)) (by simp) (by simp), bel_alloc hd0 _⟩
  by_cases h9 : k = 9
  · subst h9; rw [if_pos (by simp)]
    clear hx
    go_enter Try.func37, Try.ntmps37
    go_wp2_with fail
    go_ret
    exact ⟨_, rfl, ints_of_row (xs := [ia]) (e := 3) (heap_alloc_eq _ _ _ (by simp)) (by simp) (by simp), bel_alloc hd0 _⟩
  rw [if_neg (by omega)]
  by_cases h5 : k = 5
  · subst h5; rw [if_pos rfl]
    clear hx
    go_enter Try.func37, Try.ntmps37
    go_wp2_with fail
    go_ret
    exact ⟨_, rfl, ints_of_row (xs := [ia, b]) (e := 3) (heap_alloc_eq _ _ _ (by simp)) (by simp) (by simp), bel_alloc hd0 _⟩
  rw [if_neg h5]
  by_cases h36 : k = 3 ∨ k = 6
  · rw [if_pos h36]
    have h1 := IsInts.keep (p' := p) h0 (Keep.below hd0)
    clear h2 h4 h5 h7 h9 hx
    rcases h36 with rfl | rfl
    all_goals
      go_enter Try.func37, Try.ntmps37
      go_wp2_with (at_builtin; refine stop_here ?_)
      refine stop_go (wp_cloneI rfl _ _ rfl rfl (l := args) rfl h1 hla ?_)
      intro v' w' ho hb'
      have hb2 := bel_call hd0 hb'
      go_wp2_with fail
      go_ret
      exact ⟨_, rfl, ints_of_owns ho (by omega) (fun _ _ hh _ => by simp at hh; omega), hb2⟩
  · rw [if_neg h36]
    have e2 : (k == 2) = false := by simpa using h2
    have e3 : (k == 3) = false := by simp; omega
    have e4 : (k == 4) = false := by simpa using h4
    have e5 : (k == 5) = false := by simpa using h5
    have e6 : (k == 6) = false := by simp; omega
    have e7 : (k == 7) = false := by simpa using h7
    have e9 : (k == 9) = false := by simpa using h9
    clear h2 h4 h5 h7 h9 h36 hx
    go_enter Try.func37, Try.ntmps37
    go_wp2_with fail
    go_ret
    exact ⟨_, rfl, ints_nil _ _, hd0⟩
end Go.Proofs.Ytcihobmjohpnkaa
