/- 'virok.Writes', 'live.Def'. -/
import Derived.Test.YtcihobmjohpnkaaOwn
import Derived.Deep.Upon
namespace Go.Proofs.Ytcihobmjohpnkaa

section
open Go.RowKit

/-- An instruction by value. -/
def insV (i : InsD) (va : Value) : Value := .agg #[.int .i64 i.k, .int .i64 i.d, .int .i64 i.a, .int .i64 i.b, .int .i64 i.n, .string i.name, va, .int .i64 i.t, .int .i64 i.f]
/-- What an instruction writes, else -1. -/
def defS (i : InsD) : Int := if i.k = 1 ∨ i.k = 2 ∨ i.k = 3 ∨ i.k = 4 ∨ i.k = 6 then i.d else -1
/-- What an instruction reads. -/
def usesS (i : InsD) : List Int := if i.k = 2 ∨ i.k = 4 ∨ i.k = 7 ∨ i.k = 9 then [i.a] else if i.k = 5 then [i.a, i.b] else if i.k = 3 ∨ i.k = 6 then i.args else []

def writesS (i : InsD) : Value := if i.k = 1 ∨ i.k = 2 ∨ i.k = 3 ∨ i.k = 4 then .tuple #[.int .i64 i.d, .bool true] else if i.k = 6 then .tuple #[.int .i64 i.d, .bool (i.d != -1)] else .tuple #[.int .i64 0, .bool false]

set_option maxRecDepth 100000 in
theorem writes_c (w : World) (i : InsD) (a : Option Addr) (len cap : Nat) :
    Calls Try.prog 79 #[insV i (.slice a len cap)] w fun e w' => e = .returned (writesS i) ∧ Below w.heap.size w w' := by
  obtain ⟨k, d, ia, b, n, name, args, t, f⟩ := i
  unfold insV writesS
  dsimp only
  have hd := bel_drewN (bel_alloc (bel_refl w) (.cells #[.int .i64 k, .int .i64 d, .int .i64 ia, .int .i64 b, .int .i64 n, .string name, .slice a len cap, .int .i64 t, .int .i64 f] 36))
  have hd0 := hd 0
  by_cases h1 : k = 1
  · subst h1; rw [if_pos (by simp)]
    go_enter Try.func79, Try.ntmps79
    go_wp2_with fail
    go_ret2
    exact ⟨rfl, hd0⟩
  by_cases h2 : k = 2
  · subst h2; rw [if_pos (by simp)]
    go_enter Try.func79, Try.ntmps79
    go_wp2_with fail
    go_ret2
    exact ⟨rfl, hd0⟩
  by_cases h3 : k = 3
  · subst h3; rw [if_pos (by simp)]
    go_enter Try.func79, Try.ntmps79
    go_wp2_with fail
    go_ret2
    exact ⟨rfl, hd0⟩
  by_cases h4 : k = 4
  · subst h4; rw [if_pos (by simp)]
    go_enter Try.func79, Try.ntmps79
    go_wp2_with fail
    go_ret2
    exact ⟨rfl, hd0⟩
  rw [if_neg (by omega)]
  by_cases h6 : k = 6
  · subst h6; rw [if_pos rfl]
    clear h1 h2 h3 h4
    go_enter Try.func79, Try.ntmps79
    go_wp2_with fail
    go_quiet (fail)
    go_wp2_with fail
    go_ret2
    exact ⟨rfl, hd _⟩
  · rw [if_neg h6]
    have e1 : (k == 1) = false := by simpa using h1
    have e2 : (k == 2) = false := by simpa using h2
    have e3 : (k == 3) = false := by simpa using h3
    have e4 : (k == 4) = false := by simpa using h4
    have e6 : (k == 6) = false := by simpa using h6
    clear h1 h2 h3 h4 h6
    go_enter Try.func79, Try.ntmps79
    go_wp2_with fail
    go_ret2
    exact ⟨rfl, hd0⟩

set_option maxRecDepth 100000 in
theorem def_c (w : World) (i : InsD) (a : Option Addr) (len cap : Nat) :
    Calls Try.prog 38 #[insV i (.slice a len cap)] w fun e w' => e = .returned (.int .i64 (defS i)) ∧ Below w.heap.size w w' := by
  obtain ⟨x, y, hw, hxy⟩ : ∃ (x : Int) (y : Bool), writesS i = .tuple #[.int .i64 x, .bool y] ∧ defS i = if y = true then x else -1 := by
    unfold writesS defS
    by_cases h : i.k = 1 ∨ i.k = 2 ∨ i.k = 3 ∨ i.k = 4
    · exact ⟨_, _, by rw [if_pos h], by rw [if_pos (by omega)]; rfl⟩
    · by_cases h6 : i.k = 6
      · refine ⟨i.d, i.d != -1, by rw [if_neg h, if_pos h6], ?_⟩
        rw [if_pos (by omega)]
        by_cases e : i.d = -1 <;> simp [e]
      · exact ⟨0, false, by rw [if_neg h, if_neg h6], by rw [if_neg (by omega)]; rfl⟩
  rw [hxy]
  have hc := fun W => writes_c W i a len cap
  rw [hw] at hc
  unfold insV at hc ⊢
  clear hw hxy
  have hB0 := bel_alloc (bel_refl w) (.cells #[.int .i64 i.k, .int .i64 i.d, .int .i64 i.a, .int .i64 i.b, .int .i64 i.n, .string i.name, .slice a len cap, .int .i64 i.t, .int .i64 i.f] 36)
  cases y
  all_goals
    go_enter Try.func38, Try.ntmps38
    go_wp2_with fail
    refine (hc _).mono ?_
    rintro e w1 ⟨rfl, hb1⟩
    have hb2 := bel_call hB0 hb1
    go_wp2_with fail
    go_ret
    exact ⟨rfl, hb2⟩
end

section
/- The reference's 'Def' and 'Regs'. -/
open Go.RowKit Go.Sort

set_option maxRecDepth 100000 in
theorem refDef_c (w : World) (i : InsD) (a : Option Addr) (len cap : Nat) :
    Calls Try.prog 39 #[insV i (.slice a len cap)] w fun e w' => e = .returned (.int .i64 (defS i)) ∧ Below w.heap.size w w' := by
  obtain ⟨k, d, ia, b, n, name, args, t, f⟩ := i
  unfold insV defS
  dsimp only
  have hd0 := bel_alloc (bel_refl w) (.cells #[.int .i64 k, .int .i64 d, .int .i64 ia, .int .i64 b, .int .i64 n, .string name, .slice a len cap, .int .i64 t, .int .i64 f] 36)
  by_cases h1 : k = 1
  · subst h1; rw [if_pos (by simp)]
    go_enter Try.func39, Try.ntmps39
    go_wp2_with fail
    go_ret
    exact ⟨rfl, hd0⟩
  by_cases h2 : k = 2
  · subst h2; rw [if_pos (by simp)]
    go_enter Try.func39, Try.ntmps39
    go_wp2_with fail
    go_ret
    exact ⟨rfl, hd0⟩
  by_cases h3 : k = 3
  · subst h3; rw [if_pos (by simp)]
    go_enter Try.func39, Try.ntmps39
    go_wp2_with fail
    go_ret
    exact ⟨rfl, hd0⟩
  by_cases h4 : k = 4
  · subst h4; rw [if_pos (by simp)]
    go_enter Try.func39, Try.ntmps39
    go_wp2_with fail
    go_ret
    exact ⟨rfl, hd0⟩
  by_cases h6 : k = 6
  · subst h6; rw [if_pos (by simp)]
    go_enter Try.func39, Try.ntmps39
    go_wp2_with fail
    go_ret
    exact ⟨rfl, hd0⟩
  rw [if_neg (by omega)]
  have e1 : (k == 1) = false := by simpa using h1
  have e2 : (k == 2) = false := by simpa using h2
  have e3 : (k == 3) = false := by simpa using h3
  have e4 : (k == 4) = false := by simpa using h4
  have e6 : (k == 6) = false := by simpa using h6
  clear h1 h2 h3 h4 h6
  go_enter Try.func39, Try.ntmps39
  go_wp2_with fail
  go_ret
  exact ⟨rfl, hd0⟩
end

section
/- The reference's 'Regs'. -/
open Go.RowKit Go.Sort

/-- 'append([]int(nil), l...)'. -/
theorem wp_cloneI {ops : Array Oper} {rest : List Oper} {o : Oper} {a : Act} {Q : Exit → Act → World → Prop} {W : World} {p : Nat → Prop}
    (hgd : o.guard = none) (s x : Operand) (hop : o.op = .call { callee := .builtin .append, args := #[s, x], argTypes := #[25, 25] })
    (hs : a.eval s = .slice none 0 0) {sa : Option Addr} {cap : Nat} {l : List Int} (hx : a.eval x = .slice sa l.length cap) (hp : IsInts p W (.slice sa l.length cap) l) (hl : l.length ≤ 1000000)
    (h : ∀ v' w', w'.ownsRow W.heap.size 3 1 v' l.length (ints l) → Below W.heap.size W w' → wpList Try.prog ops Q rest (a.put o.dst v') w') :
    wpList Try.prog ops Q (o :: rest) a W := by
  obtain ⟨i0, hi, hz0, hz1, hz2⟩ := info_parts infoInt
  obtain ⟨sa', c', hv, hl', hx'⟩ := hp
  simp at hv
  obtain ⟨rfl, rfl⟩ := hv
  rcases hx' with rfl | ⟨b, off, rfl, _, hc⟩
  · refine wpList_plain hgd fun K hK => ?_
    have hsrc : Src Try.prog i0.size 25 (.slice sa 0 cap) 0 [] W := by
      cases sa with
      | none => exact Src.ofNil W Try.underlying25 cap
      | some ad => exact Src.ofSlice W Try.underlying25 ad 0 cap [] (by simp) (fun j u hj => by simp at hj) (fun u hu => by simp at hu)
    have hr := run_append_nothing (P := Try.prog) W 25 25 o.type 3 i0 Try.underlying25 hi none 0 0 (Nat.le_refl _) _ hsrc
    unfold Oper.wp execOp
    simp only [List.length_nil] at hx
    simp only [hop, resolve, invoke, builtin, Sem.run_bind, Sem.run_pure, Result.andThen_ok, List.map_toArray, List.map_cons, List.map_nil, hs, hx, hr]
    exact hK _ _ (h _ _ (World.ownsRow_nil _ _ _ _) (Below.refl _ _))
  · refine wp_app _ hgd s x 25 hop W.heap.size 3 i0 _ 1 8 Try.underlying25 hi hz0 hz1 hz2 rfl (by decide) (.slice none 0 0) 0 [] hs (World.ownsRow_nil _ _ _ _)
      ⟨b, off, none⟩ l.length cap (ints l) hx (by simp) ?_ ?_ ?_ ?_ (Nat.le_refl _) ?_
    · intro j u hj
      have hjl : j < l.length := by
        by_cases hh : j < l.length
        · exact hh
        · simp [hh] at hj
      simp [hjl] at hj
      subst hj
      have hc1 := hc j hjl
      unfold CInt at hc1
      rw [Nat.mul_one] at hc1
      have e : (⟨b, off, none⟩ : Addr).add j = ⟨b, off + j, none⟩ := by cases j <;> simp [Addr.add]
      rw [e]; exact hc1
    · intro u hu
      obtain ⟨y, _, rfl⟩ := List.mem_map.1 hu
      rfl
    · unfold maxLen; omega
    · omega
    · intro v' w' ho hg _
      refine h v' w' ?_ ((Below.refl _ W).grown hg (Nat.le_refl _) fun k hk => by simp [Value.ownBlock] at hk)
      simpa using ho

set_option maxRecDepth 100000 in
theorem regs_c {p : Nat → Prop} (w : World) (i : InsD) (va : Value) (h : IsInts p w va i.args) (hla : i.args.length ≤ 1000000) :
    Calls Try.prog 37 #[insV i va] w fun e w' => ∃ z, e = .returned z ∧ IsInts (w.heap.size ≤ ·) w' z (usesS i) ∧ Below w.heap.size w w' := by
  obtain ⟨k, d, ia, b, n, name, args, t, f⟩ := i
  obtain ⟨aa, cap, rfl, hl, hx⟩ := h
  unfold insV usesS
  have h0 : IsInts p w (.slice aa args.length cap) args := ⟨aa, cap, rfl, hl, hx⟩
  dsimp only at hl hx hla ⊢
  have hd0 := bel_alloc (bel_refl w) (.cells #[.int .i64 k, .int .i64 d, .int .i64 ia, .int .i64 b, .int .i64 n, .string name, .slice aa args.length cap, .int .i64 t, .int .i64 f] 36)
  by_cases h2 : k = 2
  · subst h2; rw [if_pos (by simp)]
    clear hx
    go_enter Try.func37, Try.ntmps37
    go_wp2_with fail
    go_ret
    exact ⟨_, rfl, ints_of_row (xs := [ia]) (e := 3) (heap_alloc_eq _ _ _ (by simp)) (by simp) (by simp), bel_alloc hd0 _⟩
  by_cases h4 : k = 4
  · subst h4; rw [if_pos (by simp)]
    clear hx
    go_enter Try.func37, Try.ntmps37
    go_wp2_with fail
    go_ret
    exact ⟨_, rfl, ints_of_row (xs := [ia]) (e := 3) (heap_alloc_eq _ _ _ (by simp)) (by simp) (by simp), bel_alloc hd0 _⟩
  by_cases h7 : k = 7
  · subst h7; rw [if_pos (by simp)]
    clear hx
    go_enter Try.func37, Try.ntmps37
    go_wp2_with fail
    go_ret
    exact ⟨_, rfl, ints_of_row (xs := [ia]) (e := 3) (heap_alloc_eq _ _ _ (by simp)) (by simp) (by simp), bel_alloc hd0 _⟩
  by_cases h9 : k = 9
  · subst h9; rw [if_pos (by simp)]
    clear hx
    go_enter Try.func37, Try.ntmps37
    go_wp2_with fail
    go_ret
    exact ⟨_, rfl, ints_of_row (xs := [ia]) (e := 3) (heap_alloc_eq _ _ _ (by simp)) (by simp) (by simp), bel_alloc hd0 _⟩
  rw [if_neg (by omega)]
  by_cases h5 : k = 5
  · subst h5; rw [if_pos rfl]
    clear hx
    go_enter Try.func37, Try.ntmps37
    go_wp2_with fail
    go_ret
    exact ⟨_, rfl, ints_of_row (xs := [ia, b]) (e := 3) (heap_alloc_eq _ _ _ (by simp)) (by simp) (by simp), bel_alloc hd0 _⟩
  rw [if_neg h5]
  by_cases h36 : k = 3 ∨ k = 6
  · rw [if_pos h36]
    have h1 := IsInts.keep (p' := p) h0 (Keep.below hd0)
    clear h2 h4 h5 h7 h9 hx
    rcases h36 with rfl | rfl
    all_goals
      go_enter Try.func37, Try.ntmps37
      go_wp2_with (at_builtin; refine stop_here ?_)
      refine stop_go (wp_cloneI rfl _ _ rfl rfl (l := args) rfl h1 hla ?_)
      intro v' w' ho hb'
      have hb2 := bel_call hd0 hb'
      go_wp2_with fail
      go_ret
      exact ⟨_, rfl, ints_of_owns ho (by omega) (fun _ _ hh _ => by simp at hh; omega), hb2⟩
  · rw [if_neg h36]
    have e2 : (k == 2) = false := by simpa using h2
    have e3 : (k == 3) = false := by simp; omega
    have e4 : (k == 4) = false := by simpa using h4
    have e5 : (k == 5) = false := by simpa using h5
    have e6 : (k == 6) = false := by simp; omega
    have e7 : (k == 7) = false := by simpa using h7
    have e9 : (k == 9) = false := by simpa using h9
    clear h2 h4 h5 h7 h9 h36 hx
    go_enter Try.func37, Try.ntmps37
    go_wp2_with fail
    go_ret
    exact ⟨_, rfl, ints_nil _ _, hd0⟩
end

section
/- 'append(a, b...)': ints of a slice behind those of a row of the call's own. -/
open Go.RowKit Go.Sort

theorem wp_appI {ops : Array Oper} {rest : List Oper} {o : Oper} {a : Act} {Q : Exit → Act → World → Prop} {W : World} {p : Nat → Prop}
    (hgd : o.guard = none) (s x : Operand) (hop : o.op = .call { callee := .builtin .append, args := #[s, x], argTypes := #[25, 25] })
    (base : Nat) (v : Value) (zs : List Int) (hs : a.eval s = v) (hown : W.ownsRow base 3 1 v zs.length (ints zs)) {sa : Option Addr} {cap : Nat} (ys : List Int) (hx : a.eval x = .slice sa ys.length cap) (hp : IsInts p W (.slice sa ys.length cap) ys)
    (hl : zs.length + ys.length ≤ 17000000000000) (hb : base ≤ W.heap.size)
    (h : ∀ v' w', w'.ownsRow base 3 1 v' (zs ++ ys).length (ints (zs ++ ys)) → W.grownBy w' v.ownBlock → (v'.ownBlock = v.ownBlock ∨ v'.ownBlock = some W.heap.size) → wpList Try.prog ops Q rest (a.put o.dst v') w') :
    wpList Try.prog ops Q (o :: rest) a W := by
  obtain ⟨i0, hi, hz0, hz1, hz2⟩ := info_parts infoInt
  obtain ⟨sa', c', hv, hl', hx'⟩ := hp
  simp at hv
  obtain ⟨rfl, rfl⟩ := hv
  rcases hx' with rfl | ⟨b, off, rfl, _, hc⟩
  · refine wpList_plain hgd fun K hK => ?_
    have hsrc : Src Try.prog i0.size 25 (.slice sa 0 cap) 0 [] W := by
      cases sa with
      | none => exact Src.ofNil W Try.underlying25 cap
      | some ad => exact Src.ofSlice W Try.underlying25 ad 0 cap [] (by simp) (fun j u hj => by simp at hj) (fun u hu => by simp at hu)
    obtain ⟨va, vc, rfl, hva⟩ := owns_slice hown
    have hle : zs.length ≤ vc := by
      rcases hown.2 with ⟨e, _⟩ | ⟨g, cap', cur, e, _, _, hn, _⟩
      · simp at e; omega
      · simp at e; omega
    have hr := run_append_nothing (P := Try.prog) W 25 25 o.type 3 i0 Try.underlying25 hi va zs.length vc hle _ hsrc
    unfold Oper.wp execOp
    simp only [List.length_nil] at hx
    simp only [hop, resolve, invoke, builtin, Sem.run_bind, Sem.run_pure, Result.andThen_ok, List.map_toArray, List.map_cons, List.map_nil, hs, hx, hr]
    refine hK _ _ (h _ _ (by simpa using hown) (World.grownBy.refl _ _) (.inl rfl))
  · refine wp_app _ hgd s x 25 hop base 3 i0 _ 1 8 Try.underlying25 hi hz0 hz1 hz2 rfl (by decide) v zs.length (ints zs) hs hown
      ⟨b, off, none⟩ ys.length cap (ints ys) hx (by simp) ?_ ?_ ?_ ?_ hb ?_
    · intro j u hj
      have hjl : j < ys.length := by
        by_cases hh : j < ys.length
        · exact hh
        · simp [hh] at hj
      simp [hjl] at hj
      subst hj
      have hc1 := hc j hjl
      unfold CInt at hc1
      rw [Nat.mul_one] at hc1
      have e : (⟨b, off, none⟩ : Addr).add j = ⟨b, off + j, none⟩ := by cases j <;> simp [Addr.add]
      rw [e]; exact hc1
    · intro u hu
      obtain ⟨y, _, rfl⟩ := List.mem_map.1 hu
      rfl
    · unfold maxLen; omega
    · omega
    · intro v' w' ho hg hv
      refine h v' w' ?_ hg hv
      simpa [ints] using ho

theorem ints_drop {p : Nat → Prop} {w : World} {b off n cap : Nat} {xs : List Int} (h : IsInts p w (.slice (some ⟨b, off, none⟩) n cap) xs) (k c : Nat) (hk : k ≤ xs.length) (hc : xs.length - k ≤ c) : IsInts p w (.slice (some ⟨b, off + k, none⟩) (xs.length - k) c) (xs.drop k) := by
  obtain ⟨a', cap', hv, hl, hx⟩ := h
  simp only [Value.slice.injEq] at hv
  obtain ⟨hv, rfl, rfl⟩ := hv
  refine ⟨_, c, by rw [List.length_drop], ⟨by simpa using hc, by simp; omega⟩, ?_⟩
  rcases hx with rfl | ⟨b', off', rfl, hpb, hx⟩
  · exact .inl (by simp)
  · simp only [Option.some.injEq, Addr.mk.injEq, and_true] at hv
    obtain ⟨rfl, rfl⟩ := hv
    refine .inr ⟨b, off + k, rfl, hpb, fun j hj => ?_⟩
    have := hx (k + j) (by simp at hj; omega)
    rw [List.getElem_drop]
    rwa [show off + k + j * 1 = off + (k + j) * 1 by omega]
theorem ints_take {p : Nat → Prop} {w : World} {a : Option Addr} {n cap : Nat} {xs : List Int} (h : IsInts p w (.slice a n cap) xs) (k : Nat) (hk : k ≤ xs.length) : IsInts p w (.slice a k cap) (xs.take k) := by
  obtain ⟨a', cap', hv, hl, hx⟩ := h
  simp only [Value.slice.injEq] at hv
  obtain ⟨rfl, rfl, rfl⟩ := hv
  have e : (xs.take k).length = k := by simp; omega
  refine ⟨_, cap, by rw [e], ⟨by omega, by omega⟩, ?_⟩
  rcases hx with rfl | ⟨b', off', rfl, hpb, hx⟩
  · exact .inl (by simp)
  · exact .inr ⟨b', off', rfl, hpb, fun j hj => by simpa using hx j (by omega)⟩
theorem ints_cap {p : Nat → Prop} {w : World} {a : Option Addr} {n cap : Nat} {xs : List Int} (h : IsInts p w (.slice a n cap) xs) (c : Nat) (hc : n ≤ c) : IsInts p w (.slice a n c) xs := by
  obtain ⟨a', cap', hv, hl, hx⟩ := h
  simp only [Value.slice.injEq] at hv
  obtain ⟨rfl, rfl, rfl⟩ := hv
  exact ⟨_, c, rfl, ⟨hc, hl.2⟩, hx⟩
theorem ints_empty (p : Nat → Prop) (w : World) (a : Option Addr) (c : Nat) : IsInts p w (.slice a 0 c) [] := ⟨a, c, rfl, ⟨by simp, by simp⟩, .inl rfl⟩
end
end Go.Proofs.Ytcihobmjohpnkaa
