/- 'append(a, b...)': ints of a slice behind those of a row of the call's own. -/
import Derived.Test.YtcihobmjohpnkaaLvG
namespace Go.Proofs.Ytcihobmjohpnkaa
open Go.RowKit Go.Sort

theorem wp_appI {ops : Array Oper} {rest : List Oper} {o : Oper} {a : Act} {Q : Exit → Act → World → Prop} {W : World} {p : Nat → Prop}
    (hgd : o.guard = none) (s x : Operand) (hop : o.op = .call { callee := .builtin .append, args := #[s, x], argTypes := #[25, 25] })
    (base : Nat) (v : Value) (zs : List Int) (hs : a.eval s = v) (hown : W.ownsRow base 3 1 v zs.length (ints zs)) {sa : Option Addr} {cap : Nat} (ys : List Int) (hx : a.eval x = .slice sa ys.length cap) (hp : IsInts p W (.slice sa ys.length cap) ys)
    (hl : zs.length + ys.length ≤ 17000000000000) (hb : base ≤ W.heap.size)
    (h : ∀ v' w', w'.ownsRow base 3 1 v' (zs ++ ys).length (ints (zs ++ ys)) → W.grownBy w' v.ownBlock → (v'.ownBlock = v.ownBlock ∨ v'.ownBlock = some W.heap.size) → wpList Try.prog ops Q rest (a.put o.dst v') w') :
    wpList Try.prog ops Q (o :: rest) a W := by
  obtain ⟨i0, hi, hz0, hz1, hz2⟩ := info_parts infoInt
  obtain ⟨sa', c', hv, hl', hx'⟩ := hp
  simp at hv
  obtain ⟨rfl, rfl⟩ := hv
  rcases hx' with rfl | ⟨b, off, rfl, _, hc⟩
  · refine wpList_plain hgd fun K hK => ?_
    have hsrc : Src Try.prog i0.size 25 (.slice sa 0 cap) 0 [] W := by
      cases sa with
      | none => exact Src.ofNil W Try.underlying25 cap
      | some ad => exact Src.ofSlice W Try.underlying25 ad 0 cap [] (by simp) (fun j u hj => by simp at hj) (fun u hu => by simp at hu)
    obtain ⟨va, vc, rfl, hva⟩ := owns_slice hown
    have hle : zs.length ≤ vc := by
      rcases hown.2 with ⟨e, _⟩ | ⟨g, cap', cur, e, _, _, hn, _⟩
      · simp at e; omega
      · simp at e; omega
    have hr := run_append_nothing (P := Try.prog) W 25 25 o.type 3 i0 Try.underlying25 hi va zs.length vc hle _ hsrc
    unfold Oper.wp execOp
    simp only [List.length_nil] at hx
    simp only [hop, resolve, invoke, builtin, Sem.run_bind, Sem.run_pure, Result.andThen_ok, List.map_toArray, List.map_cons, List.map_nil, hs, hx, hr]
    refine hK _ _ (h _ _ (by simpa using hown) (World.grownBy.refl _ _) (.inl rfl))
  · refine wp_app _ hgd s x 25 hop base 3 i0 _ 1 8 Try.underlying25 hi hz0 hz1 hz2 rfl (by decide) v zs.length (ints zs) hs hown
      ⟨b, off, none⟩ ys.length cap (ints ys) hx (by simp) ?_ ?_ ?_ ?_ hb ?_
    · intro j u hj
      have hjl : j < ys.length := by
        by_cases hh : j < ys.length
        · exact hh
        · simp [hh] at hj
      simp [hjl] at hj
      subst hj
      have hc1 := hc j hjl
      unfold CInt at hc1
      rw [Nat.mul_one] at hc1
      have e : (⟨b, off, none⟩ : Addr).add j = ⟨b, off + j, none⟩ := by cases j <;> simp [Addr.add]
      rw [e]; exact hc1
    · intro u hu
      obtain ⟨y, _, rfl⟩ := List.mem_map.1 hu
      rfl
    · unfold maxLen; omega
    · omega
    · intro v' w' ho hg hv
      refine h v' w' ?_ hg hv
      simpa [ints] using ho

theorem ints_drop {p : Nat → Prop} {w : World} {b off n cap : Nat} {xs : List Int} (h : IsInts p w (.slice (some ⟨b, off, none⟩) n cap) xs) (k c : Nat) (hk : k ≤ xs.length) (hc : xs.length - k ≤ c) : IsInts p w (.slice (some ⟨b, off + k, none⟩) (xs.length - k) c) (xs.drop k) := by
  obtain ⟨a', cap', hv, hl, hx⟩ := h
  simp only [Value.slice.injEq] at hv
  obtain ⟨hv, rfl, rfl⟩ := hv
  refine ⟨_, c, by rw [List.length_drop], ⟨by simpa using hc, by simp; omega⟩, ?_⟩
  rcases hx with rfl | ⟨b', off', rfl, hpb, hx⟩
  · exact .inl (by simp)
  · simp only [Option.some.injEq, Addr.mk.injEq, and_true] at hv
    obtain ⟨rfl, rfl⟩ := hv
    refine .inr ⟨b, off + k, rfl, hpb, fun j hj => ?_⟩
    have := hx (k + j) (by simp at hj; omega)
    rw [List.getElem_drop]
    rwa [show off + k + j * 1 = off + (k + j) * 1 by omega]
theorem ints_take {p : Nat → Prop} {w : World} {a : Option Addr} {n cap : Nat} {xs : List Int} (h : IsInts p w (.slice a n cap) xs) (k : Nat) (hk : k ≤ xs.length) : IsInts p w (.slice a k cap) (xs.take k) := by
  obtain ⟨a', cap', hv, hl, hx⟩ := h
  simp only [Value.slice.injEq] at hv
  obtain ⟨rfl, rfl, rfl⟩ := hv
  have e : (xs.take k).length = k := by simp; omega
  refine ⟨_, cap, by rw [e], ⟨by omega, by omega⟩, ?_⟩
  rcases hx with rfl | ⟨b', off', rfl, hpb, hx⟩
  · exact .inl (by simp)
  · exact .inr ⟨b', off', rfl, hpb, fun j hj => by simpa using hx j (by omega)⟩
theorem ints_cap {p : Nat → Prop} {w : World} {a : Option Addr} {n cap : Nat} {xs : List Int} (h : IsInts p w (.slice a n cap) xs) (c : Nat) (hc : n ≤ c) : IsInts p w (.slice a n c) xs := by
  obtain ⟨a', cap', hv, hl, hx⟩ := h
  simp only [Value.slice.injEq] at hv
  obtain ⟨rfl, rfl, rfl⟩ := hv
  exact ⟨_, c, rfl, ⟨hc, hl.2⟩, hx⟩
theorem ints_empty (p : Nat → Prop) (w : World) (a : Option Addr) (c : Nat) : IsInts p w (.slice a 0 c) [] := ⟨a, c, rfl, ⟨by simp, by simp⟩, .inl rfl⟩
end Go.Proofs.Ytcihobmjohpnkaa
