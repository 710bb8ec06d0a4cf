/- 'zip'. -/
import Derived.Test.YtcihobmjohpnkaaBitW
namespace Go.Proofs.Ytcihobmjohpnkaa
open Go.RowKit

theorem infoWord : (Try.prog.info? 121).map (fun i => (i.zero, i.size, i.bytes)) = some (some (.int .u64 0), 1, 8) := by kernel_rfl
/-- 'out = append(out, y)': words. -/
theorem app_word {ops : Array Oper} {rest : List Oper} {o : Oper} {a : Act} {Q : Exit → Act → World → Prop} {W : World}
    (hgd : o.guard = none) (s x : Operand) (hop : o.op = .call { callee := .builtin .append, args := #[s, x], argTypes := #[94, 94] })
    (base : Nat) (v : Value) (zs : List Nat) (hs : a.eval s = v) (hown : W.ownsRow base 121 1 v zs.length (words zs)) (g : Nat) (y : Nat) (hx : a.eval x = .slice (some ⟨g, 0, none⟩) 1 1)
    (hc : W.heap[g]? = some (.cells #[.int .u64 (y : Int)] 121 (0, 0))) (hn : zs.length + 1 ≤ 17592186044416) (hb : base ≤ W.heap.size)
    (h : ∀ v' w', w'.ownsRow base 121 1 v' (zs ++ [y]).length (words (zs ++ [y])) → W.grownBy w' v.ownBlock → (v'.ownBlock = v.ownBlock ∨ v'.ownBlock = some W.heap.size) → wpList Try.prog ops Q rest (a.put o.dst v') w') :
    wpList Try.prog ops Q (o :: rest) a W := by
  obtain ⟨i0, hi, hz0, hz1, hz2⟩ := info_parts infoWord
  refine wp_app _ hgd s x 94 hop base 121 i0 (.int .u64 0) 1 8 Try.underlying94 hi hz0 hz1 hz2 rfl (by decide) v zs.length (words zs) hs hown
    ⟨g, 0, none⟩ 1 1 [.int .u64 y] hx rfl ?_ ?_ ?_ ?_ hb ?_
  · intro j u hj
    match j, hj with
    | 0, hj => simp at hj; subst hj; simp [Addr.add, cell_of_one hc]
  · intro u hu; simp at hu; subst hu; rfl
  · unfold maxLen; omega
  · omega
  · intro v' w' ho hg hv
    refine h v' w' ?_ hg hv
    simpa [words] using ho

set_option maxRecDepth 100000 in
set_option maxHeartbeats 2000000 in
theorem zip_c {p : Nat → Prop} {u v : Value} {a b : List Nat} (w : World) (fid : FuncId) (f : Nat → Nat → Nat) (hfid : fid = 122 ∨ fid = 126 ∨ fid = 123) (hf : ∀ (W : World) (x y : Nat), x < 2 ^ 64 → y < 2 ^ 64 → Calls Try.prog fid #[.int .u64 (x : Int), .int .u64 (y : Int)] W fun e W' => e = .returned (.int .u64 ((f x y : Nat) : Int)) ∧ W' = W)
    (ha : IsWords p w u a) (hb : IsWords p w v b) (hoa : Bit.Ok a) (hob : Bit.Ok b) (hla : a.length ≤ 2000) (hlb : b.length ≤ 2000) :
    Calls Try.prog 121 #[u, v, .func (.func fid) #[] #[]] w fun e w' => ∃ z, e = .returned z ∧ w'.ownsRow w.heap.size 121 1 z (Bit.zipS f a b).length (words (Bit.zipS f a b)) ∧ Below w.heap.size w w' := by
  have ha0 := ha
  have hb0 := hb
  obtain ⟨aa, ac, rfl, hal, -⟩ := ha
  obtain ⟨ba, bc, rfl, hbl, -⟩ := hb
  go_enter Try.func121, Try.ntmps121
  go_wp2_with fail
  obtain ⟨M, HM⟩ : ∃ M, Hid (max a.length b.length = M) := ⟨_, (rfl : max a.length b.length = max a.length b.length)⟩
  have hmi : max (a.length : Int) (b.length : Int) = (M : Int) := by have := HM.out; omega
  have hM : M ≤ 2000 := by have := HM.out; omega
  rw [hmi]
  clear hmi
  obtain ⟨g, HG⟩ : ∃ g : Nat → Nat, Hid (g = fun i => f (a.getD i 0) (b.getD i 0)) := ⟨_, (rfl : (fun i => f (a.getD i 0) (b.getD i 0)) = _)⟩
  have HZ : Hid (Bit.zipS f a b = (List.range M).map g) := by show _ = _; rw [HG.out, ← HM.out]; rfl
  go_loopw [8, 15] (fun s8 s15 wr => ∃ k : Nat, k ≤ M ∧ s15 = .int .i64 k ∧ wr.ownsRow w.heap.size 121 1 s8 k (words ((List.range k).map g)) ∧ Below w.heap.size w wr) (fun _ s15 _ => M - (intOf s15).toNat)
  case atStart => exact ⟨0, by omega, rfl, ⟨by simp, .inl ⟨rfl, rfl⟩⟩, bel_refl _⟩
  case round =>
    obtain ⟨k, hk, rfl, ho, hb⟩ := hrel
    have hsz := hb.size
    by_cases hlt : k < M
    · have hgk : f (a.getD k 0) (b.getD k 0) = g k := by rw [HG.out]
      have HS : Hid ((List.range (k + 1)).map g = (List.range k).map g ++ [g k]) := by show _ = _; rw [List.range_succ, List.map_append]; rfl
      have hax := Bit.getD_lt hoa k
      have hbx := Bit.getD_lt hob k
      have hA := at_c wr k (ha0.keep (Keep.below hb))
      have hB := at_c wr k (hb0.keep (Keep.below hb))
      generalize a.getD k 0 = x at hgk hax hA
      generalize b.getD k 0 = y at hgk hbx hB
      have hf' := fun W => hf W x y hax hbx
      rw [hgk] at hf'
      clear hf hgk hax hbx hoa hob HG HZ HM ha0 hb0
      generalize hL : (List.range k).map g = L at ho HS
      have hLl : L.length = k := by rw [← hL]; simp
      have HL : Hid (L.length = k) := hLl
      have ho' : wr.ownsRow w.heap.size 121 1 u8 L.length (words L) := by rw [hLl]; exact ho
      have hL1 : L.length + 1 ≤ 17592186044416 := by omega
      clear hL hLl ho
      generalize g k = z at hf' HS
      rcases hfid with rfl | rfl | rfl
      all_goals
        go_wp2_with fail
        refine hA.mono ?_
        rintro e w2 ⟨rfl, rfl⟩
        go_wp2_with fail
        refine hB.mono ?_
        rintro e w3 ⟨rfl, rfl⟩
        go_wp2_with fail
        refine (hf' w3).mono ?_
        rintro e w4 ⟨rfl, rfl⟩
        go_wp2_with (at_builtin; refine stop_here ?_)
        refine stop_go (app_word rfl _ _ rfl w.heap.size _ L rfl (ho'.alloc _) _ z rfl (heap_alloc_eq _ _ _ rfl) hL1 (by simp; omega) ?_)
        intro v' w' hown' hg' hv'
        have hb' : Below w.heap.size w w' := bel_grown (bel_alloc hb _) hg' (fun k hk => (ho'.lt k hk).1)
        clear ho' hb hg' hv'
        go_wp2_with fail
        go_roundw
        case rel => exact ⟨k + 1, by omega, by go_num, by rw [HS.out]; simpa [HL.out] using hown', hb'⟩
        case measure => simp [intOf]; omega
    · have hke : k = M := by omega
      subst hke
      go_wp2_with fail
      go_ret
      refine ⟨_, rfl, ?_, hb⟩
      rw [HZ.out]
      simpa using ho
end Go.Proofs.Ytcihobmjohpnkaa
