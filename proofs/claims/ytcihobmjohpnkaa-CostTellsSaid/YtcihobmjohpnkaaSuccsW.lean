/- 'cfg.Succs': where a block goes on. -/
import Derived.Test.YtcihobmjohpnkaaOwn
import Derived.Deep.QuietTactic
import Derived.BigQuiet
namespace Go.Proofs.Ytcihobmjohpnkaa

section
open Go.RowKit Go.Sort

theorem del_gives (a : Option Addr) (len cap bl : Nat) (n : Int) (w : World) (hc : w.cell? ⟨bl, 0, none⟩ = some (.slice a len cap)) :
    FnGives Try.prog 75 #[.pointer (some ⟨bl, 0, none⟩)] #[.int .i64 n] (.bool (!(inR len n))) w := by
  show Calls Try.prog 75 #[.int .i64 n, .pointer (some ⟨bl, 0, none⟩)] w _
  go_enter Try.func75, Try.ntmps75
  go_wp2
  · have h0 : (0 : Int) ≤ n := by assumption
    go_ret
    refine ⟨ret_bool ?_, 0, rfl⟩
    unfold inR
    by_cases h1 : n < (len : Int) <;> simp [h0, h1] <;> omega
  · have h0 : n < (0 : Int) := by assumption
    go_ret
    refine ⟨ret_bool ?_, 0, rfl⟩
    unfold inR
    simp; omega

/-- 'slices.DeleteFunc' there. -/
theorem delete_c {base e : Nat} {v : Value} {zs : List Int} (a : Option Addr) (len cap' bl : Nat) (w : World) (hc : w.cell? ⟨bl, 0, none⟩ = some (.slice a len cap')) (hbl : ∀ b, v.ownBlock = some b → bl ≠ b)
    (h : w.ownsRow base e 1 v zs.length (ints zs)) (hs : zs.length ≤ 140737488351232) :
    Calls Try.prog 74 #[v, .func (.func 75) #[] #[.pointer (some ⟨bl, 0, none⟩)]] w fun e' w' =>
      ∃ v', e' = .returned v' ∧ w'.ownsRow base e 1 v' (zs.filter (inR len)).length (ints (zs.filter (inR len))) ∧ w.grownBy w' v.ownBlock := by
  have hbs := lt_of_cell hc
  rcases owns_nilcase h with ⟨rfl, h0, hx⟩ | ⟨g, cap, rfl⟩
  · have hz : zs = [] := List.length_eq_zero_iff.1 h0
    subst hz
    go_enter Try.func74, Try.ntmps74
    go_wp2_with (go_at_call 102; refine (Try.slices_IndexFunc_empty (α := Int) none 0 _ _).mono ?_; rintro e' w' ⟨rfl, rfl⟩)
    go_ret
    exact ⟨_, rfl, World.ownsRow_nil _ _ _ _, World.grownBy.refl _ _⟩
  · obtain ⟨_, _, _, hcap, _⟩ := owns_block h
    have hne : bl ≠ g := hbl g rfl
    have eg : ∀ args w, (callFunc 75 args).run Try.prog w = .ok (.enter 75 args) w := enters_of Try.func75 (by kernel_rfl) rfl
    have hcon := Try.slices_DeleteFunc (Value.int .i64) (fun _ => rfl) (fun x => !(inR len x)) 75 #[.pointer (some ⟨bl, 0, none⟩)] eg 0 Try.zeroValue3 g 0 cap zs.toArray w
      (fun W x hb => del_gives a len cap' bl x W ((hb.cell (p := ⟨bl, 0, none⟩) hbs).trans hc))
      (fun n os dk x _ => del_gives a len cap' bl x _ (by
        unfold sortWorld
        rw [cell?_grow _ _ _ (by show bl < (putRow _ _ _ _ _).heap.size; rw [size_putRow]; exact hbs), cell?_putRow_other _ _ g 0 _ _ (Or.inl hne)]
        exact hc)) (owns_holds h) (by simp; omega) (by simpa using hcap)
    simp only [List.size_toArray] at hcon
    refine hcon.mono ?_
    rintro e' w' ⟨rfl, q, rfl⟩
    have hf : (zs.filter fun x => !!(inR len x)) = zs.filter (inR len) := by simp
    rw [hf]
    have hle : (zs.filter (inR len)).length ≤ zs.length := List.length_filter_le _ _
    obtain ⟨o, hg⟩ := owns_put (ys := zs.filter (inR len) ++ List.replicate (zs.length - (zs.filter (inR len)).length) 0) h (by simp; omega) q
    have := owns_shrink o (zs.filter (inR len)).length (by simp)
    refine ⟨_, rfl, ?_, hg⟩
    simpa [ints] using this
end

section
/- 'cfg.Succs': the walk. -/
open Go.RowKit Go.Sort

theorem compact_two (t f : Int) : Lib.compact [t, f] = if t = f then [t] else [t, f] := by
  unfold Lib.compact Lib.compactUpTo
  by_cases h : t = f
  · subst h; simp [Lib.keeps, List.range_succ]
  · have : ¬ f = t := fun e => h e.symm
    simp [Lib.keeps, List.range_succ, h, this]
theorem compact_one (t : Int) : Lib.compact [t] = [t] := by
  unfold Lib.compact Lib.compactUpTo
  simp [Lib.keeps, List.range_succ]
theorem compact_nil : Lib.compact ([] : List Int) = [] := rfl

set_option maxRecDepth 100000 in
set_option maxHeartbeats 1000000 in
theorem succs_c {p : Nat → Prop} {v : Value} {l : List (List InsD)} (w : World) (b : Int) (h : IsBlocks p w v l) :
    Calls Try.prog 30 #[v, .int .i64 b] w fun e w' => ∃ u, e = .returned u ∧ w'.ownsRow w.heap.size 3 1 u (succS l b).length (ints (succS l b)) ∧ Below w.heap.size w w' := by
  obtain ⟨a, cap, rfl, hl, hx⟩ := h
  by_cases hb0 : b < 0
  · have hd : decide (b < 0) = true := by simpa using hb0
    have e0 : succS l b = [] := by unfold succS; rw [if_neg (by omega)]
    rw [e0]
    clear hx e0
    go_enter Try.func30, Try.ntmps30
    go_wp2
    go_ret
    exact ⟨_, rfl, World.ownsRow_nil _ _ _ _, (Below.refl _ _).alloc (Nat.le_refl _) _⟩
  obtain ⟨n, rfl⟩ : ∃ n : Nat, b = n := ⟨b.toNat, by omega⟩
  have hd0 : decide ((n : Int) < 0) = false := by simp
  have e0 : succS l (n : Int) = succN l n := by unfold succS; rw [if_pos (by omega)]; simp
  rw [e0]
  by_cases hn : l.length ≤ n
  · have hd1 : decide (l.length ≤ n) = true := by simpa using hn
    have e1 : succN l n = [] := by unfold succN; rw [List.getD_eq_getElem?_getD, List.getElem?_eq_none hn]; rfl
    rw [e1]
    clear hx e0 e1
    go_enter Try.func30, Try.ntmps30
    go_wp2
    go_ret
    exact ⟨_, rfl, World.ownsRow_nil _ _ _ _, (Below.refl _ _).alloc (Nat.le_refl _) _⟩
  have hd1 : decide (l.length ≤ n) = false := by simpa using hn
  have hn' : n < l.length := by omega
  clear e0 hb0
  rcases hx with rfl | ⟨bl, off, rfl, hp, hx⟩
  · simp at hn'
  obtain ⟨vi, hc, ai, capi, rfl, hli, hxi⟩ := hx n hn'
  rw [Nat.mul_one] at hc
  have hbl : bl < w.heap.size := lt_of_cell hc
  clear hx
  obtain ⟨li, HLI⟩ : ∃ li, Hid (l[n] = li) := ⟨l[n], (rfl : l[n] = l[n])⟩
  rw [HLI.out] at hli hxi hc
  have hS : Hid (succN l n = match li.getLast? with | none => [] | some i => (rawS i).filter (inR l.length)) := by
    show succN l n = _
    unfold succN
    rw [List.getD_eq_getElem?_getD, List.getElem?_eq_getElem hn', Option.getD_some, HLI.out]
    rfl
  generalize succN l n = S at hS
  clear HLI
  rcases List.eq_nil_or_concat li with rfl | ⟨li', i, rfl⟩
  · have e1 : S = [] := hS.out
    subst e1
    clear hxi
    simp only [List.length_nil] at hc
    go_enter Try.func30, Try.ntmps30
    go_wp2
    go_ret
    exact ⟨_, rfl, World.ownsRow_nil _ _ _ _, (Below.refl _ _).alloc (Nat.le_refl _) _⟩
  rw [List.concat_eq_append] at hxi hS hc hli
  have hS2 : Hid (S = (rawS i).filter (inR l.length)) := by
    have := hS.out
    simp only [List.getLast?_append, List.getLast?_singleton, Option.some_or] at this
    exact this
  clear hS
  rcases hxi with hxi | ⟨bb, ob, rfl, hpb, hxi⟩
  · simp at hxi
  obtain ⟨h0, h1, h2, h3, h4, h5, ⟨va, h6, ⟨aa, ca, rfl, _, _⟩⟩, h7, h8⟩ := hxi li'.length (by simp)
  have hbb : bb < w.heap.size := lt_of_cell h0
  rw [List.getElem_append_right (Nat.le_refl _)] at h0 h1 h2 h3 h4 h5 h6 h7 h8
  simp only [Nat.sub_self, List.getElem_cons_zero, List.length_append, List.length_cons, List.length_nil, Nat.zero_add] at h0 h1 h2 h3 h4 h5 h6 h7 h8 hc hli
  clear hxi
  obtain ⟨m, HM⟩ : ∃ m, Hid (li'.length = m) := ⟨li'.length, (rfl : li'.length = li'.length)⟩
  rw [HM.out] at h0 h1 h2 h3 h4 h5 h6 h7 h8 hc hli
  clear HM
  obtain ⟨ik, id', ia, ib, inn, iname, iargs, it, jf⟩ := i
  dsimp only at h0 h1 h2 h3 h4 h5 h6 h7 h8
  generalize iargs.length = la at h6
  have hcase : (ik = 7 ∧ Hid (S = (Lib.compact [it, jf]).filter (inR l.length))) ∨ (ik = 8 ∧ Hid (S = (Lib.compact [it]).filter (inR l.length))) ∨ ((ik == 7) = false ∧ (ik == 8) = false ∧ Hid (S = (Lib.compact []).filter (inR l.length))) := by
    have hS3 := hS2.out
    unfold rawS at hS3
    dsimp only at hS3
    by_cases hk7 : ik = 7
    · refine .inl ⟨hk7, ?_⟩
      rw [compact_two]
      rw [if_pos hk7] at hS3
      exact hS3
    · rw [if_neg hk7] at hS3
      by_cases hk8 : ik = 8
      · refine .inr (.inl ⟨hk8, ?_⟩)
        rw [compact_one]
        rw [if_pos hk8] at hS3
        exact hS3
      · refine .inr (.inr ⟨by simpa using hk7, by simpa using hk8, ?_⟩)
        rw [if_neg hk8] at hS3
        exact hS3
  clear hS2
  rcases hcase with ⟨rfl, hE⟩ | ⟨rfl, hE⟩ | ⟨hk7, hk8, hE⟩
  · go_enter Try.func30, Try.ntmps30
    go_wp2_with fail
    go_region
    go_wp2_with fail
    clear h0 h1 h2 h3 h4 h5 h6 h7 h8
    refine calls_at (fun W => W.heap[w.heap.size]? = some (.cells #[.slice (some ⟨bl, off, none⟩) l.length cap] 22) ∧ Below w.heap.size w W ∧ W.ownsRow (w.heap.size + 1) 3 1 (.slice (some ⟨w.heap.size + 1 + 1, 0, none⟩) 2 2) 2 (ints [it, jf])) ⟨?_, ?_, owns_new (cs := #[.int .i64 it, .int .i64 jf]) rfl (by simp) (by decide) rfl (by simp) rfl⟩ ?_
    · exact heap_alloc_ne _ _ _ _ (heap_alloc_ne _ _ _ _ (heap_alloc_eq _ _ _ rfl))
    · exact (bel_alloc (bel_alloc (bel_alloc (bel_refl w) _) _) _).drew
    rintro W3 ⟨hc3, hb3, ho3⟩
    have hs3 := lt_of_block hc3
    refine (compact_c (base := w.heap.size + 1) (e := 3) (zs := [it, jf]) W3 ho3 (by simp)).mono ?_
    rintro e' w1 ⟨v1, rfl, ho1, hg1⟩
    have hcb : w1.cell? ⟨w.heap.size, 0, none⟩ = some (.slice (some ⟨bl, off, none⟩) l.length cap) := by
      refine cell_of_one ((hg1.block _ hs3 ?_).trans hc3)
      simp [Value.ownBlock] <;> omega
    have hbel : Below w.heap.size w w1 := bel_grown hb3 hg1 (by intro k hk; simp [Value.ownBlock] at hk; omega)
    have hne : ∀ b, v1.ownBlock = some b → w.heap.size ≠ b := by
      intro k hk; have := (ho1.lt k hk).1; omega
    have hlen : (Lib.compact [it, jf]).length ≤ 140737488351232 := Nat.le_trans (Lib.compact_length_le (α := Int) _) (by simp)
    clear hg1 ho3 hb3 hc3
    go_wp2_with fail
    refine (delete_c _ _ _ _ _ hcb hne ho1 hlen).mono ?_
    rintro e' w2 ⟨v2, rfl, ho2, hg2⟩
    have hbel2 : Below w.heap.size w w2 := bel_grown hbel hg2 (fun k hk => by have := (ho1.lt k hk).1; omega)
    clear hg2 ho1 hcb hne hbel hc
    go_wp2
    go_ret
    rw [hE.out]
    exact ⟨_, rfl, owns_mono ho2 (by omega), hbel2⟩
  · go_enter Try.func30, Try.ntmps30
    go_wp2_with fail
    go_region
    go_wp2_with fail
    clear h0 h1 h2 h3 h4 h5 h6 h7 h8
    refine calls_at (fun W => W.heap[w.heap.size]? = some (.cells #[.slice (some ⟨bl, off, none⟩) l.length cap] 22) ∧ Below w.heap.size w W ∧ W.ownsRow (w.heap.size + 1) 3 1 (.slice (some ⟨w.heap.size + 1 + 1, 0, none⟩) 1 1) 1 (ints [it])) ⟨?_, ?_, owns_new (cs := #[.int .i64 it]) rfl (by simp) (by decide) rfl (by simp) rfl⟩ ?_
    · exact heap_alloc_ne _ _ _ _ (heap_alloc_ne _ _ _ _ (heap_alloc_eq _ _ _ rfl))
    · exact (bel_alloc (bel_alloc (bel_alloc (bel_refl w) _) _) _).drew
    rintro W3 ⟨hc3, hb3, ho3⟩
    have hs3 := lt_of_block hc3
    refine (compact_c (base := w.heap.size + 1) (e := 3) (zs := [it]) W3 ho3 (by simp)).mono ?_
    rintro e' w1 ⟨v1, rfl, ho1, hg1⟩
    have hcb : w1.cell? ⟨w.heap.size, 0, none⟩ = some (.slice (some ⟨bl, off, none⟩) l.length cap) := by
      refine cell_of_one ((hg1.block _ hs3 ?_).trans hc3)
      simp [Value.ownBlock] <;> omega
    have hbel : Below w.heap.size w w1 := bel_grown hb3 hg1 (by intro k hk; simp [Value.ownBlock] at hk; omega)
    have hne : ∀ b, v1.ownBlock = some b → w.heap.size ≠ b := by
      intro k hk; have := (ho1.lt k hk).1; omega
    have hlen : (Lib.compact [it]).length ≤ 140737488351232 := Nat.le_trans (Lib.compact_length_le (α := Int) _) (by simp)
    clear hg1 ho3 hb3 hc3
    go_wp2_with fail
    refine (delete_c _ _ _ _ _ hcb hne ho1 hlen).mono ?_
    rintro e' w2 ⟨v2, rfl, ho2, hg2⟩
    have hbel2 : Below w.heap.size w w2 := bel_grown hbel hg2 (fun k hk => by have := (ho1.lt k hk).1; omega)
    clear hg2 ho1 hcb hne hbel hc
    go_wp2
    go_ret
    rw [hE.out]
    exact ⟨_, rfl, owns_mono ho2 (by omega), hbel2⟩
  · go_enter Try.func30, Try.ntmps30
    go_wp2_with fail
    go_region
    go_wp2_with fail
    clear h0 h1 h2 h3 h4 h5 h6 h7 h8
    refine calls_at (fun W => W.heap[w.heap.size]? = some (.cells #[.slice (some ⟨bl, off, none⟩) l.length cap] 22) ∧ Below w.heap.size w W ∧ True) ⟨?_, ?_, trivial⟩ ?_
    · exact heap_alloc_ne _ _ _ _ (heap_alloc_eq _ _ _ rfl)
    · exact (bel_alloc (bel_alloc (bel_refl w) _) _).drew
    rintro W3 ⟨hc3, hb3, ho3⟩
    have hs3 := lt_of_block hc3
    refine (compact_c (base := w.heap.size + 1) (e := 3) (zs := []) W3 (World.ownsRow_nil _ _ _ _) (by simp)).mono ?_
    rintro e' w1 ⟨v1, rfl, ho1, hg1⟩
    have hcb : w1.cell? ⟨w.heap.size, 0, none⟩ = some (.slice (some ⟨bl, off, none⟩) l.length cap) := by
      refine cell_of_one ((hg1.block _ hs3 ?_).trans hc3)
      simp [Value.ownBlock] <;> omega
    have hbel : Below w.heap.size w w1 := bel_grown hb3 hg1 (by intro k hk; simp [Value.ownBlock] at hk)
    have hne : ∀ b, v1.ownBlock = some b → w.heap.size ≠ b := by
      intro k hk; have := (ho1.lt k hk).1; omega
    have hlen : (Lib.compact ([] : List Int)).length ≤ 140737488351232 := Nat.le_trans (Lib.compact_length_le (α := Int) _) (by simp)
    clear hg1 ho3 hb3 hc3
    go_wp2_with fail
    refine (delete_c _ _ _ _ _ hcb hne ho1 hlen).mono ?_
    rintro e' w2 ⟨v2, rfl, ho2, hg2⟩
    have hbel2 : Below w.heap.size w w2 := bel_grown hbel hg2 (fun k hk => by have := (ho1.lt k hk).1; omega)
    clear hg2 ho1 hcb hne hbel hc
    go_wp2
    go_ret
    rw [hE.out]
    exact ⟨_, rfl, owns_mono ho2 (by omega), hbel2⟩
end
end Go.Proofs.Ytcihobmjohpnkaa
