/- The reference's 'Succs'. -/
import Derived.Test.YtcihobmjohpnkaaSuccsW
import Derived.Deep.DeepMust
namespace Go.Proofs.Ytcihobmjohpnkaa
open Go.RowKit Go.Sort

theorem rawS_eq (n : Nat) (k d a b nn : Int) (nm : ByteArray) (ar : List Int) (t f : Int) :
    (rawS ⟨k, d, a, b, nn, nm, ar, t, f⟩).filter (inR n) = (if (k = 7 ∨ k = 8) ∧ 0 ≤ t ∧ t < n then [t] else []) ++ (if k = 7 ∧ 0 ≤ f ∧ f < n ∧ f ≠ t then [f] else []) := by
  unfold rawS inR
  dsimp only
  by_cases h7 : k = 7
  · by_cases htf : t = f
    · subst htf; by_cases h1 : 0 ≤ t <;> by_cases h2 : t < (n : Int) <;> simp [h7, h1, h2]
    · have : f ≠ t := fun e => htf e.symm
      by_cases h1 : 0 ≤ t <;> by_cases h2 : t < (n : Int) <;> by_cases h3 : 0 ≤ f <;> by_cases h4 : f < (n : Int) <;> simp [h7, h1, h2, h3, h4, htf, this]
  · by_cases h8 : k = 8
    · by_cases h1 : 0 ≤ t <;> by_cases h2 : t < (n : Int) <;> simp [h8, h1, h2]
    · simp [h7, h8]

set_option maxRecDepth 100000 in
set_option maxHeartbeats 1000000 in
theorem succsR_c {p : Nat → Prop} {v : Value} {l : List (List InsD)} (w : World) (b : Int) (h : IsBlocks p w v l) :
    Calls Try.prog 32 #[v, .int .i64 b] w fun e w' => ∃ u, e = .returned u ∧ w'.ownsRow w.heap.size 3 1 u (succS l b).length (ints (succS l b)) ∧ Below w.heap.size w w' := by
  obtain ⟨a, cap, rfl, hl, hx⟩ := h
  by_cases hb0 : b < 0
  · have hd : decide (b < 0) = true := by simpa using hb0
    have e0 : succS l b = [] := by unfold succS; rw [if_neg (by omega)]
    rw [e0]
    clear hx e0
    go_enter Try.func32, Try.ntmps32
    go_wp2
    go_ret
    exact ⟨_, rfl, World.ownsRow_nil _ _ _ _, bel_refl _⟩
  obtain ⟨n, rfl⟩ : ∃ n : Nat, b = n := ⟨b.toNat, by omega⟩
  have hd0 : decide ((n : Int) < 0) = false := by simp
  have e0 : succS l (n : Int) = succN l n := by unfold succS; rw [if_pos (by omega)]; simp
  rw [e0]
  by_cases hn : l.length ≤ n
  · have hd1 : decide (l.length ≤ n) = true := by simpa using hn
    have e1 : succN l n = [] := by unfold succN; rw [List.getD_eq_getElem?_getD, List.getElem?_eq_none hn]; rfl
    rw [e1]
    clear hx e0 e1
    go_enter Try.func32, Try.ntmps32
    go_wp2
    go_ret
    exact ⟨_, rfl, World.ownsRow_nil _ _ _ _, bel_refl _⟩
  have hd1 : decide (l.length ≤ n) = false := by simpa using hn
  have hn' : n < l.length := by omega
  clear e0 hb0
  rcases hx with rfl | ⟨bl, off, rfl, hp, hx⟩
  · simp at hn'
  obtain ⟨vi, hc, ai, capi, rfl, hli, hxi⟩ := hx n hn'
  rw [Nat.mul_one] at hc
  have hbl : bl < w.heap.size := lt_of_cell hc
  clear hx
  obtain ⟨li, HLI⟩ : ∃ li, Hid (l[n] = li) := ⟨l[n], (rfl : l[n] = l[n])⟩
  rw [HLI.out] at hli hxi hc
  have hS : Hid (succN l n = match li.getLast? with | none => [] | some i => (rawS i).filter (inR l.length)) := by
    show succN l n = _
    unfold succN
    rw [List.getD_eq_getElem?_getD, List.getElem?_eq_getElem hn', Option.getD_some, HLI.out]
    rfl
  generalize succN l n = S at hS
  clear HLI
  rcases List.eq_nil_or_concat li with rfl | ⟨li', i, rfl⟩
  · have e1 : S = [] := hS.out
    subst e1
    clear hxi
    simp only [List.length_nil] at hc
    go_enter Try.func32, Try.ntmps32
    go_wp2
    go_ret
    exact ⟨_, rfl, World.ownsRow_nil _ _ _ _, bel_refl _⟩
  rw [List.concat_eq_append] at hxi hS hc hli
  have hS2 : Hid (S = (rawS i).filter (inR l.length)) := by
    have := hS.out
    simp only [List.getLast?_append, List.getLast?_singleton, Option.some_or] at this
    exact this
  clear hS
  rcases hxi with hxi | ⟨bb, ob, rfl, hpb, hxi⟩
  · simp at hxi
  obtain ⟨h0, h1, h2, h3, h4, h5, ⟨va, h6, ⟨aa, ca, rfl, -, -⟩⟩, h7, h8⟩ := hxi li'.length (by simp)
  have hbb : bb < w.heap.size := lt_of_cell h0
  rw [List.getElem_append_right (Nat.le_refl _)] at h0 h1 h2 h3 h4 h5 h6 h7 h8
  simp only [Nat.sub_self, List.getElem_cons_zero, List.length_append, List.length_cons, List.length_nil, Nat.zero_add] at h0 h1 h2 h3 h4 h5 h6 h7 h8 hc hli
  clear hxi
  obtain ⟨m, HM⟩ : ∃ m, Hid (li'.length = m) := ⟨li'.length, (rfl : li'.length = li'.length)⟩
  rw [HM.out] at h0 h1 h2 h3 h4 h5 h6 h7 h8 hc hli
  clear HM
  obtain ⟨ik, id', ia, ib, inn, iname, iargs, it, jf⟩ := i
  dsimp only at h0 h1 h2 h3 h4 h5 h6 h7 h8
  generalize iargs.length = la at h6
  have hS3 : Hid (S = (if (ik = 7 ∨ ik = 8) ∧ 0 ≤ it ∧ it < l.length then [it] else []) ++ (if ik = 7 ∧ 0 ≤ jf ∧ jf < l.length ∧ jf ≠ it then [jf] else [])) := hS2.out.trans (rawS_eq _ _ _ _ _ _ _ _ _ _)
  clear hS2
  go_enter Try.func32, Try.ntmps32
  go_wp2_with fail
  go_region
  clear h0 h1 h2 h3 h4 h5 h6 h7 h8
  refine k_at (fun W => W.cell? ⟨w.heap.size, 0, none⟩ = some (.int .i64 ik) ∧ W.cell? ⟨w.heap.size, 7, none⟩ = some (.int .i64 it) ∧ W.cell? ⟨w.heap.size, 8, none⟩ = some (.int .i64 jf) ∧ Below w.heap.size w W ∧ w.heap.size < W.heap.size) ⟨by simp, by simp, by simp, (bel_alloc (bel_refl w) _).drew, by simp⟩ ?_
  rintro W ⟨g0, g7, g8, hB, hsz⟩
  have hle : w.heap.size ≤ W.heap.size := by omega
  clear hc hli hl hd0 hd1 hn hn' hbl hbb
  go_wp2_with (at_builtin; refine stop_here ?_)
  all_goals try simp only [bne_iff_ne, ne_eq] at *
  all_goals first
    | (go_ret
       have e : S = [] := by rw [hS3.out, if_neg (by omega), if_neg (by omega)]; rfl
       rw [e]
       exact ⟨_, rfl, World.ownsRow_nil _ _ _ _, hB⟩)
    | (have e : S = [jf] := by rw [hS3.out, if_neg (by omega), if_pos (by omega)]; rfl
       subst e
       clear hS3)
    | skip
  all_goals first
    | (refine stop_go (app_int rfl (.tmp 55) (.tmp 58) rfl W.heap.size (.slice none 0 0) [] rfl (World.ownsRow_nil _ _ _ _) _ _ rfl (heap_alloc_eq _ _ _ rfl) (by simp) (by simp) ?_)
       intro v1 w1 ho1 hg1 _
       have c0 := hg1.cell (Lib.cell?_alloc_some _ g0) (by simp [Value.ownBlock])
       have c7 := hg1.cell (Lib.cell?_alloc_some _ g7) (by simp [Value.ownBlock])
       have c8 := hg1.cell (Lib.cell?_alloc_some _ g8) (by simp [Value.ownBlock])
       have hB1 := bel_grown (bel_alloc hB _) hg1 (by simp [Value.ownBlock])
       have hsz1 : W.heap.size ≤ w1.heap.size := by have := hg1.size; simp at this; omega
       clear hg1 g0 g7 g8 hB
       rw [List.nil_append] at ho1
       go_wp2_with (at_builtin; refine stop_here ?_))
    | (refine stop_go (app_int rfl (.tmp 82) (.tmp 85) rfl W.heap.size (.slice none 0 0) [] rfl (World.ownsRow_nil _ _ _ _) _ _ rfl (heap_alloc_eq _ _ _ rfl) (by simp) (by simp) ?_)
       intro v1 w1 ho1 hg1 _
       have hB1 := bel_grown (bel_alloc hB _) hg1 (by simp [Value.ownBlock])
       clear hg1
       go_wp2
       go_ret
       exact ⟨_, rfl, owns_mono ho1 hle, hB1⟩)
  all_goals try simp only [bne_iff_ne, ne_eq, bne_eq_false_iff_eq] at *
  all_goals first
    | (go_ret
       have e : S = [it] := by rw [hS3.out, if_pos (by omega), if_neg (by omega)]; rfl
       rw [e]
       exact ⟨_, rfl, owns_mono ho1 hle, hB1⟩)
    | (have e : S = [it] ++ [jf] := by rw [hS3.out, if_pos (by omega), if_pos (by omega)]
       refine stop_go (app_int rfl (.tmp 82) (.tmp 85) rfl W.heap.size v1 [it] rfl (ho1.alloc _) _ _ rfl (heap_alloc_eq _ _ _ rfl) (by simp) (by simp; omega) ?_)
       intro v2 w2 ho2 hg2 _
       have hB2 := bel_grown (bel_alloc hB1 _) hg2 (fun k hk => by have := (ho1.lt k hk).1; omega)
       clear hg2
       go_wp2
       go_ret
       rw [e]
       exact ⟨_, rfl, owns_mono ho2 hle, hB2⟩)
end Go.Proofs.Ytcihobmjohpnkaa
