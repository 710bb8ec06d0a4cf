/- Maps of ints to ints: a key is laid, a key goes; the keys, rising. -/
import Derived.Test.YtdomnbgjafdnjaaPeP
import Derived.Test.YtdomnbgjafdnjaaPgK
namespace Go.Proofs.Ytdomnbgjafdnjaa

section
open Go.RowKit Go.Maps Go.Sort Go.Shelf Go.WideMaps Go.ChangeMaps Go.WideElems

section
variable {W W' : World} {b n : Nat} {f : MF}
theorem IsMv.putI (h : IsMv W b n f) (hn : n ≤ 1000000) {x : Int} (hx : In64 x) (v : Value) : ∃ W', (Instr.mapUpdate 61 (.map (some b)) (.int .i64 x) v).run Try.prog W = .ok () W' ∧ IsMv W' b (n + 1) (updF f x v) ∧ W.mapTurned W' b := by
  obtain ⟨D, h1, h2⟩ := h
  obtain ⟨W', hr, ho, ht⟩ := h1.store lawInt Try.underlying61 (by unfold maxLen; omega) hx.key (d := .held v) (ps := []) (val := v) rfl
  refine ⟨W', hr, ⟨_, ho, fun u hu => ?_⟩, ht⟩
  unfold updF
  by_cases e : u = x
  · subst e
    rw [if_pos rfl]
    refine ⟨fun h => by simp at h, fun z hz => ?_⟩
    simp at hz; subst hz
    exact ⟨has_put_same h1.isMap (isKey_int _) _, fun z => atKey_put_same h1.isMap (isKey_int _) _ _⟩
  · rw [if_neg e]
    have hne : Lit.int .i64 u ≠ .int .i64 x := by simpa using e
    obtain ⟨g1, g2⟩ := h2 u hu
    exact ⟨fun hz => (has_put_other hne _).trans (g1 hz), fun z hz => ⟨(has_put_other hne _).trans (g2 z hz).1, fun zd => (atKey_put_other hne _ _).trans ((g2 z hz).2 zd)⟩⟩
theorem IsMv.deleI (h : IsMv W b n f) {x : Int} (hx : In64 x) (ty : TypeId) : ∃ W', (Builtin.delete_ #[61, 3] ty #[.map (some b), .int .i64 x]).run Try.prog W = .ok (.tuple #[]) W' ∧ IsMv W' b n (delF f x) ∧ W.mapTurned W' b := by
  obtain ⟨D, h1, h2⟩ := h
  obtain ⟨W', hr, ho, ht⟩ := h1.drop lawInt Try.underlying61 hx.key ty
  refine ⟨W', hr, ⟨_, ho, fun u hu => ?_⟩, ht⟩
  unfold delF
  by_cases e : u = x
  · subst e
    rw [if_pos rfl]
    exact ⟨fun _ => has_del_same, fun z hz => by simp at hz⟩
  · rw [if_neg e]
    have hne : Lit.int .i64 u ≠ .int .i64 x := by simpa using e
    obtain ⟨g1, g2⟩ := h2 u hu
    exact ⟨fun hz => (has_del_other hne).trans (g1 hz), fun z hz => ⟨(has_del_other hne).trans (g2 z hz).1, fun zd => (atKey_del_other hne _).trans ((g2 z hz).2 zd)⟩⟩
theorem zeroInt (w : World) : (zeroValue 3).run Try.prog w = .ok (.int .i64 0) w := by kernel_rfl
/-- A key is laid, in two steps. -/
theorem IsMv.lay1 (h : IsMv W b n f) (hn : n ≤ 1000000) {x : Int} (hx : In64 x) (v : Value) :
    ∃ (v0 : Value) (k1 : Int) (Y1 Y2 : World), (Instr.mapEntry 61 (.map (some b)) (.int .i64 x)).run Try.prog W = .ok (.tuple #[v0, .int .i64 k1]) Y1 ∧ (Instr.entryStore 61 (.map (some b)) (.int .i64 k1) v).run Try.prog Y1 = .ok () Y2 ∧
      IsMv Y2 b (n + 1) (updF f x v) ∧ (∀ c, c ≠ b → Y1.heap[c]? = W.heap[c]? ∧ Y2.heap[c]? = W.heap[c]?) ∧ Y2.heap.size = W.heap.size ∧ (∀ B w0, Below B w0 W → B ≤ b → Below B w0 Y2) := by
  obtain ⟨W', hp, hI, -⟩ := h.putI hn hx v
  obtain ⟨D, ⟨es, clock, hb, F, -, -⟩, -⟩ := id h
  obtain ⟨s1, s2, -⟩ := F.stamped
  have ht : Try.prog.underlying 61 = some (.map 3 3) := Try.underlying61
  have fin : ∀ (es1 es2 : Array MapEntry) (c1 c2 : Nat), setBlock W b (.map es2 c2) = W' → IsMv (setBlock (setBlock W b (.map es1 c1)) b (.map es2 c2)) b (n + 1) (updF f x v) ∧ (∀ c, c ≠ b → (setBlock W b (.map es1 c1)).heap[c]? = W.heap[c]? ∧ (setBlock (setBlock W b (.map es1 c1)) b (.map es2 c2)).heap[c]? = W.heap[c]?) ∧ (setBlock (setBlock W b (.map es1 c1)) b (.map es2 c2)).heap.size = W.heap.size ∧ (∀ B w0, Below B w0 W → B ≤ b → Below B w0 (setBlock (setBlock W b (.map es1 c1)) b (.map es2 c2))) := fun es1 es2 c1 c2 hW => by
    have m1 : (setBlock W b (.map es1 c1)).heap[b]? = some (.map es1 c1) := heap_setBlock_same hb _
    refine ⟨?_, fun c hc => ⟨heap_setBlock_other hb _ hc, (heap_setBlock_other m1 _ hc).trans (heap_setBlock_other hb _ hc)⟩, by simp [setBlock], fun B w0 hB hb1 => ?_⟩
    · rw [← hW] at hI
      refine hI.keep ?_
      rw [heap_setBlock_same m1, heap_setBlock_same hb]
    · exact ⟨hB.os, hB.tape, hB.output, by simpa [setBlock] using hB.size, fun i hi => (heap_setBlock_other m1 _ (by omega)).trans ((heap_setBlock_other hb _ (by omega)).trans (hB.block i hi))⟩
  rcases lawInt.find W hx.key es.toList F.keys with ⟨h1, h2⟩ | ⟨j, e0, h1, h2, h3⟩
  · have m1 : (setBlock W b (.map (es.push ⟨.int .i64 x, .int .i64 0, clock⟩) (clock + 1))).heap[b]? = some (.map (es.push ⟨.int .i64 x, .int .i64 0, clock⟩) (clock + 1)) := heap_setBlock_same hb _
    have hidx : (es.push ⟨.int .i64 x, .int .i64 0, clock⟩).findIdx? (fun e => ((e.born : Nat) : Int) == (clock : Int)) = some es.size := by
      rw [Array.findIdx?_push]
      have : es.findIdx? (fun e => ((e.born : Nat) : Int) == (clock : Int)) = none := by
        rw [Array.findIdx?_eq_none_iff]
        intro e he
        have := s1 e (by simpa using he)
        simp
        omega
      rw [this]
      simp
    have hmod : (es.push ⟨.int .i64 x, .int .i64 0, clock⟩).modify es.size (fun e => { e with val := v }) = es.push ⟨.int .i64 x, v, clock⟩ := by
      refine Array.ext (by simp) fun i hi1 hi2 => ?_
      rw [Array.getElem_modify]
      by_cases hi : es.size = i
      · subst hi; simp
      · have : i < es.size := by simp at hi2; omega
        simp [hi, Array.getElem_push, this]
    have hup : (Instr.mapUpdate 61 (.map (some b)) (.int .i64 x) v).run Try.prog W = .ok () (setBlock W b (.map (es.push ⟨.int .i64 x, v, clock⟩) (clock + 1))) := by
      simp [Instr.mapUpdate, run_underlying ht, MapKept.run_getObj_map hb, lawInt.check W false hx.key, h1, MapKept.run_setObj_map _ hb, Result.andThen, setBlock]
    have r3 : ∀ Y : World, Y.heap[b]? = some (.map (es.push ⟨.int .i64 x, .int .i64 0, clock⟩) (clock + 1)) → (Instr.entryStore 61 (.map (some b)) (.int .i64 (clock : Int)) v).run Try.prog Y = .ok () (setBlock Y b (.map (es.push ⟨.int .i64 x, v, clock⟩) (clock + 1))) := fun Y hY => by
      simp [Instr.entryStore, MapKept.run_getObj_map hY, asInt, asIntOf, hidx, hmod, MapKept.run_setObj_map _ hY, Result.andThen, setBlock]
    rw [hup] at hp
    refine ⟨.int .i64 0, (clock : Int), _, _, ?_, ?_, fin (es.push ⟨.int .i64 x, .int .i64 0, clock⟩) (es.push ⟨.int .i64 x, v, clock⟩) (clock + 1) (clock + 1) (by simpa using hp)⟩
    · simp [Instr.mapEntry, run_underlying ht, MapKept.run_getObj_map hb, lawInt.check W false hx.key, h1, MapKept.run_setObj_map _ hb, Result.andThen, setBlock, goInt]
    · exact r3 _ m1
  · have hj : es[j]? = some e0 := by simpa using h2
    have m1 : (setBlock W b (.map es clock)).heap[b]? = some (.map es clock) := heap_setBlock_same hb _
    have hsame : es.modify j (fun e => { e with key := .int .i64 x }) = es := by
      refine Array.ext (by simp) fun i hi1 hi2 => ?_
      rw [Array.getElem_modify]
      by_cases hi : j = i
      · subst hi
        have e1 : es[j] = e0 := by
          rw [Array.getElem?_eq_getElem hi2] at hj
          exact Option.some.inj hj
        rw [if_pos rfl, e1, ← h3]
      · rw [if_neg hi]
    have hidx : es.findIdx? (fun e => ((e.born : Nat) : Int) == ((e0.born : Nat) : Int)) = some j := by
      rw [findIdx_arr]
      exact findIdx_born s2 h2
    have hmod : es.modify j (fun e => { e with val := v }) = es.modify j (fun e' => { e' with key := .int .i64 x, val := v }) := by
      refine Array.ext (by simp) fun i hi1 hi2 => ?_
      rw [Array.getElem_modify, Array.getElem_modify]
      by_cases hi : j = i
      · subst hi
        have hi3 : j < es.size := by simpa using hi1
        have e1 : es[j] = e0 := by
          rw [Array.getElem?_eq_getElem hi3] at hj
          exact Option.some.inj hj
        rw [if_pos rfl, if_pos rfl, e1, ← h3]
      · rw [if_neg hi, if_neg hi]
    have hup : (Instr.mapUpdate 61 (.map (some b)) (.int .i64 x) v).run Try.prog W = .ok () (setBlock W b (.map (es.modify j (fun e' => { e' with key := .int .i64 x, val := v })) clock)) := by
      simp [Instr.mapUpdate, run_underlying ht, MapKept.run_getObj_map hb, lawInt.check W false hx.key, h1, hj, h3, lawInt.stays W hx.key, MapKept.run_setObj_map _ hb, Result.andThen, setBlock]
    have r3 : ∀ Y : World, Y.heap[b]? = some (.map es clock) → (Instr.entryStore 61 (.map (some b)) (.int .i64 (e0.born : Int)) v).run Try.prog Y = .ok () (setBlock Y b (.map (es.modify j (fun e' => { e' with key := .int .i64 x, val := v })) clock)) := fun Y hY => by
      simp [Instr.entryStore, MapKept.run_getObj_map hY, asInt, asIntOf, hidx, hmod, MapKept.run_setObj_map _ hY, Result.andThen, setBlock]
    rw [hup] at hp
    refine ⟨e0.val, (e0.born : Int), _, _, ?_, ?_, fin es (es.modify j (fun e' => { e' with key := .int .i64 x, val := v })) clock clock (by simpa using hp)⟩
    · simp [Instr.mapEntry, run_underlying ht, MapKept.run_getObj_map hb, lawInt.check W false hx.key, h1, hj, h3, lawInt.stays W hx.key, hsame, MapKept.run_setObj_map _ hb, Result.andThen, setBlock, goInt]
    · exact r3 _ m1
end
abbrev keysV (q : Nat) : Value := .func (.func 47) #[] #[.pointer (some ⟨q, 0, none⟩)]
theorem keysI_c (mb : Option Nat) (W : World) : Calls Try.prog 33 #[.map mb] W fun e w' => e = .returned (keysV W.heap.size) ∧ w' = W.alloc (.cells #[.map mb] 61) :=
  callsIn_wide.1 (AnyZI.keys_in Try.laysKeysI Fence.wide 5 trivial rfl mb W)
theorem sortedI_in (n : Nat) (hn : 4 ≤ n) {b nn q m : Nat} {f : MF} (w : World) (h : IsMv w b nn f) (hm : m ≤ 1000) (hd : ∀ x, f x ≠ none → 0 ≤ x ∧ x < m) (hq : w.cell? ⟨q, 0, none⟩ = some (.map (some b))) :
    CallsIn Fence.wide n Try.prog 32 #[keysV q] w fun e w' => ∃ v, e = .returned v ∧ w'.ownsRow w.heap.size 3 1 v (keysF f m).length (ints (keysF f m)) ∧ Below w.heap.size w w' := by
  obtain ⟨D, h1, h2⟩ := h
  have hp := IsMv.perm h1 h2 (by omega : m ≤ 1000000) hd
  have hsz : Maps.size D ≤ 1000 := by
    have hl : (keysF f m).length ≤ m := Nat.le_trans (List.length_filter_le _ _) (by simp)
    obtain ⟨es, c, hb, F, hs, rfl⟩ := id h1
    have := hp.length_eq
    have e : (intKeys (.map ((es.toList.map (rg Try.prog 3 heldR)).foldr DataW.insert []))).length = Maps.size (.map ((es.toList.map (rg Try.prog 3 heldR)).foldr DataW.insert [])) := by
      show (List.map _ _).length = _
      rw [List.length_map]; rfl
    omega
  have hseq : SeqGives Fence.wide (n - 1 - 1 - 1) Try.prog 47 #[.pointer (some ⟨q, 0, none⟩)] encZ (fun ss => ss.Perm (intKeys D)) (Maps.size D) w :=
    AnyZI.keys_gives (ρ := Try.laysKeysI_ren) { Try.laysKeysI with } Fence.wide _ trivial rfl (by omega) q b nn D _ (lt_of_cell hq) hq h1
  have cS := AnyZI.sorted_in Try.laysSorted Fence.wide n trivial trivial trivial trivial rfl hn (sortsA _) (enters_of Try.func46 (by kernel_rfl) rfl) 47 #[.pointer (some ⟨q, 0, none⟩)] trivial (enters_of Try.func47 (by kernel_rfl) rfl) _ _ (by unfold maxLen; omega) (by omega) _ hseq
  change CallsIn _ _ Try.prog 32 _ _ _ at cS
  refine cS.mono ?_
  rintro e w' ⟨v, ss, rfl, hss, ho, -, hb⟩
  have hpp : ss.Perm (keysF f m) := hss.trans hp.symm
  have e1 : ss.mergeSort (fun x y => decide (x ≤ y)) = keysF f m := by
    have h3 := mergeSort_of_perm_i hpp
    have h4 : (keysF f m).mergeSort leI = keysF f m := List.mergeSort_of_pairwise (keysF_sorted f m)
    exact h3.trans h4
  rw [e1, hpp.length_eq] at ho
  exact ⟨v, rfl, ho, hb⟩
theorem sortedI_c {b nn q m : Nat} {f : MF} (w : World) (h : IsMv w b nn f) (hm : m ≤ 1000) (hd : ∀ x, f x ≠ none → 0 ≤ x ∧ x < m) (hq : w.cell? ⟨q, 0, none⟩ = some (.map (some b))) :
    Calls Try.prog 32 #[keysV q] w fun e w' => ∃ v, e = .returned v ∧ w'.ownsRow w.heap.size 3 1 v (keysF f m).length (ints (keysF f m)) ∧ Below w.heap.size w w' :=
  callsIn_wide.1 (sortedI_in 6 (by omega) w h hm hd hq)
/-- Keys of which P tells. -/
theorem keysF_rL {f : MF} {n : Nat} {P : Nat → Bool} (h : ∀ j, j < n → (f (j : Int)).isSome = P j) : keysF f n = rL n P := by
  unfold keysF rL
  rw [List.filter_map]
  congr 1
  exact List.filter_congr fun j hj => h j (List.mem_range.1 hj)
end

section
/- pbqp.Easy's memory: a map for each node. -/
open Go.RowKit Go.Maps Go.ChangeMaps Go.WideElems

theorem edE_upd {Es : List EdgeD} {i a b : Nat} (hi : i < Es.length) (ha : Es[i].a.toNat = a) (hb : Es[i].b.toNat = b) (hab : a ≠ b) (k m : Nat) : updQ (updQ (edE (Es.take i)) a fun m => edE (Es.take i) a m || decide (m = b)) b (fun m => edE (Es.take i) b m || decide (m = a)) k m = edE (Es.take (i + 1)) k m := by
  rw [edE_take hi, ha, hb]
  by_cases e1 : k = b
  · subst e1
    rw [updQ_same]
    by_cases e2 : m = a
    · subst e2; simp
    · simp [hab, e2, Ne.symm e2]
  · rw [updQ_ne _ _ e1]
    by_cases e2 : k = a
    · subst e2
      rw [updQ_same]
      by_cases e3 : m = b
      · subst e3; simp
      · simp [Ne.symm e1, e3, Ne.symm e3]
    · rw [updQ_ne _ _ e2]
      simp [Ne.symm e1, Ne.symm e2]
/-- Maps are made: k of them. -/
structure EzB (w : World) (n nb : Nat) (pb : Nat → Nat) (k : Nat) (W : World) : Prop where
  nr : Row W nb 61 ((List.range n).map fun j => if j < k then Value.map (some (pb j)) else Value.map none)
  mp : ∀ j, j < k → W.heap[pb j]? = some (.map #[] 0)
  ap : ∀ i j, i < k → j < k → pb i = pb j → i = j
  bel : Below w.heap.size w W
  lo : w.heap.size ≤ nb ∧ ∀ j, j < k → w.heap.size ≤ pb j
theorem EzB.step {w W : World} {n nb k : Nat} {pb : Nat → Nat} (h : EzB w n nb pb k W) : EzB w n nb (fun j => if j = k then W.heap.size else pb j) (k + 1) ((W.alloc (.map #[] 0)).setCell ⟨nb, k, none⟩ (.map (some W.heap.size))) := by
  have hnl := h.nr.lt
  have hb9 := bel_alloc (bel_refl W) (.map #[] 0)
  have hpl : ∀ j, j < k → pb j < W.heap.size ∧ pb j ≠ nb := fun j hj => ⟨lt_of_block (h.mp j hj), fun e => by
    have h1 := h.mp j hj
    rw [e] at h1
    have h2 : W.heap[nb]? = _ := h.nr
    rw [h2] at h1
    cases h1⟩
  have h1 := (h.nr.keep (hb9.block nb hnl)).set k (.map (some W.heap.size))
  have hs : w.heap.size ≤ W.heap.size := h.bel.size
  refine ⟨?_, fun j hj => ?_, fun i j hi hj e => ?_, (bel_call h.bel hb9).setCell (show w.heap.size ≤ (⟨nb, k, none⟩ : Addr).block from h.lo.1) _, h.lo.1, fun j hj => ?_⟩
  · have e : ((List.range n).map fun j => if j < k then Value.map (some (pb j)) else Value.map none).set k (.map (some W.heap.size)) = (List.range n).map fun j => if j < k + 1 then Value.map (some (if j = k then W.heap.size else pb j)) else Value.map none := by
      refine List.ext_getElem (by simp) fun j h1 h2 => ?_
      rw [List.getElem_set]
      simp only [List.getElem_map, List.getElem_range]
      by_cases e : k = j
      · subst e; simp
      · have e2 : ¬ j = k := fun h => e h.symm
        rw [if_neg e, if_neg e2]
        by_cases e3 : j < k
        · rw [if_pos e3, if_pos (by omega)]
        · rw [if_neg e3, if_neg (by omega)]
    rw [e] at h1
    exact h1
  · by_cases e : j = k
    · rw [if_pos e, Below.heap_setCell _ _ _ _ (show W.heap.size ≠ nb by omega)]
      exact heap_alloc_eq _ _ _ rfl
    · rw [if_neg e]
      obtain ⟨q1, q2⟩ := hpl j (by omega)
      rw [Below.heap_setCell _ _ _ _ q2, hb9.block _ q1]
      exact h.mp j (by omega)
  · skip
    by_cases e1 : i = k
    · by_cases e2 : j = k
      · omega
      · rw [if_pos e1, if_neg e2] at e
        have := (hpl j (by omega)).1; omega
    · by_cases e2 : j = k
      · rw [if_neg e1, if_pos e2] at e
        have := (hpl i (by omega)).1; omega
      · rw [if_neg e1, if_neg e2] at e
        exact h.ap i j (by omega) (by omega) e
  · by_cases e : j = k
    · rw [if_pos e]; exact hs
    · rw [if_neg e]; exact h.lo.2 j (by omega)
/-- A map for each node; of those that are there it holds the keys that Q tells. -/
structure EzM (w : World) (n nb : Nat) (pb : Nat → Nat) (Q : Nat → Nat → Bool) (g : Nat → Bool) (W : World) : Prop where
  nr : Row W nb 61 ((List.range n).map fun k => Value.map (some (pb k)))
  mp : ∀ k, k < n → g k = false → ∃ f, IsMv W (pb k) n f ∧ (∀ x, f x ≠ none → 0 ≤ x ∧ x < n) ∧ ∀ j, j < n → (f (j : Int)).isSome = Q k j
  ap : ∀ i j, i < n → j < n → pb i = pb j → i = j
  bel : Below w.heap.size w W
  lo : w.heap.size ≤ nb ∧ ∀ k, k < n → w.heap.size ≤ pb k
section
variable {w W W' : World} {n nb : Nat} {pb : Nat → Nat} {Q Q' : Nat → Nat → Bool} {g : Nat → Bool}
theorem EzB.done (h : EzB w n nb pb n W) : EzM w n nb pb (fun _ _ => false) (fun _ => false) W := by
  refine ⟨?_, fun k hk _ => ⟨fun _ => none, (IsMv.of_empty (h.mp k hk)).mono (Nat.zero_le _), fun x hx => absurd rfl hx, fun _ _ => rfl⟩, h.ap, h.bel, h.lo⟩
  have e : ((List.range n).map fun j => if j < n then Value.map (some (pb j)) else Value.map none) = (List.range n).map fun k => Value.map (some (pb k)) :=
    List.map_congr_left fun j hj => if_pos (List.mem_range.1 hj)
  rw [← e]
  exact h.nr
theorem EzM.congr (h : EzM w n nb pb Q g W) (hq : ∀ k, k < n → ∀ m, m < n → Q k m = Q' k m) : EzM w n nb pb Q' g W :=
  ⟨h.nr, fun k hk hg => by
    obtain ⟨f, h1, h2, h3⟩ := h.mp k hk hg
    exact ⟨f, h1, h2, fun j hj => (h3 j hj).trans (hq k hk j hj)⟩, h.ap, h.bel, h.lo⟩
theorem EzM.cell (h : EzM w n nb pb Q g W) {k : Nat} (hk : k < n) : W.cell? ⟨nb, k, none⟩ = some (.map (some (pb k))) := h.nr.cell (k := k) (by simp [hk])
theorem EzM.below (h : EzM w n nb pb Q g W) (hb : Below W.heap.size W W') : EzM w n nb pb Q g W' :=
  ⟨h.nr.keep (hb.block _ h.nr.lt), fun k hk hg => by
    obtain ⟨f, h1, h2, h3⟩ := h.mp k hk hg
    exact ⟨f, h1.keep (hb.block _ h1.lt), h2, h3⟩, h.ap, bel_call h.bel hb, h.lo⟩
theorem EzM.size (h : EzM w n nb pb Q g W) (hn : n ≤ 1000) {k : Nat} (hk : k < n) (hg : g k = false) : ∃ es c, W.heap[pb k]? = some (.map es c) ∧ es.size = (rL n (Q k)).length := by
  obtain ⟨f, h1, h2, h3⟩ := h.mp k hk hg
  obtain ⟨es, c, hb, hs⟩ := h1.size (m := n) (by omega) h2
  exact ⟨es, c, hb, by rw [hs, keysF_rL h3]⟩
/-- One map has turned. -/
theorem EzM.turn (h : EzM w n nb pb Q g W) (hn : n ≤ 1000) {k nn : Nat} {f : MF} {P : Nat → Bool} (hk : k < n) (hg : g k = false) (hM : IsMv W' (pb k) nn f) (hd : ∀ x, f x ≠ none → 0 ≤ x ∧ x < n) (hq : ∀ j, j < n → (f (j : Int)).isSome = P j)
    (ho : ∀ c, c < W.heap.size → c ≠ pb k → W'.heap[c]? = W.heap[c]?) (hb : Below w.heap.size w W') : EzM w n nb pb (updQ Q k P) g W' := by
  obtain ⟨f0, h0, -⟩ := h.mp k hk hg
  obtain ⟨es0, c0, hm0⟩ := h0.isMap
  have hnb : nb ≠ pb k := cell_ne_map (h.cell hk) hm0
  refine ⟨h.nr.keep (ho nb h.nr.lt hnb), fun j hj hgj => ?_, h.ap, hb, h.lo⟩
  by_cases e : j = k
  · subst e
    exact ⟨f, hM.tight (by omega) hd, hd, fun i hi => by rw [updQ_same]; exact hq i hi⟩
  · obtain ⟨f1, h1, h2, h3⟩ := h.mp j hj hgj
    exact ⟨f1, h1.keep (ho _ h1.lt (fun e2 => e (h.ap j k hj hk e2))), h2, fun i hi => by rw [updQ_ne _ _ e]; exact h3 i hi⟩
theorem EzM.out (h : EzM w n nb pb Q g W) (v : Nat) : EzM w n nb pb Q (outE g v) W :=
  ⟨h.nr, fun k hk hg => by
    unfold outE at hg
    by_cases e : k = v
    · rw [if_pos e] at hg; cases hg
    · rw [if_neg e] at hg; exact h.mp k hk hg, h.ap, h.bel, h.lo⟩
/-- A cell elsewhere has turned. -/
theorem EzM.set (h : EzM w n nb pb Q g W) {c o : Nat} {v0 : Value} (v : Value) (hc : W.cell? ⟨c, o, none⟩ = some v0) (hne : c ≠ nb) (hw : w.heap.size ≤ c) : EzM w n nb pb Q g (W.setCell ⟨c, o, none⟩ v) :=
  ⟨h.nr.keep (Below.heap_setCell _ _ _ _ (Ne.symm hne)), fun k hk hg => by
    obtain ⟨f, h1, h2, h3⟩ := h.mp k hk hg
    obtain ⟨es, cl, hm⟩ := h1.isMap
    exact ⟨f, h1.keep (Below.heap_setCell _ _ _ _ (Ne.symm (cell_ne_map hc hm))), h2, h3⟩, h.ap, h.bel.setCell (show w.heap.size ≤ (⟨c, o, none⟩ : Addr).block from hw) _, h.lo⟩
theorem EzM.del (h : EzM w n nb pb Q g W) (hn : n ≤ 1000) {k v : Nat} (hk : k < n) (hv : v < n) (hg : g k = false) : ∃ W', (Builtin.delete_ #[61, 3] 0 #[.map (some (pb k)), .int .i64 (v : Int)]).run Try.prog W = .ok (.tuple #[]) W' ∧ EzM w n nb pb (updQ Q k fun m => Q k m && decide (m ≠ v)) g W' ∧ (∀ c, c < W.heap.size → c ≠ pb k → W'.heap[c]? = W.heap[c]?) ∧ W.heap.size ≤ W'.heap.size := by
  obtain ⟨f, h1, h2, h3⟩ := h.mp k hk hg
  obtain ⟨W', hr, hM, ht⟩ := h1.deleI (x := (v : Int)) (In64.of (by omega) (by omega)) 0
  have hgr := ht.grown
  have ho : ∀ c, c < W.heap.size → c ≠ pb k → W'.heap[c]? = W.heap[c]? := fun c hc hne => hgr.block c hc (fun e => hne (by simpa using e))
  refine ⟨W', hr, h.turn hn hk hg hM (fun x hx => h2 x fun hx2 => hx ?_) (fun j hj => ?_) ho (h.bel.grown hgr h.bel.size (fun b hb => by cases hb; exact h.lo.2 k hk)), ho, hgr.size⟩
  · unfold delF; split <;> simp [hx2]
  · rw [← h3 j hj]
    unfold delF
    by_cases e : j = v
    · subst e; simp
    · have e2 : ¬ (j : Int) = (v : Int) := by omega
      simp [e, e2]
/-- Two keys are laid, one in each of two maps. -/
theorem EzM.lay2 (h : EzM w n nb pb Q g W) (hn : n ≤ 1000) {a b : Nat} (ha : a < n) (hb : b < n) (hab : a ≠ b) (hga : g a = false) (hgb : g b = false) :
    ∃ (v1 v2 : Value) (k1 k2 : Int) (Y1 Y2 Y3 Y4 : World), (Instr.mapEntry 61 (.map (some (pb a))) (.int .i64 (b : Int))).run Try.prog W = .ok (.tuple #[v1, .int .i64 k1]) Y1 ∧
      (Instr.entryStore 61 (.map (some (pb a))) (.int .i64 k1) (.int .i64 1)).run Try.prog Y1 = .ok () Y2 ∧
      (Instr.mapEntry 61 (.map (some (pb b))) (.int .i64 (a : Int))).run Try.prog Y2 = .ok (.tuple #[v2, .int .i64 k2]) Y3 ∧
      (Instr.entryStore 61 (.map (some (pb b))) (.int .i64 k2) (.int .i64 1)).run Try.prog Y3 = .ok () Y4 ∧
      EzM w n nb pb (updQ (updQ Q a fun m => Q a m || decide (m = b)) b fun m => Q b m || decide (m = a)) g Y4 ∧
      (∀ c, c ≠ pb a → c ≠ pb b → Y1.heap[c]? = W.heap[c]? ∧ Y2.heap[c]? = W.heap[c]? ∧ Y3.heap[c]? = W.heap[c]? ∧ Y4.heap[c]? = W.heap[c]?) ∧ Y4.heap.size = W.heap.size := by
  have hup : ∀ {f : MF} {y : Nat} {P : Nat → Bool}, y < n → (∀ x, f x ≠ none → 0 ≤ x ∧ x < n) → (∀ j, j < n → (f (j : Int)).isSome = P j) → (∀ x, updF f (y : Int) (.int .i64 1) x ≠ none → 0 ≤ x ∧ x < n) ∧ ∀ j, j < n → (updF f (y : Int) (.int .i64 1) (j : Int)).isSome = (P j || decide (j = y)) := fun {f y P} hy h2 h3 => by
    refine ⟨fun x hx => ?_, fun j hj => ?_⟩
    · unfold updF at hx
      by_cases e : x = (y : Int)
      · omega
      · rw [if_neg e] at hx; exact h2 x hx
    · rw [← h3 j hj]
      unfold updF
      by_cases e : j = y
      · subst e; simp
      · have e2 : ¬ (j : Int) = (y : Int) := by omega
        simp [e, e2]
  obtain ⟨fa, a1, a2, a3⟩ := h.mp a ha hga
  obtain ⟨v1, k1, Y1, Y2, r1, r2, i2, o2, s2, b2⟩ := a1.lay1 (by omega) (x := (b : Int)) (In64.of (by omega) (by omega)) (.int .i64 1)
  obtain ⟨u1, u2⟩ := hup hb a2 a3
  have hE2 := h.turn hn ha hga i2 u1 u2 (fun c _ hne => (o2 c hne).2) (b2 _ _ h.bel (h.lo.2 a ha))
  obtain ⟨fb, c1, c2, c3⟩ := hE2.mp b hb hgb
  rw [updQ_ne _ _ (Ne.symm hab)] at c3
  obtain ⟨v2, k2, Y3, Y4, r3, r4, i4, o4, s4, b4⟩ := c1.lay1 (by omega) (x := (a : Int)) (In64.of (by omega) (by omega)) (.int .i64 1)
  obtain ⟨u3, u4⟩ := hup ha c2 c3
  have hE4 := hE2.turn hn hb hgb i4 u3 u4 (fun c _ hne => (o4 c hne).2) (b4 _ _ hE2.bel (h.lo.2 b hb))
  exact ⟨v1, v2, k1, k2, Y1, Y2, Y3, Y4, r1, r2, r3, r4, hE4, fun c h1 h2 => ⟨(o2 c h1).1, (o2 c h1).2, (o4 c h2).1.trans (o2 c h1).2, (o4 c h2).2.trans (o2 c h1).2⟩, s4.trans s2⟩
end
/-- Behind i of v's neighbours: they have forgotten it. -/
def DL (n : Nat) (E : Nat → Nat → Bool) (g : Nat → Bool) (v i : Nat) (Q : Nat → Nat → Bool) : Prop :=
  ∀ k, k < n → g k = false → k ≠ v → ∀ y, y < n → Q k y = if (k : Int) ∈ (rL n (E v)).take i then (E k y && decide (y ≠ v)) else E k y
section
variable {n v i u : Nat} {E Q : Nat → Nat → Bool} {g : Nat → Bool}
theorem RowsE.dl (h : RowsE n E g Q) : DL n E g v 0 Q := fun k hk hg _ y hy => by rw [List.take_zero, if_neg (by simp)]; exact h k hk hg y hy
theorem DL.step (h : DL n E g v i Q) (hg : g u = false) (huv : u ≠ v) (hi : i < (rL n (E v)).length) (hu : (rL n (E v))[i] = (u : Int)) : DL n E g v (i + 1) (updQ Q u fun m => Q u m && decide (m ≠ v)) := by
  obtain ⟨hun, -, h3⟩ := rL_at hi hu
  intro k hk hgk hkv y hy
  rw [List.take_succ_eq_append_getElem hi, hu]
  by_cases hku : k = u
  · subst hku
    rw [updQ_same, h k hk hg huv y hy, if_neg h3, if_pos (by simp)]
  · have e5 : ¬ (k : Int) = (u : Int) := by omega
    have e6 : ((k : Int) ∈ (rL n (E v)).take i ++ [(u : Int)]) ↔ (k : Int) ∈ (rL n (E v)).take i := by simp [e5]
    rw [updQ_ne _ _ hku, h k hk hgk hkv y hy]
    by_cases e7 : (k : Int) ∈ (rL n (E v)).take i
    · rw [if_pos e7, if_pos (e6.2 e7)]
    · rw [if_neg e7, if_neg (fun h => e7 (e6.1 h))]
/-- At the end: the keys without v. -/
theorem DL.all (h : DL n E g v (rL n (E v)).length Q) (hwf : WfE n E g) {k : Nat} (hk : k < n) (hg : g k = false) (hkv : k ≠ v) {y : Nat} (hy : y < n) : Q k y = (E k y && decide (y ≠ v)) := by
  rw [h k hk hg hkv y hy, List.take_length]
  by_cases e1 : (k : Int) ∈ rL n (E v)
  · rw [if_pos e1]
  · rw [if_neg e1]
    by_cases e3 : y = v
    · subst e3
      have e2 : E k y = false := by
        rw [hwf.sym]
        cases h2 : E y k with
        | false => rfl
        | true => exact absurd (mem_rL.2 ⟨by omega, by simpa using hk, by simpa using h2⟩) e1
      rw [e2]; rfl
    · simp [e3]
theorem out_al {k : Nat} (h : outE g v k = false) : k ≠ v ∧ g k = false := by
  unfold outE at h
  by_cases e : k = v
  · rw [if_pos e] at h; cases h
  · rw [if_neg e] at h; exact ⟨e, h⟩
theorem DL.few (h : DL n E g v (rL n (E v)).length Q) (hwf : WfE n E g) (hl : (rL n (E v)).length ≤ 1) : RowsE n (elimE E v) (outE g v) Q := by
  intro k hk hg y hy
  obtain ⟨hkv, hgk⟩ := out_al hg
  rw [h.all hwf hk hgk hkv hy]
  unfold elimE
  by_cases e3 : y = v
  · subst e3; simp
  · have hz : (E k v && E v y && decide (k ≠ y)) = false := by
      by_cases hky : k = y
      · subst hky; simp
      cases h1 : E k v with
      | false => rfl
      | true =>
        cases h2 : E v y with
        | false => rfl
        | true =>
          exfalso
          have m1 : (k : Int) ∈ rL n (E v) := mem_rL.2 ⟨by omega, by simpa using hk, by rw [Int.toNat_natCast, hwf.sym]; exact h1⟩
          have m2 : (y : Int) ∈ rL n (E v) := mem_rL.2 ⟨by omega, by simpa using hy, by simpa using h2⟩
          match hq : rL n (E v), hl with
          | [], _ => rw [hq] at m1; simp at m1
          | [z], _ => rw [hq] at m1 m2; simp at m1 m2; omega
    rw [hz]
    simp [hkv, e3]
theorem DL.two {a b : Nat} (h : DL n E g v (rL n (E v)).length Q) (hwf : WfE n E g) (hl : rL n (E v) = [(a : Int), (b : Int)]) (hga : g a = false) (hgb : g b = false) (han : a < n) (hbn : b < n) (hab : a ≠ b) (hav : a ≠ v) (hbv : b ≠ v) :
    RowsE n (elimE E v) (outE g v) (updQ (updQ Q a fun m => Q a m || decide (m = b)) b fun m => Q b m || decide (m = a)) := by
  have hmem : ∀ y, y < n → (E v y = true ↔ y = a ∨ y = b) := fun y hy => by
    have h1 : (y : Int) ∈ rL n (E v) ↔ E v y = true := by
      rw [mem_rL, Int.toNat_natCast]
      exact ⟨fun h => h.2.2, fun h => ⟨by omega, hy, h⟩⟩
    rw [← h1, hl]
    simp
    omega
  intro k hk hg y hy
  obtain ⟨hkv, hgk⟩ := out_al hg
  have hQ := fun (k : Nat) hk hg hkv => h.all hwf (k := k) hk hg hkv hy
  have hEk : E k v = decide (k = a ∨ k = b) := by rw [hwf.sym, Bool.eq_iff_iff, decide_eq_true_eq]; exact hmem k hk
  have hEy : E v y = decide (y = a ∨ y = b) := by rw [Bool.eq_iff_iff, decide_eq_true_eq]; exact hmem y hy
  unfold elimE
  rw [hEk, hEy]
  by_cases e1 : k = b
  · subst e1
    rw [updQ_same, hQ k hk hgk hkv]
    by_cases e2 : y = a
    · subst e2; simp [hkv, hav, Ne.symm hab]
    · by_cases e3 : y = k
      · subst e3; simp [hkv, e2]
      · by_cases e4 : y = v
        · subst e4; simp [e2]
        · simp [hkv, e2, e3, e4]
  · rw [updQ_ne _ _ e1]
    by_cases e2 : k = a
    · subst e2
      rw [updQ_same, hQ k hk hgk hkv]
      by_cases e3 : y = b
      · subst e3; simp [hkv, hbv, hab]
      · by_cases e5 : y = k
        · subst e5; simp [hkv, e3]
        · by_cases e4 : y = v
          · subst e4; simp [e3]
          · simp [hkv, e3, e4, e5]
    · rw [updQ_ne _ _ e2, hQ k hk hgk hkv]
      simp [hkv, e1, e2]
      rw [Bool.and_comm]
end
end
end Go.Proofs.Ytdomnbgjafdnjaa
