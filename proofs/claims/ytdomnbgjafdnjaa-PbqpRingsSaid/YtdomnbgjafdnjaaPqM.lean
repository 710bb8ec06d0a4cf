/- Maps of matrices: what each key holds; the keys, rising. -/
import Derived.Test.YtdomnbgjafdnjaaPqH
import Derived.Maps.OwnSet
import Derived.Maps.OwnOps
import Derived.WideKeyEntry
namespace Go.Proofs.Ytdomnbgjafdnjaa
open Go.RowKit Go.Maps Go.Sort Go.Shelf Go.WideMaps Go.ChangeMaps Go.WideElems

theorem lawInt : Keyed Try.prog 3 := int_keyed Try.underlying3
theorem zeroMat (w : World) : (zeroValue 68).run Try.prog w = .ok (.slice none 0 0) w := by kernel_rfl
def In64 (x : Int) : Prop := (Lit.int .i64 x).wf = true
theorem In64.of {x : Int} (h0 : 0 ≤ x) (h1 : x ≤ 1000000) : In64 x := by
  have h2 : IntKind.i64.min = -9223372036854775808 := rfl
  have h3 : IntKind.i64.max = 9223372036854775807 := rfl
  unfold In64 Lit.wf
  simp
  omega
theorem In64.key {x : Int} (h : In64 x) : keyOf Try.prog 3 (.int .i64 x) = some (.int .i64 x) := keyOf_int_mk Try.underlying3 h
theorem isKey_int (x : Int) : WideAt.IsKeyLit (.int .i64 x) := by simp [WideAt.IsKeyLit]
/-- How an element reads: as it is. -/
def heldR (v : Value) : Option (DataW Value × List MemPlace) := some (.held v, [])
abbrev MF := Int → Option Value
def updF (f : MF) (x : Int) (v : Value) : MF := fun y => if y = x then some v else f y
def delF (f : MF) (x : Int) : MF := fun y => if y = x then none else f y
/-- A map that the call owns. -/
def IsMv (W : World) (b n : Nat) (f : MF) : Prop := ∃ D : DataW Value, W.ownsMap Try.prog 3 heldR b n D ∧
  ∀ x, In64 x → (f x = none → Maps.has D (.int .i64 x) = false) ∧ ∀ y, f x = some y → Maps.has D (.int .i64 x) = true ∧ ∀ z, D.atKey (.int .i64 x) z = .held y

section
variable {W W' : World} {b n : Nat} {f : MF}
theorem IsMv.of_empty (h : W.heap[b]? = some (.map #[] 0)) : IsMv W b 0 (fun _ => none) :=
  ⟨.map [], ⟨#[], 0, h, ⟨by simp, MapKept.stamped_empty 0, by simp⟩, Nat.le_refl _, rfl⟩, fun x _ => ⟨fun _ => rfl, fun y h => by simp at h⟩⟩
theorem IsMv.mono (h : IsMv W b n f) {n' : Nat} (hn : n ≤ n') : IsMv W b n' f := let ⟨D, h1, h2⟩ := h; ⟨D, h1.mono hn, h2⟩
theorem IsMv.lt (h : IsMv W b n f) : b < W.heap.size := let ⟨_, h1, _⟩ := h; h1.lt
theorem IsMv.keep (h : IsMv W b n f) (he : W'.heap[b]? = W.heap[b]?) : IsMv W' b n f := by
  obtain ⟨D, ⟨es, c, hb, r⟩, h2⟩ := h
  exact ⟨D, ⟨es, c, he.trans hb, r⟩, h2⟩
theorem IsMv.isMap (h : IsMv W b n f) : ∃ es c, W.heap[b]? = some (.map es c) := let ⟨_, ⟨es, c, hb, _⟩, _⟩ := h; ⟨es, c, hb⟩
theorem held_inj {v u : Value} {ps : List MemPlace} (h : heldR v = some (.held u, ps)) : v = u := by
  unfold heldR at h
  simp at h
  exact h.1
theorem IsMv.look (h : IsMv W b n f) {x : Int} (hx : In64 x) {v : Value} (hf : f x = some v) : (Instr.lookup 67 (.map (some b)) (.int .i64 x) false).run Try.prog W = .ok v W := by
  obtain ⟨D, h1, h2⟩ := h
  obtain ⟨u, ps, hr, hc⟩ := h1.lookup lawInt Try.underlying67 (zeroMat _) (zd := .held (.slice none 0 0)) (zp := []) rfl hx.key
  rw [((h2 x hx).2 v hf).2] at hc
  rw [hr, held_inj hc]
theorem IsMv.lookok (h : IsMv W b n f) {x : Int} (hx : In64 x) : (Instr.lookup 67 (.map (some b)) (.int .i64 x) true).run Try.prog W = .ok (.tuple #[(f x).getD (.slice none 0 0), .bool (f x).isSome]) W := by
  obtain ⟨D, h1, h2⟩ := h
  obtain ⟨u, ps, hr, hc⟩ := h1.look_ok lawInt Try.underlying67 (zeroMat _) (zd := .held (.slice none 0 0)) (zp := []) rfl hx.key
  rw [hr]
  cases hf : f x with
  | none => rw [(h2 x hx).1 hf]; rw [atKey_of_not_has ((h2 x hx).1 hf)] at hc; rw [held_inj hc]; rfl
  | some y => rw [((h2 x hx).2 y hf).1]; rw [((h2 x hx).2 y hf).2] at hc; rw [held_inj hc]; rfl
theorem IsMv.put (h : IsMv W b n f) (hn : n ≤ 1000000) {x : Int} (hx : In64 x) (v : Value) : ∃ W', (Instr.mapUpdate 67 (.map (some b)) (.int .i64 x) v).run Try.prog W = .ok () W' ∧ IsMv W' b (n + 1) (updF f x v) ∧ W.mapTurned W' b := by
  obtain ⟨D, h1, h2⟩ := h
  obtain ⟨W', hr, ho, ht⟩ := h1.store lawInt Try.underlying67 (by unfold maxLen; omega) hx.key (d := .held v) (ps := []) (val := v) rfl
  refine ⟨W', hr, ⟨_, ho, fun u hu => ?_⟩, ht⟩
  unfold updF
  by_cases e : u = x
  · subst e
    rw [if_pos rfl]
    refine ⟨fun h => by simp at h, fun z hz => ?_⟩
    simp at hz; subst hz
    exact ⟨has_put_same h1.isMap (isKey_int _) _, fun z => atKey_put_same h1.isMap (isKey_int _) _ _⟩
  · rw [if_neg e]
    have hne : Lit.int .i64 u ≠ .int .i64 x := by simpa using e
    obtain ⟨g1, g2⟩ := h2 u hu
    exact ⟨fun hz => (has_put_other hne _).trans (g1 hz), fun z hz => ⟨(has_put_other hne _).trans (g2 z hz).1, fun zd => (atKey_put_other hne _ _).trans ((g2 z hz).2 zd)⟩⟩
theorem IsMv.dele (h : IsMv W b n f) {x : Int} (hx : In64 x) (ty : TypeId) : ∃ W', (Builtin.delete_ #[67, 3] ty #[.map (some b), .int .i64 x]).run Try.prog W = .ok (.tuple #[]) W' ∧ IsMv W' b n (delF f x) ∧ W.mapTurned W' b := by
  obtain ⟨D, h1, h2⟩ := h
  obtain ⟨W', hr, ho, ht⟩ := h1.drop lawInt Try.underlying67 hx.key ty
  refine ⟨W', hr, ⟨_, ho, fun u hu => ?_⟩, ht⟩
  unfold delF
  by_cases e : u = x
  · subst e
    rw [if_pos rfl]
    exact ⟨fun _ => has_del_same, fun z hz => by simp at hz⟩
  · rw [if_neg e]
    have hne : Lit.int .i64 u ≠ .int .i64 x := by simpa using e
    obtain ⟨g1, g2⟩ := h2 u hu
    exact ⟨fun hz => (has_del_other hne).trans (g1 hz), fun z hz => ⟨(has_del_other hne).trans (g2 z hz).1, fun zd => (atKey_del_other hne _).trans ((g2 z hz).2 zd)⟩⟩
/-- The keys below m, rising. -/
def keysF (f : MF) (m : Nat) : List Int := ((List.range m).map fun (i : Nat) => (i : Int)).filter fun x => (f x).isSome
theorem keysF_nodup (f : MF) (m : Nat) : (keysF f m).Nodup := by
  unfold keysF
  show List.Pairwise (· ≠ ·) _
  refine List.Pairwise.filter _ ?_
  rw [List.pairwise_map]
  exact List.pairwise_lt_range.imp fun h => by omega
theorem keysF_sorted (f : MF) (m : Nat) : (keysF f m).Pairwise (fun a b => decide (a ≤ b) = true) := by
  unfold keysF
  refine List.Pairwise.filter _ ?_
  rw [List.pairwise_map]
  exact List.pairwise_lt_range.imp fun h => by simp; omega
theorem mem_keysF {f : MF} {m : Nat} {x : Int} : x ∈ keysF f m ↔ (0 ≤ x ∧ x < m) ∧ (f x).isSome = true := by
  unfold keysF
  rw [List.mem_filter, List.mem_map]
  refine and_congr ⟨?_, fun h => ⟨x.toNat, List.mem_range.2 (by omega), by omega⟩⟩ Iff.rfl
  rintro ⟨i, hi, rfl⟩
  have := List.mem_range.1 hi
  omega
theorem IsMv.perm {D : DataW Value} (h1 : W.ownsMap Try.prog 3 heldR b n D) (h2 : ∀ x, In64 x → (f x = none → Maps.has D (.int .i64 x) = false) ∧ ∀ y, f x = some y → Maps.has D (.int .i64 x) = true ∧ ∀ z, D.atKey (.int .i64 x) z = .held y)
    {m : Nat} (hm : m ≤ 1000000) (hd : ∀ x, f x ≠ none → 0 ≤ x ∧ x < m) : (keysF f m).Perm (intKeys D) := by
  have hwf := intKeys_wf h1 Try.underlying3
  refine CollectedI.perm (D0 := D) (left := fun _ => false) ⟨keysF_nodup f m, fun x => ?_⟩ h1 lawInt Try.underlying3 (fun _ => rfl)
  rw [mem_keysF]
  constructor
  · rintro ⟨hr, hs⟩
    have h64 := In64.of hr.1 (by omega)
    cases hf : f x with
    | none => rw [hf] at hs; simp at hs
    | some y => exact ⟨((h2 x h64).2 y hf).1, rfl⟩
  · rintro ⟨hh, -⟩
    have h64 : In64 x := by
      refine hwf x ?_
      obtain ⟨es, rfl, hko⟩ := h1.keysOf
      rw [has_eq, List.any_eq_true] at hh
      obtain ⟨p, hp, hs⟩ := hh
      obtain ⟨v, hv⟩ := hko p hp
      obtain ⟨y, -, hy, -⟩ := Maps.keyOf_i64 Try.underlying3 hv
      refine List.mem_map.2 ⟨p, hp, ?_⟩
      rw [hy] at hs ⊢
      simpa [Lit.sameKey, Go.intOf] using hs
    cases hf : f x with
    | none => rw [(h2 x h64).1 hf] at hh; simp at hh
    | some y => exact ⟨hd x (by rw [hf]; simp), rfl⟩
theorem IsMv.size (h : IsMv W b n f) {m : Nat} (hm : m ≤ 1000000) (hd : ∀ x, f x ≠ none → 0 ≤ x ∧ x < m) : ∃ es c, W.heap[b]? = some (.map es c) ∧ es.size = (keysF f m).length := by
  obtain ⟨D, h1, h2⟩ := h
  have hp := IsMv.perm h1 h2 hm hd
  obtain ⟨es, c, hb, F, hs, rfl⟩ := h1
  refine ⟨es, c, hb, ?_⟩
  rw [hp.length_eq]
  show _ = (List.map _ ((es.toList.map (rg Try.prog 3 heldR)).foldr DataW.insert [])).length
  rw [List.length_map, length_sorted]
  simp
end
/-- A node's neighbours, rising: as a list. -/
theorem around_k {b nn : Nat} {f : MF} {m : Nat} (w : World) (h : IsMv w b nn f) (hm : m ≤ 1000) (hd : ∀ x, f x ≠ none → 0 ≤ x ∧ x < m)
    (sb mb mo mn mc j : Nat) (q1 : w.cell? ⟨sb, 1, none⟩ = some (.slice (some ⟨mb, mo, none⟩) mn mc)) (hj : j < mn) (q2 : w.cell? ⟨mb, mo + j, none⟩ = some (.map (some b))) :
    Calls Try.prog 36 #[.pointer (some ⟨sb, 0, none⟩), .int .i64 (j : Int)] w fun e w' => ∃ v, e = .returned v ∧ w'.ownsRow w.heap.size 3 1 v (keysF f m).length (ints (keysF f m)) ∧ Below w.heap.size w w' := by
  obtain ⟨D, h1, h2⟩ := h
  have hp := IsMv.perm h1 h2 (by omega : m ≤ 1000000) hd
  have hsz : Maps.size D ≤ 1000 := by
    have hl : (keysF f m).length ≤ m := Nat.le_trans (List.length_filter_le _ _) (by simp)
    obtain ⟨es, c, hb, F, hs, rfl⟩ := h1
    have := hp.length_eq
    have e : (intKeys (.map ((es.toList.map (rg Try.prog 3 heldR)).foldr DataW.insert []))).length = Maps.size (.map ((es.toList.map (rg Try.prog 3 heldR)).foldr DataW.insert [])) := by
      show (List.map _ _).length = _
      rw [List.length_map]; rfl
    omega
  refine (around_c b nn D heldR w h1 (by unfold maxLen; omega) (by omega) sb mb mo mn mc j q1 hj q2).mono ?_
  rintro e w' ⟨v, ss, rfl, hss, ho, -, hb⟩
  have hpp : ss.Perm (keysF f m) := hss.trans hp.symm
  have e1 : ss.mergeSort (fun x y => decide (x ≤ y)) = keysF f m := by
    have h3 := mergeSort_of_perm_i hpp
    have h4 : (keysF f m).mergeSort leI = keysF f m := List.mergeSort_of_pairwise (keysF_sorted f m)
    exact h3.trans h4
  rw [e1, hpp.length_eq] at ho
  exact ⟨v, rfl, ho, hb⟩
end Go.Proofs.Ytdomnbgjafdnjaa
