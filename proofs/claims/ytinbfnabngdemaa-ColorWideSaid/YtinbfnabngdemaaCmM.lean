/- Sets of nodes that are kept as maps: what each has; their numbers, rising. -/
import Derived.Test.YtinbfnabngdemaaShelf
import Derived.Test.YtinbfnabngdemaaKPre
import Derived.Test.YtinbfnabngdemaaCkA
import Derived.Maps.OwnSet
import Derived.Maps.OwnOps
import Derived.Maps.RangeWalk
import Derived.WideKeyEntry
import Derived.Shelf.AbstractIn
namespace Go.Proofs.Ytinbfnabngdemaa
open Go.RowKit Go.Maps Go.Sort Go.Shelf Go.WideMaps Go.ChangeMaps Go.WideElems

theorem lawInt : Keyed Try.prog 3 := int_keyed Try.underlying3
def In64 (x : Int) : Prop := (Lit.int .i64 x).wf = true
theorem In64.of {x : Int} (h0 : 0 ≤ x) (h1 : x ≤ 1000000) : In64 x := by
  have h2 : IntKind.i64.min = -9223372036854775808 := rfl
  have h3 : IntKind.i64.max = 9223372036854775807 := rfl
  unfold In64 Lit.wf
  simp
  omega
theorem In64.key {x : Int} (h : In64 x) : keyOf Try.prog 3 (.int .i64 x) = some (.int .i64 x) := keyOf_int_mk Try.underlying3 h
theorem isKey_int (x : Int) : WideAt.IsKeyLit (.int .i64 x) := by simp [WideAt.IsKeyLit]
/-- Has the set p the number x? -/
def inP (p : Nat → Bool) (x : Int) : Bool := decide (0 ≤ x) && p x.toNat
theorem inP_nat (p : Nat → Bool) (m : Nat) : inP p (m : Int) = p m := by simp [inP]
def HasP (D : DataW Unit) (p : Nat → Bool) : Prop := ∀ x, In64 x → Maps.has D (.int .i64 x) = inP p x
/-- A set that the call owns. -/
def IsIs (W : World) (b n : Nat) (p : Nat → Bool) : Prop := ∃ D : DataW Unit, W.ownsMap Try.prog 3 (plainElem Try.prog 3) b n D ∧ HasP D p

section
variable {W W' : World} {b n : Nat} {p : Nat → Bool}
theorem IsIs.of_empty (h : W.heap[b]? = some (.map #[] 0)) : IsIs W b 0 (fun _ => false) :=
  ⟨.map [], ⟨#[], 0, h, ⟨by simp, MapKept.stamped_empty 0, by simp⟩, Nat.le_refl _, rfl⟩, fun x _ => by simp [inP, Maps.has]⟩
theorem IsIs.mono (h : IsIs W b n p) {n' : Nat} (hn : n ≤ n') : IsIs W b n' p := let ⟨D, h1, h2⟩ := h; ⟨D, h1.mono hn, h2⟩
theorem IsIs.lt (h : IsIs W b n p) : b < W.heap.size := let ⟨_, h1, _⟩ := h; h1.lt
theorem IsIs.keep (h : IsIs W b n p) (he : W'.heap[b]? = W.heap[b]?) : IsIs W' b n p := by
  obtain ⟨D, ⟨es, c, hb, r⟩, h2⟩ := h
  exact ⟨D, ⟨es, c, he.trans hb, r⟩, h2⟩
theorem IsIs.congr (h : IsIs W b n p) {q : Nat → Bool} (he : ∀ k, p k = q k) : IsIs W b n q := by
  have : p = q := funext he
  rw [← this]; exact h
theorem IsIs.put (h : IsIs W b n p) (hn : n ≤ 1000000) {m : Nat} (hm : m ≤ 1000000) : ∃ W', (Instr.mapUpdate 71 (.map (some b)) (.int .i64 (m : Int)) (.int .i64 1)).run Try.prog W = .ok () W' ∧ IsIs W' b (n + 1) (fun k => p k || decide (k = m)) ∧ W.mapTurned W' b := by
  obtain ⟨D, h1, h2⟩ := h
  have hx : In64 (m : Int) := In64.of (by omega) (by omega)
  obtain ⟨W', hr, ho, ht⟩ := h1.store lawInt Try.underlying71 (by unfold maxLen; omega) hx.key (d := .lit (.int .i64 1)) (ps := []) (val := .int .i64 1) (by rw [plainElem_int Try.underlying3 (In64.of (x := 1) (by omega) (by omega))])
  refine ⟨W', hr, ⟨_, ho, fun u hu => ?_⟩, ht⟩
  by_cases e : u = (m : Int)
  · subst e
    rw [has_put_same h1.isMap (isKey_int _), inP_nat]
    simp
  · have hne : Lit.int .i64 u ≠ .int .i64 (m : Int) := by simpa using e
    rw [has_put_other hne, h2 u hu]
    unfold inP
    by_cases h0 : 0 ≤ u
    · have : ¬ u.toNat = m := by omega
      simp [h0, this]
    · simp [h0]
/-- The numbers below m, rising. -/
def keysP (p : Nat → Bool) (m : Nat) : List Int := ((List.range m).filter p).map fun (i : Nat) => (i : Int)
theorem keysP_nodup (p : Nat → Bool) (m : Nat) : (keysP p m).Nodup := by
  unfold keysP
  show List.Pairwise (· ≠ ·) _
  rw [List.pairwise_map]
  exact (List.pairwise_lt_range.filter _).imp fun h => by omega
theorem keysP_sorted (p : Nat → Bool) (m : Nat) : (keysP p m).Pairwise (fun a b => decide (a ≤ b) = true) := by
  unfold keysP
  rw [List.pairwise_map]
  exact (List.pairwise_lt_range.filter _).imp fun h => by simp; omega
theorem mem_keysP {p : Nat → Bool} {m : Nat} {x : Int} : x ∈ keysP p m ↔ (0 ≤ x ∧ x < m) ∧ inP p x = true := by
  unfold keysP inP
  rw [List.mem_map]
  constructor
  · rintro ⟨i, hi, rfl⟩
    rw [List.mem_filter, List.mem_range] at hi
    exact ⟨⟨by omega, by omega⟩, by simp [hi.2]⟩
  · rintro ⟨h1, h2⟩
    refine ⟨x.toNat, ?_, by omega⟩
    rw [List.mem_filter, List.mem_range]
    simp [h1.1] at h2
    exact ⟨by omega, h2⟩
theorem keysP_length (p : Nat → Bool) (m : Nat) : (keysP p m).length ≤ m := by
  unfold keysP; rw [List.length_map]; exact Nat.le_trans (List.length_filter_le _ _) (by simp)
theorem HasP.perm {D : DataW Unit} (h1 : W.ownsMap Try.prog 3 (plainElem Try.prog 3) b n D) (h2 : HasP D p) {m : Nat} (hm : m ≤ 1000000) (hd : ∀ k, p k = true → k < m) : (keysP p m).Perm (intKeys D) := by
  have hwf := intKeys_wf h1 Try.underlying3
  refine CollectedI.perm (D0 := D) (left := fun _ => false) ⟨keysP_nodup p m, fun x => ?_⟩ h1 lawInt Try.underlying3 (fun _ => rfl)
  rw [mem_keysP]
  constructor
  · rintro ⟨hr, hs⟩
    exact ⟨(h2 x (In64.of hr.1 (by omega))).trans hs, rfl⟩
  · rintro ⟨hh, -⟩
    have h64 : In64 x := by
      refine hwf x ?_
      obtain ⟨es, rfl, hko⟩ := h1.keysOf
      rw [has_eq, List.any_eq_true] at hh
      obtain ⟨q, hp, hs⟩ := hh
      obtain ⟨v, hv⟩ := hko q hp
      obtain ⟨y, -, hy, -⟩ := Maps.keyOf_i64 Try.underlying3 hv
      refine List.mem_map.2 ⟨q, hp, ?_⟩
      rw [hy] at hs ⊢
      simpa [Lit.sameKey, Go.intOf] using hs
    have h3 := h2 x h64
    rw [hh] at h3
    refine ⟨?_, h3.symm⟩
    unfold inP at h3
    have h4 : 0 ≤ x ∧ p x.toNat = true := by simpa using h3.symm
    have := hd _ h4.2
    omega
theorem HasP.size {D : DataW Unit} (h1 : W.ownsMap Try.prog 3 (plainElem Try.prog 3) b n D) (h2 : HasP D p) {m : Nat} (hm : m ≤ 1000000) (hd : ∀ k, p k = true → k < m) : Maps.size D ≤ m := by
  have hp := h2.perm h1 hm hd
  have hl := keysP_length p m
  obtain ⟨es, c, hb, F, hs, rfl⟩ := h1
  have := hp.length_eq
  have e : (intKeys (.map ((es.toList.map (rg Try.prog 3 (plainElem (H := Unit) Try.prog 3))).foldr DataW.insert []))).length = Maps.size (.map ((es.toList.map (rg Try.prog 3 (plainElem (H := Unit) Try.prog 3))).foldr DataW.insert [])) := by
    show (List.map _ _).length = _
    rw [List.length_map]; rfl
  omega
end
theorem sortsA (m : Nat) : AnyZI.SortsIn Try.prog Try.laysSorted_ren Fence.wide m :=
  ⟨fun blk off cap ss W hH hblk hsz => callsIn_wide.2 (AnyM.slices_Sort_int Try.laysSort blk off cap ss W hH hblk hsz),
   fun p cap W => callsIn_wide.2 (AnyM.slices_Sort_int_none Try.laysSort p cap W)⟩
abbrev keysV (q : Nat) : Value := .func (.func 56) #[] #[.pointer (some ⟨q, 0, none⟩)]
theorem keys_in (n : Nat) (mb : Option Nat) (W : World) : CallsIn Fence.wide n Try.prog 45 #[.map mb] W fun e w' => e = .returned (keysV W.heap.size) ∧ w' = W.alloc (.cells #[.map mb] 71) :=
  AnyZI.keys_in Try.laysKeysI Fence.wide n trivial rfl mb W
theorem keys_c (mb : Option Nat) (W : World) : Calls Try.prog 45 #[.map mb] W fun e w' => e = .returned (keysV W.heap.size) ∧ w' = W.alloc (.cells #[.map mb] 71) :=
  callsIn_wide.1 (keys_in 5 mb W)
/-- The numbers of a set, rising. -/
theorem sorted_in (n : Nat) (hn : 4 ≤ n) {b nn q : Nat} {p : Nat → Bool} {m : Nat} (w : World) (h : IsIs w b nn p) (hm : m ≤ 1000) (hd : ∀ k, p k = true → k < m) (hq : w.cell? ⟨q, 0, none⟩ = some (.map (some b))) :
    CallsIn Fence.wide n Try.prog 44 #[keysV q] w fun e w' => ∃ v, e = .returned v ∧ w'.ownsRow w.heap.size 3 1 v (keysP p m).length (ints (keysP p m)) ∧ Below w.heap.size w w' := by
  obtain ⟨D, h1, h2⟩ := h
  have hsz := h2.size h1 (by omega : m ≤ 1000000) hd
  have hp := h2.perm h1 (by omega : m ≤ 1000000) hd
  have hseq : SeqGives Fence.wide (n - 1 - 1 - 1) Try.prog 56 #[.pointer (some ⟨q, 0, none⟩)] encZ (fun ss => ss.Perm (intKeys D)) (Maps.size D) w :=
    AnyZI.keys_gives (ρ := Try.laysKeysI_ren) { Try.laysKeysI with } Fence.wide _ trivial rfl (by omega) q b nn D _ (lt_of_cell hq) hq h1
  have cS := AnyZI.sorted_in Try.laysSorted Fence.wide n trivial trivial trivial trivial rfl hn (sortsA _) (enters_of Try.func55 (by kernel_rfl) rfl) 56 #[.pointer (some ⟨q, 0, none⟩)] trivial (enters_of Try.func56 (by kernel_rfl) rfl) _ _ (by unfold maxLen; omega) (by omega) _ hseq
  change CallsIn _ _ Try.prog 44 _ _ _ at cS
  refine cS.mono ?_
  rintro e w' ⟨v, ss, rfl, hss, ho, -, hb⟩
  have hpp : ss.Perm (keysP p m) := hss.trans hp.symm
  have e1 : ss.mergeSort (fun x y => decide (x ≤ y)) = keysP p m := by
    have h3 := mergeSort_of_perm_i hpp
    have h4 : (keysP p m).mergeSort leI = keysP p m := List.mergeSort_of_pairwise (keysP_sorted p m)
    exact h3.trans h4
  rw [e1, hpp.length_eq] at ho
  exact ⟨v, rfl, ho, hb⟩
theorem sorted_c {b nn q : Nat} {p : Nat → Bool} {m : Nat} (w : World) (h : IsIs w b nn p) (hm : m ≤ 1000) (hd : ∀ k, p k = true → k < m) (hq : w.cell? ⟨q, 0, none⟩ = some (.map (some b))) :
    Calls Try.prog 44 #[keysV q] w fun e w' => ∃ v, e = .returned v ∧ w'.ownsRow w.heap.size 3 1 v (keysP p m).length (ints (keysP p m)) ∧ Below w.heap.size w w' :=
  callsIn_wide.1 (sorted_in 5 (by omega) w h hm hd hq)
end Go.Proofs.Ytinbfnabngdemaa
