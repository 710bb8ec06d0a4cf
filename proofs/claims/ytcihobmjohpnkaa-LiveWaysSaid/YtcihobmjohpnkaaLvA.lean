/- 'live.After': the closure, 'Each', the walk. -/
import Derived.Test.YtcihobmjohpnkaaLvI
import Derived.Test.YtcihobmjohpnkaaRfL
namespace Go.Proofs.Ytcihobmjohpnkaa
open Go.RowKit Go.Sort

/-- What is wanted behind instruction k of a block at whose end ob is. -/
def aftW (l : List InsD) (k : Nat) (ob : List Nat) : List Nat := backD l (k + 1) ob

theorem grown_alloc {A B : World} {r : Option Nat} (h : A.grownBy B r) (o : Obj) : A.grownBy (B.alloc o) r := grown_trans h (World.grownBy_alloc B o r)
theorem grown_below {A B C : World} {r : Option Nat} (h : A.grownBy B r) (hb : Below B.heap.size B C) : A.grownBy C r :=
  ⟨hb.os.trans h.os, hb.tape.trans h.tape, hb.output.trans h.output, Nat.le_trans h.size hb.size, fun k hk hne => (hb.block k (by have := h.size; omega)).trans (h.block k hk hne)⟩
theorem grown_set {A B : World} {r : Option Nat} (h : A.grownBy B r) {a : Addr} (ha : A.heap.size ≤ a.block ∨ r = some a.block) (u : Value) : A.grownBy (B.setCell a u) r :=
  ⟨h.os, h.tape, h.output, by simpa using h.size, fun k hk hne => (Below.heap_setCell _ _ _ _ (fun e => by
    rcases ha with ha | ha
    · omega
    · exact hne (by rw [e]; exact ha.symm))).trans (h.block k hk hne)⟩

set_option maxRecDepth 100000 in
set_option maxHeartbeats 2000000 in
/-- The closure: another instruction than the one that is asked for. -/
theorem aft_other (w : World) (k i : Int) (ins : InsD) (a : Option Addr) (len cap : Nat) (za : Option Addr) (zn zc : Nat) (pi po : Nat) (hi : w.cell? ⟨pi, 0, none⟩ = some (.int .i64 i)) (hne : k ≠ i) :
    Calls Try.prog 85 #[.int .i64 k, insV ins (.slice a len cap), .agg #[.slice za zn zc], .pointer (some ⟨pi, 0, none⟩), .pointer (some ⟨po, 0, none⟩)] w fun e w' => e = .returned (.tuple #[]) ∧ Below w.heap.size w w' := by
  obtain ⟨ik, idd, ia, ib, inn, iname, iargs, it, jf⟩ := ins
  unfold insV
  dsimp only
  have hd : (k == i) = false := by simpa using hne
  have hl := lt_of_cell hi
  go_enter Try.func85, Try.ntmps85
  go_wp2_with fail
  go_end0
  exact ⟨rfl, bel_alloc (bel_alloc (bel_refl w) _) _⟩

set_option maxRecDepth 100000 in
set_option maxHeartbeats 2000000 in
theorem aft_this (w : World) (i : Int) (ins : InsD) (a : Option Addr) (len cap : Nat) (za : Option Addr) (zn zc : Nat) (pi po : Nat) (hi : w.cell? ⟨pi, 0, none⟩ = some (.int .i64 i)) {ov : Value} (ho : w.heap[po]? = some (.cells #[ov] 25)) {ws : List Nat} (hz : IsWords (· < w.heap.size) w (.slice za zn zc) ws) (hg : Good1 ws) :
    Calls Try.prog 85 #[.int .i64 i, insV ins (.slice a len cap), .agg #[.slice za zn zc], .pointer (some ⟨pi, 0, none⟩), .pointer (some ⟨po, 0, none⟩)] w fun e w' =>
      e = .returned (.tuple #[]) ∧ ∃ la lc, w'.heap[po]? = some (.cells #[.slice la (listI ws).length lc] 25) ∧ w'.ownsRow w.heap.size 3 1 (.slice la (listI ws).length lc) (listI ws).length (ints (listI ws)) ∧ w.grownBy w' (some po) := by
  obtain ⟨ik, idd, ia, ib, inn, iname, iargs, it, jf⟩ := ins
  unfold insV
  dsimp only
  have hd : (i == i) = true := by simp
  have hl := lt_of_cell hi
  have hlo := lt_of_block ho
  go_enter Try.func85, Try.ntmps85
  go_wp2_with fail
  generalize hW : ((w.alloc _).alloc _) = W
  have hB : Below w.heap.size w W := by rw [← hW]; exact bel_alloc (bel_alloc (bel_refl w) _) _
  have hs := hB.size
  have hk2 : W.heap[w.heap.size + 1]? = some (.cells #[.slice za zn zc] 96) := by rw [← hW]; exact heap_alloc_eq _ _ _ (by simp)
  clear hW
  refine (list_c W (hz.keep (p' := (· < W.heap.size)) (fun b hb hlt => ⟨by show b < W.heap.size; omega, hB.block b hlt⟩)) (by have := hg.2; omega) hg.1.1).mono ?_
  rintro e W2 ⟨z, rfl, hz2, hb2⟩
  obtain ⟨la, lc, rfl, -⟩ := owns_slice hz2
  have hB2 := bel_call hB hb2
  have ho2 := (hB2.block po hlo).trans ho
  have c2 := cell_of_one ho2
  have f2 := free_of_one ho2
  have hs2 := hB2.size
  have hr := (owns_mono hz2 hs).kept (World.ownsRow.kept_set ⟨po, 0, none⟩ (Value.slice la (listI ws).length lc)) (by
    cases hob : (Value.slice la (listI ws).length lc).ownBlock with
    | none => exact .inl rfl
    | some b => exact .inr fun e => by have := (hz2.lt b hob).1; simp at e; omega)
  have hh := one_setCell (u := .slice la (listI ws).length lc) ho2
  have hg2 : w.grownBy (W2.setCell ⟨po, 0, none⟩ (.slice la (listI ws).length lc)) (some po) := grown_set ⟨hB2.os, hB2.tape, hB2.output, hB2.size, fun k hk _ => hB2.block k hk⟩ (.inr rfl) _
  have HF := hid_of (And.intro hh (And.intro hr hg2))
  clear hz2 hb2 hB2 hB hr hh hg2 hz ho
  go_wp2_with fail
  go_end0
  exact ⟨rfl, la, lc, HF.out.1, HF.out.2.1, HF.out.2.2⟩
end Go.Proofs.Ytcihobmjohpnkaa
