/- 'ring' and 'turn'. -/
import Derived.Test.YtjgnailkfmgikaaMvFree
import Derived.StillTailTactics
namespace Go.Proofs.Ytjgnailkfmgikaa
open Go.RowKit Go.Maps

/-- A ring comes back. -/
def RingP (H : Mv.PF) (p : Int) (w : World) (e : Ending) (w' : World) : Prop :=
  ∃ L v, e = .returned v ∧ w'.ownsRow w.heap.size 3 1 v L.length (ints L) ∧ Mv.Path H p L p ∧ L.Nodup ∧ Below w.heap.size w w'

set_option maxRecDepth 100000 in
set_option maxHeartbeats 1000000 in
theorem ring_c {base : Nat} {bw bf br bn n : Nat} {vo vu : Value} {H N R : Mv.PF} {ord : List Int} {out : List (Int × Int)} (w : World) (h : IsWork base w bw bf br bn vo vu n H N R ord out) (ht : Mv.Turns H) {p : Int} (hp : H p ≠ none)
    {O : List Int} (hO : O.length ≤ 1000) (hd : ∀ x, H x ≠ none → x ∈ O ∧ In64 x) :
    Calls Try.prog 19 #[.pointer (some ⟨bw, 0, none⟩), .int .i64 p] w (RingP H p w) := by
  obtain ⟨q0, hq0⟩ := Option.ne_none_iff_exists'.1 hp
  have hr0 := (h.alloc (.cells #[.int .i64 p] 3)).f.look (hd p hp).2
  rw [hq0] at hr0
  dsimp only [Option.getD_some] at hr0
  have c0 : w.cell? ⟨bw, 0, none⟩ = some (.map (some bf)) := h.row.cell rfl
  have hbw := h.row.lt
  have hP0 : Mv.Path H p [p] q0 := .one hq0
  have HH : Hid (Mv.Path H p [p] q0) := hP0
  clear hP0 hq0
  go_enter Try.func19, Try.ntmps19
  go_wp2_with fail
  go_step3
  go_wp2_with fail
  go_step3
  go_wp2_with fail
  refine wp_at (fun W => W.ownsRow w.heap.size 3 1 (.slice (some ⟨w.heap.size, 0, none⟩) 1 1) 1 (ints [p]) ∧ Below w.heap.size w W) ⟨owns_new (X := w) rfl (Nat.le_refl _) (by decide) rfl rfl rfl, bel_alloc (bel_refl w) _⟩ ?_
  rintro W0 ⟨ho0, hb0⟩
  clear hr0
  go_loopg [5, 6] O.length (fun g s5 s6 wr => ∃ (L : List Int) (q : Int) (a : Option Addr) (c : Nat), s5 = .slice a L.length c ∧ s6 = .int .i64 q ∧ wr.ownsRow w.heap.size 3 1 (.slice a L.length c) L.length (ints L) ∧ Hid (Mv.Path H p L q ∧ L.Nodup) ∧ Below w.heap.size w wr ∧ L.length + g = O.length + 1)
  case atStart => exact ⟨[p], q0, _, _, rfl, rfl, ho0, ⟨HH.out, by simp⟩, hb0, by simp; omega⟩
  case round =>
    obtain ⟨L, q, a, c, rfl, rfl, ho, hP, hb, hg⟩ := hrel
    have hW := h.below hb (Nat.le_refl _)
    have c1 : wr.cell? ⟨bw, 0, none⟩ = some (.map (some bf)) := hW.row.cell rfl
    have hsz := hb.size
    by_cases hqp : q = p
    · subst hqp
      go_wp2_with fail
      rw [Exit.noGoto_ret]
      go_ret
      exact ⟨L, _, rfl, ho, hP.out.1, hP.out.2, hb⟩
    · have hne : (q == p) = false := beq_eq_false_iff_ne.2 hqp
      have hfr : q ∉ L := fun hm => hqp (hP.out.1.fresh ht.inj hP.out.2 hm)
      obtain ⟨u, hu, hu2⟩ := hP.out.1.last
      have hHq := ht.on u q hu2
      obtain ⟨q', hq'⟩ := Option.ne_none_iff_exists'.1 hHq
      have hP2 : Hid (Mv.Path H p (L ++ [q]) q' ∧ (L ++ [q]).Nodup) := ⟨hP.out.1.snoc hq', Mv.Path.nodup_snoc hP.out.2 hfr⟩
      have hll : (L ++ [q]).length ≤ O.length := nodup_len hP2.out.2 fun x hx => (hd x (hP2.out.1.isOn x hx)).1
      simp only [List.length_append, List.length_cons, List.length_nil] at hll
      have hq64 := (hd q hHq).2
      clear hqp hfr hu hu2 hHq hP
      go_wp2_with (at_builtin; refine stop_here ?_)
      refine stop_go (app_int rfl _ _ rfl w.heap.size _ L rfl (owns_keep ho fun b hb => Below.heap_alloc _ _ _ (ho.lt b hb).2) _ q rfl (heap_alloc_eq _ _ _ rfl) (by omega) (by simp; omega) ?_)
      intro v' W2 ho2 hg2 _
      have hb2 : Below w.heap.size w W2 := bel_grown (bel_alloc hb _) hg2 (fun k hk => (ho.lt k hk).1)
      have hW2 := h.below hb2 (Nat.le_refl _)
      have hr2 := hW2.f.look hq64
      rw [hq'] at hr2
      dsimp only [Option.getD_some] at hr2
      have c2 : W2.cell? ⟨bw, 0, none⟩ = some (.map (some bf)) := hW2.row.cell rfl
      clear hq' hg2 ho hb hW c1
      obtain ⟨g2, k2, rfl⟩ : ∃ a c, v' = .slice a (L ++ [q]).length c := by
        rcases owns_nilcase ho2 with ⟨h1, h2, _⟩ | ⟨g, c, h1⟩
        · simp at h2
        · exact ⟨_, c, h1⟩
      have hlp : (L ++ [q]).length = L.length + 1 := by simp
      rw [hlp] at ho2 ⊢
      have HLP : Hid ((L ++ [q]).length = L.length + 1) := hlp
      clear hlp
      go_wp2_with fail
      go_roundg (gk - 1)
      case measure => omega
      case rel => exact ⟨L ++ [q], q', g2, k2, by rw [HLP.out], rfl, by rw [HLP.out]; exact ho2, hP2, hb2, by rw [HLP.out]; omega⟩
end Go.Proofs.Ytjgnailkfmgikaa
