/- What the laws share: pairs appended, a graph that stays, colours of a good graph. -/
import Derived.Test.YtinbfnabngdemaaCwA
namespace Go.Proofs.Ytinbfnabngdemaa
open Go.RowKit

theorem app_pr {ops : Array Oper} {rest : List Oper} {o : Oper} {a : Act} {Q : Exit → Act → World → Prop} {W : World}
    (hgd : o.guard = none) (s x : Operand) (hop : o.op = .call { callee := .builtin .append, args := #[s, x], argTypes := #[22, 22] })
    (base : Nat) (v : Value) (zs : List (Int × Int)) (hs : a.eval s = v) (hown : W.ownsRow base 37 2 v zs.length (prs zs)) (g : Nat) (y : Int × Int) (hx : a.eval x = .slice (some ⟨g, 0, none⟩) 1 1)
    (hc : Row W g 37 [.int .i64 y.1, .int .i64 y.2]) (hn : zs.length + 1 ≤ 1000000) (hb : base ≤ W.heap.size)
    (h : ∀ v' w', w'.ownsRow base 37 2 v' (zs ++ [y]).length (prs (zs ++ [y])) → W.grownBy w' v.ownBlock → (v'.ownBlock = v.ownBlock ∨ v'.ownBlock = some W.heap.size) → wpList Try.prog ops Q rest (a.put o.dst v') w') :
    wpList Try.prog ops Q (o :: rest) a W := by
  obtain ⟨i0, hi, hz0, hz1, hz2⟩ := info_parts infoPr
  refine wp_app _ hgd s x 22 hop base 37 i0 _ 2 16 Try.underlying22 hi hz0 hz1 hz2 rfl (by decide) v zs.length (prs zs) hs hown
    ⟨g, 0, none⟩ 1 1 [.int .i64 y.1, .int .i64 y.2] hx rfl ?_ ?_ ?_ ?_ hb ?_
  · intro j u hj
    match j, hj with
    | 0, hj => simp at hj; subst hj; exact hc.cell rfl
    | 1, hj => simp at hj; subst hj; exact hc.cell rfl
  · intro u hu; simp at hu; rcases hu with rfl | rfl <;> rfl
  · unfold maxLen; omega
  · omega
  · intro v' w' ho hg hv
    refine h v' w' ?_ hg hv
    rw [prs_append, List.length_append]
    exact ho
theorem pairs_of_owns {W : World} {base : Nat} {v : Value} {zs : List (Int × Int)} (h : W.ownsRow base 37 2 v zs.length (prs zs)) (hl : zs.length ≤ 1000000) : IsPairs (fun b => base ≤ b ∧ b < W.heap.size) W v zs := by
  obtain ⟨a, c, e, ha⟩ := owns_slice h
  subst e
  by_cases h0 : 0 < zs.length
  · obtain ⟨g, rfl⟩ := ha h0
    obtain ⟨cur, hg, -, hc, -, -, -, -, hlt⟩ := owns_block h
    refine ⟨_, c, rfl, ⟨hc, by omega⟩, .inr ⟨g, 0, rfl, ⟨hg, hlt⟩, fun j hj => ?_⟩⟩
    have := prs_cells h rfl hj
    exact ⟨by rw [Nat.zero_add]; exact this.1, by rw [Nat.zero_add]; exact this.2⟩
  · have : zs = [] := List.length_eq_zero_iff.1 (by omega)
    subst this
    exact ⟨a, c, rfl, ⟨by simp, by simp⟩, .inl rfl⟩
theorem gr_keep {X U : World} {V : GV} {G : GD} (h : IsGr (· < X.heap.size) X V G) (hU : Below X.heap.size X U) : IsGr (· < U.heap.size) U V G := h.keep (fun b hb hlt => ⟨by have := hU.size; omega, hU.block b hlt⟩)
theorem color_ok (w : World) {ea ma aa la : Option Addr} {en ec mn mc n ac ln lc : Nat} {G : GD} (h : IsGr (· < w.heap.size) w ⟨ea, en, ec, ma, mn, mc, aa, n, ac, la, ln, lc⟩ G) (hG : OkG G) (hF : Few G) :
    Calls Try.prog 14 #[.agg #[.slice ea en ec, .slice ma mn mc, .slice aa n ac, .slice la ln lc]] w fun e w' => ∃ kb, e = .returned (.tuple #[.slice (some ⟨kb, 0, none⟩) n n, .int .i64 0]) ∧ w.heap.size ≤ kb ∧ IsInts (fun b => b = kb) w' (.slice (some ⟨kb, 0, none⟩) n n) (colS G) ∧ kb < w'.heap.size ∧ Row w' kb 3 (ints (colS G)) ∧ Below w.heap.size w w' := by
  have hn : n = G.A.length := (sl_len h.a).1
  refine (color_c w h hF).mono ?_
  rintro e w' ⟨hb, hc⟩
  obtain ⟨-, kb, hkb, rfl, hrow⟩ := hc.resolve_left (fun h => h.1 hG)
  refine ⟨kb, rfl, hkb, ?_, hrow.lt, hrow, hb⟩
  have := ints_of_row (p := fun b => b = kb) (xs := colS G) hrow rfl (by rw [colS_length]; have := hF.n; omega)
  rw [colS_length, ← hn] at this
  exact this
theorem few_plain {n k : Nat} {E M : List (Int × Int)} (hn : n ≤ 100) (hk : k ≤ 60) (hE : E.length ≤ 1500) (hM : M.length ≤ 1500) : Few (plainG n k E M) :=
  ⟨by rw [plain_n]; exact hn, by rw [plain_k]; exact hk, hE, hM, fun l hl => by simp [plainG] at hl; rw [hl.2, upI_len]; omega, fun l hl => by simp [plainG] at hl; obtain ⟨c, -, rfl⟩ := hl; simp⟩
end Go.Proofs.Ytinbfnabngdemaa
