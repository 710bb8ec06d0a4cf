/- What turns in the graph while nodes are taken away: a node is put to those that are safe, or taken from them, is gone, is put to the order, has another sum. -/
import Derived.Test.YtinbfnabngdemaaCxS
namespace Go.Proofs.Ytinbfnabngdemaa
open Go.RowKit

theorem nts_ints (l : List Nat) : nts l = ints (l.map fun (m : Nat) => (m : Int)) := by simp [nts, ints]
theorem gr_set (W : World) (a : Addr) (u : Value) : W.grownBy (W.setCell a u) (some a.block) :=
  ⟨rfl, rfl, rfl, by simp, fun k _ hne => Below.heap_setCell _ _ _ _ (fun e => hne (by rw [e]))⟩
theorem Row.cell_eq {W : World} {b : Nat} {e : TypeId} {vs : List Value} (h : Row W b e vs) (k : Nat) : W.cell? ⟨b, k, none⟩ = vs[k]? := by
  unfold Row at h; simp [World.cell?, h]
theorem get_range {α : Type} {f : Nat → α} {n i : Nat} (h : i < n) : ((List.range n).map f)[i]? = some (f i) := by simp [h]
theorem map_set_range {α : Type} (f : Nat → α) (n i : Nat) (x : α) : ((List.range n).map f).set i x = (List.range n).map fun u => if u = i then x else f u := by
  refine List.ext_getElem (by simp) fun k h1 h2 => ?_
  rw [List.getElem_set]
  simp only [List.getElem_map, List.getElem_range]
  by_cases e : i = k
  · rw [if_pos e, if_pos e.symm]
  · rw [if_neg e, if_neg (fun h => e h.symm)]
section
variable {L : Gl} {G : GD} {S : CS} {W W1 W2 : World} {ov sv v' : Value}
/-- Cell o of the graph is another one, and the row that it names has grown; all else stays. -/
theorem KZ.of_grown {l o : Nat} (hd : DyV L G S ov sv W) {S' : CS} {ov' sv' : Value} {row : Option Nat} (hd' : DyV L G S' ov' sv' W2) (g1 : W.grownBy W1 row) (g2 : W1.grownBy W2 (some L.gb))
    (ho : Ofs l o) (hrow : ∀ b, row = some b → Dn L l W b) (hcell : ∀ k, k ≠ o → (L.cs G.A.length ov' sv')[k]? = (L.cs G.A.length ov sv)[k]?)
    (hdyn : ∀ b, b < W.heap.size → (1 ≤ l ∧ sv'.ownBlock = some b) ∨ (2 ≤ l ∧ ov'.ownBlock = some b) → (1 ≤ l ∧ sv.ownBlock = some b) ∨ (2 ≤ l ∧ ov.ownBlock = some b)) : KZ L l W W2 := by
  refine ⟨g2.os.trans g1.os, g2.tape.trans g1.tape, g2.output.trans g1.output, Nat.le_trans g1.size g2.size, fun k hk => ?_, fun b hb hg hn => ?_, fun b hb hD => ?_⟩
  · rw [hd'.row.cell_eq, hd.row.cell_eq]
    exact hcell k (fun e => hk (e ▸ ho))
  · exact (g2.block b (Nat.lt_of_lt_of_le hb g1.size) (fun e => hg (by injection e))).trans (g1.block b hb (fun e => hn (hrow b e.symm)))
  · rw [hd'.dn] at hD
    rw [hd.dn]
    rcases hD with hD | hD
    · exact .inl hD
    · exact .inr (hdyn b hb hD)
theorem low_of (hd : DyV L G S ov sv W) (g1 : W.grownBy W1 sv.ownBlock) (hB : L.B ≤ W.heap.size) : ∀ b, b < L.B → W1.heap[b]? = W.heap[b]? := fun b hb =>
  g1.block b (by omega) (fun e => by have := (hd.sf.lt b e.symm).1; omega)
theorem low_of' (hd : DyV L G S ov sv W) (g1 : W.grownBy W1 ov.ownBlock) (hB : L.B ≤ W.heap.size) : ∀ b, b < L.B → W1.heap[b]? = W.heap[b]? := fun b hb =>
  g1.block b (by omega) (fun e => by have := (hd.ord.lt b e.symm).1; omega)
theorem own_gb (hok : GlOk L G) {n : Nat} {xs : List Value} (h : W.ownsRow L.B 3 1 v' n xs) : v'.ownBlock = none ∨ v'.ownBlock ≠ some L.gb := by
  cases e : v'.ownBlock with
  | none => exact .inl rfl
  | some b => right; rw [← e]; intro e2; have := (h.lt _ e2).1; have := hok.lt.1; omega
/-- A node is put to those that are safe. -/
theorem dy_put (hd : DyV L G S ov sv W) (hok : GlOk L G) (hB : L.B ≤ W.heap.size) {x : Nat} (ho : W1.ownsRow L.B 3 1 v' (S.safe ++ [x]).length (nts (S.safe ++ [x]))) (g1 : W.grownBy W1 sv.ownBlock)
    (hv : v'.ownBlock = sv.ownBlock ∨ ∃ k, v'.ownBlock = some k ∧ W.heap.size ≤ k) :
    DyV L G { S with safe := S.safe ++ [x] } ov v' (W1.setCell ⟨L.gb, 12, none⟩ v') ∧ KZ L 1 W (W1.setCell ⟨L.gb, 12, none⟩ v') := by
  have hlow := low_of hd g1 hB
  have hlt := hok.lt
  have hap := hok.ap
  have keepE : ∀ b, b < L.B → b ≠ L.gb → (W1.setCell ⟨L.gb, 12, none⟩ v').heap[b]? = W.heap[b]? := fun b hb hne => (Below.heap_setCell _ _ _ _ hne).trans (hlow b hb)
  have hd' : DyV L G { S with safe := S.safe ++ [x] } ov v' (W1.setCell ⟨L.gb, 12, none⟩ v') := by
    refine ⟨(hd.row.keep (hlow _ hlt.1)).set 12 v', ?_, hd.sums.keep (keepE _ hlt.2.2.1 (Ne.symm hap.2.1)), hd.gone.keep (keepE _ hlt.2.2.2 (Ne.symm hap.2.2.1)), ?_, ?_, ?_⟩
    · obtain ⟨s, f, h1, h2⟩ := hd.cost
      exact ⟨s, f, h1.keep (keepE _ hlt.2.1 (Ne.symm hap.1)), h2⟩
    · exact (hd.ord.kept g1 hd.ap).kept (gr_set _ _ _) (own_gb hok hd.ord)
    · exact ho.kept (gr_set _ _ _) (own_gb hok ho)
    · rcases hv with e | ⟨k, e, hk⟩
      · rw [e]; exact hd.ap
      · rw [e]
        cases e2 : ov.ownBlock with
        | none => exact .inl rfl
        | some b => right; intro e3; injection e3 with e3; have := (hd.ord.lt b e2).2; omega
  refine ⟨hd', KZ.of_grown hd hd' g1 (gr_set _ _ _) (o := 12) (.inl ⟨Nat.le_refl _, rfl⟩) (fun b e => (hd.dn).2 (.inr (.inl ⟨Nat.le_refl _, e⟩))) (fun k hk => ?_) (fun b hb h => ?_)⟩
  · show ((L.cs G.A.length ov sv).set 12 v')[k]? = _
    rw [List.getElem?_set_ne (Ne.symm hk)]
  · rcases h with h | h
    · rcases hv with e | ⟨k, e, hk⟩
      · rw [e] at h; exact .inl h
      · rw [e] at h; have := h.2; injection this; omega
    · exact .inr h
/-- The one that was put last is taken. -/
theorem dy_pop (hd : DyV L G S ov sv W) (hok : GlOk L G) {l : List Nat} (hv : W.ownsRow L.B 3 1 v' l.length (nts l)) (he : v'.ownBlock = sv.ownBlock) :
    DyV L G { S with safe := l } ov v' (W.setCell ⟨L.gb, 12, none⟩ v') ∧ KZ L 1 W (W.setCell ⟨L.gb, 12, none⟩ v') := by
  have hlt := hok.lt
  have hap := hok.ap
  have keepE : ∀ b, b ≠ L.gb → (W.setCell ⟨L.gb, 12, none⟩ v').heap[b]? = W.heap[b]? := fun b hne => Below.heap_setCell _ _ _ _ hne
  have hd' : DyV L G { S with safe := l } ov v' (W.setCell ⟨L.gb, 12, none⟩ v') := by
    refine ⟨hd.row.set 12 v', ?_, hd.sums.keep (keepE _ (Ne.symm hap.2.1)), hd.gone.keep (keepE _ (Ne.symm hap.2.2.1)), hd.ord.kept (gr_set _ _ _) (own_gb hok hd.ord), hv.kept (gr_set _ _ _) (own_gb hok hv), by rw [he]; exact hd.ap⟩
    obtain ⟨s, f, h1, h2⟩ := hd.cost
    exact ⟨s, f, h1.keep (keepE _ (Ne.symm hap.1)), h2⟩
  refine ⟨hd', KZ.of_grown hd hd' (World.grownBy.refl _ none) (gr_set _ _ _) (o := 12) (.inl ⟨Nat.le_refl _, rfl⟩) (fun b e => by cases e) (fun k hk => ?_) (fun b hb h => by rw [he] at h; exact h)⟩
  show ((L.cs G.A.length ov sv).set 12 v')[k]? = _
  rw [List.getElem?_set_ne (Ne.symm hk)]
/-- A node is put to the order. -/
theorem dy_ord (hd : DyV L G S ov sv W) (hok : GlOk L G) (hB : L.B ≤ W.heap.size) {x : Nat} (ho : W1.ownsRow L.B 3 1 v' (S.order ++ [x]).length (nts (S.order ++ [x]))) (g1 : W.grownBy W1 ov.ownBlock)
    (hv : v'.ownBlock = ov.ownBlock ∨ ∃ k, v'.ownBlock = some k ∧ W.heap.size ≤ k) :
    DyV L G { S with order := S.order ++ [x] } v' sv (W1.setCell ⟨L.gb, 11, none⟩ v') ∧ KZ L 2 W (W1.setCell ⟨L.gb, 11, none⟩ v') := by
  have hlow := low_of' hd g1 hB
  have hlt := hok.lt
  have hap := hok.ap
  have keepE : ∀ b, b < L.B → b ≠ L.gb → (W1.setCell ⟨L.gb, 11, none⟩ v').heap[b]? = W.heap[b]? := fun b hb hne => (Below.heap_setCell _ _ _ _ hne).trans (hlow b hb)
  have hap2 : sv.ownBlock = none ∨ sv.ownBlock ≠ ov.ownBlock := by
    cases e : sv.ownBlock with
    | none => exact .inl rfl
    | some b =>
      right; intro e2
      rcases hd.ap with h | h
      · rw [h] at e2; cases e2
      · exact h (by rw [e]; exact e2.symm)
  have hd' : DyV L G { S with order := S.order ++ [x] } v' sv (W1.setCell ⟨L.gb, 11, none⟩ v') := by
    refine ⟨(hd.row.keep (hlow _ hlt.1)).set 11 v', ?_, hd.sums.keep (keepE _ hlt.2.2.1 (Ne.symm hap.2.1)), hd.gone.keep (keepE _ hlt.2.2.2 (Ne.symm hap.2.2.1)), ?_, ?_, ?_⟩
    · obtain ⟨s, f, h1, h2⟩ := hd.cost
      exact ⟨s, f, h1.keep (keepE _ hlt.2.1 (Ne.symm hap.1)), h2⟩
    · exact ho.kept (gr_set _ _ _) (own_gb hok ho)
    · exact (hd.sf.kept g1 hap2).kept (gr_set _ _ _) (own_gb hok hd.sf)
    · rcases hv with e | ⟨k, e, hk⟩
      · rw [e]; exact hd.ap
      · right
        rw [e]
        intro e2
        have := (hd.sf.lt k e2.symm).2
        omega
  refine ⟨hd', KZ.of_grown hd hd' g1 (gr_set _ _ _) (o := 11) (.inr ⟨Nat.le_refl _, rfl⟩) (fun b e => (hd.dn).2 (.inr (.inr ⟨Nat.le_refl _, e⟩))) (fun k hk => ?_) (fun b hb h => ?_)⟩
  · show ((L.cs G.A.length ov sv).set 11 v')[k]? = _
    rw [List.getElem?_set_ne (Ne.symm hk)]
  · rcases h with h | h
    · exact .inl h
    · rcases hv with e | ⟨k, e, hk⟩
      · rw [e] at h; exact .inr h
      · rw [e] at h; have := h.2; injection this; omega
theorem KZ.of_set {l g k : Nat} {u : Value} (hg : g ≠ L.gb) (hD : Dn L l W g) : KZ L l W (W.setCell ⟨g, k, none⟩ u) := by
  have hc : ∀ o, (W.setCell ⟨g, k, none⟩ u).cell? ⟨L.gb, o, none⟩ = W.cell? ⟨L.gb, o, none⟩ := fun o => cell_of_block (Below.heap_setCell _ _ _ _ (Ne.symm hg)) o
  refine ⟨rfl, rfl, rfl, by simp, fun o _ => hc o, fun b hb _ hn => Below.heap_setCell _ _ _ _ (fun e => hn (by have e : b = g := e; rw [e]; exact hD)), fun b _ h => ?_⟩
  rcases h with h | ⟨o, ho, v, hv, e⟩
  · exact .inl h
  · exact .inr ⟨o, ho, v, by rw [← hc o]; exact hv, e⟩
/-- A node's sum is another one. -/
theorem dy_sum (hd : DyV L G S ov sv W) (hok : GlOk L G) {i : Nat} (x : Int) :
    DyV L G { S with sums := fun u => if u = i then x else S.sums u } ov sv (W.setCell ⟨L.ub, i, none⟩ (.int .i64 x)) ∧ KZ L 1 W (W.setCell ⟨L.ub, i, none⟩ (.int .i64 x)) := by
  have hap := hok.ap
  have hlt := hok.lt
  refine ⟨⟨hd.row.other hap.2.1 _, ?_, ?_, hd.gone.other (Ne.symm hap.2.2.2.2.2) _, hd.ord.kept (gr_set _ _ _) ?_, hd.sf.kept (gr_set _ _ _) ?_, hd.ap⟩, KZ.of_set (Ne.symm hap.2.1) (.inl (.inr (.inl ⟨Nat.le_refl _, rfl⟩)))⟩
  · obtain ⟨s, f, h1, h2⟩ := hd.cost
    exact ⟨s, f, h1.keep (Below.heap_setCell _ _ _ _ hap.2.2.2.1), h2⟩
  · have := hd.sums.set i (.int .i64 x)
    rw [ints_set, map_set_range] at this
    exact this
  · cases e : ov.ownBlock with
    | none => exact .inl rfl
    | some b => right; intro e2; injection e2 with e2; have := (hd.ord.lt b e).1; have e2 : b = L.ub := e2; omega
  · cases e : sv.ownBlock with
    | none => exact .inl rfl
    | some b => right; intro e2; injection e2 with e2; have := (hd.sf.lt b e).1; have e2 : b = L.ub := e2; omega
/-- A node is gone. -/
theorem dy_gone (hd : DyV L G S ov sv W) (hok : GlOk L G) {i : Nat} :
    DyV L G { S with gone := fun u => if u = i then true else S.gone u } ov sv (W.setCell ⟨L.ob, i, none⟩ (.bool true)) ∧ KZ L 2 W (W.setCell ⟨L.ob, i, none⟩ (.bool true)) := by
  have hap := hok.ap
  have hlt := hok.lt
  refine ⟨⟨hd.row.other hap.2.2.1 _, ?_, hd.sums.other hap.2.2.2.2.2 _, ?_, hd.ord.kept (gr_set _ _ _) ?_, hd.sf.kept (gr_set _ _ _) ?_, hd.ap⟩, KZ.of_set (Ne.symm hap.2.2.1) (.inl (.inr (.inr ⟨Nat.le_refl _, rfl⟩)))⟩
  · obtain ⟨s, f, h1, h2⟩ := hd.cost
    exact ⟨s, f, h1.keep (Below.heap_setCell _ _ _ _ hap.2.2.2.2.1), h2⟩
  · have := hd.gone.set i (.bool true)
    rw [bools_set, map_set_range] at this
    exact this
  · cases e : ov.ownBlock with
    | none => exact .inl rfl
    | some b => right; intro e2; injection e2 with e2; have := (hd.ord.lt b e).1; have e2 : b = L.ob := e2; omega
  · cases e : sv.ownBlock with
    | none => exact .inl rfl
    | some b => right; intro e2; injection e2 with e2; have := (hd.sf.lt b e).1; have e2 : b = L.ob := e2; omega
end

set_option maxRecDepth 100000 in
theorem put_s {L : Gl} {G : GD} {S : CS} {W : World} {ov sv : Value} (hd : DyV L G S ov sv W) (hok : GlOk L G) (hB : L.B ≤ W.heap.size) (hl : S.safe.length ≤ 1000000) (x : Nat) :
    Calls Try.prog 50 #[.pointer (some ⟨L.gb, 12, none⟩), .int .i64 (x : Int)] W fun e w' => e = .returned (.tuple #[]) ∧ ∃ sv', DyV L G { S with safe := S.safe ++ [x] } ov sv' w' ∧ KZ L 1 W w' := by
  have HD := hid_of hd
  have HK := hid_of (fun (W1 : World) (v' : Value) (h : W1.ownsRow L.B 3 1 v' (S.safe ++ [x]).length (nts (S.safe ++ [x]))) => dy_put hd hok hB h)
  have c12 := hd.c12
  have hf := hd.row.frozen 12
  have hsf := hd.sf
  rw [nts_ints] at hsf
  have hsf := hid_of hsf
  have hgb := hid_of hok.lt.1
  have HB := hid_of hB
  clear hd hok
  go_enter Try.func50, Try.ntmps50
  go_wp2_with (at_builtin; refine stop_here ?_)
  refine stop_go (app_int rfl _ _ rfl L.B sv (S.safe.map fun (m : Nat) => (m : Int)) rfl (by have := hsf.out.alloc (.cells #[.int .i64 (x : Int)] 3); rw [List.length_map]; exact this) _ _ rfl (heap_alloc_eq _ _ _ rfl) (by simp; omega) (by simp; omega) ?_)
  intro v1 w1 ho1 hg1 hv1
  rw [List.length_append, List.length_map, List.length_singleton] at ho1
  have ho2 : w1.ownsRow L.B 3 1 v1 (S.safe ++ [x]).length (nts (S.safe ++ [x])) := by rw [nts_ints]; simpa using ho1
  have hg2 : W.grownBy w1 sv.ownBlock := grown_trans (World.grownBy_alloc _ _ _) hg1
  obtain ⟨ra, rc, rfl, -⟩ := owns_slice ho1
  have hfin := hid_of (HK.out _ _ ho2 hg2 (hv1.imp id fun e => ⟨_, e, by simp⟩))
  have c12' : w1.cell? ⟨L.gb, 12, none⟩ = some sv := (cell_of_block (low_of HD.out hg2 hB _ hgb.out) 12).trans c12
  have hf' : w1.frozen? ⟨L.gb, 12, none⟩ = false := (World.frozen?_of_block (a := ⟨L.gb, 12, none⟩) (low_of HD.out hg2 hB _ hgb.out)).trans hf
  clear ho1 hg1 hv1 ho2 hg2 c12 hf
  go_wp2_with fail
  go_end0
  exact ⟨rfl, _, hfin.out⟩
end Go.Proofs.Ytinbfnabngdemaa
