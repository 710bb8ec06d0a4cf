/- The list of the safe ones: the last is taken; a node is asked. -/
import Derived.Test.YtinbfnabngdemaaCnA
import Derived.Deep.QuietTactic
import Derived.BigQuiet
namespace Go.Proofs.Ytinbfnabngdemaa
open Go.RowKit

def BkS (W X : World) : Prop := Below W.heap.size W X
theorem bk_refl (W : World) : BkS W W := bel_refl W
theorem bk_alloc {W X : World} (h : BkS W X) (o : Obj) : BkS W (X.alloc o) := bel_alloc h o
theorem bk_drew {W X : World} (h : BkS W X) : BkS W X.drew := Below.drew h
theorem bk_set {W X : World} (h : BkS W X) {a : Addr} (ha : W.heap.size ≤ a.block) (u : Value) : BkS W (X.setCell a u) := bel_setCell h ha
section
variable {L : Gl} {G : GD} {S : CS} {W : World} {ov sv : Value}
theorem alw_get {G : GD} {v : Nat} (h : v < G.A.length) : alw G v = G.A[v] := by simp [alw, List.getD, h]
theorem StG.an (h : StG L G W) : L.V.an = G.A.length ∧ L.V.an ≤ L.V.ac := ⟨(sl_len h.gr.a).1, (sl_len h.gr.a).2.1⟩
/-- What a node may be, where it lies. -/
theorem StG.at_A (h : StG L G W) (hd : DyV L G S ov sv W) {v : Nat} (hv : v < G.A.length) : ∃ b off ra rc, W.cell? ⟨L.gb, 2, none⟩ = some (.slice (some ⟨b, off, none⟩) G.A.length L.V.ac) ∧ L.St b ∧
    W.cell? ⟨b, off + v, none⟩ = some (.slice ra (alw G v).length rc) ∧ IsInts L.St W (.slice ra (alw G v).length rc) (alw G v) := by
  have c2 : W.cell? ⟨L.gb, 2, none⟩ = some (.slice L.V.aa L.V.an L.V.ac) := hd.row.cell rfl
  obtain ⟨b, off, ha, hb, hc⟩ := sl_at h.gr.a (by omega)
  obtain ⟨u, h1, h2⟩ := hc v hv
  obtain ⟨ra, rc, rfl, -⟩ := id h2
  rw [ha, h.an.1] at c2
  rw [Nat.mul_one] at h1
  rw [alw_get hv]
  exact ⟨b, off, ra, rc, c2, hb, h1, h2⟩
theorem DyV.at_sum (hd : DyV L G S ov sv W) {v : Nat} (hv : v < G.A.length) : W.cell? ⟨L.gb, 9, none⟩ = some (.slice (some ⟨L.ub, 0, none⟩) G.A.length G.A.length) ∧ W.cell? ⟨L.ub, v, none⟩ = some (.int .i64 (S.sums v)) ∧ W.frozen? ⟨L.ub, v, none⟩ = false :=
  ⟨hd.row.cell rfl, hd.sums.cell (by simp [ints, hv]), hd.sums.frozen v⟩
theorem DyV.at_gone (hd : DyV L G S ov sv W) {v : Nat} (hv : v < G.A.length) : W.cell? ⟨L.gb, 10, none⟩ = some (.slice (some ⟨L.ob, 0, none⟩) G.A.length G.A.length) ∧ W.cell? ⟨L.ob, v, none⟩ = some (.bool (S.gone v)) ∧ W.frozen? ⟨L.ob, v, none⟩ = false :=
  ⟨hd.row.cell rfl, hd.gone.cell (by simp [bools, hv]), hd.gone.frozen v⟩

theorem DyV.drewN (hd : DyV L G S ov sv W) (q : Nat) : DyV L G S ov sv (W.drewN q) := hd.below (bel_drewN (bel_refl W) q)
theorem KZ.drewN {l : Nat} {W' : World} (hd : DyV L G S ov sv W) (h : KZ L l W' W) (q : Nat) : KZ L l W' (W.drewN q) := h.trans (KZ.of_below hd.gb_lt (bel_drewN (bel_refl W) q))
theorem StG.drewN (h : StG L G W) (q : Nat) : StG L G (W.drewN q) := h.keep (Nat.le_refl _) fun _ _ => rfl

set_option maxRecDepth 100000 in
/-- The last of the safe ones is taken. -/
theorem pop_some (hd : DyV L G S ov sv W) (hok : GlOk L G) {l : List Nat} {x : Nat} (hs : S.safe = l ++ [x]) (hl : l.length ≤ 1000000) :
    Calls Try.prog 41 #[.pointer (some ⟨L.gb, 12, none⟩)] W fun e w' => e = .returned (.tuple #[.int .i64 (x : Int), .bool true]) ∧ ∃ sv', DyV L G { S with safe := l } ov sv' w' ∧ KZ L 1 W w' := by
  have HK := hid_of (fun (v' : Value) (h : W.ownsRow L.B 3 1 v' l.length (nts l)) => dy_pop hd hok h)
  have c12 := hd.c12
  have hf := hd.row.frozen 12
  have hsf := hd.sf
  rw [hs] at hsf
  obtain ⟨k, Hk⟩ : ∃ k, Hid (l.length = k) := ⟨_, (rfl : l.length = _)⟩
  have hk : k ≤ 1000000 := by rw [← Hk.out]; exact hl
  rw [List.length_append, List.length_singleton, Hk.out] at hsf
  obtain ⟨ra, rc, rfl, hra⟩ := owns_slice hsf
  obtain ⟨g, rfl⟩ := hra (by omega)
  have c1 := (RowP.of_owns hsf).cell (k := k) (v := .int .i64 (x : Int)) (by simp [nts, Hk.out])
  have hc : k + 1 ≤ rc := by
    rcases hsf.2 with ⟨e, _⟩ | ⟨g, cap', cur, e, _, _, hn, _⟩
    · simp at e
    · simp at e; omega
  have HO : Hid (W.ownsRow L.B 3 1 (.slice (some ⟨g, 0, none⟩) k rc) l.length (nts l)) := by
    have := owns_shrink hsf k (by omega)
    rw [Nat.mul_one] at this
    have e : (nts (l ++ [x])).take k = nts l := by simp [nts, ← Hk.out]
    rw [e] at this
    show World.ownsRow _ _ _ _ _ _ _
    rw [Hk.out]
    exact this
  have e1 : (((k + 1 : Nat) : Int) - 1) = (k : Int) := by omega
  have HF := hid_of (HK.out _ HO.out rfl)
  clear hd hok hsf HK HO
  go_enter Try.func41, Try.ntmps41
  go_wp2_with fail
  go_ret2
  exact ⟨rfl, _, HF.out⟩
set_option maxRecDepth 100000 in
theorem pop_none (hd : DyV L G S ov sv W) (hs : S.safe = []) :
    Calls Try.prog 41 #[.pointer (some ⟨L.gb, 12, none⟩)] W fun e w' => e = .returned (.tuple #[.int .i64 0, .bool false]) ∧ w' = W := by
  have c12 := hd.c12
  have hsf := hd.sf
  rw [hs] at hsf
  obtain ⟨ra, rc, rfl, -⟩ := owns_slice hsf
  clear hd hsf
  go_enter Try.func41, Try.ntmps41
  go_wp2_with fail
  go_ret2
  exact ⟨rfl, rfl⟩
set_option maxRecDepth 100000 in
set_option maxHeartbeats 1000000 in
theorem ask_s (h : StG L G W) (hd : DyV L G S ov sv W) (hok : GlOk L G) {v : Nat} (hv : v < G.A.length) (hl : S.safe.length ≤ 1000000) :
    Calls Try.prog 40 #[.pointer (some ⟨L.gb, 0, none⟩), .int .i64 (v : Int)] W fun e w' => e = .returned (.tuple #[]) ∧ ∃ sv', DyV L G (askS G S v) ov sv' w' ∧ KZ L 1 W w' := by
  obtain ⟨ab, ao, ra, rc, c2, -, ca, hra⟩ := h.at_A hd hv
  obtain ⟨c9, cu, -⟩ := hd.at_sum hv
  obtain ⟨c10, co, -⟩ := hd.at_gone hv
  have hac : G.A.length ≤ L.V.ac := by have := h.an; omega
  have hrc := (sl_len hra).2.1
  have HD := hid_of (fun q => hd.drewN q)
  have HK := hid_of (fun q => (KZ.refl L 1 W).drewN hd q)
  have HP := hid_of (fun q => (put_s (hd.drewN q) hok h.hB hl v).mono (R' := fun e w' => e = .returned (.tuple #[]) ∧ ∃ sv', DyV L G { S with safe := S.safe ++ [v] } ov sv' w' ∧ KZ L 1 W w') (by
    rintro e w' ⟨rfl, sv', h1, h2⟩
    exact ⟨rfl, sv', h1, (HK.out q).trans h2⟩))
  obtain ⟨gv, Hg⟩ : ∃ gv, Hid (S.gone v = gv) := ⟨_, (rfl : S.gone v = _)⟩
  obtain ⟨sv', Hs⟩ : ∃ x, Hid (S.sums v = x) := ⟨_, (rfl : S.sums v = _)⟩
  obtain ⟨m, Hm⟩ : ∃ m, Hid ((alw G v).length = m) := ⟨_, (rfl : (alw G v).length = _)⟩
  obtain ⟨n, Hn⟩ : ∃ n, Hid (G.A.length = n) := ⟨_, (rfl : G.A.length = _)⟩
  have hvn : v < n := by rw [← Hn.out]; exact hv
  have hvz : (v : Int) < (n : Int) := by omega
  rw [Hm.out] at ca hrc
  rw [Hn.out] at c2 c9 c10 hac
  rw [Hs.out] at cu
  rw [Hg.out] at co
  have HC : Hid (askS G S v = if gv = false ∧ sv' < (m : Int) then { S with safe := S.safe ++ [v] } else S) := by show _ = _; unfold askS; rw [Hg.out, Hs.out, Hm.out]
  clear h hd hok hra hv
  cases gv with
  | true =>
    go_enter Try.func40, Try.ntmps40
    go_wp2_with fail
    go_quiet (fail)
    all_goals
      go_wp2_with fail
      go_end0
      rw [HC.out, if_neg (by simp)]
      exact ⟨rfl, _, HD.out _, HK.out _⟩
  | false =>
    by_cases hlt : sv' < (m : Int)
    · have d1 : decide (sv' < (m : Int)) = true := by simpa using hlt
      rw [if_pos ⟨rfl, hlt⟩] at HC
      clear hlt
      go_enter Try.func40, Try.ntmps40
      go_wp2_with fail
      go_quiet (fail)
      all_goals
        go_wp2_with fail
        refine (HP.out _).mono ?_
        rintro e W1 ⟨rfl, h1⟩
        go_wp2_with fail
        go_end0
        rw [HC.out]
        exact ⟨rfl, h1⟩
    · have d1 : decide (sv' < (m : Int)) = false := by simpa using hlt
      rw [if_neg (fun e => hlt e.2)] at HC
      clear hlt
      go_enter Try.func40, Try.ntmps40
      go_wp2_with fail
      go_quiet (fail)
      all_goals
        go_wp2_with fail
        go_end0
        rw [HC.out]
        exact ⟨rfl, _, HD.out _, HK.out _⟩
end
end Go.Proofs.Ytinbfnabngdemaa
