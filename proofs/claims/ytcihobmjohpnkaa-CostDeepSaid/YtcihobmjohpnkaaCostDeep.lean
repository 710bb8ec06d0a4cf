/- 'CostDeep': the walk. -/
import Derived.Test.YtcihobmjohpnkaaCost19
import Derived.Test.YtcihobmjohpnkaaCostDP
namespace Go.Proofs.Ytcihobmjohpnkaa
open Go.RowKit Go.Sort

theorem infoStrD : (Try.prog.info? 9).map (fun i => (i.zero, i.size, i.bytes)) = some (some (.string ⟨#[]⟩), 1, 16) := by kernel_rfl
theorem kept_setD {W : World} (a : Addr) (u : Value) : W.grownBy (W.setCell a u) (some a.block) :=
  ⟨rfl, rfl, rfl, by simp, fun k _ hne => Below.heap_setCell _ _ _ _ (fun e => hne (by rw [e]))⟩
/-- The cells of an instruction without arguments. -/
def cellsI (i : InsD) : List Value := [.int .i64 i.k, .int .i64 i.d, .int .i64 i.a, .int .i64 i.b, .int .i64 i.n, .string i.name, .slice none 0 0, .int .i64 i.t, .int .i64 i.f]
theorem insL_lone {W : World} {g : Nat} {p : Nat → Prop} {i : InsD} (h : Row W g 36 (cellsI i)) (ha : i.args = []) (hp : p g) : IsInsL p W (.slice (some ⟨g, 0, none⟩) 1 1) [i] := by
  have h6 : IsInts p W (.slice none 0 0) i.args := by rw [ha]; exact ints_nil _ _
  refine ⟨_, 1, rfl, ⟨by simp, by simp⟩, .inr ⟨g, 0, rfl, hp, fun j hj => ?_⟩⟩
  have : j = 0 := by simpa using hj
  subst this
  exact ⟨h.cell (k := 0) rfl, h.cell (k := 1) rfl, h.cell (k := 2) rfl, h.cell (k := 3) rfl, h.cell (k := 4) rfl, h.cell (k := 5) rfl, ⟨_, h.cell (k := 6) rfl, h6⟩, h.cell (k := 7) rfl, h.cell (k := 8) rfl⟩
theorem insL_two {W : World} {g : Nat} {p : Nat → Prop} {i j : InsD} (h : Row W g 36 (cellsI i ++ cellsI j)) (ha : i.args = []) (hb : j.args = []) (hp : p g) : IsInsL p W (.slice (some ⟨g, 0, none⟩) 2 2) [i, j] := by
  have h6 : IsInts p W (.slice none 0 0) i.args := by rw [ha]; exact ints_nil _ _
  have h7 : IsInts p W (.slice none 0 0) j.args := by rw [hb]; exact ints_nil _ _
  refine ⟨_, 2, rfl, ⟨by simp, by simp⟩, .inr ⟨g, 0, rfl, hp, fun q hq => ?_⟩⟩
  have : q = 0 ∨ q = 1 := by simp at hq; omega
  rcases this with rfl | rfl
  · exact ⟨h.cell (k := 0) rfl, h.cell (k := 1) rfl, h.cell (k := 2) rfl, h.cell (k := 3) rfl, h.cell (k := 4) rfl, h.cell (k := 5) rfl, ⟨_, h.cell (k := 6) rfl, h6⟩, h.cell (k := 7) rfl, h.cell (k := 8) rfl⟩
  · exact ⟨h.cell (k := 9) rfl, h.cell (k := 10) rfl, h.cell (k := 11) rfl, h.cell (k := 12) rfl, h.cell (k := 13) rfl, h.cell (k := 14) rfl, ⟨_, h.cell (k := 15) rfl, h7⟩, h.cell (k := 16) rfl, h.cell (k := 17) rfl⟩

def gStr : Value := .string ⟨#[103]⟩
/-- Blocks of what has been made, but for the function's box and the two rows. -/
def CdP (X0 g : Nat) (sv vo : Value) (b : Nat) : Prop := X0 ≤ b ∧ b ≠ g ∧ some b ≠ sv.ownBlock ∧ some b ≠ vo.ownBlock
/-- m names and the blocks Ls have been made. -/
structure CdSt (w : World) (g X0 m : Nat) (Ls : List (List InsD)) (sv vo : Value) (vals : List Value) (W : World) : Prop where
  fb : Row W g 44 [.string ⟨#[]⟩, sv, .slice none 0 0, .string ⟨#[]⟩, vo]
  os : W.ownsRow X0 9 1 sv m (List.replicate m gStr)
  ob : W.ownsRow X0 40 1 vo Ls.length vals
  lv : vals.length = Ls.length
  el : ∀ j (_ : j < vals.length), IsInsL (CdP X0 g sv vo) W vals[j] (Ls.getD j [])
  dd : ∀ b, sv.ownBlock = some b → vo.ownBlock ≠ some b
  ng : sv.ownBlock ≠ some g ∧ vo.ownBlock ≠ some g
  bel : Below w.heap.size w W
  sz : X0 ≤ W.heap.size
  lo : w.heap.size ≤ X0 ∧ X0 ≤ g

/-- One more name. -/
theorem CdSt.str {w W Y w1 : World} {g X0 m : Nat} {Ls : List (List InsD)} {sv sv' vo : Value} {vals : List Value} (h : CdSt w g X0 m Ls sv vo vals W) (hY : Below W.heap.size W Y) {gg cap : Nat} (hv : sv' = .slice (some ⟨gg, 0, none⟩) (m + 1) cap)
    (ho : w1.ownsRow X0 9 1 sv' (m + 1) (List.replicate (m + 1) gStr)) (hg : Y.grownBy w1 sv.ownBlock) (hat : sv.ownBlock = some gg ∨ Y.heap.size ≤ gg) :
    w1.cell? ⟨g, 1, none⟩ = some sv ∧ w1.frozen? ⟨g, 1, none⟩ = false ∧ CdSt w g X0 (m + 1) Ls sv' vo vals (w1.setCell ⟨g, 1, none⟩ sv') := by
  have hz := h.sz
  have hys := hY.size
  have hgl := h.fb.lt
  have hlo := h.lo
  have hub : ∀ b, sv.ownBlock = some b → X0 ≤ b ∧ b < W.heap.size := fun b hb => h.os.lt b hb
  have hmb : ∀ b, vo.ownBlock = some b → X0 ≤ b ∧ b < W.heap.size := fun b hb => h.ob.lt b hb
  have k1 : ∀ b, b < W.heap.size → some b ≠ sv.ownBlock → w1.heap[b]? = W.heap[b]? := fun b hb hn => (hg.block b (by omega) hn).trans (hY.block b hb)
  have k3 : ∀ b, b ≠ g → (w1.setCell ⟨g, 1, none⟩ sv').heap[b]? = w1.heap[b]? := fun b hb => Below.heap_setCell _ _ _ _ hb
  have hfb := h.fb.keep (k1 g hgl (fun e => h.ng.1 e.symm))
  have hb1 : Below w.heap.size w w1 := bel_grown (bel_call h.bel hY) hg (fun b e => by have := (hub b e).1; omega)
  have hvo : sv'.ownBlock = some gg := by rw [hv]; rfl
  have hgn : gg ≠ g := by
    rintro rfl
    rcases hat with e | e
    · exact h.ng.1 e
    · omega
  refine ⟨hfb.cell (k := 1) rfl, hfb.frozen 1, ⟨hfb.set 1 sv', ?_, ?_, h.lv, ?_, ?_, ⟨by rw [hvo]; simpa using hgn, h.ng.2⟩, hb1.setCell (by show w.heap.size ≤ g; omega) _, by have := hg.size; simp; omega, hlo⟩⟩
  · refine ho.kept (kept_setD ⟨g, 1, none⟩ sv') ?_
    rw [hvo]
    exact .inr (by show some gg ≠ some g; simpa using hgn)
  · have hom : w1.ownsRow X0 40 1 vo Ls.length vals := by
      refine (owns_below h.ob hY).kept hg ?_
      cases hmo : vo.ownBlock with
      | none => exact .inl rfl
      | some b => exact .inr fun e => h.dd b e.symm hmo
    refine hom.kept (kept_setD ⟨g, 1, none⟩ sv') ?_
    cases hmo : vo.ownBlock with
    | none => exact .inl rfl
    | some b => exact .inr fun e => h.ng.2 (by rw [hmo]; exact e)
  · intro j hj
    refine (h.el j hj).keep (fun b hb hlt => ⟨⟨hb.1, hb.2.1, fun e => ?_, hb.2.2.2⟩, (k3 b hb.2.1).trans (k1 b hlt hb.2.2.1)⟩)
    rw [hvo] at e
    have e3 : b = gg := by simpa using e
    rcases hat with e4 | e4
    · exact hb.2.2.1 (by rw [e4, e3])
    · omega
  · intro b hb hm
    rw [hvo] at hb
    have e4 : gg = b := by simpa using hb
    rcases hat with e5 | e5
    · exact h.dd gg e5 (by rw [e4]; exact hm)
    · have := (hmb b hm).2; omega
/-- One more block. -/
theorem CdSt.blk {w W Y w1 : World} {g X0 m : Nat} {Ls : List (List InsD)} {sv vo vo' u : Value} {vals : List Value} {l : List InsD} (h : CdSt w g X0 m Ls sv vo vals W) (hY : Below W.heap.size W Y) {gg cap : Nat}
    (hi : IsInsL (fun b => W.heap.size ≤ b ∧ b < Y.heap.size) Y u l) (hv : vo' = .slice (some ⟨gg, 0, none⟩) (Ls.length + 1) cap)
    (ho : w1.ownsRow X0 40 1 vo' (Ls.length + 1) (vals ++ [u])) (hg : Y.grownBy w1 vo.ownBlock) (hat : vo.ownBlock = some gg ∨ Y.heap.size ≤ gg) :
    w1.cell? ⟨g, 4, none⟩ = some vo ∧ w1.frozen? ⟨g, 4, none⟩ = false ∧ CdSt w g X0 m (Ls ++ [l]) sv vo' (vals ++ [u]) (w1.setCell ⟨g, 4, none⟩ vo') := by
  have hz := h.sz
  have hys := hY.size
  have hgl := h.fb.lt
  have hlo := h.lo
  have hub : ∀ b, sv.ownBlock = some b → X0 ≤ b ∧ b < W.heap.size := fun b hb => h.os.lt b hb
  have hmb : ∀ b, vo.ownBlock = some b → X0 ≤ b ∧ b < W.heap.size := fun b hb => h.ob.lt b hb
  have k1 : ∀ b, b < W.heap.size → some b ≠ vo.ownBlock → w1.heap[b]? = W.heap[b]? := fun b hb hn => (hg.block b (by omega) hn).trans (hY.block b hb)
  have k3 : ∀ b, b ≠ g → (w1.setCell ⟨g, 4, none⟩ vo').heap[b]? = w1.heap[b]? := fun b hb => Below.heap_setCell _ _ _ _ hb
  have hfb := h.fb.keep (k1 g hgl (fun e => h.ng.2 e.symm))
  have hb1 : Below w.heap.size w w1 := bel_grown (bel_call h.bel hY) hg (fun b e => by have := (hmb b e).1; omega)
  have hvo : vo'.ownBlock = some gg := by rw [hv]; rfl
  have hgn : gg ≠ g := by
    rintro rfl
    rcases hat with e | e
    · exact h.ng.2 e
    · omega
  refine ⟨hfb.cell (k := 4) rfl, hfb.frozen 4, ⟨hfb.set 4 vo', ?_, ?_, by simp [h.lv], ?_, ?_, ⟨h.ng.1, by rw [hvo]; simpa using hgn⟩, hb1.setCell (by show w.heap.size ≤ g; omega) _, by have := hg.size; simp; omega, hlo⟩⟩
  · have hom : w1.ownsRow X0 9 1 sv m (List.replicate m gStr) := by
      refine (owns_below h.os hY).kept hg ?_
      cases hmo : sv.ownBlock with
      | none => exact .inl rfl
      | some b => exact .inr fun e => h.dd b hmo e.symm
    refine hom.kept (kept_setD ⟨g, 4, none⟩ vo') ?_
    cases hmo : sv.ownBlock with
    | none => exact .inl rfl
    | some b => exact .inr fun e => h.ng.1 (by rw [hmo]; exact e)
  · rw [show (Ls ++ [l]).length = Ls.length + 1 by simp]
    refine ho.kept (kept_setD ⟨g, 4, none⟩ vo') ?_
    rw [hvo]
    exact .inr (by show some gg ≠ some g; simpa using hgn)
  · intro j hj
    by_cases hjl : j < vals.length
    · have e2 : (Ls ++ [l]).getD j [] = Ls.getD j [] := by have := h.lv; rw [List.getD_eq_getElem?_getD, List.getElem?_append_left (by omega), List.getD_eq_getElem?_getD]
      rw [List.getElem_append_left hjl, e2]
      refine (h.el j hjl).keep (fun b hb hlt => ⟨⟨hb.1, hb.2.1, hb.2.2.1, fun e => ?_⟩, (k3 b hb.2.1).trans (k1 b hlt hb.2.2.2)⟩)
      rw [hvo] at e
      have e3 : b = gg := by simpa using e
      rcases hat with e4 | e4
      · exact hb.2.2.2 (by rw [e4, e3])
      · omega
    · have hje : j = vals.length := by simp at hj; omega
      subst hje
      have e2 : (Ls ++ [l]).getD vals.length [] = l := by rw [h.lv]; simp [List.getD]
      rw [List.getElem_append_right (Nat.le_refl _), e2]
      simp only [Nat.sub_self, List.getElem_cons_zero]
      refine hi.keep (fun b hb hlt => ⟨⟨by omega, by omega, fun e => by have := (hub b e.symm).2; omega, fun e => ?_⟩, (k3 b (by omega)).trans (hg.block b hlt (fun e => by have := (hmb b e.symm).2; omega))⟩)
      rw [hvo] at e
      have e3 : b = gg := by simpa using e
      rcases hat with e4 | e4
      · have := (hmb gg e4).2; omega
      · omega
  · intro b hb hm
    rw [hvo] at hm
    have e4 : gg = b := by simpa using hm
    rcases hat with e5 | e5
    · exact h.dd b hb (by rw [← e4]; exact e5)
    · have := (hub b hb).2; omega
theorem CdSt.blocks {w W : World} {g X0 m : Nat} {Ls : List (List InsD)} {sv vo : Value} {vals : List Value} (h : CdSt w g X0 m Ls sv vo vals W) (hs : Ls.length ≤ 1000) : IsBlocks (· < W.heap.size) W vo Ls := by
  have hlf := h.lv
  rcases owns_nilcase h.ob with ⟨rfl, h0, _⟩ | ⟨q, cap, rfl⟩
  · refine ⟨none, 0, by rw [h0], ⟨by omega, by omega⟩, .inl (List.length_eq_zero_iff.1 h0)⟩
  · obtain ⟨_, _, _, hc, _⟩ := owns_block h.ob
    refine ⟨_, cap, rfl, ⟨hc, by omega⟩, .inr ⟨q, 0, rfl, (h.ob.lt q rfl).2, fun j hj => ?_⟩⟩
    have hj' : j < vals.length := by omega
    have hc := h.ob.cellAt j (by omega)
    refine ⟨vals[j], ?_, ?_⟩
    · rw [Nat.zero_add, Nat.mul_one, hc]; simp [hj']
    · have e : Ls[j] = Ls.getD j [] := by simp [List.getD, hj]
      rw [e]
      exact (h.el j hj').keep (Keep.refl W fun b _ hlt => hlt)

set_option maxRecDepth 100000 in
set_option maxHeartbeats 16000000 in
theorem costDeep_c (w : World) (n : Int) : Calls Try.prog 20 #[.int .i64 n] w fun e w' => e = .returned (.bool true) ∧ Below w.heap.size w w' := by
  have HAL := hid_of (alive19_c w)
  by_cases h1 : n < 1
  · have d1 : decide (n < 1) = true := by simpa using h1
    go_enter Try.func20, Try.ntmps20
    go_wp2_with fail
    refine HAL.out.mono ?_
    rintro e W ⟨rfl, hb⟩
    go_wp2_with fail
    go_ret
    exact ⟨rfl, hb⟩
  have d1 : decide (n < 1) = false := by simpa using h1
  by_cases h2 : n > 12
  · have d2 : decide (n > 12) = true := by simpa using h2
    have d2' : decide (12 < n) = true := by simpa using h2
    go_enter Try.func20, Try.ntmps20
    go_wp2_with fail
    refine HAL.out.mono ?_
    rintro e W ⟨rfl, hb⟩
    go_wp2_with fail
    go_ret
    exact ⟨rfl, hb⟩
  obtain ⟨nn, rfl⟩ : ∃ nn : Nat, n = nn := ⟨n.toNat, by omega⟩
  have d1' : decide (nn < 1) = false := by simp; omega
  have d2 : decide ((nn : Int) > 12) = false := by simpa using h2
  have d2' : decide (12 < nn) = false := by simp; omega
  have hn1 : 1 ≤ nn := by omega
  have hn12 : nn ≤ 12 := by omega
  have hn12z : (nn : Int) ≤ 12 := by omega
  clear h1 h2
  go_enter Try.func20, Try.ntmps20
  go_wp2_with fail
  refine HAL.out.mono ?_
  rintro e W0 ⟨rfl, hb0⟩
  clear HAL
  go_upto_region 5 with fail
  clear d1 d1' d2 d2'
  have hS0 : CdSt w (W0.heap.size + 1) W0.heap.size 1 [] (.slice (some ⟨W0.heap.size, 0, none⟩) 1 1) (.slice none 0 0) [] ((W0.alloc (.cells #[.string ⟨#[103]⟩] 9)).alloc (.cells #[.string ⟨#[]⟩, .slice (some ⟨W0.heap.size, 0, none⟩) 1 1, .slice none 0 0, .string ⟨#[]⟩, .slice none 0 0] 44)) :=
    ⟨heap_alloc_eq _ _ _ (by simp), owns_below (owns_new rfl (Nat.le_refl _) (by unfold maxLen; omega) rfl rfl rfl) (bel_alloc (bel_refl _) _), World.ownsRow_nil _ _ _ _, rfl, fun j hj => by simp at hj, fun b _ => by simp [Value.ownBlock], ⟨by simp [Value.ownBlock], by simp [Value.ownBlock]⟩, bel_alloc (bel_alloc hb0 _) _, by simp; omega, ⟨hb0.size, by omega⟩⟩
  obtain ⟨g, Hg⟩ : ∃ g, Hid (W0.heap.size + 1 = g) := ⟨_, (rfl : W0.heap.size + 1 = _)⟩
  obtain ⟨X0, HX0⟩ : ∃ X0, Hid (W0.heap.size = X0) := ⟨_, (rfl : W0.heap.size = _)⟩
  refine wp_at (fun X => CdSt w (W0.heap.size + 1) W0.heap.size 1 [] (.slice (some ⟨W0.heap.size, 0, none⟩) 1 1) (.slice none 0 0) [] X) hS0 ?_
  clear hS0 hb0
  rw [Hg.out, HX0.out]
  rintro Xa hSa
  obtain ⟨Ls, vo, vals, hLs, hSb⟩ : ∃ Ls vo vals, Ls = ([] : List (List InsD)) ∧ CdSt w g X0 1 Ls (.slice (some ⟨X0, 0, none⟩) 1 1) vo vals Xa := ⟨_, _, _, rfl, hSa⟩
  have HLs := hid_of hLs
  have HSa := hid_of hSb
  clear hSa hSb hLs
  obtain ⟨ln, Hln⟩ : ∃ ln, Hid ((Ls : List (List InsD)).length = ln) := ⟨_, (rfl : (Ls : List (List InsD)).length = _)⟩
  have hob := HSa.out.ob
  have hlv := HSa.out.lv
  rw [Hln.out] at hob hlv
  obtain ⟨oa, oc, rfl, -⟩ := owns_slice hob
  have c4 := HSa.out.fb.cell (k := 4) rfl
  have hgl := HSa.out.fb.lt
  have hX0 := HSa.out.sz
  have hlb : ln ≤ 40 := by rw [← Hln.out]; rw [HLs.out]; simp
  rw [← hlv] at hob
  have HOB := hid_of hob
  have HLV := hid_of hlv
  have HAP : Hid ((vals.length + 1) * 24 ≤ 140737488355328 ∧ vals.length + 1 ≤ maxLen) := ⟨by omega, by unfold maxLen; omega⟩
  have HLB := hid_of hlb
  clear hob hlv hlb
  go_wp2_with (at_builtin; refine stop_here ?_)
  refine stop_go (app_cell 22 40 (.slice none 0 0) 24 Try.underlying22 infoInsL rfl rfl _ _ rfl X0 (.slice oa ln oc) vals rfl (owns_below (show Xa.ownsRow X0 40 1 (.slice oa ln oc) vals.length vals by have h := HOB.out; rw [HLV.out] at h ⊢; exact h) (bel_alloc (bel_alloc (bel_refl Xa) _) _)) _ (.slice (some ⟨Xa.heap.size, 0, none⟩) 1 1) rfl rfl (heap_alloc_eq _ _ _ (by simp)) HAP.out.1 HAP.out.2 (by simp; omega) ?_)
  intro v' w' ho hgr hv
  have ho2 : w'.ownsRow X0 40 1 v' (ln + 1) (vals ++ [.slice (some ⟨Xa.heap.size, 0, none⟩) 1 1]) := by
    rw [List.length_append, HLV.out] at ho
    exact ho
  obtain ⟨va, vc, rfl, hva⟩ := owns_slice ho2
  obtain ⟨gg, rfl⟩ := hva (by omega)
  obtain ⟨u1, u2, u3⟩ := CdSt.blk (cap := vc) (l := [⟨8, 0, 0, 0, 0, ⟨#[]⟩, [], 1, 0⟩]) HSa.out (bel_alloc (bel_alloc (bel_refl Xa) (.cells #[.int .i64 8, .int .i64 0, .int .i64 0, .int .i64 0, .int .i64 0, .string ⟨#[]⟩, .slice none 0 0, .int .i64 1, .int .i64 0] 36)) (.cells #[.slice (some ⟨Xa.heap.size, 0, none⟩) 1 1] 40)) (insL_lone (heap_alloc_ne _ _ _ _ (heap_alloc_eq _ _ _ rfl)) rfl ⟨Nat.le_refl _, by simp; omega⟩) (by rw [Hln.out]) (by rw [Hln.out]; exact ho2) hgr (hv.imp (fun e => e.symm.trans rfl) (fun e => by simp [Value.ownBlock] at e; simp; omega))
  have HU := hid_of u3
  clear ho ho2 hgr hv HOB HLV HAP c4 u3
  have HS1 : Hid (∃ sv vo vals, CdSt w g X0 (0 + 1) (deepU 0) sv vo vals (w'.setCell ⟨g, 4, none⟩ (.slice (some ⟨gg, 0, none⟩) (ln + 1) vc))) := ⟨_, _, _, by have h := HU.out; rw [HLs.out] at h; exact h⟩
  clear HU HSa hva HLB Hln
  go_wp2_with fail
  clear u1 u2
  go_loopw [5] (fun s5 wx => ∃ k : Nat, k ≤ nn ∧ s5 = .int .i64 ((k : Int) + 1) ∧ Hid (∃ sv vo vals, CdSt w g X0 (k + 1) (deepU k) sv vo vals wx)) (fun s5 _ => nn + 1 - (intOf s5).toNat)
  case atStart => exact ⟨0, by omega, rfl, HS1⟩
  case round =>
    obtain ⟨k, hk, rfl, HK⟩ := hrel
    clear HS1
    obtain ⟨sv, vo, vals, hSk⟩ := HK.out
    have HSk := hid_of hSk
    clear hSk HK
    by_cases hlt : k < nn
    · have d3 : decide ((k : Int) + 1 ≤ (nn : Int)) = true := by simp; omega
      have d3' : decide (k + 1 ≤ nn) = true := by simp; omega
      have hkz : (k : Int) + 1 ≤ (nn : Int) := by omega
      have hos := HSk.out.os
      obtain ⟨sa, sc, rfl, -⟩ := owns_slice hos
      have c1 := HSk.out.fb.cell (k := 1) rfl
      have hgl := HSk.out.fb.lt
      have hX0 := HSk.out.sz
      have HOS := hid_of hos
      have HLR : Hid ((List.replicate (k + 1) gStr).length = k + 1) := List.length_replicate
      have HAP : Hid (((List.replicate (k + 1) gStr).length + 1) * 16 ≤ 140737488355328 ∧ (List.replicate (k + 1) gStr).length + 1 ≤ maxLen) := by
        rw [HLR.out]; exact ⟨by omega, by unfold maxLen; omega⟩
      clear hos
      go_wp2_with (at_builtin; refine stop_here ?_)
      refine stop_go (app_cell 42 9 (.string ⟨#[]⟩) 16 Try.underlying42 infoStrD rfl rfl _ _ rfl X0 (.slice sa (k + 1) sc) (List.replicate (k + 1) gStr) rfl (owns_below (show wr.ownsRow X0 9 1 (.slice sa (k + 1) sc) (List.replicate (k + 1) gStr).length (List.replicate (k + 1) gStr) by rw [HLR.out]; exact HOS.out) (bel_alloc (bel_refl wr) _)) _ gStr rfl rfl (heap_alloc_eq _ _ _ rfl) HAP.out.1 HAP.out.2 (by simp; omega) ?_)
      intro v' w' ho hgr hv
      have ho2 : w'.ownsRow X0 9 1 v' (k + 1 + 1) (List.replicate (k + 1 + 1) gStr) := by
        rw [List.length_append, HLR.out, ← List.replicate_succ'] at ho
        exact ho
      obtain ⟨va, vc, rfl, hva⟩ := owns_slice ho2
      obtain ⟨gg, rfl⟩ := hva (by omega)
      obtain ⟨u1, u2, u3⟩ := CdSt.str (cap := vc) HSk.out (bel_alloc (bel_refl wr) (.cells #[gStr] 9)) rfl ho2 hgr (hv.imp (fun e => e.symm.trans rfl) (fun e => by simp [Value.ownBlock] at e; simp; omega))
      have HU1 := hid_of u3
      clear ho ho2 hgr hv HOS HLR HAP c1 u3 hva HSk d3 d3'
      go_upto_region 10 with fail
      clear u1 u2
      refine wp_at (fun X => CdSt w g X0 (k + 1 + 1) (deepU k) (.slice (some ⟨gg, 0, none⟩) (k + 1 + 1) vc) vo vals X) HU1.out ?_
      rintro Xb hSb
      have HSb := hid_of hSb
      clear hSb HU1 hgl hX0
      obtain ⟨ln, Hln⟩ : ∃ ln, Hid ((deepU k : List (List InsD)).length = ln) := ⟨_, (rfl : (deepU k : List (List InsD)).length = _)⟩
      have hob := HSb.out.ob
      have hlv := HSb.out.lv
      rw [Hln.out] at hob hlv
      obtain ⟨oa, oc, rfl, -⟩ := owns_slice hob
      have c4 := HSb.out.fb.cell (k := 4) rfl
      have hgl := HSb.out.fb.lt
      have hX0 := HSb.out.sz
      have hlb : ln ≤ 40 := by rw [← Hln.out]; rw [deepU_length]; omega
      rw [← hlv] at hob
      have HOB := hid_of hob
      have HLV := hid_of hlv
      have HAP : Hid ((vals.length + 1) * 24 ≤ 140737488355328 ∧ vals.length + 1 ≤ maxLen) := ⟨by omega, by unfold maxLen; omega⟩
      have HLB := hid_of hlb
      clear hob hlv hlb
      go_wp2_with (at_builtin; refine stop_here ?_)
      refine stop_go (app_cell 22 40 (.slice none 0 0) 24 Try.underlying22 infoInsL rfl rfl _ _ rfl X0 (.slice oa ln oc) vals rfl (owns_below (show Xb.ownsRow X0 40 1 (.slice oa ln oc) vals.length vals by have h := HOB.out; rw [HLV.out] at h ⊢; exact h) (bel_alloc (bel_alloc (bel_refl Xb) _) _)) _ (.slice (some ⟨Xb.heap.size, 0, none⟩) 2 2) rfl rfl (heap_alloc_eq _ _ _ (by simp)) HAP.out.1 HAP.out.2 (by simp; omega) ?_)
      intro v' w' ho hgr hv
      have ho2 : w'.ownsRow X0 40 1 v' (ln + 1) (vals ++ [.slice (some ⟨Xb.heap.size, 0, none⟩) 2 2]) := by
        rw [List.length_append, HLV.out] at ho
        exact ho
      obtain ⟨va, vc, rfl, hva⟩ := owns_slice ho2
      obtain ⟨gg, rfl⟩ := hva (by omega)
      obtain ⟨u1, u2, u3⟩ := CdSt.blk (cap := vc) (l := deepI k) HSb.out (bel_alloc (bel_alloc (bel_refl Xb) (.cells #[.int .i64 4, .int .i64 (-1), .int .i64 ((k : Int) + 1), .int .i64 0, .int .i64 0, .string ⟨#[]⟩, .slice none 0 0, .int .i64 0, .int .i64 0, .int .i64 8, .int .i64 0, .int .i64 0, .int .i64 0, .int .i64 0, .string ⟨#[]⟩, .slice none 0 0, .int .i64 ((k : Int) + 1 + 1), .int .i64 0] 36)) (.cells #[.slice (some ⟨Xb.heap.size, 0, none⟩) 2 2] 40)) (insL_two (heap_alloc_ne _ _ _ _ (heap_alloc_eq _ _ _ rfl)) rfl rfl ⟨Nat.le_refl _, by simp; omega⟩) (by rw [Hln.out]) (by rw [Hln.out]; exact ho2) hgr (hv.imp (fun e => e.symm.trans rfl) (fun e => by simp [Value.ownBlock] at e; simp; omega))
      have HU := hid_of u3
      clear ho ho2 hgr hv HOB HLV HAP c4 u3
      have HS3 : Hid (∃ sv vo vals, CdSt w g X0 (k + 1 + 1) (deepU (k + 1)) sv vo vals (w'.setCell ⟨g, 4, none⟩ (.slice (some ⟨gg, 0, none⟩) (ln + 1) vc))) := ⟨_, _, _, by rw [← deepU_succ]; exact HU.out⟩
      clear HU HSb hva HLB Hln
      go_wp2_with fail
      clear u1 u2
      go_roundw
      case rel => exact ⟨k + 1, by omega, by go_num, HS3⟩
      case measure => simp [intOf]; omega
    · obtain rfl : k = nn := by omega
      have d3 : decide ((k : Int) + 1 ≤ (k : Int)) = false := by simp; omega
      have HT1 : Hid (∃ sv vo vals, CdSt w g X0 (k + 1) (deepD k 0) sv vo vals wr) := ⟨_, _, _, by rw [deepD_zero]; exact HSk.out⟩
      clear HSk hgl hX0
      go_wp2_with fail
      clear d3
      go_loopw [6] (fun s6 wx => ∃ i : Nat, i ≤ k ∧ s6 = .int .i64 i ∧ Hid (∃ sv vo vals, CdSt w g X0 (k + 1) (deepD k i) sv vo vals wx)) (fun s6 _ => k - (intOf s6).toNat)
      case atStart => exact ⟨0, by omega, rfl, HT1⟩
      case round =>
        obtain ⟨i, hi, rfl, HK⟩ := hrel
        clear HT1
        obtain ⟨sv, vo, vals, hSk⟩ := HK.out
        have HSk := hid_of hSk
        clear hSk HK
        by_cases hit : i < k
        · have hiz : (i : Int) < (k : Int) := by omega
          have hi0 : (0 : Int) ≤ (i : Int) := by omega
          obtain ⟨ln, Hln⟩ : ∃ ln, Hid ((deepD k i : List (List InsD)).length = ln) := ⟨_, (rfl : (deepD k i : List (List InsD)).length = _)⟩
          have hob := HSk.out.ob
          have hlv := HSk.out.lv
          rw [Hln.out] at hob hlv
          obtain ⟨oa, oc, rfl, -⟩ := owns_slice hob
          have c4 := HSk.out.fb.cell (k := 4) rfl
          have hgl := HSk.out.fb.lt
          have hX0 := HSk.out.sz
          have hlb : ln ≤ 40 := by rw [← Hln.out]; rw [deepD_length]; omega
          rw [← hlv] at hob
          have HOB := hid_of hob
          have HLV := hid_of hlv
          have HAP : Hid ((vals.length + 1) * 24 ≤ 140737488355328 ∧ vals.length + 1 ≤ maxLen) := ⟨by omega, by unfold maxLen; omega⟩
          have HLB := hid_of hlb
          clear hob hlv hlb
          go_wp2_with (at_builtin; refine stop_here ?_)
          refine stop_go (app_cell 22 40 (.slice none 0 0) 24 Try.underlying22 infoInsL rfl rfl _ _ rfl X0 (.slice oa ln oc) vals rfl (owns_below (show wr.ownsRow X0 40 1 (.slice oa ln oc) vals.length vals by have h := HOB.out; rw [HLV.out] at h ⊢; exact h) (bel_alloc (bel_alloc (bel_refl wr) _) _)) _ (.slice (some ⟨wr.heap.size, 0, none⟩) 1 1) rfl rfl (heap_alloc_eq _ _ _ (by simp)) HAP.out.1 HAP.out.2 (by simp; omega) ?_)
          intro v' w' ho hgr hv
          have ho2 : w'.ownsRow X0 40 1 v' (ln + 1) (vals ++ [.slice (some ⟨wr.heap.size, 0, none⟩) 1 1]) := by
            rw [List.length_append, HLV.out] at ho
            exact ho
          obtain ⟨va, vc, rfl, hva⟩ := owns_slice ho2
          obtain ⟨gg, rfl⟩ := hva (by omega)
          obtain ⟨u1, u2, u3⟩ := CdSt.blk (cap := vc) (l := deepT k i) HSk.out (bel_alloc (bel_alloc (bel_refl wr) (.cells #[.int .i64 7, .int .i64 0, .int .i64 0, .int .i64 0, .int .i64 0, .string ⟨#[]⟩, .slice none 0 0, .int .i64 ((k : Int) - (i : Int)), .int .i64 ((k : Int) + (i : Int) + 2)] 36)) (.cells #[.slice (some ⟨wr.heap.size, 0, none⟩) 1 1] 40)) (insL_lone (heap_alloc_ne _ _ _ _ (heap_alloc_eq _ _ _ rfl)) rfl ⟨Nat.le_refl _, by simp; omega⟩) (by rw [Hln.out]) (by rw [Hln.out]; exact ho2) hgr (hv.imp (fun e => e.symm.trans rfl) (fun e => by simp [Value.ownBlock] at e; simp; omega))
          have HU := hid_of u3
          clear ho ho2 hgr hv HOB HLV HAP c4 u3
          have HS3 : Hid (∃ sv vo vals, CdSt w g X0 (k + 1) (deepD k (i + 1)) sv vo vals (w'.setCell ⟨g, 4, none⟩ (.slice (some ⟨gg, 0, none⟩) (ln + 1) vc))) := ⟨_, _, _, by rw [← deepD_succ]; exact HU.out⟩
          clear HU HSk hva HLB Hln
          go_wp2_with fail
          clear u1 u2
          go_roundw
          case rel => exact ⟨i + 1, by omega, by go_num, HS3⟩
          case measure => simp [intOf]; omega
        · obtain rfl : i = k := by omega
          obtain ⟨ln, Hln⟩ : ∃ ln, Hid ((deepD i i : List (List InsD)).length = ln) := ⟨_, (rfl : (deepD i i : List (List InsD)).length = _)⟩
          have hob := HSk.out.ob
          have hlv := HSk.out.lv
          rw [Hln.out] at hob hlv
          obtain ⟨oa, oc, rfl, -⟩ := owns_slice hob
          have c4 := HSk.out.fb.cell (k := 4) rfl
          have hgl := HSk.out.fb.lt
          have hX0 := HSk.out.sz
          have hlb : ln ≤ 40 := by rw [← Hln.out]; rw [deepD_length]; omega
          rw [← hlv] at hob
          have HOB := hid_of hob
          have HLV := hid_of hlv
          have HAP : Hid ((vals.length + 1) * 24 ≤ 140737488355328 ∧ vals.length + 1 ≤ maxLen) := ⟨by omega, by unfold maxLen; omega⟩
          have HLB := hid_of hlb
          clear hob hlv hlb
          go_wp2_with (at_builtin; refine stop_here ?_)
          refine stop_go (app_cell 22 40 (.slice none 0 0) 24 Try.underlying22 infoInsL rfl rfl _ _ rfl X0 (.slice oa ln oc) vals rfl (owns_below (show wr.ownsRow X0 40 1 (.slice oa ln oc) vals.length vals by have h := HOB.out; rw [HLV.out] at h ⊢; exact h) (bel_alloc (bel_alloc (bel_refl wr) _) _)) _ (.slice (some ⟨wr.heap.size, 0, none⟩) 1 1) rfl rfl (heap_alloc_eq _ _ _ (by simp)) HAP.out.1 HAP.out.2 (by simp; omega) ?_)
          intro v' w' ho hgr hv
          have ho2 : w'.ownsRow X0 40 1 v' (ln + 1) (vals ++ [.slice (some ⟨wr.heap.size, 0, none⟩) 1 1]) := by
            rw [List.length_append, HLV.out] at ho
            exact ho
          obtain ⟨va, vc, rfl, hva⟩ := owns_slice ho2
          obtain ⟨gg, rfl⟩ := hva (by omega)
          obtain ⟨u1, u2, u3⟩ := CdSt.blk (cap := vc) (l := [⟨9, 0, 0, 0, 0, ⟨#[]⟩, [], 0, 0⟩]) HSk.out (bel_alloc (bel_alloc (bel_refl wr) (.cells #[.int .i64 9, .int .i64 0, .int .i64 0, .int .i64 0, .int .i64 0, .string ⟨#[]⟩, .slice none 0 0, .int .i64 0, .int .i64 0] 36)) (.cells #[.slice (some ⟨wr.heap.size, 0, none⟩) 1 1] 40)) (insL_lone (heap_alloc_ne _ _ _ _ (heap_alloc_eq _ _ _ rfl)) rfl ⟨Nat.le_refl _, by simp; omega⟩) (by rw [Hln.out]) (by rw [Hln.out]; exact ho2) hgr (hv.imp (fun e => e.symm.trans rfl) (fun e => by simp [Value.ownBlock] at e; simp; omega))
          have HU := hid_of u3
          clear ho ho2 hgr hv HOB HLV HAP c4 u3
          have HS4 : Hid (∃ sv vo vals, CdSt w g X0 (i + 1) (deepL i) sv vo vals (w'.setCell ⟨g, 4, none⟩ (.slice (some ⟨gg, 0, none⟩) (ln + 1) vc))) := ⟨_, _, _, HU.out⟩
          clear HU HSk hva HLB Hln
          go_upto_region 16 with fail
          clear u1 u2
          refine wp_at (fun X => Hid (∃ sv vo vals, CdSt w g X0 (i + 1) (deepL i) sv vo vals X)) HS4 ?_
          clear HS4
          rintro Xe HXe
          obtain ⟨sv, vo, vals, hSe⟩ := HXe.out
          clear HXe
          have hbk := hSe.blocks (by rw [deepL_length]; omega)
          have hob := hSe.ob
          rw [deepL_length] at hob
          obtain ⟨oa, oc, rfl, -⟩ := owns_slice hob
          obtain ⟨sa, sc, rfl, -⟩ := owns_slice hSe.os
          have hbd : ∀ l ∈ deepL i, l.length ≤ 100000 ∧ ∀ x ∈ l, (usesS x).length ≤ 1000002 := fun l hl => by
            obtain ⟨h1, h2⟩ := deep_small i l hl
            refine ⟨by omega, fun x hx => ?_⟩
            unfold usesS
            rw [h2 x hx]
            split
            · simp
            split
            · simp
            split <;> simp
          have hC := costs_c Xe ⟨#[]⟩ sa (i + 1) sc none 0 0 ⟨#[]⟩ oa (2 * i + 2) oc hbk (by omega) (by omega) hbd
          rw [deep_cost, deep_all i (by omega)] at hC
          unfold funcV at hC
          have q0 := hSe.fb.cell (k := 0) rfl
          have q1 := hSe.fb.cell (k := 1) rfl
          have q2 := hSe.fb.cell (k := 2) rfl
          have q3 := hSe.fb.cell (k := 3) rfl
          have q4 := hSe.fb.cell (k := 4) rfl
          have HBE := hid_of hSe.bel
          have HC := hid_of hC
          clear hbk hob hbd hC hSe
          go_wp2_with fail
          refine HC.out.mono ?_
          rintro e W3 ⟨g3, rfl, hg3, hr3, hb3⟩
          have HR3 := hid_of hr3
          have HB3 := hid_of (bel_call HBE.out hb3)
          have hcl : (((i + 1 : Nat) : Int) != (i : Int) + 1) = false := by simp
          have hc0 := hr3.cell (k := 0) (v := .int .i64 (deepSum i : Nat)) rfl
          clear HC hr3 hb3 hg3 q0 q1 q2 q3 q4 HBE
          go_wp2_with fail
          go_loop [8, 9, 10] (fun s8 s9 s10 => ∃ k : Nat, k ≤ i ∧ s10 = .int .i64 ((k : Int) + 1) ∧ s8 = .int .i64 (deepW k : Nat) ∧ s9 = .int .i64 (deepSum k : Nat)) (fun _ _ s10 => i + 1 - (intOf s10).toNat)
          case atStart => exact ⟨0, by omega, rfl, rfl, rfl⟩
          case round =>
            obtain ⟨k, hk, rfl, rfl, rfl⟩ := hrel
            have hw := deepW_le k
            have hsm := deepSum_le k
            by_cases hkt : k < i
            · have d4 : decide ((k : Int) + 1 ≤ (i : Int)) = true := by simp; omega
              have hkz : (k : Int) + 1 ≤ (i : Int) := by omega
              have hk0 : (0 : Int) ≤ (k : Int) + 1 := by omega
              have hki : (k : Int) + 1 < ((i + 1 : Nat) : Int) := by omega
              have hcc := HR3.out.cell (k := k + 1) (v := .int .i64 (deepW (k + 1) : Nat)) (by simp [ints, hkt])
              have HWW : Hid (deepW (k + 1) = if k + 1 ≤ 6 then deepW k * 10 else deepW k) := by show _ = _; rfl
              have HSS : Hid (deepSum (k + 1) = deepSum k + deepW (k + 1)) := by show _ = _; rfl
              obtain ⟨dw, Hdw⟩ : ∃ dw, Hid (deepW k = dw) := ⟨_, (rfl : deepW k = _)⟩
              obtain ⟨ds, Hds⟩ : ∃ ds, Hid (deepSum k = ds) := ⟨_, (rfl : deepSum k = _)⟩
              rw [Hdw.out] at hw HWW ⊢
              rw [Hds.out] at hsm HSS ⊢
              have hw0 : (0 : Int) ≤ (dw : Int) := by omega
              have hwz : (dw : Int) ≤ 1000000 := by omega
              have hs0 : (0 : Int) ≤ (ds : Int) := by omega
              have hsz : (ds : Int) ≤ 100000000 := by omega
              have htn : ((k : Int) + 1).toNat = k + 1 := by omega
              clear hw hsm
              by_cases h6 : k + 1 ≤ 6
              · have d6 : decide ((k : Int) + 1 ≤ 6) = true := by simp; omega
                rw [HWW.out, if_pos h6] at hcc
                have hcc2 : W3.cell? ⟨g3, k + 1, none⟩ = some (.int .i64 ((dw : Int) * 10)) := by rw [hcc]; simp
                have HW2 : Hid (deepW (k + 1) = dw * 10) := by show _ = _; rw [HWW.out, if_pos h6]
                clear hcc h6
                go_wp2_with fail
                go_round
                case rel => exact ⟨k + 1, by omega, by go_num, by rw [HW2.out]; go_num, by rw [HSS.out, HW2.out]; go_num⟩
                case measure => simp [intOf]; omega
              · have d6 : decide ((k : Int) + 1 ≤ 6) = false := by simp; omega
                rw [HWW.out, if_neg h6] at hcc
                have HW2 : Hid (deepW (k + 1) = dw) := by show _ = _; rw [HWW.out, if_neg h6]
                clear h6
                go_wp2_with fail
                go_round
                case rel => exact ⟨k + 1, by omega, by go_num, by rw [HW2.out], by rw [HSS.out, HW2.out]; go_num⟩
                case measure => simp [intOf]; omega
            · obtain rfl : k = i := by omega
              have d4 : decide ((k : Int) + 1 ≤ (k : Int)) = false := by simp; omega
              have hz0 : (0 : Int) < ((k + 1 : Nat) : Int) := by omega
              clear hw hsm
              go_wp2_with fail
              go_ret
              exact ⟨rfl, HB3.out⟩
end Go.Proofs.Ytcihobmjohpnkaa
