/- 'pick': a colour for a node. -/
import Derived.Test.YtinbfnabngdemaaCnR
import Derived.Test.YtinbfnabngdemaaCnE
import Derived.Test.YtinbfnabngdemaaCnW
import Derived.Test.YtinbfnabngdemaaCkA
import Derived.Test.YtinbfnabngdemaaCnC
import Derived.StillTailTactics
import Derived.Deep.DeepCutAuto
namespace Go.Proofs.Ytinbfnabngdemaa
open Go.RowKit Go.Maps Go.Sort Go.Shelf Go.WideMaps Go.ChangeMaps Go.WideElems

theorem res_cell {fn : Func} {p : Tmp} {tmps : Array Value} {w : World} {a : Addr} {x : Int} (h : fn.results = #[.cell p 3]) (hp : tmps.getD p undef = .pointer (some a)) (hc : w.cell? a = some (.int .i64 x)) : (results fn tmps).run Try.prog w = .ok (.int .i64 x) w := by
  have hp' : tmps[p]?.getD undef = .pointer (some a) := by simpa using hp
  simp only [results, h]
  simp [Sem.run_bind, Result.andThen, hp', asAddr, go_sem, hc]
theorem Each_in (a : Option Addr) (len cap : Nat) (w : World) :
    CallsIn Fence.wide 4 Try.prog 46 #[.agg #[.slice a len cap]] w fun e w' => e = .returned (.func (.func 63) #[] #[.pointer (some ⟨w.heap.size + 1, 0, none⟩)]) ∧ w' = (w.alloc (.cells #[.slice a len cap] 49)).alloc (.cells #[.slice a len cap] 49) := by
  refine callsIn_of_wp Try.func46 rfl trivial ?_ rfl
  simp only [Try.ntmps46, List.size_toArray, List.length_cons, List.length_nil, Nat.reduceAdd, Nat.reduceSub, Array.replicate_succ, Array.replicate_zero, List.push_toArray, List.append_toArray, List.nil_append, List.cons_append]
  gi_wp2
  refine ⟨trivial, (each_in _ _ _ _ _).mono ?_⟩
  rintro e w' ⟨rfl, rfl⟩
  gi_wp2
  go_ret
  exact ⟨by simp, rfl⟩
/-- The iterator of a set tells its numbers in their order; where it is stopped it has told the first of them. -/
theorem each4_stops (n : Nat) (hn : 1 ≤ n) (Bx Bo n₀ : Nat) (lv : Value) (ws : List Nat) (hl : ws.length ≤ 2000) (hok : Bit.Ok ws) (w : World) (hBx : w.cell? ⟨Bx, 0, none⟩ = some lv) (hpx : Prot Bo Bx w) (hgd : Good Bo w) (hn0 : n₀ ≤ w.heap.size)
    (hL : IsWords (· < n₀) w lv ws) :
    SeqStopsK Fence.wide n Try.prog 63 #[.pointer (some ⟨Bx, 0, none⟩)] (fun x : Int => #[Value.int .i64 x]) (KeepsBut n₀ Bo) (fun ys => ys = listI ws) (fun pre => pre <+: listI ws) (listI ws).length w := by
  intro lp J Jx W hW _ _ hY h0
  obtain ⟨hk, _⟩ := KeepsBut.of_below hgd hn0 hW
  refine (each2_in n hn lp Bx Bo n₀ lv ws hl hok J (fun ys W => Jx ys W ∧ ys <+: listI ws) W ?_ (hk.cell _ _ _ hpx hBx) (hk.prot Bx (lt_of_cell hBx) hpx) (hk.good hgd) (by have := hW.size; omega) (hL.keep (Keep.belowB hk.below)) h0).mono ?_
  · rintro pre x W' hJ hp
    have hlen : pre.length < (listI ws).length := by have := hp.length_le; simp at this; omega
    refine YieldAt.mono (hY pre x W' hJ hlen) ?_
    rintro e W3 (⟨rfl, h1, h2⟩ | ⟨rfl, h1⟩)
    · exact .inl ⟨rfl, h1, h2⟩
    · exact .inr ⟨rfl, h1, hp⟩
  · rintro e W' ⟨hv, ⟨ys, rfl, hJ⟩ | ⟨pre, -, hJ, hp⟩⟩
    · exact ⟨hv, .inl ⟨_, rfl, hJ⟩⟩
    · exact ⟨hv, .inr ⟨pre, hp, hJ⟩⟩
attribute [local go_sem] Oper.semAt_some
/-- What is left of a node's colours when some neighbours have been seen. -/
def FreeW (G : GD) (col : Nat → Int) (v : Nat) (q : Nat → Bool) (ws : List Nat) : Prop :=
  Bit.Ok ws ∧ ws.length ≤ 2000 ∧ ∀ c : Nat, Bit.has ws c = true ↔ (c : Int) ∈ alw G v ∧ ∀ m, adjS G.E v m = true → q m = false → 0 ≤ col m → (c : Int) ∉ lpS G (col m)
section
variable {L : Gl} {G : GD} {S : CS} {W : World} {ov sv : Value} {col : Nat → Int}
theorem FreeW.start (hG : OkG G) (hF : Few G) (v : Nat) : FreeW G col v (fun m => adjS G.E v m) (Bit.ofW (alw G v)) := by
  refine ⟨(Bit.of_can _).1, Bit.of_length _, fun c => ?_⟩
  rw [Bit.has_of]
  constructor
  · rintro ⟨h1, -⟩; exact ⟨h1, fun m h2 h3 => by have h3 : adjS G.E v m = false := h3; rw [h2] at h3; cases h3⟩
  · rintro ⟨h1, -⟩
    have := hG.alw_rng h1
    have := hF.k
    exact ⟨h1, by omega⟩
theorem FreeW.skip {v m : Nat} {q : Nat → Bool} {ws : List Nat} (h : FreeW G col v q ws) (hm : col m < 0) : FreeW G col v (fun k => q k && !decide (k = m)) ws := by
  refine ⟨h.1, h.2.1, fun c => ?_⟩
  rw [h.2.2 c]
  refine and_congr Iff.rfl ⟨fun h1 k h2 h3 h4 => ?_, fun h1 k h2 h3 h4 => ?_⟩
  · by_cases e : k = m
    · subst e; omega
    · exact h1 k h2 (by simpa [e] using h3) h4
  · exact h1 k h2 (by simp [h3]) h4
theorem FreeW.sub (hG : OkG G) (hF : Few G) {v m : Nat} {q : Nat → Bool} {ws : List Nat} (h : FreeW G col v q ws) (ha : adjS G.E v m = true) (hm : 0 ≤ col m ∧ col m < (G.Lp.length : Int)) : FreeW G col v (fun k => q k && !decide (k = m)) (Bit.subW ws (Bit.ofW (lpS G (col m)))) := by
  refine ⟨(Bit.sub_can h.1 (Bit.of_can _).1).1, Nat.le_trans (Bit.trim_length _) (by rw [Bit.zipS_length]; exact Nat.max_le.2 ⟨h.2.1, Bit.of_length _⟩), fun c => ?_⟩
  rw [Bit.has_sub (Bit.of_can _).1]
  have hc : Bit.has (Bit.ofW (lpS G (col m))) c = true ↔ (c : Int) ∈ lpS G (col m) := by
    rw [Bit.has_of]
    refine ⟨fun h => h.1, fun h => ⟨h, ?_⟩⟩
    have := hG.lap_rng h hm
    have := hF.k
    omega
  constructor
  · intro h1
    simp only [Bool.and_eq_true, Bool.not_eq_true'] at h1
    obtain ⟨h2, h3⟩ := (h.2.2 c).1 h1.1
    refine ⟨h2, fun k h4 h5 h6 => ?_⟩
    by_cases e : k = m
    · subst e; intro h7; rw [hc.2 h7] at h1; exact absurd h1.2 (by simp)
    · exact h3 k h4 (by simpa [e] using h5) h6
  · rintro ⟨h1, h2⟩
    simp only [Bool.and_eq_true, Bool.not_eq_true']
    refine ⟨(h.2.2 c).2 ⟨h1, fun k h3 h4 h5 => h2 k h3 (by simp [h4]) h5⟩, ?_⟩
    cases e : Bit.has (Bit.ofW (lpS G (col m))) c with
    | false => rfl
    | true => exact absurd (hc.1 e) (h2 m ha (by simp) hm.1)
/-- In the end it is the list of those that are free. -/
theorem FreeW.done (hG : OkG G) {v : Nat} {q : Nat → Bool} {ws : List Nat} (h : FreeW G col v q ws) (hq : ∀ m, adjS G.E v m = true → q m = false) : listI ws = freeS G col v := by
  refine len_of_mem (listI_rising _) ((hG.alw_ris v).1.filter _) fun x => ?_
  show x ∈ listI ws ↔ x ∈ freeS G col v
  rw [mem_listI, mem_freeS]
  constructor
  · rintro ⟨h0, h1⟩
    obtain ⟨h2, h3⟩ := (h.2.2 _).1 h1
    rw [Int.toNat_of_nonneg h0] at h2
    exact ⟨h2, fun m _ ha hc => by have := h3 m ha (hq m ha) hc; rwa [Int.toNat_of_nonneg h0] at this⟩
  · rintro ⟨h1, h2⟩
    have h0 := (hG.alw_rng h1).1
    refine ⟨h0, (h.2.2 _).2 ⟨by rw [Int.toNat_of_nonneg h0]; exact h1, fun m ha _ hc => ?_⟩⟩
    rw [Int.toNat_of_nonneg h0]
    exact h2 m (hG.lt_of_adj ha).2.1 ha hc

structure PkS (L : Gl) (G : GD) (col : Nat → Int) (v kb fb : Nat) (W X : World) (q : Nat → Bool) (za : Option Addr) (zn zc : Nat) (ws : List Nat) : Prop where
  bel : BkS W X
  res : Row X W.heap.size 3 [.int .i64 0]
  free : Row X fb 49 [.slice za zn zc]
  fbl : W.heap.size < fb
  wd : IsWords (fun b => W.heap.size < b ∧ b ≠ fb ∧ b < X.heap.size) X (.slice za zn zc) ws
  fw : FreeW G col v q ws
theorem PkS.grown {L : Gl} {kb fb v : Nat} {X Y : World} {q : Nat → Bool} {za : Option Addr} {zn zc : Nat} {ws : List Nat} (h : PkS L G col v kb fb W X q za zn zc ws) {row : Option Nat} (hg : X.grownBy Y row) (hr : ∀ r, row = some r → W.heap.size ≤ r ∧ ∃ o : Obj, X.heap[r]? = some o ∧ o.isCells = false) : PkS L G col v kb fb W Y q za zn zc ws := by
  have hne : ∀ b, b < X.heap.size → (∃ vs e, Row X b e vs) → Y.heap[b]? = X.heap[b]? := fun b hb hrw => hg.block b hb (fun e => by
    obtain ⟨-, o, ho, hc⟩ := hr b e.symm
    obtain ⟨vs, e', hrw⟩ := hrw
    unfold Row at hrw
    rw [hrw] at ho
    cases ho
    cases hc)
  refine ⟨⟨hg.os.trans h.bel.os, hg.tape.trans h.bel.tape, hg.output.trans h.bel.output, Nat.le_trans h.bel.size hg.size, fun b hb => ?_⟩, h.res.keep (hne _ h.res.lt ⟨_, _, h.res⟩), h.free.keep (hne _ h.free.lt ⟨_, _, h.free⟩), h.fbl, ?_, h.fw⟩
  · refine (hg.block b (Nat.lt_of_lt_of_le hb h.bel.size) (fun e => ?_)).trans (h.bel.block b hb)
    have := (hr b e.symm).1; omega
  · obtain ⟨a', c', e, hl, hx⟩ := h.wd
    refine ⟨a', c', e, hl, ?_⟩
    rcases hx with hx | ⟨b, off, ha, hb, hx⟩
    · exact .inl hx
    · by_cases h0 : ws = []
      · exact .inl h0
      · have hp0 : 0 < ws.length := List.length_pos_iff.2 h0
        refine .inr ⟨b, off, ha, ⟨hb.1, hb.2.1, Nat.lt_of_lt_of_le hb.2.2 hg.size⟩, fun j hj => ?_⟩
        have hcell := hx j hj
        have hbk : Y.heap[b]? = X.heap[b]? := hg.block b hb.2.2 (fun e => by
          obtain ⟨-, o, ho, hc⟩ := hr b e.symm
          unfold CWord World.cell? at hcell
          rw [show X.heap[(⟨b, off + j * 1, none⟩ : Addr).block]? = some o from ho] at hcell
          cases o <;> simp [Obj.isCells] at hc hcell)
        exact (cell_of_block hbk _).trans hcell
theorem PkS.belowX {L : Gl} {kb fb v : Nat} {X Y : World} {q : Nat → Bool} {za : Option Addr} {zn zc : Nat} {ws : List Nat} (h : PkS L G col v kb fb W X q za zn zc ws) (hb : Below X.heap.size X Y) : PkS L G col v kb fb W Y q za zn zc ws :=
  h.grown (row := none) ⟨hb.os, hb.tape, hb.output, hb.size, fun k hk _ => hb.block k hk⟩ (fun r e => by cases e)

set_option maxRecDepth 100000 in
set_option maxHeartbeats 8000000 in
theorem pick_s (h : StG L G W) (hd : DyV L G S ov sv W) (hok : GlOk L G) (hG : OkG G) (hF : Few G) {v kb : Nat} (hv : v < G.A.length) (hcl : Row W kb 3 (ints ((List.range G.A.length).map col))) (hcr : ∀ u, u < G.A.length → col u = -1 ∨ (0 ≤ col u ∧ col u < (G.Lp.length : Int))) :
    Calls Try.prog 32 #[.pointer (some ⟨L.gb, 0, none⟩), .int .i64 (v : Int), .slice (some ⟨kb, 0, none⟩) G.A.length G.A.length] W fun e w' => e = .returned (.int .i64 (pickS G col v)) ∧ BkS W w' := by
  have HH := hid_of h
  have HD := hid_of hd
  have HOK := hid_of hok
  have HCL := hid_of hcl
  have HCR := hid_of hcr
  obtain ⟨n, Hn⟩ : ∃ n, Hid (G.A.length = n) := ⟨_, (rfl : G.A.length = _)⟩
  rw [Hn.out]
  have hvz : (v : Int) < (n : Int) := by have := Hn.out; omega
  have hst : ∀ X, BkS W X → StG L G X ∧ DyV L G S ov sv X := fun X hX => ⟨h.keep hX.size (fun b hb => hX.block b (by have := hb.1; have := h.hB; omega)), hd.below hX⟩
  have HST := hid_of hst
  clear h hd hok hcl hcr hst
  refine (callsIn_wide (n := 8)).1 ?_
  refine callsIn_of_wp_marks Try.func32 rfl trivial ?_ rfl
  simp only [Try.ntmps32, List.size_toArray, List.length_cons, List.length_nil, Nat.reduceAdd, Nat.reduceSub, Array.replicate_succ, Array.replicate_zero, List.push_toArray, List.append_toArray, List.nil_append, List.cons_append]
  refine wpIn_wide.2 ?_
  go_upto_region 1 with fail
  refine wp_at (fun X => BkS W X ∧ Row X W.heap.size 3 [.int .i64 0]) ⟨bk_alloc (bk_refl W) _, heap_alloc_eq _ _ _ rfl⟩ ?_
  rintro X ⟨hb1, hr1⟩
  obtain ⟨hh, hd⟩ := HST.out X hb1
  obtain ⟨ab, ao, ra, rc, c2, -, ca, hra⟩ := hh.at_A hd hv
  have hac : G.A.length ≤ L.V.ac := by have := hh.an; omega
  rw [Hn.out] at c2 hac
  have HO := hid_of (of_c X hra)
  have HB1 := hid_of (And.intro hb1 hr1)
  clear hb1 hr1 hh hd hra
  go_wp2_with fail
  refine HO.out.mono ?_
  rintro e X1 ⟨z, rfl, hz, hb2⟩
  obtain ⟨za, zn, zc, rfl⟩ := words_slice hz
  go_upto_region 2 with fail
  have hsz1 := HB1.out.2.lt
  have hsz2 := hb2.size
  have hP : PkS L G col v kb X1.heap.size W (X1.alloc (.cells #[.slice za zn zc] 49)) (fun m => adjS G.E v m) za zn zc (Bit.ofW (alw G v)) := by
    have hba := bel_alloc (bel_refl X1) (.cells #[.slice za zn zc] 49)
    refine ⟨bel_call HB1.out.1 (bel_call hb2 hba), (HB1.out.2.keep (hb2.block _ hsz1)).keep (hba.block _ (by omega)), heap_alloc_eq _ _ _ rfl, by omega, ?_, FreeW.start hG hF v⟩
    exact hz.keep (fun b hb hlt => ⟨⟨by omega, by omega, by simp; omega⟩, hba.block b hlt⟩)
  refine wp_at (fun Y => PkS L G col v kb X1.heap.size W Y (fun m => adjS G.E v m) za zn zc (Bit.ofW (alw G v))) hP ?_
  obtain ⟨fb, HFb⟩ : ∃ fb, Hid (X1.heap.size = fb) := ⟨_, (rfl : X1.heap.size = _)⟩
  rw [HFb.out]
  intro X2 hP2
  obtain ⟨hh, hd⟩ := HST.out X2 hP2.bel
  have c4 : X2.cell? ⟨L.gb, 4, none⟩ = some (.slice (some ⟨L.nb, 0, none⟩) G.A.length G.A.length) := hd.row.cell rfl
  have cn : X2.cell? ⟨L.nb, v, none⟩ = some (.map (some (L.nm v))) := hh.near.cell (get_range hv)
  obtain ⟨hnst, kk, hnm⟩ := hh.nm v hv
  rw [Hn.out] at c4
  have HP2 := hid_of hP2
  clear hP hP2 hz hb2 c2 ca HO HB1 hh hd hsz1 hsz2 hac
  go_wp2_with (at_range; refine stop_here ?_)
  refine stop_go (wp_rangeN rfl _ rfl rfl hnm ?_)
  intro X3 cnt hrg hg3 hs3
  go_frame
  have hP3 := HP2.out.grown hg3 (fun r e => by cases e)
  have HR3 := hid_of (And.intro hrg hP3)
  have HR : Hid (W.heap.size < X2.heap.size) := HP2.out.res.lt
  obtain ⟨r, Hr⟩ : ∃ r, Hid (X2.heap.size = r) := ⟨_, (rfl : X2.heap.size = _)⟩
  rw [Hr.out] at HR3 HR ⊢
  have hnmB := hnst.1
  have hBW := HH.out.hB
  clear hrg hg3 hs3 hP3 c4 cn hnm HP2
  go_wp2_with fail
  go_loopw [8] (fun _s8 wx => ∃ q cnt za zn zc ws, Hid (NRg wx (L.nm v) r kk (fun m => adjS G.E v m) q cnt ∧ PkS L G col v kb fb W wx q za zn zc ws ∧ ∀ k, q k = true → adjS G.E v k = true)) (fun _ wx => wx.rangeLeft (L.nm v) r)
  case atStart => exact ⟨_, _, _, _, _, _, HR3.out.1, HR3.out.2, fun k h => h⟩
  case round =>
    obtain ⟨q, cnt2, za, zn, zc, ws, HI⟩ := hrel
    clear HR3
    go_wp2_with (at_next; refine stop_here ?_)
    refine stop_go (wp_nextN rfl _ rfl rfl HI.out.1 ?_ ?_)
    · intro hq
      obtain ⟨hh, hd⟩ := HST.out wr HI.out.2.1.bel
      have HLw : Hid (listI ws = freeS G col v) := HI.out.2.1.fw.done hG (fun m ha => by
        cases e : q m with
        | false => rfl
        | true =>
          have := (hG.lt_of_adj (HI.out.2.2 m e)).2.1
          have := hF.n
          rcases hq m with h | h
          · rw [e] at h; cases h
          · omega)
      have HP := hid_of HI.out.2.1
      have c5 : wr.cell? ⟨L.gb, 5, none⟩ = some (.slice (some ⟨L.mb, 0, none⟩) G.A.length G.A.length) := hd.row.cell rfl
      have cm : wr.cell? ⟨L.mb, v, none⟩ = some (.map (some (L.mm v))) := hh.moves.cell (get_range hv)
      obtain ⟨-, k2, hmm⟩ := hh.mm v hv
      rw [Hn.out] at c5
      obtain ⟨A, HA⟩ : ∃ A, Hid (moveL G v = A) := ⟨_, (rfl : moveL G v = _)⟩
      obtain ⟨ml, Hml⟩ : ∃ m, Hid (A.length = m) := ⟨_, (rfl : A.length = _)⟩
      have HKeys : Hid (keysP (fun m => adjS G.M v m) n = A.map fun (i : Nat) => (i : Int)) := by show _ = _; rw [← HA.out, ← Hn.out]; rfl
      have hn100 : n ≤ 100 := by rw [← Hn.out]; exact hF.n
      have hAl : ∀ m ∈ A, m < n := fun m hm => by rw [← HA.out] at hm; rw [← Hn.out]; exact (mem_moveL.1 hm).1
      have hml : ml ≤ 100 := by rw [← Hml.out, ← HA.out]; exact Nat.le_trans (List.length_filter_le _ _) (by rw [List.length_range]; exact hF.n)
      have HAL := hid_of hAl
      have hKs : ∀ X, BkS wr X → Calls Try.prog 45 #[.map (some (L.mm v))] X fun e X' => ∃ q, e = .returned (keysV q) ∧ X'.cell? ⟨q, 0, none⟩ = some (.map (some (L.mm v))) ∧ BkS wr X' := fun X hX =>
        (keys_c _ X).mono (by rintro e X' ⟨rfl, rfl⟩; exact ⟨_, rfl, cell_of_one (heap_alloc_eq X _ _ rfl), bk_alloc hX _⟩)
      have hSs : ∀ X q, BkS wr X → X.cell? ⟨q, 0, none⟩ = some (.map (some (L.mm v))) → Calls Try.prog 44 #[keysV q] X fun e X' => ∃ sa sc, e = .returned (.slice sa ml sc) ∧ X'.ownsRow wr.heap.size 3 1 (.slice sa ml sc) ml (nts A) ∧ BkS wr X' := fun X q hX hq =>
        (sorted_c (m := n) X (hmm.keep (hX.block _ hmm.lt)) (by omega) (fun k hk => by rw [← Hn.out]; exact (hG.lt_of_mv hk).2.1) hq).mono (by
          rintro e X' ⟨sv, rfl, ho, hb⟩
          rw [HKeys.out, List.length_map, Hml.out, ← nts_ints] at ho
          obtain ⟨sa, sc, rfl, -⟩ := owns_slice ho
          exact ⟨sa, sc, rfl, owns_mono ho hX.size, bel_call hX hb⟩)
      have hS : ∀ X, BkS wr X → X.cell? ⟨L.gb, 5, none⟩ = some (.slice (some ⟨L.mb, 0, none⟩) n n) ∧ X.cell? ⟨L.mb, v, none⟩ = some (.map (some (L.mm v))) := fun X hX =>
        ⟨(cell_of_block (hX.block _ (lt_of_cell c5)) 5).trans c5, (cell_of_block (hX.block _ (lt_of_cell cm)) v).trans cm⟩
      have hE0 : BkS wr wr := bk_refl wr
      have hE1 : BkS wr wr.drew := bk_drew hE0
      clear hh hd HI hmm
      go_wp2_with fail
      refine (hKs _ hE0).mono ?_
      rintro e Yk ⟨q2, rfl, hq2, hEk⟩
      go_wp2_with fail
      refine (hSs _ q2 hEk hq2).mono ?_
      rintro e wc ⟨sa, sc, rfl, hso, hEs⟩
      have hP2 := HP.out.belowX hEs
      have HSA : Hid (0 < ml → ∃ g, sa = some ⟨g, 0, none⟩) := fun h => (owns_slice hso).elim fun a h1 => h1.elim fun c h2 => by
        have := h2.1
        simp only [Value.slice.injEq] at this
        exact this.1 ▸ h2.2 h
      have hmc : ml ≤ sc := by
        rcases hso.2 with ⟨e, h⟩ | ⟨g, cap', cur, e, _, _, h, _⟩
        · omega
        · simp at e; omega
      have HSO := hid_of hso
      have HP2 := hid_of hP2
      have HF0 : Hid ((A.take 0).find? (fun m => decide (0 ≤ col m) && decide (col m ∈ freeS G col v)) = none) := by show _ = _; simp
      have HPK : Hid (∀ k (hk : k < A.length), (A.take k).find? (fun m => decide (0 ≤ col m) && decide (col m ∈ freeS G col v)) = none → (decide (0 ≤ col A[k]) && decide (col A[k] ∈ freeS G col v)) = true → pickS G col v = col A[k]) := fun k hk h1 h2 => by
        have e : A = A.take k ++ A[k] :: A.drop (k + 1) := by rw [← List.drop_eq_getElem_cons hk, List.take_append_drop]
        have h3 : A.find? (fun m => decide (0 ≤ col m) && decide (col m ∈ freeS G col v)) = some A[k] := by
          have h4 : (A.take k ++ A[k] :: A.drop (k + 1)).find? (fun m => decide (0 ≤ col m) && decide (col m ∈ freeS G col v)) = some A[k] := by
            rw [List.find?_append, h1, List.find?_cons, h2]; rfl
          rw [← e] at h4; exact h4
        unfold pickS
        rw [HA.out, h3]
      have HPN : Hid ((A.take ml).find? (fun m => decide (0 ≤ col m) && decide (col m ∈ freeS G col v)) = none → pickS G col v = (freeS G col v).headD (-1)) := fun h1 => by
        rw [← Hml.out, List.take_length] at h1
        unfold pickS
        rw [HA.out, h1]
      clear hKs hSs hS hE0 hE1 hq2 hEk hso hP2 c5 cm hEs
      go_wp2_with fail
      go_loopw [61] (fun s61 wx => ∃ k : Nat, k ≤ ml ∧ s61 = .int .i64 k ∧ Hid ((A.take k).find? (fun m => decide (0 ≤ col m) && decide (col m ∈ freeS G col v)) = none) ∧ Hid (BkS wc wx)) (fun s61 _ => ml - (intOf s61).toNat)
      case atStart => exact ⟨0, by omega, rfl, HF0, (bk_refl wc : BkS wc wc)⟩
      case round =>
        obtain ⟨k, hk, rfl, HFk, HBk⟩ := hrel
        clear HF0
        by_cases hlt : k < ml
        · have hkA : k < A.length := by rw [Hml.out]; exact hlt
          obtain ⟨g, rfl⟩ := HSA.out (by omega)
          have hP3 := HP2.out.belowX HBk.out
          have c1 := (owns_below HSO.out HBk.out)
          have c1 := (RowP.of_owns c1).cell (k := k) (v := .int .i64 ((A[k] : Nat) : Int)) (by simp [nts, hkA])
          have hmn := HAL.out _ (List.getElem_mem hkA)
          have hpk := HPK.out k hkA HFk.out
          have hfk : (decide (0 ≤ col A[k]) && decide (col A[k] ∈ freeS G col v)) = false → (A.take (k + 1)).find? (fun m => decide (0 ≤ col m) && decide (col m ∈ freeS G col v)) = none := fun h => by
            rw [List.take_succ_eq_append_getElem hkA, List.find?_append, HFk.out, List.find?_cons, h]; rfl
          obtain ⟨m, Hm⟩ : ∃ x, Hid (A[k] = x) := ⟨_, (rfl : A[k] = _)⟩
          rw [Hm.out] at c1 hmn hpk hfk
          have ck : wr.cell? ⟨kb, m, none⟩ = some (.int .i64 (col m)) := (cell_of_block (hP3.bel.block _ HCL.out.lt) m).trans (HCL.out.cell (by simp [ints]; rw [Hn.out]; simp [hmn]))
          have hmz : (m : Int) < (n : Int) := by omega
          have cf := hP3.free.cell (k := 0) rfl
          have hcr := HCR.out m (by rw [Hn.out]; exact hmn)
          obtain ⟨x, Hx⟩ : ∃ x, Hid (col m = x) := ⟨_, (rfl : col m = _)⟩
          rw [Hx.out] at ck hcr hpk hfk
          have HP3 := hid_of hP3
          by_cases hx : 0 ≤ x
          · have hxx : decide (x ≥ 0) = true := by simpa using hx
            have hxx' : decide (0 ≤ x) = true := by simpa using hx
            have hk60 := hF.k
            have HHas := hid_of (has_c wr x hP3.wd hP3.fw.1 (by omega))
            have hbb : hasI ws x = decide (x ∈ freeS G col v) := by
              unfold hasI
              rw [hxx', Bool.true_and, Bool.eq_iff_iff, decide_eq_true_iff, ← HLw.out, mem_listI]
              exact ⟨fun h => ⟨hx, h⟩, fun h => h.2⟩
            rw [hbb] at HHas
            rw [hxx', Bool.true_and] at hpk hfk
            obtain ⟨bf, Hbf⟩ : ∃ b, Hid (decide (x ∈ freeS G col v) = b) := ⟨_, (rfl : decide (x ∈ freeS G col v) = _)⟩
            rw [Hbf.out] at HHas hpk hfk
            have HPKx := hid_of hpk
            have HFKx := hid_of hfk
            clear hpk hfk hbb hP3 hcr hk60
            go_wp2_with fail
            refine HHas.out.mono ?_
            rintro e W2 ⟨rfl, hb2⟩
            have hP4 := HP3.out.belowX hb2
            have HB4 : Hid (BkS wc W2) := bel_call HBk.out hb2
            have HP4 := hid_of hP4
            have r6 := hP4.res.cell (k := 0) rfl
            have f6 := hP4.res.frozen 0
            clear hP4 hb2 HHas
            cases bf with
            | true =>
              have hpx := HPKx.out rfl
              have HPX := hid_of hpx
              go_wp2_with fail
              exact ⟨_, res_cell (x := x) rfl rfl ((HP4.out.res.set 0 (.int .i64 x)).cell rfl), by rw [HPX.out], bk_set HP4.out.bel (Nat.le_refl _) _⟩
            | false =>
              have HFF := hid_of (HFKx.out rfl)
              clear r6 f6
              go_wp2_with fail
              go_roundw
              case rel => exact ⟨k + 1, by omega, by go_num, HFF, HB4⟩
              case measure => simp [intOf]; omega
          · have hxx : decide (x ≥ 0) = false := by simpa using hx
            have hxx' : decide (0 ≤ x) = false := by simpa using hx
            rw [hxx', Bool.false_and] at hfk
            have HFKx := hid_of (hfk rfl)
            have hx1 : x = -1 := by omega
            subst hx1
            clear hpk hfk hP3 hcr hxx hxx' hx
            go_wp2_with fail
            go_roundw
            case rel => exact ⟨k + 1, by omega, by go_num, HFKx, HBk⟩
            case measure => simp [intOf]; omega
        · obtain rfl : ml = k := by omega
          have HPN2 := hid_of (HPN.out HFk.out)
          have hP3 := HP2.out.belowX HBk.out
          have HP3 := hid_of hP3
          have cf := hP3.free.cell (k := 0) rfl
          have hsz3 := hP3.free.lt
          have hfb3 := hP3.fbl
          clear hP3 HPK HPN HFk
          go_wp2_with fail
          refine (callsIn_wide.1 (Each_in za zn zc wr)).mono ?_
          rintro e w6 ⟨rfl, rfl⟩
          go_wp2_with fail
          refine (wpIn_wide (n := 8)).1 ?_
          gi_wp2
          have hb6 : BkS wr ((wr.alloc (.cells #[.slice za zn zc] 49)).alloc (.cells #[.slice za zn zc] 49)) := bk_alloc (bk_alloc (bk_refl wr) _) _
          have cX6 : ((wr.alloc (.cells #[.slice za zn zc] 49)).alloc (.cells #[.slice za zn zc] 49)).cell? ⟨wr.heap.size + 1, 0, none⟩ = some (.slice za zn zc) := cell_of_one (heap_alloc_eq _ _ _ (by simp))
          have hz6 : ((wr.alloc (.cells #[.slice za zn zc] 49)).alloc (.cells #[.slice za zn zc] 49)).heap.size = wr.heap.size + 2 := by simp
          generalize (wr.alloc (.cells #[.slice za zn zc] 49)).alloc (.cells #[.slice za zn zc] 49) = W0 at *
          have hP6 := HP3.out.belowX hb6
          have cr6 := hP6.res.cell (k := 0) rfl
          have hWl := hP6.res.lt
          have hBWs := hP6.bel.size
          have hgd : Good W.heap.size W0 := ⟨hWl, fun u hu b hb => by rw [cr6] at hu; cases hu; simp [Value.ownBlock] at hb⟩
          have hpr : Prot W.heap.size (wr.heap.size + 1) W0 := ⟨by omega, fun u hu e => by rw [cr6] at hu; cases hu; simp [Value.ownBlock] at e⟩
          have hstops := each4_stops 7 (by omega) (wr.heap.size + 1) W.heap.size W0.heap.size (.slice za zn zc) ws hP6.fw.2.1 hP6.fw.1 W0 cX6 hpr hgd (Nat.le_refl _) (hP6.wd.keep (Keep.refl W0 fun b _ hlt => hlt))
          have HI0 : Hid (([] : List Int) = [] ∧ PkS L G col v kb fb W W0 q za zn zc ws) := ⟨rfl, hP6⟩
          have HHD : Hid (pickS G col v = (listI ws).headD (-1)) := by show _ = _; rw [HPN2.out, HLw.out]
          clear hP6 cr6 hgd hpr cX6 cf
          refine range_one (w := W0) rfl (by omega) (gf := 63) (lb := #[.pointer (some ⟨wr.heap.size + 1, 0, none⟩)]) rfl trivial (enters_of Try.func63 (by kernel_rfl) rfl)
            hstops KeepsBut.trans ?hkb (Below.refl _ _)
            (fun pre X => Hid (pre = [] ∧ PkS L G col v kb fb W X q za zn zc ws))
            (fun c pre X => Hid (c = .ret ∧ ∃ x, pre = [x] ∧ Row X W.heap.size 3 [.int .i64 x] ∧ BkS W X))
            (fun pre X X' row hs hg hr => ⟨hs.1, hs.2.grown hg (fun r' e => ⟨by have := (hr r' e).1; omega, (hr r' e).2⟩)⟩)
            (fun c pre X X' row hs hg hr => by
              obtain ⟨h1, x, h2, h3, h4⟩ := hs
              have hlow : ∀ b, b < X.heap.size → b < W0.heap.size → X'.heap[b]? = X.heap[b]? := fun b hb hlt => hg.block b hb (fun e => by have := (hr b e.symm).1; omega)
              exact ⟨h1, x, h2, h3.keep (hlow _ h3.lt hWl), hg.os.trans h4.os, hg.tape.trans h4.tape, hg.output.trans h4.output, Nat.le_trans h4.size hg.size, fun b hb => (hlow b (Nat.lt_of_lt_of_le hb h4.size) (by omega)).trans (h4.block b hb)⟩)
            HI0 12 ?assign ?body ?done ?stop
          case hkb =>
            intro Y l o o' hl ho hc hw
            have hBo : (Y.putObj l o').heap[W.heap.size]? = Y.heap[W.heap.size]? := World.putObj_heap_other (by omega)
            have hsz' : (Y.putObj l o').heap.size = Y.heap.size := by simp
            refine ⟨belowK_b (w := W0) (by omega) Y l o o' hl ho hc hw, fun b o1 v _ hcv => cell_kept hcv (grownBy_putObj' Y l o') (fun r e => by cases e; exact ⟨o, ho, hc⟩), fun b _ hp => ⟨hp.1, fun v hv => hp.2 v (by rw [← cell_of_block hBo]; exact hv)⟩, fun hG => ⟨by rw [hsz']; exact hG.1, fun v hv b hb => by rw [hsz']; exact hG.2 v (by rw [← cell_of_block hBo]; exact hv) b hb⟩⟩
          case assign =>
            intro lp x X K hK
            go_frame
            gi_wp2
            exact hK
          case body =>
            intro lp pre x X HI hlen
            obtain ⟨rfl, hPX⟩ := HI.out
            have cr := hPX.res.cell (k := 0) rfl
            have fr := hPX.res.frozen 0
            have HPX := hid_of hPX
            clear hPX
            go_frame
            gi_wp2
            exact ⟨KeepsOthers.setCell _ _ _, rfl, x, rfl, HPX.out.res.set 0 _, bk_set HPX.out.bel (Nat.le_refl _) _⟩
          case done =>
            rintro D xs Wd hD hxs HI hK
            obtain ⟨rfl, hPX⟩ := HI.out
            have hxs : ([] : List Int) = listI ws := hxs
            rw [← hxs] at HHD
            have HHD2 : Hid (pickS G col v = -1) := HHD.out
            have cr := hPX.res.cell (k := 0) rfl
            have fr := hPX.res.frozen 0
            have hPD := hPX.res.set 0 (.int .i64 (-1))
            have hBD := bk_set hPX.bel (a := ⟨W.heap.size, 0, none⟩) (Nat.le_refl _) (.int .i64 (-1))
            have hK2 : (Wd.setCell ⟨W.heap.size, 0, none⟩ (.int .i64 (-1))).heap[D]? = some (.deferred (some [])) := (Below.heap_setCell _ _ _ _ (by show D ≠ W.heap.size; omega)).trans hK
            go_wp2_with fail
            refine ⟨by simp, .inl ⟨_, _, rfl, run_takeDeferred hK2, ?_⟩⟩
            have hlow : ∀ o' b, b < W0.heap.size → ((Wd.setCell ⟨W.heap.size, 0, none⟩ (.int .i64 (-1))).putObj D o').heap[b]? = (Wd.setCell ⟨W.heap.size, 0, none⟩ (.int .i64 (-1))).heap[b]? := fun o' b hb => World.putObj_heap_other (by omega)
            exact ⟨_, res_cell (x := -1) rfl rfl ((hPD.keep (hlow _ _ hWl)).cell rfl), by rw [HHD2.out], hBD.os, hBD.tape, hBD.output, by simpa using hBD.size, fun b hb => (hlow _ b (by omega)).trans (hBD.block b hb)⟩
          case stop =>
            rintro D c pre Wd hD hSp HI hK
            obtain ⟨rfl, x, rfl, hrx, hbx⟩ := HI.out
            have hx : (listI ws).headD (-1) = x := by
              obtain ⟨t, e⟩ := hSp
              rw [← e]; rfl
            have HHD2 : Hid (pickS G col v = x) := by show _ = _; rw [HHD.out, hx]
            gi_wp2
            refine ⟨by simp, .inl ⟨_, _, rfl, run_takeDeferred hK, ?_⟩⟩
            have hlow : ∀ o' b, b < W0.heap.size → (Wd.putObj D o').heap[b]? = Wd.heap[b]? := fun o' b hb => World.putObj_heap_other (by omega)
            exact ⟨_, res_cell (x := x) rfl rfl ((hrx.keep (hlow _ _ hWl)).cell rfl), by rw [HHD2.out], hbx.os, hbx.tape, hbx.output, by simpa using hbx.size, fun b hb => (hlow _ b (by omega)).trans (hbx.block b hb)⟩
    · intro m c X5 cnt5 hqm hrg5 hlt5 hg5 hs5 hen5
      have hle : wr.rangeLeft (L.nm v) r = cnt2 := HI.out.1.left_eq
      have ha := HI.out.2.2 m hqm
      have hmn := (hG.lt_of_adj ha).2.1
      have hP5 := HI.out.2.1.grown hg5 (fun r' e => by
        cases e
        obtain ⟨a1, a2, a3, a4, h4⟩ := HI.out.1.isIter
        exact ⟨by have := HR.out; omega, _, h4, rfl⟩)
      have ck : X5.cell? ⟨kb, m, none⟩ = some (.int .i64 (col m)) := (cell_of_block (hP5.bel.block _ HCL.out.lt) m).trans (HCL.out.cell (by simp [ints, hmn]))
      have hcr := HCR.out m hmn
      have hmz : (m : Int) < (n : Int) := by have := Hn.out; omega
      have HRG := hid_of hrg5
      have HQ : Hid (∀ k, (q k && !decide (k = m)) = true → adjS G.E v k = true) := fun k hk => HI.out.2.2 k (by simp at hk; exact hk.1)
      have HSK := hid_of (fun (hx : col m < 0) => (hP5.fw).skip hx)
      have HSB := hid_of (fun (hx : 0 ≤ col m ∧ col m < (G.Lp.length : Int)) => (hP5.fw).sub hG hF ha hx)
      have HP5 := hid_of hP5
      clear hrg5 hg5 hP5 ha hqm HI
      by_cases hx : col m < 0
      · have HFn := hid_of (HSK.out hx)
        have hd0 : decide (col m ≥ 0) = false := by simp; omega
        have hd0' : decide (0 ≤ col m) = false := by simp; omega
        have hx1 : col m = -1 := by omega
        rw [hx1] at ck
        clear HSK HSB hd0 hd0' hcr hx hx1
        go_wp2_with fail
        go_roundw
        case rel => exact ⟨_, cnt5, za, zn, zc, ws, HRG.out, ⟨HP5.out.bel, HP5.out.res, HP5.out.free, HP5.out.fbl, HP5.out.wd, HFn.out⟩, HQ.out⟩
        case measure => rw [HRG.out.left_eq, hle]; exact hlt5
      · have hxr : 0 ≤ col m ∧ col m < (G.Lp.length : Int) := by omega
        have HFn := hid_of (HSB.out hxr)
        obtain ⟨hh, hd⟩ := HST.out X5 HP5.out.bel
        obtain ⟨lb, lo, lc, sa, sn, sc, c8, hlb, hlc, cl, hw⟩ := hh.at_L hd hxr
        obtain ⟨x, Hx⟩ : ∃ x : Nat, Hid (col m = (x : Int)) := ⟨(col m).toNat, (by show _ = _; omega)⟩
        rw [Hx.out] at ck hxr HFn hw
        rw [Hx.out, Int.toNat_natCast] at cl
        have cf := HP5.out.free.cell (k := 0) rfl
        have hxz : (x : Int) < (G.Lp.length : Int) := hxr.2
        obtain ⟨lpn, HLp⟩ : ∃ y, Hid (G.Lp.length = y) := ⟨_, (rfl : G.Lp.length = _)⟩
        rw [HLp.out] at c8 hlc hxz
        have HSub := hid_of (sub_c X5.drew (HP5.out.wd.keep (Keep.refl (p' := (· < X5.heap.size)) X5 fun b hb hlt => hlt)) (hw.keep (Keep.refl (p' := (· < X5.heap.size)) X5 fun b hb hlt => hlt)) HP5.out.fw.1 (Bit.of_can _).1 HP5.out.fw.2.1 (Bit.of_length _))
        clear HSK HSB hcr hx hxr hh hd hw hlb
        go_wp2_with fail
        go_still_tail 11, (by kernel_rfl)
        change wpList _ _ _ _ _ X5.drew
        go_wp2_with fail
        refine HSub.out.mono ?_
        rintro e X6 ⟨z, rfl, hz, hb6⟩
        obtain ⟨za6, zn6, zc6, rfl⟩ := words_slice hz
        have hP6 := HP5.out.belowX (bel_call (Below.drew (bel_refl X5)) hb6)
        have hfl := HP5.out.fbl
        have hfl2 := HP5.out.free.lt
        have hd6 : X5.drew.heap.size = X5.heap.size := rfl
        have HPF : Hid (PkS L G col v kb fb W (X6.setCell ⟨fb, 0, none⟩ (.slice za6 zn6 zc6)) (fun k => q k && !decide (k = m)) za6 zn6 zc6 (Bit.subW ws (Bit.ofW (lpS G (x : Int))))) := by
          refine ⟨bk_set hP6.bel (by show W.heap.size ≤ fb; omega) _, hP6.res.other (by show W.heap.size ≠ fb; omega) _, hP6.free.set 0 _, hfl, hz.keep (fun b hb hlt => ⟨⟨by omega, by omega, by simpa using hlt⟩, Below.heap_setCell _ _ _ _ (by show b ≠ fb; omega)⟩), HFn.out⟩
        have HRGF : Hid (NRg (X6.setCell ⟨fb, 0, none⟩ (.slice za6 zn6 zc6)) (L.nm v) r kk (fun m => adjS G.E v m) (fun k => q k && !decide (k = m)) cnt5) := by
          have h1 := HRG.out.below (bel_call (Below.drew (bel_refl X5)) hb6)
          obtain ⟨a1, a2, a3, a4, h4⟩ := h1.isIter
          obtain ⟨es, k2, h5⟩ : ∃ es k2, X6.heap[L.nm v]? = some (.map es k2) := let ⟨D, left, h, _⟩ := h1; let ⟨es, c, h6, _⟩ := h.owns; ⟨es, c, h6⟩
          have hfr := hP6.free
          unfold Row at hfr
          refine h1.kept (gr_set _ _ _) (fun e => ?_) (fun e => ?_)
          · injection e with e
            have e : L.nm v = fb := e
            rw [e, hfr] at h5; cases h5
          · injection e with e
            have e : r = fb := e
            rw [e, hfr] at h4; cases h4
        have cf6 := hP6.free.cell (k := 0) rfl
        have ff6 := hP6.free.frozen 0
        clear hP6 hz hb6 HSub
        go_wp2_with fail
        go_roundw
        case rel => exact ⟨_, cnt5, za6, zn6, zc6, _, HRGF.out, HPF.out, HQ.out⟩
        case measure => rw [HRGF.out.left_eq, hle]; exact hlt5
end
end Go.Proofs.Ytinbfnabngdemaa
