/- 'take': a node is taken away. -/
import Derived.Test.YtinbfnabngdemaaCnN
import Derived.Test.YtinbfnabngdemaaCnW
import Derived.Deep.RegionLaw
import Derived.Deep.DeepCutAuto
import Derived.Deep.LoopGhost
import Derived.Deep.AppendLies
import Derived.StillTactics
import Derived.Deep.RegionHeld
import Derived.Laws.Pointers
namespace Go.Proofs.Ytinbfnabngdemaa
open Go.RowKit Go.Maps Go.Sort Go.Shelf Go.WideMaps Go.ChangeMaps Go.WideElems

attribute [local go_sem] Oper.semAt_some
section
variable {L : Gl} {G : GD} {S : CS} {W : World} {ov sv : Value}
theorem DyV.good (hd : DyV L G S ov sv W) (hok : GlOk L G) (hB : L.B ≤ W.heap.size) {l b : Nat} (h : Dn L l W b) : b < W.heap.size := by
  have hlt := hok.lt
  rw [hd.dn] at h
  rcases h with (e | e | e) | e | e
  · omega
  · omega
  · omega
  · exact (hd.sf.lt b e.2).2
  · exact (hd.ord.lt b e.2).2
theorem DyV.not_ob (hd : DyV L G S ov sv W) (hok : GlOk L G) : ¬ Dn L 1 W L.ob := by
  have hlt := hok.lt
  have hap := hok.ap
  rw [hd.dn]
  rintro ((e | e | e) | e | e)
  · exact hap.2.2.2.2.1 e.symm
  · exact hap.2.2.2.2.2 e.2.symm
  · omega
  · have := (hd.sf.lt _ e.2).1; omega
  · omega
theorem nb_in (n : Nat) (g : Nat) (v : Nat) (W : World) :
    CallsIn Fence.wide n Try.prog 42 #[.pointer (some ⟨g, 0, none⟩), .int .i64 (v : Int)] W fun e w' => e = .returned (.func (.func 51) #[] #[.pointer (some ⟨W.heap.size, 0, none⟩), .pointer (some ⟨W.heap.size + 1, 0, none⟩)]) ∧
      w' = (W.alloc (.cells #[.pointer (some ⟨g, 0, none⟩)] 52)).alloc (.cells #[.int .i64 (v : Int)] 3) := by
  refine callsIn_of_wp Try.func42 rfl trivial ?_ rfl
  simp only [Try.ntmps42, List.size_toArray, List.length_cons, List.length_nil, Nat.reduceAdd, Nat.reduceSub, Array.replicate_succ, Array.replicate_zero, List.push_toArray, List.append_toArray, List.nil_append, List.cons_append]
  gi_wp2
  go_ret
  exact ⟨by simp, rfl⟩
theorem nbs_stops (n : Nat) (hn : 5 ≤ n) (Bx Bv : Nat) (h : StG L G W) (hd : DyV L G S ov sv W) (hok : GlOk L G) (hG : OkG G) (hF : Few G) {v : Nat} (hv : v < G.A.length)
    (hx : W.cell? ⟨Bx, 0, none⟩ = some (.pointer (some ⟨L.gb, 0, none⟩))) (hxv : W.cell? ⟨Bv, 0, none⟩ = some (.int .i64 (v : Int))) (hxg : Bx ≠ L.gb) (hxd : ¬ Dn L 1 W Bx) :
    SeqStopsK Fence.wide n Try.prog 51 #[.pointer (some ⟨Bx, 0, none⟩), .pointer (some ⟨Bv, 0, none⟩)] (fun x : Fin G.A.length => #[Value.int .i64 ((x.1 : Nat) : Int)]) (KN L) (fun ys => ys.map Fin.val = nbsS G S v) (fun _ => True) (nbsS G S v).length W := by
  intro lp J Jx W1 hW hJ _ hY h0
  obtain ⟨-, k, hnm⟩ := h.nm v hv
  have hgl := hd.gb_lt
  have hsz := hW.size
  have hlt := hok.lt
  have hB := h.hB
  have e : thereL (fun m => adjS G.E v m) S.gone G.A.length = nbsS G S v := (nbs_eq G S v).symm
  have hnb : ∀ o x, W.cell? ⟨L.gb, o, none⟩ = some x → W1.cell? ⟨L.gb, o, none⟩ = some x := fun o x hc => (cell_of_block (hW.block _ hgl) o).trans hc
  have c4 : W.cell? ⟨L.gb, 4, none⟩ = some (.slice (some ⟨L.nb, 0, none⟩) G.A.length G.A.length) := hd.row.cell rfl
  have cn : W.cell? ⟨L.nb, v, none⟩ = some (.map (some (L.nm v))) := h.near.cell (get_range hv)
  have key := nb1_in n hn lp Bx Bv L v G.A.length (L.nm v) k (fun m => adjS G.E v m) S.gone (fun l X => ∃ l' : List (Fin G.A.length), l'.map Fin.val = l ∧ J l' X) (fun l X => ∃ l' : List (Fin G.A.length), l'.map Fin.val = l ∧ Jx l' X) W1
    (fun s A B row hs hg hr => by obtain ⟨l', h1, h2⟩ := hs; exact ⟨l', h1, hJ l' A B row h2 hg hr⟩)
    (fun pre x X hp hlen hxN => by
      obtain ⟨l', h1, h2⟩ := hp
      obtain ⟨fn, tmps, assign, body, hy, hR⟩ := hY l' ⟨x, hxN⟩ X h2 (by rw [← e]; have := congrArg List.length h1; simp at this; omega)
      refine ⟨fn, tmps, assign, body, hy, hR.mono ?_⟩
      rintro e W' (⟨rfl, g1, g2⟩ | ⟨rfl, g1⟩)
      · exact .inl ⟨rfl, ⟨_, by rw [List.map_append, h1]; rfl, g1⟩, g2⟩
      · exact .inr ⟨rfl, ⟨_, by rw [List.map_append, h1]; rfl, g1⟩⟩)
    ((cell_of_block (hW.block _ (lt_of_cell hx)) 0).trans hx) ((cell_of_block (hW.block _ (lt_of_cell hxv)) 0).trans hxv) hxg (fun e => hxd (Dn.of_below hgl hW e)) (hnb _ _ c4) hv (by have := hF.n; omega)
    ((cell_of_block (hW.block _ (lt_of_cell cn)) v).trans cn) (hnm.keep (hW.block _ hnm.lt)) (fun m hm => (hG.lt_of_adj hm).2.1) (hnb _ _ (hd.at_gone hv).1)
    (fun i hi => (cell_of_block (hW.block _ hd.gone.lt) i).trans (hd.at_gone hi).2.1) (Ne.symm hok.ap.2.2.1) (fun e => hd.not_ob hok (Dn.of_below hgl hW e))
    (fun b hb => by have := hd.good hok hB (Dn.of_below hgl hW hb); omega) ⟨[], rfl, h0⟩
  refine key.mono ?_
  rintro e' W' ⟨hv, (⟨ys, rfl, l', h1, h2⟩ | ⟨pre, -, l', h1, h2⟩)⟩
  · exact ⟨hv, .inl ⟨l', h1.trans e, h2⟩⟩
  · exact ⟨hv, .inr ⟨l', trivial, h2⟩⟩

/-- What the loop's own book-keeping turns is none of these. -/
def Turns (B : Nat) (W W' : World) (row : Option Nat) : Prop := W.grownBy W' row ∧ ∀ r, row = some r → B ≤ r ∧ ∃ o : Obj, W.heap[r]? = some o ∧ o.isCells = false
theorem Turns.low {B : Nat} {W' : World} {row : Option Nat} (h : Turns B W W' row) {b : Nat} (hb : b < W.heap.size) (hB : b < B) : W'.heap[b]? = W.heap[b]? :=
  h.1.block b hb (fun e => by have := (h.2 b e.symm).1; omega)
theorem Turns.row {B : Nat} {W' : World} {row : Option Nat} (h : Turns B W W' row) {b : Nat} {e : TypeId} {vs : List Value} (hr : Row W b e vs) : Row W' b e vs :=
  hr.keep (h.1.block b hr.lt (fun e => by
    obtain ⟨-, o, ho, hc⟩ := h.2 b e.symm
    unfold Row at hr
    rw [hr] at ho
    cases ho
    cases hc))
theorem Turns.owns {B base n : Nat} {W' : World} {row : Option Nat} (h : Turns B W W' row) {v : Value} {e : TypeId} {xs : List Value} (hr : W.ownsRow base e 1 v n xs) : W'.ownsRow base e 1 v n xs := by
  refine hr.kept h.1 ?_
  cases e1 : v.ownBlock with
  | none => exact .inl rfl
  | some b =>
    right
    intro e2
    obtain ⟨-, o, ho, hc⟩ := h.2 b e2.symm
    rcases hr.2 with ⟨e3, _⟩ | ⟨g, cap, cur, e3, _, hh, _⟩
    · rw [e3] at e1; cases e1
    · rw [e3] at e1; cases e1; rw [hh] at ho; cases ho; cases hc
theorem DyV.turns {B : Nat} {W' : World} {row : Option Nat} (hd : DyV L G S ov sv W) (hok : GlOk L G) (hB : L.B ≤ B) (h : Turns B W W' row) : DyV L G S ov sv W' := by
  have hlt := hok.lt
  obtain ⟨s, f, hf, r⟩ := hd.cost
  exact ⟨h.row hd.row, ⟨s, f, hf.keep (h.low hf.lt (by omega)), r⟩, h.row hd.sums, h.row hd.gone, h.owns hd.ord, h.owns hd.sf, hd.ap⟩
theorem StG.turns {B : Nat} {W' : World} {row : Option Nat} (hs : StG L G W) (hB : L.B ≤ B) (h : Turns B W W' row) : StG L G W' :=
  hs.keep h.1.size fun b hb => h.low (by have := hs.hB; have := hb.1; omega) (by have := hb.1; omega)
theorem KZ.turns {B l : Nat} {A W' : World} {row : Option Nat} (hk : KZ L l A W) (hg : L.gb < A.heap.size) (hB : A.heap.size ≤ B) (h : Turns B W W' row) : KZ L l A W' := by
  have hsz := hk.size
  have hc : ∀ o, W'.cell? ⟨L.gb, o, none⟩ = W.cell? ⟨L.gb, o, none⟩ := fun o => cell_of_block (h.low (by omega) (by omega)) o
  refine ⟨h.1.os.trans hk.os, h.1.tape.trans hk.tape, h.1.output.trans hk.output, Nat.le_trans hk.size h.1.size, fun o ho => (hc o).trans (hk.cell o ho), fun b hb h1 h2 => (h.low (by omega) (by omega)).trans (hk.block b hb h1 h2), fun b hb hD => hk.dyn b hb ?_⟩
  rcases hD with hD | ⟨o, ho, v, hv, e⟩
  · exact .inl hD
  · exact .inr ⟨o, ho, v, by rw [← hc o]; exact hv, e⟩
theorem KZ.from {B : Nat} {W' : World} (hk : KZ L 1 W W') (hd : DyV L G S ov sv W) (hok : GlOk L G) (hB : L.B ≤ B) : KeepsFrom B W W' :=
  ⟨hk.size, fun k o hk0 ho hc => hk.others hd ho hc (by have := hok.lt; omega)⟩
theorem fold_sums_bd (G : GD) (hG : OkG G) (hF : Few G) (v : Nat) (ms : List Nat) : ∀ S : CS, ∀ i, (ms.foldl (lessS G v) S).sums i ≤ S.sums i ∧ S.sums i - 60 * (ms.length : Int) ≤ (ms.foldl (lessS G v) S).sums i := by
  induction ms with
  | nil => intro S i; exact ⟨Int.le_refl _, by simp⟩
  | cons m ms ih =>
    intro S i
    rw [List.foldl_cons]
    obtain ⟨h1, h2⟩ := ih (lessS G v S m) i
    have h3 : (lessS G v S m).sums i ≤ S.sums i ∧ S.sums i - 60 ≤ (lessS G v S m).sums i := by
      unfold lessS
      rw [askS_sums]
      dsimp only
      have := Nat.le_trans (mostS_le G m v) (alw_len hG hF m)
      split
      · rename_i e; subst e; omega
      · omega
    rw [List.length_cons]
    omega
theorem lessS_len (G : GD) (v : Nat) (S : CS) (m : Nat) : (lessS G v S m).safe.length ≤ S.safe.length + 1 := by unfold lessS; exact askS_safe_len G _ m

theorem ob_len (a : Option Addr) (n m c : Nat) : (Value.slice a n c).ownBlock = (Value.slice a m c).ownBlock := by cases a <;> rfl
set_option maxRecDepth 100000 in
set_option maxHeartbeats 8000000 in
theorem take_in (h : StG L G W) (hd : DyV L G S ov sv W) (hok : GlOk L G) (hG : OkG G) (hF : Few G) {v : Nat} (hv : v < G.A.length) (hl : S.safe.length ≤ 900000) (hol : S.order.length ≤ 900000) (hbd : ∀ i, i < G.A.length → -1000000 ≤ S.sums i ∧ S.sums i ≤ 1000000) :
    CallsIn Fence.wide 8 Try.prog 31 #[.pointer (some ⟨L.gb, 0, none⟩), .int .i64 (v : Int)] W fun e w' => e = .returned (.tuple #[]) ∧ ∃ ov' sv', DyV L G (takeS G S v) ov' sv' w' ∧ KZ L 2 W w' := by
  have HH := hid_of h
  have HD := hid_of hd
  have HOK := hid_of hok
  have hgl := hd.gb_lt
  have hB := h.hB
  have HOW : Hid (∀ b, ov.ownBlock = some b → b < W.heap.size) := fun b e => (hd.ord.lt b e).2
  have HSW : Hid (∀ b, sv.ownBlock = some b → b < W.heap.size) := fun b e => (hd.sf.lt b e).2
  clear h hd hok
  refine callsIn_of_wp_marks Try.func31 rfl trivial ?_ rfl
  simp only [Try.ntmps31, List.size_toArray, List.length_cons, List.length_nil, Nat.reduceAdd, Nat.reduceSub, Array.replicate_succ, Array.replicate_zero, List.push_toArray, List.append_toArray, List.nil_append, List.cons_append]
  refine wpIn_wide.2 ?_
  go_upto_region 2 with fail
  have hb0 : BkS W ((W.alloc (.cells #[.pointer (some ⟨L.gb, 0, none⟩)] 52)).alloc (.cells #[.int .i64 (v : Int)] 3)) := bk_alloc (bk_alloc (bk_refl W) _) _
  have hr0 : Row ((W.alloc (.cells #[.pointer (some ⟨L.gb, 0, none⟩)] 52)).alloc (.cells #[.int .i64 (v : Int)] 3)) W.heap.size 52 [.pointer (some ⟨L.gb, 0, none⟩)] := heap_alloc_ne _ _ _ _ (heap_alloc_eq _ _ _ rfl)
  have hr1 : Row ((W.alloc (.cells #[.pointer (some ⟨L.gb, 0, none⟩)] 52)).alloc (.cells #[.int .i64 (v : Int)] 3)) (W.heap.size + 1) 3 [.int .i64 (v : Int)] := heap_alloc_eq _ _ _ (by simp)
  refine wp_at (fun X => BkS W X ∧ Row X W.heap.size 52 [.pointer (some ⟨L.gb, 0, none⟩)] ∧ Row X (W.heap.size + 1) 3 [.int .i64 (v : Int)]) ⟨hb0, hr0, hr1⟩ ?_
  clear hb0 hr0 hr1
  rintro X ⟨hbX, hrX, hrY⟩
  have hdX := HD.out.below hbX
  have hhX := HH.out.keep hbX.size (fun b hb => hbX.block b (by have := hb.1; omega))
  have hkX : KZ L 2 W X := KZ.of_below hgl hbX
  obtain ⟨c10, co, fo⟩ := hdX.at_gone hv
  have cx := hrX.cell (k := 0) rfl
  have cy := hrY.cell (k := 0) rfl
  obtain ⟨n, Hn⟩ : ∃ n, Hid (G.A.length = n) := ⟨_, (rfl : G.A.length = _)⟩
  rw [Hn.out] at c10
  have hvz : (v : Int) < (n : Int) := by have := Hn.out; omega
  have HDX := hid_of (fun q => hdX.drewN q)
  have HHX := hid_of (fun q => hhX.drewN q)
  have HKX := hid_of (fun q => hkX.drewN hdX q)
  have HRX := hid_of hrX
  have HRY := hid_of hrY
  have hXs := hbX.size
  clear hbX hrX hrY hdX hhX hkX HH HD
  cases hg : S.gone v with
  | true =>
    rw [hg] at co
    have HT : Hid (takeS G S v = S) := by show _ = _; unfold takeS; rw [if_pos (.inl hg)]
    clear hg
    go_quiet (fail)
    all_goals
      go_wp2_with fail
      exact ⟨_, results_none rfl _ _ _, rfl, _, _, by rw [HT.out]; exact HDX.out _, HKX.out _⟩
  | false =>
    rw [hg] at co
    have HT : Hid (takeS G S v = (nbsS G (goneS S v) v).foldl (lessS G v) (goneS S v)) := by show _ = _; unfold takeS; rw [if_neg (by rw [hg]; simp; omega)]
    clear hg
    go_quiet (fail)
    generalize hgen : X.drewN nq = X1
    have hdX := HDX.out nq
    have hhX := HHX.out nq
    have hkX := HKX.out nq
    have hrX : Row (X.drewN nq) W.heap.size 52 [.pointer (some ⟨L.gb, 0, none⟩)] := HRX.out
    have hrY : Row (X.drewN nq) (W.heap.size + 1) 3 [.int .i64 (v : Int)] := HRY.out
    have hXs1 : X.heap.size = (X.drewN nq).heap.size := rfl
    rw [hgen] at hdX hhX hkX hrX hrY hXs1
    rw [hXs1] at hXs
    clear hgen hXs1 HDX HHX HKX HRX HRY cx cy c10 co fo
    obtain ⟨c10, co, fo⟩ := hdX.at_gone hv
    rw [Hn.out] at c10
    have cx := hrX.cell (k := 0) rfl
    have cy := hrY.cell (k := 0) rfl
    go_wp2_with fail
    go_still_tail 6, (by kernel_rfl)
    change wpList _ _ _ _ _ X1.drew
    go_wp2_with fail
    have hb1 : BkS X1 X1.drew := bk_drew (bk_refl X1)
    obtain ⟨hd2, hk2⟩ := dy_gone (hdX.below hb1) HOK.out (i := v)
    have hk12 : KZ L 2 W (X1.drew.setCell ⟨L.ob, v, none⟩ (.bool true)) := (hkX.trans (KZ.of_below hdX.gb_lt hb1)).trans hk2
    have hlob := hdX.gone.lt
    have hob1 := HOK.out.lt.2.2.2
    have hrX2 : Row (X1.drew.setCell ⟨L.ob, v, none⟩ (.bool true)) W.heap.size 52 [.pointer (some ⟨L.gb, 0, none⟩)] := hrX.other (by show _ ≠ L.ob; omega) _
    have hrY2 : Row (X1.drew.setCell ⟨L.ob, v, none⟩ (.bool true)) (W.heap.size + 1) 3 [.int .i64 (v : Int)] := hrY.other (by show _ ≠ L.ob; omega) _
    have hh2 := (hhX.keep (W' := X1.drew) (Nat.le_refl _) (fun _ _ => rfl)).step (hdX.below hb1) hk2
    have hXs2 : W.heap.size + 1 < (X1.drew.setCell ⟨L.ob, v, none⟩ (.bool true)).heap.size := hrY2.lt
    clear hb1 hdX hk2 hkX hlob hrX hrY hhX hXs cx cy c10 co fo
    go_upto_region 4 with fail
    refine wp_at (fun X => DyV L G { S with gone := fun u => if u = v then true else S.gone u } ov sv X ∧ KZ L 2 W X ∧ Row X W.heap.size 52 [.pointer (some ⟨L.gb, 0, none⟩)] ∧ Row X (W.heap.size + 1) 3 [.int .i64 (v : Int)] ∧ StG L G X ∧ W.heap.size + 1 < X.heap.size) ⟨hd2, hk12, hrX2, hrY2, hh2, hXs2⟩ ?_
    clear hd2 hk12 hrX2 hrY2 hh2 hXs2
    rintro X2 ⟨hd2, hk2, hrX, hrY, hh2, hXs⟩
    have c11 := hd2.c11
    have f11 := hd2.row.frozen 11
    have cx := hrX.cell (k := 0) rfl
    have cy := hrY.cell (k := 0) rfl
    have hord : X2.ownsRow L.B 3 1 ov S.order.length (ints (S.order.map fun (m : Nat) => (m : Int))) := by rw [← nts_ints]; exact hd2.ord
    have hB2 : L.B ≤ X2.heap.size := hh2.hB
    obtain ⟨va, vc, rfl, -⟩ := owns_slice hord
    obtain ⟨i0, hi0, hz0, hz1, hz2⟩ := info_parts infoInt
    obtain ⟨m, Hm⟩ : ∃ m, Hid (S.order.length = m) := ⟨_, (rfl : S.order.length = _)⟩
    have hm9 : m ≤ 900000 := by rw [← Hm.out]; exact hol
    have hT : ∀ gg cap w1, w1.ownsRow L.B 3 1 (.slice (some ⟨gg, 0, none⟩) (m + 1) cap) (m + 1) (ints (S.order.map fun (m : Nat) => (m : Int)) ++ [.int .i64 (v : Int)]) → ((X2.alloc (.cells #[.int .i64 (v : Int)] 3)).drew).grownBy w1 (Value.slice va m vc).ownBlock → ((Value.slice va m vc).ownBlock = some gg ∨ gg = X2.heap.size + 1) →
        w1.cell? ⟨W.heap.size, 0, none⟩ = some (.pointer (some ⟨L.gb, 0, none⟩)) ∧ w1.cell? ⟨L.gb, 11, none⟩ = some (.slice va m vc) ∧ w1.frozen? ⟨L.gb, 11, none⟩ = false ∧ Hid (DyV L G (goneS S v) (.slice (some ⟨gg, 0, none⟩) (m + 1) cap) sv (w1.setCell ⟨L.gb, 11, none⟩ (.slice (some ⟨gg, 0, none⟩) (m + 1) cap)) ∧ KZ L 2 W (w1.setCell ⟨L.gb, 11, none⟩ (.slice (some ⟨gg, 0, none⟩) (m + 1) cap)) ∧
          Row (w1.setCell ⟨L.gb, 11, none⟩ (.slice (some ⟨gg, 0, none⟩) (m + 1) cap)) W.heap.size 52 [.pointer (some ⟨L.gb, 0, none⟩)] ∧ Row (w1.setCell ⟨L.gb, 11, none⟩ (.slice (some ⟨gg, 0, none⟩) (m + 1) cap)) (W.heap.size + 1) 3 [.int .i64 (v : Int)] ∧ StG L G (w1.setCell ⟨L.gb, 11, none⟩ (.slice (some ⟨gg, 0, none⟩) (m + 1) cap))) := by
      have hS2 := hid_of hd2
      intro gg cap w1 ho hg hat
      have g1 : X2.grownBy w1 (Value.slice va m vc).ownBlock := grown_trans (grown_trans (World.grownBy_alloc X2 _ _) (⟨rfl, rfl, rfl, Nat.le_refl _, fun _ _ _ => rfl⟩ : World.grownBy (X2.alloc (.cells #[.int .i64 (v : Int)] 3)) (X2.alloc (.cells #[.int .i64 (v : Int)] 3)).drew _)) hg
      rw [Hm.out] at hd2
      have hlow := low_of' hd2 g1 hB2
      have hgb := HOK.out.lt.1
      have hfin := dy_ord (x := v) (v' := .slice (some ⟨gg, 0, none⟩) (m + 1) cap) hd2 HOK.out hB2 (by
        have e : nts (S.order ++ [v]) = ints (S.order.map fun (m : Nat) => (m : Int)) ++ [.int .i64 (v : Int)] := by simp [nts, ints]
        show World.ownsRow _ _ _ _ _ (S.order ++ [v]).length (nts (S.order ++ [v]))
        rw [e, List.length_append, Hm.out]
        exact ho) g1 (by
        rcases hat with e | e
        · exact .inl e.symm
        · exact .inr ⟨gg, rfl, by omega⟩)
      refine ⟨(hrX.keep (g1.block _ (by omega) (fun e => by have := HOW.out _ ((ob_len va S.order.length m vc).trans e.symm); omega))).cell (k := 0) rfl, (cell_of_block (hlow _ hgb) 11).trans (by rw [Hm.out] at c11; exact c11), (World.frozen?_of_block (a := ⟨L.gb, 11, none⟩) (hlow _ hgb)).trans f11, hfin.1, hk2.trans hfin.2, ?_, ?_, hh2.step hd2 hfin.2⟩
      · exact (hrX.keep (g1.block _ (by omega) (fun e => by have := HOW.out _ ((ob_len va S.order.length m vc).trans e.symm); omega))).other (by show W.heap.size ≠ L.gb; omega) _
      · exact (hrY.keep (g1.block _ (by omega) (fun e => by have := HOW.out _ ((ob_len va S.order.length m vc).trans e.symm); omega))).other (by show W.heap.size + 1 ≠ L.gb; omega) _
    rw [Hm.out] at c11 hord
    have l1 := hd2.gb_lt
    have l2 := hrX.lt
    clear hd2 hk2 hrX hrY hh2
    go_cut [] from 18 to 28 (fun wx => ∃ gg cap, Hid (DyV L G (goneS S v) (.slice (some ⟨gg, 0, none⟩) (m + 1) cap) sv wx ∧ KZ L 2 W wx ∧ Row wx W.heap.size 52 [.pointer (some ⟨L.gb, 0, none⟩)] ∧ Row wx (W.heap.size + 1) 3 [.int .i64 (v : Int)] ∧ StG L G wx))
    case first =>
     refine wp_noPan ?_
     go_region_law (first | refine step_append_lies _ (by rfl) _ _ _ (by rfl) L.B 3 i0 _ 1 8 Try.underlying31 hi0 hz0 hz1 hz2 rfl (by omega) (.slice va m vc) m (ints (S.order.map fun (m : Nat) => (m : Int))) (by rfl) ((hord.alloc _).drew) ⟨X2.heap.size, 0, none⟩ 1 1 [.int .i64 (v : Int)] (by rfl) (by rfl) (World.news_of_block (cs := #[.int .i64 (v : Int)]) (t := 3) (fr := (0, 0)) (heap_alloc_new X2 _)) (by simp [Value.oneCell']) (by omega) (by unfold maxLen; omega) (by omega) (by simp; omega) (X2.heap.size + 1) (by simp) ?_; intro gg cap w1 hown1 hgrow hat hlt; obtain ⟨cx', c11', f11', HFI⟩ := hT _ _ _ hown1 hgrow hat)
     all_goals (simp only [noPan])
     all_goals (try go_wp2_with fail)
     all_goals go_meet
     all_goals exact ⟨_, _, HFI⟩
    case rest =>
      obtain ⟨gg, cap, HW5⟩ := hcut
      obtain ⟨hd5, hk5, hrX5, hrY5, hh5⟩ := HW5.out
      have cx5 := hrX5.cell (k := 0) rfl
      have cy5 := hrY5.cell (k := 0) rfl
      clear hT c11 f11 cx cy hord l1 l2 HW5
      go_wp2_with fail
      refine (callsIn_wide.1 (nb_in 8 L.gb v wc)).mono ?_
      rintro e w6 ⟨rfl, rfl⟩
      go_wp2_with fail
      refine (wpIn_wide (n := 8)).1 ?_
      gi_wp2
      have hb6 : BkS wc ((wc.alloc (.cells #[.pointer (some ⟨L.gb, 0, none⟩)] 52)).alloc (.cells #[.int .i64 (v : Int)] 3)) := bk_alloc (bk_alloc (bk_refl wc) _) _
      have cX6 : ((wc.alloc (.cells #[.pointer (some ⟨L.gb, 0, none⟩)] 52)).alloc (.cells #[.int .i64 (v : Int)] 3)).cell? ⟨wc.heap.size, 0, none⟩ = some (.pointer (some ⟨L.gb, 0, none⟩)) := cell_of_one (heap_alloc_ne _ _ _ _ (heap_alloc_eq wc _ _ rfl))
      have cV6 : ((wc.alloc (.cells #[.pointer (some ⟨L.gb, 0, none⟩)] 52)).alloc (.cells #[.int .i64 (v : Int)] 3)).cell? ⟨wc.heap.size + 1, 0, none⟩ = some (.int .i64 (v : Int)) := cell_of_one (heap_alloc_eq _ _ _ (by simp))
      generalize (wc.alloc (.cells #[.pointer (some ⟨L.gb, 0, none⟩)] 52)).alloc (.cells #[.int .i64 (v : Int)] 3) = W0 at *
      have hd6 := hd5.below hb6
      have hh6 := hh5.keep hb6.size (fun b hb => hb6.block b (by have := hb.1; have := hh5.hB; omega))
      have hrX6 := hrX5.keep (hb6.block _ hrX5.lt)
      have hrY6 := hrY5.keep (hb6.block _ hrY5.lt)
      have hk6 : KZ L 2 W W0 := hk5.trans (KZ.of_below hd5.gb_lt hb6)
      have hwc := hrY5.lt
      have h06 := hb6.size
      have hlt := HOK.out.lt
      have hnd : ∀ b, W.heap.size ≤ b → ¬ Dn L 1 W0 b := fun b hb => by
        rw [hd6.dn]
        rintro ((e | e | e) | e | e)
        · omega
        · omega
        · omega
        · have := HSW.out _ e.2; omega
        · omega
      have HND := hid_of hnd
      have HD6 := hid_of hd6
      have HK6 := hid_of hk6
      have HRX6 := hid_of hrX6
      have HRY6 := hid_of hrY6
      have HBD := hid_of hbd
      have H60 := hid_of (fold_sums_bd G hG hF v)
      have hstops := nbs_stops 7 (by omega) wc.heap.size (wc.heap.size + 1) hh6 hd6 HOK.out hG hF hv cX6 cV6 (by have := hd5.gb_lt; omega) (hnd _ (by omega))
      have hnlen : (nbsS G (goneS S v) v).length ≤ 100 := Nat.le_trans (nbs_len G (goneS S v) v) hF.n
      have HI0 : Hid (StG L G W0 ∧ (∃ sv', DyV L G ((([] : List (Fin G.A.length)).map Fin.val).foldl (lessS G v) (goneS S v)) (.slice (some ⟨gg, 0, none⟩) (m + 1) cap) sv' W0) ∧ KZ L 1 W0 W0) := ⟨hh6, ⟨_, hd6⟩, KZ.refl L 1 W0⟩
      clear hd5 hh5 hrX5 hrY5 hk5 cx5 cy5 hd6 hh6 hrX6 hrY6 hk6 hnd cX6 cV6 hbd hb6
      refine wpIn_rangeFunc_ownG (w := W0) rfl (by omega) (gf := 51) (lb := #[.pointer (some ⟨wc.heap.size, 0, none⟩), .pointer (some ⟨wc.heap.size + 1, 0, none⟩)]) rfl trivial (enters_of Try.func51 (by kernel_rfl) rfl)
        hstops KN.trans (fun X l o o' hl ho hc _ => KN.putObj (by omega) ho hc) (Below.refl _ _) (fun _ => rfl)
        (fun pre X => Hid (StG L G X ∧ (∃ sv', DyV L G ((pre.map Fin.val).foldl (lessS G v) (goneS S v)) (.slice (some ⟨gg, 0, none⟩) (m + 1) cap) sv' X) ∧ KZ L 1 W0 X))
        (fun _ _ _ => False)
        (fun pre X X' row hs hg hr => ⟨hs.1.turns (by omega) ⟨hg, hr⟩, hs.2.1.imp fun sv' h => h.turns HOK.out (by omega) ⟨hg, hr⟩, hs.2.2.turns HD6.out.gb_lt (Nat.le_refl _) ⟨hg, hr⟩⟩)
        (fun _ _ _ _ _ hs _ _ => hs)
        HI0
        (fun x => { tmps := #[.pointer (some ⟨L.gb, 0, none⟩), .int .i64 (v : Int), .pointer (some ⟨W.heap.size, 0, none⟩), .pointer (some ⟨W.heap.size + 1, 0, none⟩), .int .i64 ((x.1 : Nat) : Int), .pointer (some ⟨L.gb, 0, none⟩), .pointer (some ⟨L.gb, 0, none⟩), .pointer (some ⟨L.gb, 10, none⟩), .slice (some ⟨L.ob, 0, none⟩) n n, .int .i64 (v : Int), .pointer (some ⟨L.ob, v, none⟩), .bool false, .pointer (some ⟨L.gb, 0, none⟩), .pointer (some ⟨L.gb, 0, none⟩), .pointer (some ⟨L.gb, 10, none⟩), .slice (some ⟨L.ob, 0, none⟩) n n, .int .i64 (v : Int), .pointer (some ⟨L.ob, v, none⟩), u18, u19, u20, u21, u22, u23, u24, u25, u26, u27, .pointer (some ⟨L.gb, 0, none⟩), .int .i64 (v : Int), .func (.func 51) #[] #[.pointer (some ⟨wc.heap.size, 0, none⟩), .pointer (some ⟨wc.heap.size + 1, 0, none⟩)], .int .i64 ((x.1 : Nat) : Int), undef, undef, undef, undef, undef, undef, undef, undef, undef, undef, undef, undef, undef, undef, undef, undef], defers := [] }) ?assign ?body ?done ?stop
      case assign =>
        intro lp x X K hK
        gi_wp2
        exact hK
      case body =>
        rintro lp pre ⟨x, hxn⟩ X HI hlen
        obtain ⟨hhX, ⟨sv', hdX⟩, hkX⟩ := HI.out
        have hrX := HRX6.out.keep (hkX.block _ (by omega) (by omega) (HND.out _ (by omega)))
        have hrY := HRY6.out.keep (hkX.block _ (by omega) (by omega) (HND.out _ (by omega)))
        have cx := hrX.cell (k := 0) rfl
        have cy := hrY.cell (k := 0) rfl
        obtain ⟨c9, cu, fu⟩ := hdX.at_sum hxn
        have hb1 : BkS X X.drew := bk_drew (bk_refl X)
        have HDX := hid_of (hdX.below hb1)
        have HDXX := hid_of hdX
        have HHX : Hid (StG L G X.drew) := hhX.keep (Nat.le_refl _) (fun _ _ => rfl)
        rw [Hn.out] at c9
        have hxz : (x : Int) < (n : Int) := by have := Hn.out; omega
        have HM := hid_of (most_s HHX.out HDX.out HOK.out hG hF hxn hv)
        have hsum := H60.out (pre.map Fin.val) (goneS S v) x
        have hsb := HBD.out x hxn
        rw [List.length_map] at hsum
        have hsum' : -2000000 ≤ ((pre.map Fin.val).foldl (lessS G v) (goneS S v)).sums x ∧ ((pre.map Fin.val).foldl (lessS G v) (goneS S v)).sums x ≤ 2000000 := by
          have e : (goneS S v).sums x = S.sums x := rfl
          rw [e] at hsum
          omega
        obtain ⟨T, HT2⟩ : ∃ T, Hid ((pre.map Fin.val).foldl (lessS G v) (goneS S v) = T) := ⟨_, (rfl : (pre.map Fin.val).foldl (lessS G v) (goneS S v) = _)⟩
        obtain ⟨su, HSu⟩ : ∃ s, Hid (T.sums x = s) := ⟨_, (rfl : T.sums x = _)⟩
        obtain ⟨ms, HMs⟩ : ∃ s, Hid (mostS G x v = s) := ⟨_, (rfl : mostS G x v = _)⟩
        have hms : ms ≤ 60 := by rw [← HMs.out]; exact Nat.le_trans (mostS_le G x v) (alw_len hG hF x)
        rw [HT2.out] at cu HM hsum'
        rw [HSu.out] at cu hsum'
        rw [HMs.out] at HM
        clear hsum hsb hdX hhX hb1 hrX hrY
        gi_wp2
        have hM2 : Calls Try.prog 39 #[.pointer (some ⟨L.gb, 0, none⟩), .int .i64 (x : Int), .int .i64 (v : Int)] X.drew fun e w' => e = .returned (.int .i64 (ms : Int)) ∧ Hid (DyV L G T (.slice (some ⟨gg, 0, none⟩) (m + 1) cap) sv' w' ∧ KZ L 0 X.drew w') ∧
            w'.cell? ⟨L.gb, 9, none⟩ = some (.slice (some ⟨L.ub, 0, none⟩) n n) ∧ w'.cell? ⟨L.ub, x, none⟩ = some (.int .i64 su) ∧ w'.frozen? ⟨L.ub, x, none⟩ = false ∧ w'.cell? ⟨W.heap.size, 0, none⟩ = some (.pointer (some ⟨L.gb, 0, none⟩)) ∧ w'.cell? ⟨W.heap.size + 1, 0, none⟩ = some (.int .i64 (v : Int)) := HM.out.mono (by
          rintro e w' ⟨rfl, h1, h2⟩
          obtain ⟨g1, g2, g3⟩ := h1.at_sum hxn
          rw [Hn.out] at g1
          rw [HSu.out] at g2
          have hbx : ∀ b, W.heap.size ≤ b → ¬ Dn L 0 X.drew b := by
            rintro b hb (e | ⟨o, ho, -⟩)
            · unfold Gl.F at e; omega
            · unfold Ofs at ho; omega
          exact ⟨rfl, ⟨h1, h2⟩, g1, g2, g3, (cell_of_block (h2.block W.heap.size (lt_of_cell cx) (by omega) (hbx _ (by omega))) 0).trans cx, (cell_of_block (h2.block (W.heap.size + 1) (lt_of_cell cy) (by omega) (hbx _ (by omega))) 0).trans cy⟩)
        have hSt : ∀ Y : World, Y.cell? ⟨W.heap.size, 0, none⟩ = some (.pointer (some ⟨L.gb, 0, none⟩)) → Y.cell? ⟨W.heap.size + 1, 0, none⟩ = some (.int .i64 (v : Int)) → Y.cell? ⟨L.gb, 9, none⟩ = some (.slice (some ⟨L.ub, 0, none⟩) n n) → ∀ u : Value,
            ((Y.setCell ⟨L.ub, x, none⟩ u).cell? ⟨W.heap.size, 0, none⟩ = some (.pointer (some ⟨L.gb, 0, none⟩)) ∧ (Y.setCell ⟨L.ub, x, none⟩ u).cell? ⟨W.heap.size + 1, 0, none⟩ = some (.int .i64 (v : Int)) ∧ (Y.setCell ⟨L.ub, x, none⟩ u).cell? ⟨L.gb, 9, none⟩ = some (.slice (some ⟨L.ub, 0, none⟩) n n)) := by
          intro Y y1 y2 y3 u
          have hap := HOK.out.ap.2.1
          exact ⟨(World.cell?_setCell_far _ _ _ _ (by show L.ub ≠ W.heap.size; omega)).trans y1, (World.cell?_setCell_far _ _ _ _ (by show L.ub ≠ W.heap.size + 1; omega)).trans y2, (World.cell?_setCell_far _ _ _ _ (by show L.ub ≠ L.gb; exact Ne.symm hap)).trans y3⟩
        have hpl : pre.length ≤ 100 := by omega
        have hTl : T.safe.length ≤ 999000 := by
          rw [← HT2.out]
          have := fold_safe_len G v (pre.map Fin.val) (goneS S v)
          rw [List.length_map] at this
          have e : (goneS S v).safe = S.safe := rfl
          rw [e] at this
          omega
        have HKX := hid_of hkX
        have HBod : Hid (∀ (s0 : Value) (Y : World), DyV L G T (.slice (some ⟨gg, 0, none⟩) (m + 1) cap) s0 Y ∧ KZ L 0 X.drew Y → Calls Try.prog 40 #[.pointer (some ⟨L.gb, 0, none⟩), .int .i64 (x : Int)] (Y.setCell ⟨L.ub, x, none⟩ (.int .i64 (su - (ms : Int)))) fun e w' => e = .returned (.tuple #[]) ∧
            Hid (KeepsFrom W0.heap.size X w' ∧ KN L X w' ∧ Hid (StG L G w' ∧ (∃ sv', DyV L G (((pre ++ [(⟨x, hxn⟩ : Fin G.A.length)]).map Fin.val).foldl (lessS G v) (goneS S v)) (.slice (some ⟨gg, 0, none⟩) (m + 1) cap) sv' w') ∧ KZ L 1 W0 w'))) := by
          rintro s0 Y ⟨h1, h2⟩
          obtain ⟨h3, h4⟩ := dy_sum h1 HOK.out (i := x) (su - (ms : Int))
          have hXX : KZ L 1 X X.drew := KZ.of_below HDX.out.gb_lt (bk_drew (bk_refl X))
          have k4 : KZ L 1 X (Y.setCell ⟨L.ub, x, none⟩ (.int .i64 (su - (ms : Int)))) := (hXX.trans (h2.mono (by omega))).trans h4
          have s4 : StG L G (Y.setCell ⟨L.ub, x, none⟩ (.int .i64 (su - (ms : Int)))) := (HHX.out.step HDX.out h2).step h1 h4
          refine (ask_s s4 h3 HOK.out hxn (by show T.safe.length ≤ _; omega)).mono ?_
          rintro e w' ⟨rfl, s5, h5, h6⟩
          have k5 := k4.trans h6
          refine ⟨rfl, k5.from HDXX.out HOK.out (by omega), KN.of_kz k5, s4.step h3 h6, ⟨s5, ?_⟩, HKX.out.trans k5⟩
          rw [List.map_append, List.foldl_append, HT2.out]
          show DyV L G (lessS G v T x) _ _ _
          have e : lessS G v T x = askS G { T with sums := fun u => if u = x then su - (ms : Int) else T.sums u } x := by unfold lessS; rw [HSu.out, HMs.out]
          rw [e]
          exact h5
        clear hkX hTl
        have hS0 : (X.drew.cell? ⟨W.heap.size, 0, none⟩ = some (.pointer (some ⟨L.gb, 0, none⟩)) ∧ X.drew.cell? ⟨W.heap.size + 1, 0, none⟩ = some (.int .i64 (v : Int)) ∧ X.drew.cell? ⟨L.gb, 9, none⟩ = some (.slice (some ⟨L.ub, 0, none⟩) n n)) := ⟨cx, cy, c9⟩
        refine round_held (S := fun Y => (Y.cell? ⟨W.heap.size, 0, none⟩ = some (.pointer (some ⟨L.gb, 0, none⟩)) ∧ Y.cell? ⟨W.heap.size + 1, 0, none⟩ = some (.int .i64 (v : Int)) ∧ Y.cell? ⟨L.gb, 9, none⟩ = some (.slice (some ⟨L.ub, 0, none⟩) n n))) (by kernel_rfl) (fun i o ho c => noDefer_spec (by kernel_rfl) i o ho c) (fun ⟨_, _, h⟩ => h) hS0 (fun hHeld => ?_)
        refine wpAnyH_take (i := 0) (v := ?_) rfl (by kernel_rfl) (by kernel_rfl) (by kernel_rfl) (fun _ _ _ h => h) (Or.inl ⟨by rfl, ?_⟩) (by assumption) ?_
        rotate_left
        · intro w hSw; (try dsimp only at hSw); go_simp; all_goals (with_reducible rfl)
        refine wpAnyH_take (i := 1) (v := ?_) rfl (by kernel_rfl) (by kernel_rfl) (by kernel_rfl) (fun _ _ _ h => h) (Or.inl ⟨by rfl, ?_⟩) (by assumption) ?_
        rotate_left
        · intro w hSw; (try dsimp only at hSw); go_simp; all_goals (with_reducible rfl)
        refine wpAnyH_take (i := 2) (v := ?_) rfl (by kernel_rfl) (by kernel_rfl) (by kernel_rfl) (fun _ _ _ h => h) (Or.inl ⟨by rfl, ?_⟩) (by assumption) ?_
        rotate_left
        · intro w hSw; (try dsimp only at hSw); go_simp; all_goals (with_reducible rfl)
        refine wpAnyH_take (i := 3) (v := ?_) rfl (by kernel_rfl) (by kernel_rfl) (by kernel_rfl) (fun _ _ _ h => h) (Or.inl ⟨by rfl, ?_⟩) (by assumption) ?_
        rotate_left
        · intro w hSw; (try dsimp only at hSw); go_simp; all_goals (with_reducible rfl)
        refine wpAnyH_take (i := 4) (v := ?_) rfl (by kernel_rfl) (by kernel_rfl) (by kernel_rfl) (fun _ _ _ h => h) (Or.inl ⟨by rfl, ?_⟩) (by assumption) ?_
        rotate_left
        · intro w hSw; (try dsimp only at hSw); go_simp; all_goals (with_reducible rfl)
        refine wpAnyH_take (i := 5) (v := ?_) rfl (by kernel_rfl) (by kernel_rfl) (by kernel_rfl) (fun _ _ _ h => h) (Or.inl ⟨by rfl, ?_⟩) (by assumption) ?_
        rotate_left
        · intro w hSw; (try dsimp only at hSw); go_simp; all_goals (with_reducible rfl)
        refine wpAnyH_take (i := 7) (v := ?_) rfl (by kernel_rfl) (by kernel_rfl) (by kernel_rfl) (fun _ _ _ h => h) (Or.inl ⟨by rfl, ?_⟩) (by assumption) ?_
        rotate_left
        · intro w hSw; (try dsimp only at hSw); go_simp; all_goals (with_reducible rfl)
        refine wpAnyH_take (i := 8) (v := ?_) rfl (by kernel_rfl) (by kernel_rfl) (by kernel_rfl) (fun _ _ _ h => h) (Or.inl ⟨by rfl, ?_⟩) (by assumption) ?_
        rotate_left
        · intro w hSw; (try dsimp only at hSw); go_simp; all_goals (with_reducible rfl)
        refine wpAnyH_take (i := 9) (v := ?_) rfl (by kernel_rfl) (by kernel_rfl) (by kernel_rfl) (fun _ _ _ h => h) (Or.inl ⟨by rfl, ?_⟩) (by assumption) ?_
        rotate_left
        · intro w hSw; (try dsimp only at hSw); go_simp; all_goals (with_reducible rfl)
        try simp only [Act.put, List.setIfInBounds_toArray]
        refine wpAnyH_ready (rs := [6, 10]) (by kernel_rfl) (by simp) ?_
        refine AllReadyH.cons rfl (fun K hK => ?_) (AllReadyH.cons rfl (fun K hK => ?_) AllReadyH.nil)
        · skip
          go_simp
          refine hK.out _ _ (hS0) (fun hHeld => ?_)
          clear hK K
          try simp only [Act.put, List.setIfInBounds_toArray, List.set_cons_zero, List.set_cons_succ]
          refine wpAnyH_ready (rs := [10]) (by kernel_rfl) (by simp) ?_
          refine AllReadyH.cons rfl (fun K hK => ?_) AllReadyH.nil
          go_simp
          (go_at_call 39; refine hM2.mono ?_; rintro e X3 ⟨rfl, HF3, k9, ku, kf, kx, ky⟩; go_wp2_with fail)
          refine hK.out _ _ (⟨kx, ky, k9⟩) (fun hHeld => ?_)
          clear hK K
          try simp only [Act.put, List.setIfInBounds_toArray, List.set_cons_zero, List.set_cons_succ]
          refine wpAnyH_take (i := 11) (v := ?_) rfl (by kernel_rfl) (by kernel_rfl) (by kernel_rfl) (fun _ _ _ h => h) (Or.inl ⟨by rfl, ?_⟩) (by assumption) ?_
          rotate_left
          · intro w hSw; (try dsimp only at hSw); go_simp; all_goals (with_reducible rfl)
          refine wpAnyH_take (i := 12) (v := ?_) rfl (by kernel_rfl) (by kernel_rfl) (by kernel_rfl) (fun _ _ _ h => h) (Or.inl ⟨by rfl, ?_⟩) (by assumption) ?_
          rotate_left
          · intro w hSw; (try dsimp only at hSw); go_simp; all_goals (with_reducible rfl)
          have hS4 := hSt X3 kx ky k9
          refine wpAnyH_ready (rs := [13]) (by kernel_rfl) (by simp) ?_
          refine AllReadyH.cons rfl (fun K hK => ?_) AllReadyH.nil
          go_simp
          refine hK.out _ _ (hS4 _) (fun hHeld => ?_)
          clear hK K
          try simp only [Act.put, List.setIfInBounds_toArray, List.set_cons_zero, List.set_cons_succ]
          refine wpAnyH_done (by kernel_rfl) ?_ _
          have HB4 := HBod.out sv' X3 HF3.out
          clear HF3 k9 ku kf kx ky
          have kx4 := (hS4 (.int .i64 (su - (ms : Int)))).1
          gi_wp2
          refine ⟨trivial, CallsIn.mono ((callsIn_wide (n := 5)).2 HB4) ?_⟩
          rintro e X5 ⟨rfl, HF5⟩
          gi_wp2
          exact ⟨HF5.out.1, HF5.out.2.1, HF5.out.2.2⟩
        · skip
          go_simp
          (go_at_call 39; refine hM2.mono ?_; rintro e X3 ⟨rfl, HF3, k9, ku, kf, kx, ky⟩; go_wp2_with fail)
          refine hK.out _ _ (⟨kx, ky, k9⟩) (fun hHeld => ?_)
          clear hK K
          try simp only [Act.put, List.setIfInBounds_toArray, List.set_cons_zero, List.set_cons_succ]
          refine wpAnyH_ready (rs := [6]) (by kernel_rfl) (by simp) ?_
          refine AllReadyH.cons rfl (fun K hK => ?_) AllReadyH.nil
          go_simp
          refine hK.out _ _ (⟨kx, ky, k9⟩) (fun hHeld => ?_)
          clear hK K
          try simp only [Act.put, List.setIfInBounds_toArray, List.set_cons_zero, List.set_cons_succ]
          refine wpAnyH_take (i := 11) (v := ?_) rfl (by kernel_rfl) (by kernel_rfl) (by kernel_rfl) (fun _ _ _ h => h) (Or.inl ⟨by rfl, ?_⟩) (by assumption) ?_
          rotate_left
          · intro w hSw; (try dsimp only at hSw); go_simp; all_goals (with_reducible rfl)
          refine wpAnyH_take (i := 12) (v := ?_) rfl (by kernel_rfl) (by kernel_rfl) (by kernel_rfl) (fun _ _ _ h => h) (Or.inl ⟨by rfl, ?_⟩) (by assumption) ?_
          rotate_left
          · intro w hSw; (try dsimp only at hSw); go_simp; all_goals (with_reducible rfl)
          have hS4 := hSt X3 kx ky k9
          refine wpAnyH_ready (rs := [13]) (by kernel_rfl) (by simp) ?_
          refine AllReadyH.cons rfl (fun K hK => ?_) AllReadyH.nil
          go_simp
          refine hK.out _ _ (hS4 _) (fun hHeld => ?_)
          clear hK K
          try simp only [Act.put, List.setIfInBounds_toArray, List.set_cons_zero, List.set_cons_succ]
          refine wpAnyH_done (by kernel_rfl) ?_ _
          have HB4 := HBod.out sv' X3 HF3.out
          clear HF3 k9 ku kf kx ky
          have kx4 := (hS4 (.int .i64 (su - (ms : Int)))).1
          gi_wp2
          refine ⟨trivial, CallsIn.mono ((callsIn_wide (n := 5)).2 HB4) ?_⟩
          rintro e X5 ⟨rfl, HF5⟩
          gi_wp2
          exact ⟨HF5.out.1, HF5.out.2.1, HF5.out.2.2⟩
      case done =>
        rintro D xs Wd hD hxs HI hK
        obtain ⟨-, ⟨sv', hdx⟩, hkx⟩ := HI.out
        have hxs : xs.map Fin.val = nbsS G (goneS S v) v := hxs
        rw [hxs, ← HT.out] at hdx
        have hkx2 := HK6.out.trans (hkx.mono (by omega))
        have hlx := hkx.size
        gi_wp2
        refine ⟨by simp, .inl ⟨_, _, rfl, run_takeDeferred hK, ?_⟩⟩
        have htn : ∀ o', Turns W0.heap.size Wd (Wd.putObj D o') (some D) := fun o' => ⟨grownBy_putObj' _ _ _, fun r e => by cases e; exact ⟨hD, _, hK, rfl⟩⟩
        exact ⟨_, results_none rfl _ _ _, rfl, _, sv', hdx.turns HOK.out (by omega) (htn _), hkx2.turns hgl (by omega) (htn _)⟩
      case stop =>
        rintro D c pre W _ _ h _
        exact h.elim
end
end Go.Proofs.Ytinbfnabngdemaa
