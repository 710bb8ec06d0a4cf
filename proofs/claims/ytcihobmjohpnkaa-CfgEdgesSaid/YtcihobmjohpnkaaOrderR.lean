/- The reference's 'down' and 'Order'. -/
import Derived.Test.YtcihobmjohpnkaaSuccsR
import Derived.Test.YtcihobmjohpnkaaDfs
namespace Go.Proofs.Ytcihobmjohpnkaa
open Go.RowKit Go.Sort

/-- What the walk down holds: what has been seen (block B), the object (block B + 1), what has been told. -/
structure RefInv (B n : Nat) (lv : Value) (l : List (List InsD)) (ov : Value) (seen : List Bool) (out : List Int) (W : World) : Prop where
  blocks : IsBlocks (· < B) W lv l
  seenB : Row W B 4 (bools seen)
  obj : Row W (B + 1) 74 [lv, .slice (some ⟨B, 0, none⟩) n n, ov]
  outR : W.ownsRow (B + 2) 3 1 ov out.length (ints out)
  len : seen.length = n
/-- What it leaves alone. -/
structure RefMoves (B : Nat) (ov ov' : Value) (w w' : World) : Prop where
  os : w'.os = w.os
  tape : w'.tape = w.tape
  output : w'.output = w.output
  size : w.heap.size ≤ w'.heap.size
  keep : ∀ k, k < w.heap.size → k ≠ B → k ≠ B + 1 → ov.ownBlock ≠ some k → w'.heap[k]? = w.heap[k]?
  own : ∀ k, ov'.ownBlock = some k → ov.ownBlock = some k ∨ w.heap.size ≤ k
def pOf (B : Nat) (ov : Value) (k : Nat) : Prop := k ≠ B ∧ k ≠ B + 1 ∧ ov.ownBlock ≠ some k
theorem RefMoves.refl (B : Nat) (ov : Value) (w : World) : RefMoves B ov ov w w := ⟨rfl, rfl, rfl, Nat.le_refl _, fun _ _ _ _ _ => rfl, fun _ h => .inl h⟩
theorem RefMoves.trans {B : Nat} {a b c : Value} {u v w : World} (h : RefMoves B a b u v) (k : RefMoves B b c v w) : RefMoves B a c u w := by
  refine ⟨k.os.trans h.os, k.tape.trans h.tape, k.output.trans h.output, Nat.le_trans h.size k.size, fun i hi h1 h2 h3 => ?_, fun i hi => ?_⟩
  · refine (k.keep i (Nat.lt_of_lt_of_le hi h.size) h1 h2 (fun e => ?_)).trans (h.keep i hi h1 h2 h3)
    rcases h.own i e with e' | e'
    · exact h3 e'
    · omega
  · rcases k.own i hi with e | e
    · exact h.own i e
    · exact .inr (Nat.le_trans h.size e)
theorem RefMoves.keeps {B : Nat} {a b : Value} {u v : World} (h : RefMoves B a b u v) : Keep (pOf B a) (pOf B b) u v := fun k hp hk =>
  ⟨⟨hp.1, hp.2.1, fun e => (h.own k e).elim hp.2.2 (fun e' => by omega)⟩, h.keep k hk hp.1 hp.2.1 hp.2.2⟩
theorem RefMoves.below {B : Nat} {a b : Value} {u v : World} (h : RefMoves B a b u v) (ha : ∀ k, a.ownBlock = some k → B ≤ k) (hB : B ≤ u.heap.size) : Below B u v :=
  ⟨h.os, h.tape, h.output, h.size, fun k hk => h.keep k (by omega) (by omega) (by omega) (fun e => by have := ha k e; omega)⟩
theorem RefMoves.of_below {B : Nat} {a : Value} {u v : World} (h : Below u.heap.size u v) : RefMoves B a a u v := ⟨h.os, h.tape, h.output, h.size, fun k hk _ _ _ => h.block k hk, fun _ e => .inl e⟩

theorem RefInv.below {B n : Nat} {lv ov : Value} {l : List (List InsD)} {seen : List Bool} {out : List Int} {W W' : World} (h : RefInv B n lv l ov seen out W) (hb : Below W.heap.size W W') : RefInv B n lv l ov seen out W' := by
  refine ⟨h.blocks.keep (Keep.below hb), h.seenB.keep (hb.block _ h.seenB.lt), h.obj.keep (hb.block _ h.obj.lt), ?_, h.len⟩
  exact h.outR.kept (row := none) ⟨hb.os, hb.tape, hb.output, hb.size, fun k hk _ => hb.block k hk⟩ (by cases hv : ov.ownBlock <;> simp)

theorem RefInv.mark {B n : Nat} {lv ov : Value} {l : List (List InsD)} {seen : List Bool} {out : List Int} {W : World} (h : RefInv B n lv l ov seen out W) (k : Nat) :
    RefInv B n lv l ov (seen.set k true) out (W.setCell ⟨B, k, none⟩ (.bool true)) ∧ RefMoves B ov ov W (W.setCell ⟨B, k, none⟩ (.bool true)) := by
  constructor
  · refine ⟨h.blocks.keep (Keep.setCell fun b hb _ => ⟨hb, by show b ≠ B; omega⟩), ?_, h.obj.other (by simp) _, ?_, by rw [List.length_set]; exact h.len⟩
    · rw [← bools_set]; exact h.seenB.set k _
    · exact ownsRow_setCell_below h.outR (by show B < B + 2; omega) _
  · exact ⟨rfl, rfl, rfl, by simp, fun i _ h1 _ _ => Below.heap_setCell _ _ _ _ h1, fun _ e => .inl e⟩

theorem RefInv.told {B n : Nat} {lv ov v' : Value} {l : List (List InsD)} {seen : List Bool} {out : List Int} {W w' : World} {b : Int} (h : RefInv B n lv l ov seen out W)
    (ho : w'.ownsRow (B + 2) 3 1 v' (out ++ [b]).length (ints (out ++ [b]))) (hg : (W.alloc (.cells #[.int .i64 b] 3)).grownBy w' ov.ownBlock) (hv : v'.ownBlock = ov.ownBlock ∨ v'.ownBlock = some (W.alloc (.cells #[.int .i64 b] 3)).heap.size) :
    RefInv B n lv l v' seen (out ++ [b]) (w'.setCell ⟨B + 1, 2, none⟩ v') ∧ RefMoves B ov v' W (w'.setCell ⟨B + 1, 2, none⟩ v') ∧ Row w' (B + 1) 74 [lv, .slice (some ⟨B, 0, none⟩) n n, ov] := by
  have hbase := fun k hk => (h.outR.lt k hk).1
  have hBlt := h.obj.lt
  have hkeep : ∀ k, k < W.heap.size → ov.ownBlock ≠ some k → w'.heap[k]? = W.heap[k]? := fun k hk hne =>
    (hg.block k (by simp; omega) (fun e => hne e.symm)).trans (Below.heap_alloc _ _ _ hk)
  have hobj : Row w' (B + 1) _ _ := h.obj.keep (hkeep _ hBlt (fun e => by have := hbase _ e; omega))
  refine ⟨⟨?_, ?_, ?_, ?_, h.len⟩, ⟨?_, ?_, ?_, ?_, ?_, ?_⟩, hobj⟩
  · refine h.blocks.keep (fun k hk hlt => ⟨hk, ?_⟩)
    rw [Below.heap_setCell _ _ _ _ (by show k ≠ B + 1; omega)]
    exact hkeep k hlt (fun e => by have := hbase _ e; omega)
  · exact (h.seenB.keep (hkeep _ h.seenB.lt (fun e => by have := hbase _ e; omega))).other (by simp) _
  · exact hobj.set 2 v'
  · exact ownsRow_setCell_below ho (by show B + 1 < B + 2; omega) _
  · exact hg.os
  · exact hg.tape
  · exact hg.output
  · have := hg.size; simp at this; simp; omega
  · intro k hk h1 h2 h3
    rw [Below.heap_setCell _ _ _ _ h2]
    exact hkeep k hk h3
  · intro k hk
    rcases hv with e | e
    · exact .inl (e ▸ hk)
    · rw [e] at hk; simp at hk; right; omega

theorem count_le_length (l : List Bool) : l.count true ≤ l.length := List.count_le_length

set_option maxRecDepth 100000 in
set_option maxHeartbeats 2000000 in
theorem down_c (f : Nat) : ∀ (B n : Nat) (lv ov : Value) (l : List (List InsD)) (seen : List Bool) (out : List Int) (bn : Nat) (w : World), l.length = n → n ≤ 1000 → RefInv B n lv l ov seen out w →
    seen.count false ≤ f → seen.getD bn true = false → out.length ≤ seen.count true →
    Calls Try.prog 71 #[.pointer (some ⟨B + 1, 0, none⟩), .int .i64 bn] w fun e w' => e = .returned (.tuple #[]) ∧ ∃ ov', RefInv B n lv l ov' (dfs (succS l) f bn (seen, out)).1 (dfs (succS l) f bn (seen, out)).2 w' ∧ RefMoves B ov ov' w w' := by
  induction f with
  | zero =>
    intro B n lv ov l seen out bn w _ _ _ hc hs _
    have := (count_set hs).2
    omega
  | succ f ih =>
    intro B n lv ov l seen out bn w hln hn1 hI hc hs ho
    have hbn : bn < n := by
      rw [← hI.len]
      apply Classical.byContradiction
      intro hk
      rw [List.getD_eq_getElem?_getD, List.getElem?_eq_none (by omega)] at hs
      simp at hs
    obtain ⟨hc1, hc2⟩ := count_set hs
    have o0 := hI.obj.cell (k := 0) rfl
    have o1 := hI.obj.cell (k := 1) rfl
    have s1 := hI.seenB.cell (k := bn) (bools_get (by rw [hI.len]; exact hbn))
    have sf := hI.seenB.frozen bn
    have hbn0 : (bn : Int) < (n : Int) := by omega
    have HC : Hid (seen.count false ≤ f + 1 ∧ seen.getD bn true = false ∧ (seen.set bn true).count true = seen.count true + 1 ∧ (seen.set bn true).count false + 1 = seen.count false ∧ l.length = n) := ⟨hc, hs, hc1, hc2, hln⟩
    clear hc hs hc1 hc2 hln
    go_enter Try.func71, Try.ntmps71
    go_wp2_with fail
    refine calls_at (fun W => RefInv B n lv l ov (seen.set bn true) out W ∧ RefMoves B ov ov w W) (hI.mark bn) ?_
    clear o0 o1 s1 sf
    rintro W ⟨hI1, hM1⟩
    refine (succsR_c W bn hI1.blocks).mono ?_
    rintro e W2 ⟨u, rfl, hu, hb2⟩
    have hI2 := hI1.below hb2
    have hM2 := hM1.trans (RefMoves.of_below hb2)
    have hxr := succS_range l (bn : Int)
    have hul : (succS l (bn : Int)).length ≤ 140737488351232 := Nat.le_trans (succS_length l _) (by omega)
    obtain ⟨xs, HX⟩ : ∃ xs, Hid (succS l (bn : Int) = xs) := ⟨_, (rfl : succS l (bn : Int) = succS l (bn : Int))⟩
    rw [HX.out] at hu hxr hul
    have hui : IsInts (pOf B ov) W2 u xs := ints_of_owns hu hul (fun b _ hb hlt => ⟨by have := hI1.seenB.lt; omega, by have := hI1.obj.lt; omega, fun e => by have := (hI1.outR.lt b e).2; omega⟩)
    obtain ⟨a, cap, rfl, -, -⟩ := hui
    have hui : IsInts (pOf B ov) W2 (.slice a xs.length cap) xs := ints_of_owns hu hul (fun b _ hb hlt => ⟨by have := hI1.seenB.lt; omega, by have := hI1.obj.lt; omega, fun e => by have := (hI1.outR.lt b e).2; omega⟩)
    clear hu hb2 hI1 hM1 hI
    go_wp2_with fail
    go_loopw [5] (fun i wr => ∃ (k : Nat) (ov' : Value), k ≤ xs.length ∧ i = .int .i64 k ∧ IsInts (pOf B ov') wr (.slice a xs.length cap) xs ∧
        RefInv B n lv l ov' (dfsL (succS l) f (xs.take k) (seen.set bn true, out)).1 (dfsL (succS l) f (xs.take k) (seen.set bn true, out)).2 wr ∧ RefMoves B ov ov' w wr)
      (fun i _ => xs.length - (intOf i).toNat)
    case atStart => exact ⟨0, ov, by omega, rfl, hui, hI2, hM2⟩
    case round =>
      obtain ⟨k, ov', hk, rfl, hx, hI3, hM3⟩ := hrel
      clear hui hI2 hM2
      have hgo := (goes_dfs (succS l) f).2 (xs.take k) (seen.set bn true, out) (by have := HC.out; dsimp only; omega)
      have HG : Hid (Goes (seen.set bn true, out) (dfsL (succS l) f (xs.take k) (seen.set bn true, out))) := hgo
      clear hgo
      obtain ⟨st, HS⟩ : ∃ st, Hid (dfsL (succS l) f (xs.take k) (seen.set bn true, out) = st) := ⟨_, (rfl : dfsL (succS l) f (xs.take k) (seen.set bn true, out) = _)⟩
      rw [HS.out] at hI3 HG
      by_cases hlt : k < xs.length
      · rcases hx with ⟨a0, cap0, hv0, hlc, hx⟩
        simp only [Value.slice.injEq, true_and] at hv0
        obtain ⟨rfl, rfl⟩ := hv0
        have HLC : Hid (xs.length ≤ cap ∧ xs.length ≤ 140737488351232) := hlc
        clear hlc
        rcases hx with rfl | ⟨ab, ao, rfl, hpa, hxc⟩
        · simp at hlt
        have c1 := hxc k hlt
        simp only [CInt, Nat.mul_one] at c1
        obtain ⟨hx0, hxn⟩ := hxr xs[k] (List.getElem_mem hlt)
        obtain ⟨xn, hxe⟩ : ∃ xn : Nat, xs[k] = xn := ⟨xs[k].toNat, by omega⟩
        have HXE : Hid (xs[k] = xn) := hxe
        rw [hxe] at c1 hx0 hxn
        rw [HC.out.2.2.2.2] at hxn
        have o1 := hI3.obj.cell (k := 1) rfl
        obtain ⟨sb, hsb⟩ : ∃ sb, st.1.getD xn true = sb := ⟨_, rfl⟩
        have s1 := hI3.seenB.cell (k := xn) (bools_get (by rw [hI3.len]; omega))
        rw [hsb] at s1
        have HSB : Hid (st.1.getD xn true = sb) := hsb
        clear hxe hsb
        go_wp2_with fail
        go_quiet (fail)
        refine k_at (fun W => RefInv B n lv l ov' st.1 st.2 W ∧ RefMoves B ov ov' w W ∧ IsInts (pOf B ov') W (.slice (some ⟨ab, ao, none⟩) xs.length cap) xs ∧ W.cell? ⟨ab, ao + k, none⟩ = some (.int .i64 xn)) ⟨hI3.below (bel_drewN (bel_refl _) _), hM3.trans (RefMoves.of_below (bel_drewN (bel_refl _) _)), IsInts.keep (p := pOf B ov') (w := wr) ⟨_, cap, rfl, HLC.out, .inr ⟨ab, ao, rfl, hpa, hxc⟩⟩ (Keep.below (bel_drewN (bel_refl _) _)), c1⟩ ?_
        clear hI3 hM3 hxc o1 s1
        clear c1
        rintro W3 ⟨hI3, hM3, hx3, c1⟩
        have htk : xs.take (k + 1) = xs.take k ++ [(xn : Int)] := by rw [List.take_succ_eq_append_getElem hlt, HXE.out]
        have HT : Hid (xs.take (k + 1) = xs.take k ++ [(xn : Int)]) := htk
        clear htk
        cases sb with
        | true =>
          go_wp2_with fail
          go_roundw
          case rel =>
            refine ⟨k + 1, ov', by omega, by go_num, hx3, ?_, hM3⟩
            rw [HT.out, dfsL_snoc, HS.out, Int.toNat_natCast, HSB.out, if_pos rfl]
            exact hI3
          case measure => simp [intOf]; omega
        | false =>
          have g1 := HG.out
          have hc := HC.out
          have hcnt := g1.cnt
          have hle := g1.le
          have hlen := g1.len
          dsimp only at hcnt hle hlen
          have t1 := count_true_false (seen.set bn true)
          have t2 := count_true_false st.1
          have hcf : st.1.count false ≤ f := by omega
          have hol : st.2.length ≤ st.1.count true := by omega
          clear g1 hc hcnt hle hlen t1 t2
          go_wp2_with fail
          refine (ih B n lv ov' l st.1 st.2 xn W3 HC.out.2.2.2.2 hn1 hI3 hcf HSB.out hol).mono ?_
          rintro e W4 ⟨rfl, ov4, hI4, hM4⟩
          have hx4 : IsInts (pOf B ov4) W4 _ xs := hx3.keep hM4.keeps
          have hM5 := hM3.trans hM4
          clear hI3 hM3 hx3 hM4 c1
          go_wp2_with fail
          go_roundw
          case rel =>
            refine ⟨k + 1, ov4, by omega, by go_num, hx4, ?_, hM5⟩
            rw [HT.out, dfsL_snoc, HS.out, Int.toNat_natCast, HSB.out, if_neg (by simp)]
            exact hI4
          case measure => simp [intOf]; omega
      · have o0 := hI3.obj.cell (k := 0) rfl
        have o2 := hI3.obj.cell (k := 2) rfl
        have f2 := hI3.obj.frozen 2
        have hbl := hI3.obj.lt
        have hol : st.2.length + 1 ≤ 17592186044416 := by
          have g1 := HG.out.cnt
          have g2 := HG.out.len
          have hc := HC.out
          have := count_le_length st.1
          have := hI3.len
          dsimp only at g1 g2
          omega
        go_wp2_with (at_builtin; refine stop_here ?_)
        refine stop_go (app_int rfl _ _ rfl (B + 2) ov' st.2 rfl (hI3.outR.alloc _) _ _ rfl (heap_alloc_eq _ _ _ rfl) hol (by simp; omega) ?_)
        intro v1 w1 ho1 hg1 hv1
        obtain ⟨hI5, hM5, hr5⟩ := hI3.told ho1 hg1 hv1
        have c2 := hr5.cell (k := 2) rfl
        have f2' := hr5.frozen 2
        have hv1' : ∃ a c, v1 = .slice a (st.2.length + 1) c := by
          rcases owns_nilcase ho1 with ⟨rfl, h0, _⟩ | ⟨g, c, rfl⟩
          · simp at h0
          · exact ⟨some ⟨g, 0, none⟩, c, by simp⟩
        obtain ⟨a1, c1, rfl⟩ := hv1'
        have hM6 := hM3.trans hM5
        clear hI3 hM3 hM5 ho1 hg1 hv1 hr5 o0 o2 f2 hx
        go_wp2_with fail
        go_end0
        refine ⟨rfl, _, ?_, hM6⟩
        rw [dfs_succ]
        have e0 : xs.take k = xs := List.take_of_length_le (by omega)
        have hs := HS.out
        rw [e0, ← HX.out] at hs
        rw [Int.toNat_natCast, hs]
        exact hI5

set_option maxRecDepth 100000 in
set_option maxHeartbeats 1000000 in
theorem orderR_c {p : Nat → Prop} {v : Value} {l : List (List InsD)} (w : World) (h : IsBlocks p w v l) (hl : l.length ≤ 1000) :
    Calls Try.prog 27 #[v] w fun e w' => ∃ u, e = .returned u ∧ w'.ownsRow w.heap.size 3 1 u (orderS l).length (ints (orderS l)) ∧ Below w.heap.size w w' := by
  have h0 : IsBlocks (· < w.heap.size) w v l := h.keep (Keep.refl w fun _ _ hb => hb)
  obtain ⟨a, cap, rfl, -, -⟩ := h
  by_cases hz : l.length = 0
  · have e0 : orderS l = [] := by unfold orderS; rw [if_pos hz]
    have hz' : ((l.length : Int) == 0) = true := by simp [hz]
    rw [e0]
    clear h0 e0 hz hl
    go_enter Try.func27, Try.ntmps27
    go_wp2
    go_ret
    exact ⟨_, rfl, World.ownsRow_nil _ _ _ _, bel_refl _⟩
  have hz' : ((l.length : Int) == 0) = false := beq_eq_false_iff_ne.2 (by omega)
  obtain ⟨n, HN⟩ : ∃ n, Hid (l.length = n) := ⟨l.length, (rfl : l.length = l.length)⟩
  rw [HN.out] at hz' hz hl
  have h0' := h0
  rw [HN.out] at h0 ⊢
  clear h0'
  have hinit : RefInv w.heap.size n (.slice a n cap) l (.slice none 0 0) (List.replicate n false) [] ((w.alloc (.cells (Array.replicate n (.bool false)) 4)).alloc (.cells #[.slice a n cap, .slice (some ⟨w.heap.size, 0, none⟩) n n, .slice none 0 0] 74)) := by
    refine ⟨h0.keep (Keep.below (bel_alloc (bel_alloc (bel_refl w) _) _)), ?_, ?_, World.ownsRow_nil _ _ _ _, by simp⟩
    · unfold Row
      rw [show (bools (List.replicate n false)).toArray = Array.replicate n (.bool false) by simp [bools]]
      exact heap_alloc_ne _ _ _ _ (heap_alloc_eq _ _ _ rfl)
    · exact heap_alloc_eq _ _ _ (by simp)
  obtain ⟨ol, HOL⟩ : ∃ ol, Hid (orderS l = ol) := ⟨_, (rfl : orderS l = orderS l)⟩
  rw [HOL.out]
  have hg0 : (List.replicate n false).getD 0 true = false := by cases n with | zero => omega | succ n => rfl
  have HG0 : Hid ((List.replicate n false).getD 0 true = false) := hg0
  clear hg0
  go_enter Try.func27, Try.ntmps27
  go_wp2_with (at_make; refine mk_bools rfl _ _ rfl n rfl rfl (by omega) ?_)
  refine (down_c n w.heap.size n _ _ l (List.replicate n false) [] 0 _ HN.out hl hinit (by simp) HG0.out (by simp)).mono ?_
  rintro e W1 ⟨rfl, ov, hI, hM⟩
  have hB1 : Below w.heap.size w W1 := (bel_alloc (bel_alloc (bel_refl w) _) _).trans (hM.below (by simp [Value.ownBlock]) (by simp; omega))
  clear hM hinit h0
  obtain ⟨o, HO⟩ : ∃ o, Hid ((dfs (succS l) n ((0 : Nat) : Int) (List.replicate n false, [])).2 = o) := ⟨_, (rfl : (dfs (succS l) n ((0 : Nat) : Int) (List.replicate n false, [])).2 = _)⟩
  rw [HO.out] at hI
  have HE : Hid (ol = o.reverse) := by
    show ol = _
    rw [← HOL.out]
    unfold orderS
    rw [if_neg (by rw [HN.out]; omega), ← HO.out, HN.out]
    rfl
  clear HOL
  have hol : o.length ≤ n := by
    have hg := (goes_dfs (succS l) n).1 0 (List.replicate n false, []) HG0.out (by simp)
    have c := hg.cnt
    have ln := hg.len
    have := count_le_length (dfs (succS l) n 0 (List.replicate n false, [])).1
    have h2 := HO.out
    rw [show ((0 : Nat) : Int) = 0 from rfl] at h2
    rw [h2] at c
    simp at c ln
    omega
  have c2 := hI.obj.cell (k := 2) rfl
  have hoi : IsInts (· < W1.heap.size) W1 ov o := ints_of_owns hI.outR (by omega) (fun _ _ _ hb => hb)
  obtain ⟨ao, co, rfl, -, hox⟩ := hoi
  have hs1 := hB1.size
  clear hI HO
  have hob := lt_of_cell c2
  go_wp2_with fail
  go_loopw [4, 5] (fun v i wr => ∃ k : Nat, k ≤ o.length ∧ i = .int .i64 ((k : Int) - 1) ∧ wr.ownsRow W1.heap.size 3 1 v (o.drop k).reverse.length (ints (o.drop k).reverse) ∧ Below W1.heap.size W1 wr) (fun _ i _ => (intOf i + 1).toNat)
  case atStart => exact ⟨o.length, by omega, rfl, by rw [List.drop_length]; exact World.ownsRow_nil _ _ _ _, bel_refl _⟩
  case round =>
    obtain ⟨k, hk, rfl, hown, hb⟩ := hrel
    have c2' := (hb.cell (p := ⟨w.heap.size + 1, 2, none⟩) hob).trans c2
    clear c2
    cases k with
    | zero =>
      have hE := HE.out
      subst hE
      simp only [List.drop_zero, List.length_reverse, ints, List.map_reverse] at hown
      go_wp2
      go_ret
      exact ⟨_, rfl, owns_mono hown hs1, bel_call hB1 hb⟩
    | succ j =>
      have ej : (((j + 1 : Nat) : Int) - 1) = (j : Int) := by omega
      rw [ej]
      rcases hox with rfl | ⟨ab, aoff, rfl, hp, hox⟩
      · simp at hk
      have hj : j < o.length := by omega
      have cj0 := hox j hj
      rw [Nat.mul_one] at cj0
      have cj : wr.cell? ⟨ab, aoff + j, none⟩ = some (.int .i64 o[j]) := (hb.cell (p := ⟨ab, aoff + j, none⟩) hp).trans cj0
      clear cj0
      have hjz : (j : Int) < (o.length : Int) := by omega
      have HD : Hid ((o.drop j).reverse = (o.drop (j + 1)).reverse ++ [o[j]]) := by
        show _ = _
        rw [List.drop_eq_getElem_cons hj, List.reverse_cons]
      have hl1 : (o.drop (j + 1)).reverse.length + 1 ≤ 17592186044416 := by rw [List.length_reverse, List.length_drop]; omega
      have hsz := hb.size
      clear hox ej
      generalize o[j] = y at cj HD
      go_wp2_with (at_builtin; refine stop_here ?_)
      refine stop_go (app_int rfl _ _ rfl W1.heap.size _ _ rfl (hown.alloc _) _ _ rfl (heap_alloc_eq _ _ _ rfl) hl1 (by simp; omega) ?_)
      intro v1 w1 ho1 hg1 _
      have hb1 := bel_grown (bel_alloc hb _) hg1 (fun k hk => (hown.lt k hk).1)
      clear hown hg1 hb c2' cj
      rw [← HD.out] at ho1
      go_wp2_with fail
      go_roundw
      case rel => exact ⟨j, by omega, rfl, ho1, hb1⟩
      case measure => simp [intOf]
end Go.Proofs.Ytcihobmjohpnkaa
