/- 'begin'. -/
import Derived.Test.YtjgnailkfmgikaaMvTurn
import Derived.Carry
import Derived.StillTailTactics
import Derived.Deep.RegionLaw
import Derived.Deep.AppendLies
import Derived.Deep.DeepCutAuto
namespace Go.Proofs.Ytjgnailkfmgikaa
open Go.RowKit Go.Maps

theorem in64_small {x : Int} (h0 : 0 ≤ x) (h1 : x ≤ 1000000) : In64 x := by
  have e1 : IntKind.i64.min = -9223372036854775808 := by decide
  have e2 : IntKind.i64.max = 9223372036854775807 := by decide
  unfold In64
  simp [Lit.wf, e1, e2]
  omega

/-- How often places are written, as a map. -/
def seenP (l : List (Int × Int)) : Mv.PF := fun x => if Mv.seenS l x = 0 then none else some (Mv.seenS l x)
theorem seenP_get (l : List (Int × Int)) (x : Int) : (seenP l x).getD 0 = (Mv.seenS l x : Int) := by
  unfold seenP; split
  · rename_i h; rw [h]; rfl
  · rfl
theorem seenP_snoc (l : List (Int × Int)) (m : Int × Int) : Mv.upd (seenP l) m.1 (Mv.seenS l m.1 + 1) = seenP (l ++ [m]) := by
  funext x
  unfold seenP Mv.upd
  rw [Mv.seenS_snoc]
  by_cases h : x = m.1
  · subst h; simp
  · have h' : ¬ m.1 = x := fun e => h e.symm
    simp [h, h']
theorem readsP_snoc {l : List (Int × Int)} {m : Int × Int} (hm : m.1 ≠ m.2) : Mv.upd (readsP l) m.2 (Mv.readsS l m.2 + 1) = readsP (l ++ [m]) := by
  funext x
  unfold readsP Mv.upd
  rw [Mv.readsS_snoc, if_neg hm]
  by_cases h : x = m.2
  · subst h; simp
  · have h' : ¬ m.2 = x := fun e => h e.symm
    simp [h, h']
theorem readsP_still {l : List (Int × Int)} {m : Int × Int} (hm : m.1 = m.2) : readsP (l ++ [m]) = readsP l := by
  funext x
  unfold readsP
  rw [Mv.readsS_snoc, if_pos hm]

theorem readsP_nil : readsP [] = fun _ => none := rfl
theorem seenP_nil : seenP [] = fun _ => none := rfl

/-- Behind 'append(w.order, p)', W: ahead of it; and behind the store. -/
theorem IsWork.told3 {base bw bf br bn n : Nat} {W W' : World} {vo vu : Value} {F N R : Mv.PF} {ord : List Int} {out : List (Int × Int)} (h : IsWork base W bw bf br bn vo vu n F N R ord out) {v' : Value} {ord' : List Int} (hb : base ≤ W.heap.size) (ho : W'.ownsRow base 3 1 v' ord'.length (ints ord')) (hg : W.grownBy W' vo.ownBlock) :
    Row W' bw 42 [.map (some bf), .map (some br), .map (some bn), vo, vu] ∧ IsWork base (W'.setCell ⟨bw, 3, none⟩ v') bw bf br bn v' vu n F N R ord' out ∧
      (∀ b, b < W.heap.size → b ≠ bw → vo.ownBlock ≠ some b → (W'.setCell ⟨bw, 3, none⟩ v').heap[b]? = W.heap[b]?) ∧ Below base W (W'.setCell ⟨bw, 3, none⟩ v') := by
  obtain ⟨⟨a1, a2, a3⟩, a4, a5⟩ := h.apart
  have hk1 : ∀ b, b < W.heap.size → vo.ownBlock ≠ some b → W'.heap[b]? = W.heap[b]? := fun b hb hne => hg.block b hb (fun e => hne e.symm)
  have hrow' := h.row.keep (hk1 _ h.row.lt fun e => (a4 _ e).1 rfl)
  have hk : ∀ b, b < W.heap.size → b ≠ bw → vo.ownBlock ≠ some b → (W'.setCell ⟨bw, 3, none⟩ v').heap[b]? = W.heap[b]? := fun b hb hne hv => (Below.heap_setCell _ _ _ _ hne).trans (hk1 b hb hv)
  refine ⟨hrow', ⟨hrow'.set 3 v', h.f.keep (hk _ h.f.lt a1 fun e => (a4 _ e).2.1 rfl), h.r.keep (hk _ h.r.lt a2 fun e => (a4 _ e).2.2.1 rfl), h.n.keep (hk _ h.n.lt a3 fun e => (a4 _ e).2.2.2.1 rfl),
    owns_keep ho fun b hb => Below.heap_setCell _ _ _ _ (fun e => ?_), owns_keep h.u fun b hb => hk b (h.u.lt b hb).2 (a5 b hb).1 (fun e => (a4 b e).2.2.2.2 hb), h.ge, h.ne⟩, hk, ((Below.refl base W).grown hg hb fun k hk => (h.o.lt k hk).1).setCell (p := ⟨bw, 3, none⟩) h.ge.1 v'⟩
  obtain ⟨cur, hc, _⟩ := owns_cells ho hb
  rw [e] at hc
  unfold Row at hrow'
  rw [hrow'] at hc; simp at hc

/-- The work is begun, or a place is written twice. -/
def BeginP (l : List (Int × Int)) (w : World) (e : Ending) (w' : World) : Prop :=
  Below w.heap.size w w' ∧ ((¬ Mv.Once l ∧ e = .returned (.tuple #[.pointer none, .bool false])) ∨
    (Mv.Once l ∧ ∃ bw bf br bn vo, e = .returned (.tuple #[.pointer (some ⟨bw, 0, none⟩), .bool true]) ∧ IsWork w.heap.size w' bw bf br bn vo (.slice none 0 0) (2 * l.length) (Mv.fromS l) (fun _ => none) (readsP l) (Mv.ordS l) []))

set_option maxRecDepth 100000 in
set_option maxHeartbeats 4000000 in
theorem begin_c {p : Nat → Prop} {v : Value} {l : List (Int × Int)} (w : World) (h0 : IsPairs p w v l) (hl : l.length ≤ 1000) (h64 : ∀ m ∈ l, In64 m.1 ∧ In64 m.2) :
    Calls Try.prog 16 #[v] w (BeginP l w) := by
  have h : IsPairs (· < w.heap.size) w v l := h0.keep (Keep.refl w fun _ _ hb => hb)
  clear h0
  obtain ⟨a, cap, hv, _, _⟩ := id h
  subst hv
  have hmm := @run_makeMap Try.prog
  go_enter Try.func16, Try.ntmps16
  go_wp2_with fail
  obtain ⟨B, HB⟩ : ∃ B, Hid (w.heap.size = B) := ⟨w.heap.size, (rfl : w.heap.size = w.heap.size)⟩
  refine wp_at (fun W => IsWork B W (B + 1 + 1 + 1) B (B + 1) (B + 1 + 1) (.slice none 0 0) (.slice none 0 0) 0 (fun _ => none) (fun _ => none) (fun _ => none) [] [] ∧ IsMp W (B + 1 + 1 + 1 + 1) 0 (fun _ => none) ∧ Below B w W) ?_ ?_
  · rw [← HB.out]
    refine ⟨⟨?_, ?_, ?_, ?_, World.ownsRow_nil _ _ _ _, World.ownsRow_nil _ _ _ _, ⟨by omega, by omega, by omega, by omega⟩, ⟨by omega, by omega, by omega⟩⟩, ?_, ?_⟩
    · exact heap_alloc_ne _ _ _ _ (heap_alloc_eq _ _ _ (by simp))
    · exact (IsMp.made w).keep (((Below.heap_alloc _ _ _ (by simp <;> omega)).trans (Below.heap_alloc _ _ _ (by simp <;> omega))).trans ((Below.heap_alloc _ _ _ (by simp <;> omega)).trans (Below.heap_alloc _ _ _ (by simp <;> omega))))
    · have := IsMp.made (w.alloc (.map #[] 0))
      simp only [World.size_alloc] at this
      exact this.keep ((Below.heap_alloc _ _ _ (by simp <;> omega)).trans ((Below.heap_alloc _ _ _ (by simp <;> omega)).trans (Below.heap_alloc _ _ _ (by simp <;> omega))))
    · have := IsMp.made ((w.alloc (.map #[] 0)).alloc (.map #[] 0))
      simp only [World.size_alloc] at this
      exact this.keep ((Below.heap_alloc _ _ _ (by simp <;> omega)).trans (Below.heap_alloc _ _ _ (by simp <;> omega)))
    · have := fun o => IsMp.made ((((w.alloc (.map #[] 0)).alloc (.map #[] 0)).alloc (.map #[] 0)).alloc o)
      simp only [World.size_alloc] at this
      exact this _
    · exact bel_alloc (bel_alloc (bel_alloc (bel_alloc (bel_alloc (bel_refl w) _) _) _) _) _
  · rintro W0 ⟨hW0, hs0, hb0⟩
    rw [HB.out] at h ⊢
    go_loopg [16] l.length (fun g i wr => ∃ (k : Nat) (vo : Value), k + g = l.length ∧ i = .int .i64 k ∧ Hid (Mv.Once (l.take k)) ∧ IsWork B wr (B + 1 + 1 + 1) B (B + 1) (B + 1 + 1) vo (.slice none 0 0) (2 * k) (Mv.fromS (l.take k)) (fun _ => none) (readsP (l.take k)) (Mv.ordS (l.take k)) [] ∧ IsMp wr (B + 1 + 1 + 1 + 1) k (seenP (l.take k)) ∧ Below B w wr)
    case atStart => exact ⟨0, _, by omega, rfl, (by simp [Mv.Once] : Mv.Once (l.take 0)), by rw [List.take_zero, readsP_nil]; exact hW0, by rw [List.take_zero, seenP_nil]; exact hs0, hb0⟩
    case round =>
      obtain ⟨k, vo, hk, rfl, hO, hW, hs, hb⟩ := hrel
      clear hW0 hs0 hb0
      by_cases hlt : k < l.length
      · obtain ⟨_, _, hv0, -, hx⟩ := h.keep (Keep.belowB hb)
        simp only [Value.slice.injEq, true_and] at hv0
        obtain ⟨rfl, rfl⟩ := hv0
        rcases hx with rfl | ⟨b, off, rfl, hpb, hx⟩
        · simp at hlt
        obtain ⟨t0, t1⟩ := hx k hlt
        clear hx
        have hm64 := h64 _ (List.getElem_mem hlt)
        have htk := List.take_succ_eq_append_getElem hlt
        obtain ⟨⟨x, y⟩, HM⟩ : ∃ m, Hid (l[k] = m) := ⟨l[k], (rfl : l[k] = l[k])⟩
        rw [HM.out] at t0 t1 hm64 htk
        dsimp only at t0 t1
        obtain ⟨hx64, hy64⟩ := hm64
        dsimp only at hx64 hy64
        have HTK : Hid (l.take (k + 1) = l.take k ++ [(x, y)]) := htk
        have hsl := Mv.seenS_le (l.take k) x
        have hrl := Mv.readsS_le (l.take k) y
        rw [List.length_take, Nat.min_eq_left (by omega)] at hsl hrl
        clear htk
        obtain ⟨W1, HW1⟩ : ∃ W1, Hid (wr.alloc (.cells #[.int .i64 x, .int .i64 y] 30) = W1) := ⟨_, (rfl : wr.alloc (.cells #[.int .i64 x, .int .i64 y] 30) = wr.alloc (.cells #[.int .i64 x, .int .i64 y] 30))⟩
        have hW1 := hW.alloc (.cells #[.int .i64 x, .int .i64 y] 30)
        have hs1 : IsMp (wr.alloc (.cells #[.int .i64 x, .int .i64 y] 30)) (B + 1 + 1 + 1 + 1) k (seenP (l.take k)) := hs.keep (Below.heap_alloc _ _ _ hs.lt)
        have hb1 : Below B w (wr.alloc (.cells #[.int .i64 x, .int .i64 y] 30)) := hb.alloc (by have := hb.size; have := HB.out; omega) _
        have hg1 : Row (wr.alloc (.cells #[.int .i64 x, .int .i64 y] 30)) wr.heap.size 30 [.int .i64 x, .int .i64 y] := heap_alloc_eq _ _ _ rfl
        have hr1 := hs1.look hx64
        rw [seenP_get] at hr1
        obtain ⟨c, HC⟩ : ∃ c, Hid (Mv.seenS (l.take k) x = c) := ⟨_, (rfl : Mv.seenS (l.take k) x = Mv.seenS (l.take k) x)⟩
        rw [HC.out] at hr1 hsl
        have hsn := seenP_snoc (l.take k) (x, y)
        dsimp only at hsn
        rw [HC.out, ← HTK.out] at hsn
        have HSN : Hid (Mv.upd (seenP (l.take k)) x (c + 1) = seenP (l.take (k + 1))) := hsn
        have hc64 : In64 ((c : Int) + 1) := in64_small (by omega) (by omega)
        have hsl4 := hs.lt
        clear hsn hW hs hb
        go_wp2_with (at_mapUpdate; refine stop_here ?_)
        refine stop_go (wp_put rfl _ _ _ rfl hs1 (by omega) x ((c : Int) + 1) rfl rfl rfl hx64 hc64 ?_)
        intro W2 hs2 ht2
        rw [HSN.out] at hs2
        have hgb : wr.heap.size ≠ B + 1 + 1 + 1 + 1 := by have := hsl4; omega
        have hk2 : ∀ b, b < wr.heap.size + 1 → b ≠ B + 1 + 1 + 1 + 1 → W2.heap[b]? = (wr.alloc (.cells #[.int .i64 x, .int .i64 y] 30)).heap[b]? := fun b hb hne => ht2.grown.block b (by simpa using hb) (fun e => hne (by simpa using e))
        have hg2 : Row W2 wr.heap.size 30 [.int .i64 x, .int .i64 y] := hg1.keep (hk2 _ (by omega) hgb)
        have hW2 : IsWork B W2 (B + 1 + 1 + 1) B (B + 1) (B + 1 + 1) vo (.slice none 0 0) (2 * k) (Mv.fromS (l.take k)) (fun _ => none) (readsP (l.take k)) (Mv.ordS (l.take k)) [] := hW1.keep fun b hb => hk2 b (by have := (hW1.wlt hb).2; simpa using this) (fun e => by
          subst e
          rcases hb with hb | hb | hb | hb | hb | hb
          · omega
          · omega
          · omega
          · omega
          · obtain ⟨cur, hc, _⟩ := owns_cells hW1.o hb
            exact map_not_cells hs1 hc rfl
          · simp [Value.ownBlock] at hb)
        have hb2 : Below B w W2 := hb1.grown ht2.grown (by have := hb1.size; have := HB.out; omega) (fun k hk => by cases hk; omega)
        have hsz2 := ht2.grown.size
        simp only [World.size_alloc] at hsz2
        have hr2 := hs2.look hx64
        have hsc : Mv.seenS (l.take (k + 1)) x = c + 1 := by rw [HTK.out, Mv.seenS_snoc, HC.out]; simp
        rw [seenP_get, hsc, Int.natCast_add, Int.natCast_one] at hr2
        have m0 := hg2.cell (k := 0) (v := .int .i64 x) rfl
        have m1 := hg2.cell (k := 1) (v := .int .i64 y) rfl
        clear hsc hk2 hs1 ht2 hW1 hb1 hg1 hr1
        by_cases hc0 : c = 0
        · have hd : decide ((c : Int) + 1 > 1) = false := by simp; omega
          have hO2 : Hid (Mv.Once (l.take (k + 1))) := by
            show Mv.Once _
            rw [HTK.out]
            exact hO.out.snoc fun hm => by have := Mv.seenS_pos.2 hm; dsimp only at this; rw [HC.out] at this; omega
          clear hc0 hO HC
          by_cases hxy : x = y
          · have hxe : (x != y) = false := by simp [hxy]
            have HXY : Hid (x = y) := hxy
            have e1 : Mv.fromS (l.take (k + 1)) = Mv.fromS (l.take k) := by rw [HTK.out, Mv.fromS_snoc, if_pos hxy]
            have e2 : readsP (l.take (k + 1)) = readsP (l.take k) := by rw [HTK.out]; exact readsP_still hxy
            have e3 : Mv.ordS (l.take (k + 1)) = Mv.ordS (l.take k) := by rw [HTK.out, Mv.ordS_snoc, if_pos hxy]
            have hW3 := hW2.mono (by omega : 2 * k ≤ 2 * (k + 1))
            rw [← e1, ← e2, ← e3] at hW3
            clear e1 e2 e3 hW2 hxy
            go_wp2_with fail
            go_roundg (gk - 1)
            case measure => omega
            case rel => exact ⟨k + 1, vo, by omega, by go_num, hO2, hW3, hs2, hb2⟩
          · have hxe : (x != y) = true := by simpa using hxy
            have c0 : W2.cell? ⟨B + 1 + 1 + 1, 0, none⟩ = some (.map (some B)) := hW2.row.cell rfl
            have hxy' : Hid (x ≠ y) := hxy
            clear hxy
            go_wp2_with fail
            go_still_tail 8, (by kernel_rfl)
            change wpList _ _ _ _ _ W2.drew
            have hD2 : IsWork B W2.drew (B + 1 + 1 + 1) B (B + 1) (B + 1 + 1) vo (.slice none 0 0) (2 * k) (Mv.fromS (l.take k)) (fun _ => none) (readsP (l.take k)) (Mv.ordS (l.take k)) [] := hW2.keep fun _ _ => rfl
            refine wp_put rfl _ _ _ rfl hD2.f (by omega) x y rfl rfl rfl hx64 hy64 ?_
            intro W3 hf3 ht3
            have hW3 := hD2.turnF (Nat.le_succ (2 * k)) hf3 ht3
            have e1 : Mv.fromS (l.take (k + 1)) = Mv.upd (Mv.fromS (l.take k)) x y := by rw [HTK.out, Mv.fromS_snoc, if_neg hxy'.out]
            rw [← e1] at hW3
            have hk3 : ∀ b, b < W2.heap.size → b ≠ B → W3.heap[b]? = W2.heap[b]? := fun b hb hne => ht3.grown.block b hb (fun e => hne (by simpa using e))
            have hs3 : IsMp W3 (B + 1 + 1 + 1 + 1) (k + 1) (seenP (l.take (k + 1))) := hs2.keep (hk3 _ hs2.lt (by omega))
            have hg3 : Row W3 wr.heap.size 30 [.int .i64 x, .int .i64 y] := hg2.keep (hk3 _ hg2.lt (by omega))
            have hb3 : Below B w W3 := (hb2.drew).grown ht3.grown (by have := hb2.size; have := HB.out; show B ≤ W2.heap.size; omega) (fun k hk => by cases hk; omega)
            have hsz3 : W2.heap.size ≤ W3.heap.size := ht3.grown.size
            have n0 := hg3.cell (k := 0) (v := .int .i64 x) rfl
            have n1 := hg3.cell (k := 1) (v := .int .i64 y) rfl
            have d1 : W3.cell? ⟨B + 1 + 1 + 1, 1, none⟩ = some (.map (some (B + 1))) := hW3.row.cell rfl
            clear e1 hf3 ht3 hk3 hs2 hg2 hb2 hW2 hD2 m0 m1 c0 hr2
            go_wp2_with fail
            go_still_tail 6, (by kernel_rfl)
            change wpList _ _ _ _ _ W3.drew
            have hD3 : IsWork B W3.drew (B + 1 + 1 + 1) B (B + 1) (B + 1 + 1) vo (.slice none 0 0) (2 * k + 1) (Mv.fromS (l.take (k + 1))) (fun _ => none) (readsP (l.take k)) (Mv.ordS (l.take k)) [] := hW3.keep fun _ _ => rfl
            have hs4 : IsMp W3.drew (B + 1 + 1 + 1 + 1) (k + 1) (seenP (l.take (k + 1))) := hs3.keep rfl
            have hg4 : Row W3.drew wr.heap.size 30 [.int .i64 x, .int .i64 y] := hg3.keep rfl
            have hb4 : Below B w W3.drew := hb3.drew
            have hsz4 : W2.heap.size ≤ W3.drew.heap.size := hsz3
            clear hW3 hs3 hg3 hb3 hsz3 n0 n1 d1
            generalize W3.drew = W4 at hD3 hs4 hg4 hb4 hsz4 ⊢
            have hr4 := hD3.r.look hy64
            rw [readsP_get] at hr4
            obtain ⟨r, HR⟩ : ∃ r, Hid (Mv.readsS (l.take k) y = r) := ⟨_, (rfl : Mv.readsS (l.take k) y = Mv.readsS (l.take k) y)⟩
            rw [HR.out] at hr4 hrl
            have hr64 : In64 ((r : Int) + 1) := in64_small (by omega) (by omega)
            go_wp2_with (at_mapUpdate; refine stop_here ?_)
            refine stop_go (wp_put rfl _ _ _ rfl hD3.r (by omega) y ((r : Int) + 1) rfl rfl rfl hy64 hr64 ?_)
            intro W5 hf5 ht5
            have hW5 := hD3.turnR (Nat.le_succ (2 * k + 1)) hf5 ht5
            have e1 : Mv.upd (readsP (l.take k)) y (r + 1) = readsP (l.take (k + 1)) := by
              have := readsP_snoc (l := l.take k) (m := (x, y)) hxy'.out
              dsimp only at this
              rw [HR.out] at this
              rw [HTK.out]; exact this
            rw [e1] at hW5
            have hk5 : ∀ b, b < W4.heap.size → b ≠ B + 1 → W5.heap[b]? = W4.heap[b]? := fun b hb hne => ht5.grown.block b hb (fun e => hne (by simpa using e))
            have hs5 : IsMp W5 (B + 1 + 1 + 1 + 1) (k + 1) (seenP (l.take (k + 1))) := hs4.keep (hk5 _ hs4.lt (by omega))
            have hg5 : Row W5 wr.heap.size 30 [.int .i64 x, .int .i64 y] := hg4.keep (hk5 _ hg4.lt (by omega))
            have hb5 : Below B w W5 := hb4.grown ht5.grown (by have := hb4.size; have := HB.out; omega) (fun k hk => by cases hk; omega)
            have hsz5 : W4.heap.size ≤ W5.heap.size := ht5.grown.size
            clear e1 hf5 ht5 hk5 hs4 hg4 hb4 hD3 hr4
            obtain ⟨i0, hi0, hz0, hz1, hz2⟩ := info_parts infoInt
            have e3 : Mv.ordS (l.take (k + 1)) = Mv.ordS (l.take k) ++ [x] := by rw [HTK.out, Mv.ordS_snoc, if_neg hxy'.out]
            have hol := Mv.ordS_le (l.take k)
            rw [List.length_take, Nat.min_eq_left (by omega)] at hol
            obtain ⟨O, HO⟩ : ∃ O, Hid (Mv.ordS (l.take k) = O) := ⟨_, (rfl : Mv.ordS (l.take k) = Mv.ordS (l.take k))⟩
            rw [HO.out] at e3 hol hW5
            have E3 : Hid (Mv.ordS (l.take (k + 1)) = O ++ [x]) := e3
            have hu := hW5.o
            have c3 : W5.cell? ⟨B + 1 + 1 + 1, 3, none⟩ = some vo := hW5.row.cell rfl
            have p0 := hg5.cell (k := 0) (v := .int .i64 x) rfl
            have hgl := hg5.lt
            have hbl := hW5.row.lt
            have a1 : vo.ownBlock ≠ some (B + 1 + 1 + 1) := fun e => (hW5.apart.2.1 _ e).1 rfl
            have a2 : vo.ownBlock ≠ some wr.heap.size := fun e => by
              obtain ⟨cur, hc, _⟩ := owns_cells hu e
              have := hg5; unfold Row at this; rw [this] at hc; simp at hc
            have hB5 := hb5.size
            have HBB : Hid (w.heap.size = B) := HB
            have hT : ∀ gg cap w1, w1.ownsRow B 3 1 (.slice (some ⟨gg, 0, none⟩) (O.length + 1) cap) (O.length + 1) (ints O ++ [Value.int .i64 x]) → ((W5.alloc (.cells #[.int .i64 x] 3)).drew).grownBy w1 vo.ownBlock →
                w1.cell? ⟨B + 1 + 1 + 1, 3, none⟩ = some vo ∧ w1.frozen? ⟨B + 1 + 1 + 1, 3, none⟩ = false ∧ IsWork B (w1.setCell ⟨B + 1 + 1 + 1, 3, none⟩ (.slice (some ⟨gg, 0, none⟩) (O.length + 1) cap)) (B + 1 + 1 + 1) B (B + 1) (B + 1 + 1) (.slice (some ⟨gg, 0, none⟩) (O.length + 1) cap) (.slice none 0 0) (2 * k + 1 + 1) (Mv.fromS (l.take (k + 1))) (fun _ => none) (readsP (l.take (k + 1))) (O ++ [x]) [] ∧
                Below B w (w1.setCell ⟨B + 1 + 1 + 1, 3, none⟩ (.slice (some ⟨gg, 0, none⟩) (O.length + 1) cap)) ∧ IsMp (w1.setCell ⟨B + 1 + 1 + 1, 3, none⟩ (.slice (some ⟨gg, 0, none⟩) (O.length + 1) cap)) (B + 1 + 1 + 1 + 1) (k + 1) (seenP (l.take (k + 1))) := by
              intro gg cap w1 ho hg
              have hd1 : IsWork B ((W5.alloc (.cells #[.int .i64 x] 3)).drew) (B + 1 + 1 + 1) B (B + 1) (B + 1 + 1) vo (.slice none 0 0) (2 * k + 1 + 1) (Mv.fromS (l.take (k + 1))) (fun _ => none) (readsP (l.take (k + 1))) O [] := (hW5.alloc _).keep fun _ _ => rfl
              obtain ⟨hrow1, hX1, hk1, hb1⟩ := hd1.told3 (v' := .slice (some ⟨gg, 0, none⟩) (O.length + 1) cap) (ord' := O ++ [x]) (by simp; omega) (by simpa [ints] using ho) hg
              refine ⟨hrow1.cell rfl, hrow1.frozen 3, hX1, ((hb5.alloc (by have := HBB.out; omega) _).drew).trans hb1, hs5.keep ((hk1 _ (by have := hs5.lt; simp; omega) (by omega) (fun e => ?_)).trans (Below.heap_alloc _ _ _ hs5.lt))⟩
              obtain ⟨cur, hc, _⟩ := owns_cells hu e
              exact map_not_cells hs5 hc rfl
            clear h hW5 hs5 hb5 hg5 HTK HO hmm hr64
            go_wp2_with fail
            go_region_law (first | refine step_append_lies _ (by rfl) _ _ _ (by rfl) B 3 i0 _ 1 8 Try.underlying33 hi0 hz0 hz1 hz2 rfl (by omega) vo O.length (ints O) (by rfl) ((hu.alloc _).drew) ⟨W5.heap.size, 0, none⟩ 1 1 [.int .i64 x] (by rfl) (by rfl) (World.news_of_block (cs := #[.int .i64 x]) (t := 3) (fr := (0, 0)) (heap_alloc_new W5 _)) (by simp [Value.oneCell']) (by omega) (by unfold maxLen; omega) (by omega) (by have := HBB.out; simp; omega) (W5.heap.size + 1) (by simp) ?_; intro gg cap w1 hown1 hgrow hat hlt; obtain ⟨c4', f4', hX1, hb1, hs1⟩ := hT _ _ _ hown1 hgrow)
            all_goals
              (try go_wp2_with fail)
              rw [← E3.out] at hX1
              have hX2 := hX1.mono (by omega : 2 * k + 1 + 1 ≤ 2 * (k + 1))
              go_roundg (gk - 1)
              case measure => omega
              case rel => exact ⟨k + 1, _, by omega, by go_num, hO2, hX2, hs1, hb1⟩
        · have hd : decide ((c : Int) + 1 > 1) = true := by simp; omega
          have hno : ¬ Mv.Once l := by
            have e : l = l.take k ++ (x, y) :: l.drop (k + 1) := by
              conv => lhs; rw [← List.take_append_drop (k + 1) l, HTK.out]
              simp
            rw [e]
            exact Mv.not_once (Mv.seenS_pos.1 (by dsimp only; rw [HC.out]; omega))
          clear hc0
          go_wp2_with fail
          go_ret2
          exact ⟨by rw [HB.out]; exact hb2, .inl ⟨hno, rfl⟩⟩
      · have hke : k = l.length := by omega
        have hO2 := hO.out
        rw [hke, List.take_length] at hO2 hW
        clear hs hO hke
        have hO3 : Hid (Mv.Once l) := hO2
        clear hO2
        go_wp2_with fail
        go_ret2
        exact ⟨by rw [HB.out]; exact hb, .inr ⟨hO3.out, _, _, _, _, _, rfl, by rw [HB.out]; exact hW⟩⟩
end Go.Proofs.Ytjgnailkfmgikaa
