/- 'turn'. -/
import Derived.Test.YtjgnailkfmgikaaMvRing
import Derived.Deep.RegionLaw
import Derived.Deep.DeepCutAuto
import Derived.Deep.LoopGhost
import Derived.Deep.AppendLies
import Derived.StillTactics
import Derived.Laws.Pointers
namespace Go.Proofs.Ytjgnailkfmgikaa
open Go.RowKit Go.Maps

theorem path_first {G : Mv.PF} {p q : Int} {L : List Int} (h : Mv.Path G p L q) (hp : 0 < L.length) : L[0] = p := by
  have : L.head? = some p := by
    induction h with
    | one _ => rfl
    | snoc h1 _ ih =>
      have := ih (List.length_pos_iff.2 (List.ne_nil_of_mem h1.head))
      rw [List.head?_append, this]; rfl
  rw [List.head?_eq_getElem?, List.getElem?_eq_getElem hp] at this
  simpa using this

/-- A ring's moves, as far as they are told. -/
def turnK (H : Mv.PF) (s : Int) (L : List Int) (k : Nat) : List (Int × Int) := if k < L.length then Mv.ringM H (L.take k) else Mv.ringM H L.dropLast ++ [(L.getLastD 0, s)]
theorem turnK_zero {H : Mv.PF} {s : Int} {L : List Int} (h : 0 < L.length) : turnK H s L 0 = [] := by simp [turnK, h, Mv.ringM]
theorem turnK_end (H : Mv.PF) (s p : Int) (L : List Int) : (s, p) :: turnK H s L L.length = Mv.turnM H s p L := by simp [turnK, Mv.turnM]
theorem turnK_step {H : Mv.PF} {s : Int} {L : List Int} {k : Nat} (h : k + 1 < L.length) : turnK H s L (k + 1) = turnK H s L k ++ [(L[k], (H L[k]).getD 0)] := by
  unfold turnK
  rw [if_pos h, if_pos (by omega), List.take_succ_eq_append_getElem (by omega)]
  simp only [Mv.ringM, List.map_append, List.map_cons, List.map_nil]
theorem turnK_last {H : Mv.PF} {s : Int} {L : List Int} {k : Nat} (h : k + 1 = L.length) : turnK H s L (k + 1) = turnK H s L k ++ [(L[k], s)] := by
  unfold turnK
  have hne : L ≠ [] := by rintro rfl; simp at h
  rw [if_neg (by omega), if_pos (by omega), List.dropLast_eq_take]
  have e : L.length - 1 = k := by omega
  rw [e]
  congr 2
  rw [List.getLastD_eq_getLast?, List.getLast?_eq_some_getLast hne, List.getLast_eq_getElem hne]
  simp [e]
theorem turnK_length {H : Mv.PF} {s : Int} {L : List Int} {k : Nat} (h : k ≤ L.length) (h0 : 0 < L.length) : (turnK H s L k).length ≤ L.length := by
  unfold turnK
  split
  · simp [Mv.ringM]; omega
  · simp [Mv.ringM]; omega
theorem ints_one {W : World} {lb lo cap : Nat} {L : List Int} {p : Nat → Prop} (h : IsInts p W (.slice (some ⟨lb, lo, none⟩) L.length cap) L) : IsInts (· = lb) W (.slice (some ⟨lb, lo, none⟩) L.length cap) L := by
  obtain ⟨a, c, hv, hl, hx⟩ := h
  simp at hv
  obtain ⟨rfl, rfl⟩ := hv
  refine ⟨_, _, rfl, hl, ?_⟩
  rcases hx with hx | ⟨b, off, ha, _, hc⟩
  · exact .inl hx
  · simp at ha; obtain ⟨rfl, rfl⟩ := ha
    exact .inr ⟨lb, lo, rfl, rfl, hc⟩

theorem IsInts.cellK {W : World} {lb lo n cap : Nat} {L : List Int} {p : Nat → Prop} (h : IsInts p W (.slice (some ⟨lb, lo, none⟩) n cap) L) {k : Nat} (hp : k < L.length) : W.cell? ⟨lb, lo + k, none⟩ = some (.int .i64 L[k]) := by
  obtain ⟨a, c, hv, hl, hx⟩ := h
  simp at hv
  obtain ⟨rfl, rfl, rfl⟩ := hv
  rcases hx with rfl | ⟨b, off, ha, _, hc⟩
  · simp at hp
  · simp at ha; obtain ⟨rfl, rfl⟩ := ha
    have := hc k hp
    simpa [CInt] using this

/-- A ring has been turned. -/
def TurnP (base : Nat) (bw bf br bn : Nat) (vo : Value) (n : Nat) (H N R : Mv.PF) (ord : List Int) (out : List (Int × Int)) (s p : Int) (L : List Int) (w : World) (e : Ending) (w' : World) : Prop :=
  ∃ vu, e = .returned (.tuple #[]) ∧ IsWork base w' bw bf br bn vo vu n (Mv.delL H L) N R ord (out ++ Mv.turnM H s p L) ∧ Below base w w'

set_option maxRecDepth 100000 in
set_option maxHeartbeats 2000000 in
theorem turn_c {base : Nat} {bw bf br bn n : Nat} {vo vu : Value} {H N R : Mv.PF} {ord : List Int} {out : List (Int × Int)} (w : World) (h : IsWork base w bw bf br bn vo vu n H N R ord out) {p s : Int} {L : List Int} {lv : Value} (hi : IsInts (fun b => ¬ WB bw bf br bn vo vu b ∧ b < w.heap.size) w lv L)
    (hB : base ≤ w.heap.size) (hP : Mv.Path H p L p) (hn : L.Nodup) (hll : L.length ≤ 1000) (hol : out.length ≤ 3000) (h64 : ∀ x, H x ≠ none → In64 x) :
    Calls Try.prog 18 #[.pointer (some ⟨bw, 0, none⟩), lv, .int .i64 s] w (TurnP base bw bf br bn vo n H N R ord out s p L w) := by
  obtain ⟨la, lc, rfl, hl0, hx⟩ := id hi
  have hpos : 0 < L.length := List.length_pos_iff.2 (List.ne_nil_of_mem hP.head)
  rcases hx with rfl | ⟨lb, lo, rfl, hpb, hx⟩
  · simp at hpos
  have t0 := hx 0 hpos
  simp only [CInt, Nat.mul_one, Nat.add_zero] at t0
  have hL0 : L[0] = p := path_first hP hpos
  rw [hL0] at t0
  have c4 : w.cell? ⟨bw, 4, none⟩ = some vu := h.row.cell rfl
  have hp0 : (0 : Int) < (L.length : Int) := by omega
  clear hL0 hx
  go_enter Try.func18, Try.ntmps18
  go_wp2_with fail
  obtain ⟨i0, hi0, hz0, hz1, hz2⟩ := info_parts infoPair
  have hbw := h.row.lt
  have hblt := hpb.2
  have a1 : vu.ownBlock ≠ some bw := fun e => (h.apart.2.2 _ e).1 rfl
  have a2 : vu.ownBlock ≠ some lb := fun e => hpb.1 (.inr (.inr (.inr (.inr (.inr e)))))
  have hu := h.u
  have hT : ∀ gg cap w1, w1.ownsRow base 30 2 (.slice (some ⟨gg, 0, none⟩) (out.length + 1) cap) (out.length + 1) (pairs out ++ [Value.int .i64 s, .int .i64 p]) → ((w.alloc (.cells #[.int .i64 s, .int .i64 p] 30)).drew).grownBy w1 vu.ownBlock →
      w1.cell? ⟨lb, lo, none⟩ = some (.int .i64 p) ∧ w1.cell? ⟨bw, 4, none⟩ = some vu ∧ w1.frozen? ⟨bw, 4, none⟩ = false ∧ IsWork base (w1.setCell ⟨bw, 4, none⟩ (.slice (some ⟨gg, 0, none⟩) (out.length + 1) cap)) bw bf br bn vo (.slice (some ⟨gg, 0, none⟩) (out.length + 1) cap) n H N R ord (out ++ [(s, p)]) ∧
      Below base w (w1.setCell ⟨bw, 4, none⟩ (.slice (some ⟨gg, 0, none⟩) (out.length + 1) cap)) ∧ IsInts (fun b => ¬ WB bw bf br bn vo vu b ∧ b < w.heap.size) (w1.setCell ⟨bw, 4, none⟩ (.slice (some ⟨gg, 0, none⟩) (out.length + 1) cap)) (.slice (some ⟨lb, lo, none⟩) L.length lc) L := by
    intro gg cap w1 ho hg
    have hd1 : IsWork base ((w.alloc (.cells #[.int .i64 s, .int .i64 p] 30)).drew) bw bf br bn vo vu n H N R ord out := (h.alloc _).keep fun _ _ => rfl
    obtain ⟨hrow1, hW1, hk1, hb1⟩ := hd1.told (v' := .slice (some ⟨gg, 0, none⟩) (out.length + 1) cap) (out' := out ++ [(s, p)]) (by simp; omega) (by simpa [pairs] using ho) hg
    refine ⟨?_, hrow1.cell rfl, hrow1.frozen 4, hW1, ((Below.refl base w).alloc hB _).drew.trans hb1, hi.keep fun b hb hlt => ⟨hb, (hk1 b (by simp; omega) (fun e => hb.1 (.inl e)) (fun e => hb.1 (.inr (.inr (.inr (.inr (.inr e))))))).trans ?_⟩⟩
    rotate_left
    · show (w.alloc _).heap[b]? = _
      exact Below.heap_alloc _ _ _ hlt
    · exact (hg.cell_far _ (by simp; omega) (Ne.symm a2)).trans ((World.cell?_of_block (a := ⟨lb, lo, none⟩) (Below.heap_alloc w _ lb hblt)).trans t0)
  go_upto_region 0 with fail
  go_cut [] (fun wx => ∃ gg cap, IsWork base wx bw bf br bn vo (.slice (some ⟨gg, 0, none⟩) (out.length + 1) cap) n H N R ord (out ++ [(s, p)]) ∧ Below base w wx ∧ IsInts (fun b => ¬ WB bw bf br bn vo vu b ∧ b < w.heap.size) wx (.slice (some ⟨lb, lo, none⟩) L.length lc) L ∧ gg ≠ lb)
  case first =>
    clear hi h
    go_region_law (first | refine step_append_lies _ (by rfl) _ _ _ (by rfl) base 30 i0 _ 2 16 Try.underlying22 hi0 hz0 hz1 hz2 rfl (by omega) vu out.length (pairs out) (by rfl) ((hu.alloc _).drew) ⟨w.heap.size, 0, none⟩ 1 1 [.int .i64 s, .int .i64 p] (by rfl) (by rfl) (World.news_of_block (cs := #[.int .i64 s, .int .i64 p]) (t := 30) (fr := (0, 0)) (heap_alloc_new w _)) (by simp [Value.oneCell']) (by omega) (by unfold maxLen; omega) (by omega) (by simp; omega) (w.heap.size + 1) (by simp) ?_; intro gg cap w1 hown1 hgrow hat hlt; obtain ⟨t1', c4', f4', hW1, hb1, hi1⟩ := hT _ _ _ hown1 hgrow)
    all_goals (try go_wp2_with fail)
    all_goals go_meet
    all_goals exact ⟨gg, cap, hW1, hb1, hi1, by rintro rfl; exact hat.elim a2 (fun e => by omega)⟩
  case rest =>
    obtain ⟨gg, cap, hW1, hb1, hi1, hgl⟩ := hcut
    have hii := ints_one hi1
    have hend := turnK_end H s p L
    have hblw : bw ≠ lb ∧ lb < wc.heap.size ∧ bf ≠ lb := ⟨fun e => hpb.1 (.inl e.symm), by have := lt_of_cell (hi1.cellK hpos); exact this, fun e => hpb.1 (.inr (.inl e.symm))⟩
    clear hi1 h c4 hu hT a1 a2 hbw hblt hpb t0 hi
    go_wp2_with fail
    go_loopg [27] L.length (fun g i wr => ∃ (k : Nat) (vx : Value), k + g = L.length ∧ i = .int .i64 k ∧ IsWork base wr bw bf br bn vo vx n H N R ord (out ++ (s, p) :: turnK H s L k) ∧ Below base w wr ∧ IsInts (· = lb) wr (.slice (some ⟨lb, lo, none⟩) L.length lc) L ∧ vx.ownBlock ≠ some lb)
    case atStart => exact ⟨0, _, by omega, rfl, by rw [turnK_zero hpos]; exact hW1, hb1, hii, by simpa [Value.ownBlock] using hgl⟩
    case round =>
      obtain ⟨k, vx, hk, rfl, hW2, hb2, hi2, hne⟩ := hrel
      clear hW1 hb1 hii hgl
      have htl := turnK_length (H := H) (s := s) (L := L) (k := k) (by omega) hpos
      by_cases hlt : k < L.length
      · have t0 := hi2.cellK hlt
        have hx64 := h64 _ (hP.isOn _ (List.getElem_mem hlt))
        have hr := hW2.f.look hx64
        have c0 : wr.cell? ⟨bw, 0, none⟩ = some (.map (some bf)) := hW2.row.cell rfl
        have c4 : wr.cell? ⟨bw, 4, none⟩ = some vx := hW2.row.cell rfl
        have hblt := lt_of_cell t0
        obtain ⟨x, HX⟩ : ∃ x, Hid (L[k] = x) := ⟨L[k], (rfl : L[k] = L[k])⟩
        rw [HX.out] at t0 hx64 hr
        obtain ⟨q, HQ⟩ : ∃ q, Hid ((H x).getD 0 = q) := ⟨_, (rfl : (H x).getD 0 = (H x).getD 0)⟩
        rw [HQ.out] at hr
        by_cases hlast : k + 1 < L.length
        · have hst := turnK_step (H := H) (s := s) hlast
          rw [HX.out, HQ.out] at hst
          have hd1 : decide ((k : Int) + 1 < (L.length : Int)) = true := by simp; omega
          have hd2 : decide (k + 1 < L.length) = true := by simpa using hlast
          clear hlast
          go_wp2_with (at_builtin; refine stop_here ?_)
          refine stop_go (app_pair rfl _ _ rfl base vx (out ++ (s, p) :: turnK H s L k) rfl (hW2.alloc _).u _ (x, q) rfl (heap_alloc_eq _ _ _ rfl) (by simp; omega) (by have := hb2.size; simp; omega) ?_)
          intro v' W3 ho3 hg3 hv3
          obtain ⟨hrow3, hW3, hk3, hb3⟩ := (hW2.alloc _).told (by have := hb2.size; simp; omega) ho3 hg3
          have hW4 : IsWork base (W3.setCell ⟨bw, 4, none⟩ v') bw bf br bn vo v' n H N R ord (out ++ (s, p) :: turnK H s L (k + 1)) := by have h9 := hW3; rw [List.append_assoc, List.cons_append, ← hst] at h9; exact h9
          have c4' : W3.cell? ⟨bw, 4, none⟩ = some vx := hrow3.cell rfl
          have f4' := hrow3.frozen 4
          have hi4 : IsInts (· = lb) (W3.setCell ⟨bw, 4, none⟩ v') (.slice (some ⟨lb, lo, none⟩) L.length lc) L := hi2.keep fun b hb hlt => ⟨hb, (hk3 b (by simp; omega) (by rw [hb]; exact hblw.1.symm) (by rw [hb]; exact hne)).trans (Below.heap_alloc _ _ _ hlt)⟩
          have hne4 : v'.ownBlock ≠ some lb := by
            rcases hv3 with hv3 | hv3
            · rw [hv3]; exact hne
            · rw [hv3]; simp; omega
          have hb4 := (hb2.alloc (by have := hb2.size; omega) _).trans hb3
          obtain ⟨ga, nl, ca, rfl⟩ : ∃ ga nl ca, v' = .slice (some ⟨ga, 0, none⟩) nl ca := by
            rcases owns_nilcase ho3 with ⟨_, h0, _⟩ | ⟨g, cc, h1⟩
            · simp at h0
            · exact ⟨g, _, cc, h1⟩
          clear ho3 hg3 hv3 hrow3 hk3 hb3 hW3 hW2 hb2 hst hi2 hne
          go_wp2_with fail
          go_roundg (gk - 1)
          case measure => omega
          case rel => exact ⟨k + 1, _, by omega, by go_num, hW4, hb4, hi4, hne4⟩
        · have hst := turnK_last (H := H) (s := s) (by omega : k + 1 = L.length)
          rw [HX.out] at hst
          have hd1 : decide ((k : Int) + 1 < (L.length : Int)) = false := by simp; omega
          have hd2 : decide (k + 1 < L.length) = false := by simpa using (by omega : L.length ≤ k + 1)
          clear hlast
          go_wp2_with (at_builtin; refine stop_here ?_)
          refine stop_go (app_pair rfl _ _ rfl base vx (out ++ (s, p) :: turnK H s L k) rfl (hW2.alloc _).u _ (x, s) rfl (heap_alloc_eq _ _ _ rfl) (by simp; omega) (by have := hb2.size; simp; omega) ?_)
          intro v' W3 ho3 hg3 hv3
          obtain ⟨hrow3, hW3, hk3, hb3⟩ := (hW2.alloc _).told (by have := hb2.size; simp; omega) ho3 hg3
          have hW4 : IsWork base (W3.setCell ⟨bw, 4, none⟩ v') bw bf br bn vo v' n H N R ord (out ++ (s, p) :: turnK H s L (k + 1)) := by have h9 := hW3; rw [List.append_assoc, List.cons_append, ← hst] at h9; exact h9
          have c4' : W3.cell? ⟨bw, 4, none⟩ = some vx := hrow3.cell rfl
          have f4' := hrow3.frozen 4
          have hi4 : IsInts (· = lb) (W3.setCell ⟨bw, 4, none⟩ v') (.slice (some ⟨lb, lo, none⟩) L.length lc) L := hi2.keep fun b hb hlt => ⟨hb, (hk3 b (by simp; omega) (by rw [hb]; exact hblw.1.symm) (by rw [hb]; exact hne)).trans (Below.heap_alloc _ _ _ hlt)⟩
          have hne4 : v'.ownBlock ≠ some lb := by
            rcases hv3 with hv3 | hv3
            · rw [hv3]; exact hne
            · rw [hv3]; simp; omega
          have hb4 := (hb2.alloc (by have := hb2.size; omega) _).trans hb3
          obtain ⟨ga, nl, ca, rfl⟩ : ∃ ga nl ca, v' = .slice (some ⟨ga, 0, none⟩) nl ca := by
            rcases owns_nilcase ho3 with ⟨_, h0, _⟩ | ⟨g, cc, h1⟩
            · simp at h0
            · exact ⟨g, _, cc, h1⟩
          clear ho3 hg3 hv3 hrow3 hk3 hb3 hW3 hW2 hb2 hst hi2 hne
          go_wp2_with fail
          go_roundg (gk - 1)
          case measure => omega
          case rel => exact ⟨k + 1, _, by omega, by go_num, hW4, hb4, hi4, hne4⟩
      · have hke : k = L.length := by omega
        have hW3 : IsWork base wr bw bf br bn vo vx n H N R ord (out ++ Mv.turnM H s p L) := by have h9 := hW2; rw [hke, hend] at h9; exact h9
        clear hW2 hke hend
        go_wp2_with fail
        go_loopg [59] L.length (fun g i wr => ∃ k : Nat, k + g = L.length ∧ i = .int .i64 k ∧ IsWork base wr bw bf br bn vo vx n (Mv.delL H (L.take k)) N R ord (out ++ Mv.turnM H s p L) ∧ Below base w wr ∧ IsInts (· = lb) wr (.slice (some ⟨lb, lo, none⟩) L.length lc) L)
        case atStart => exact ⟨0, by omega, rfl, by rw [List.take_zero, Mv.delL_nil]; exact hW3, hb2, hi2⟩
        case round =>
          obtain ⟨k, hk, rfl, hW4, hb4, hi4⟩ := hrel
          clear hW3 hb2 hi2 htl
          by_cases hlt : k < L.length
          · have t0 := hi4.cellK hlt
            have hx64 := h64 _ (hP.isOn _ (List.getElem_mem hlt))
            have hst := List.take_succ_eq_append_getElem hlt
            have c0 : wr.cell? ⟨bw, 0, none⟩ = some (.map (some bf)) := hW4.row.cell rfl
            have hblt := lt_of_cell t0
            obtain ⟨x, HX⟩ : ∃ x, Hid (L[k] = x) := ⟨L[k], (rfl : L[k] = L[k])⟩
            rw [HX.out] at t0 hx64 hst
            have HST : Hid (L.take (k + 1) = L.take k ++ [x]) := hst
            clear hst
            go_wp2_with (at_delete; refine stop_here ?_)
            refine stop_go (wp_del rfl _ _ rfl hW4.f x rfl rfl hx64 ?_)
            intro W5 hf5 ht5
            have hW5 := hW4.turnF (Nat.le_refl _) hf5 ht5
            rw [← Mv.delL_snoc, ← HST.out] at hW5
            have hb5 : Below base w W5 := hb4.grown ht5.grown (by have := hb4.size; omega) (fun k hk => by cases hk; exact hW4.ge.2.1)
            have hi5 : IsInts (· = lb) W5 (.slice (some ⟨lb, lo, none⟩) L.length lc) L := hi4.keep fun b hb hlt => ⟨hb, ht5.grown.block b hlt (fun e => hblw.2.2 (by rw [← hb]; simpa using e.symm))⟩
            clear hf5 ht5 hW4 hb4 hi4 c0 t0
            go_wp2_with fail
            go_roundg (gk - 1)
            case measure => omega
            case rel => exact ⟨k + 1, by omega, by go_num, hW5, hb5, hi5⟩
          · have hke : k = L.length := by omega
            rw [hke, List.take_length] at hW4
            go_wp2_with fail
            go_end0
            exact ⟨vx, rfl, hW4, hb4⟩
end Go.Proofs.Ytjgnailkfmgikaa
