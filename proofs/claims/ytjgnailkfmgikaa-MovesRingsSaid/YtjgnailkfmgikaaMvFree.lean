/- 'free': all moves to places that nothing reads any more. -/
import Derived.Test.YtjgnailkfmgikaaMvW
import Derived.Deep.LoopGhost
namespace Go.Proofs.Ytjgnailkfmgikaa
open Go.RowKit Go.Maps

theorem run_pop {base : Nat} {W : World} {a : Option Addr} {cap : Nat} {x : Int} {xs : List Int} (h : IsQ base W (.slice a (xs.length + 1) cap) (x :: xs)) :
    ∃ v2, (Instr.slice 33 (.slice a (xs.length + 1) cap) (some (.int .i64 1)) none none).run Try.prog W = .ok v2 W ∧ IsQ base W v2 xs := by
  obtain ⟨g, off, rfl, hg, hl, hc, h1, h2⟩ := h.pop
  obtain ⟨i0, hi, hz0, hz1, hz2⟩ := info_parts infoInt
  by_cases e : cap = 1
  · subst e
    refine ⟨_, ?_, h2 rfl⟩
    simp [Instr.slice, run_underlying Try.underlying33, go_sem, sizeOf, typeInfo, hi, hz1]
    omega
  · refine ⟨_, ?_, h1 (by omega)⟩
    simp [Instr.slice, run_underlying Try.underlying33, go_sem, sizeOf, typeInfo, hi, hz1]
    rw [if_pos (by omega), if_neg e]

/-- How often places are read, as a map. -/
def readsP (l : List (Int × Int)) : Mv.PF := fun x => if Mv.readsS l x = 0 then none else some (Mv.readsS l x)
theorem readsP_get (l : List (Int × Int)) (x : Int) : (readsP l x).getD 0 = (Mv.readsS l x : Int) := by
  unfold readsP; split
  · rename_i h; rw [h]; rfl
  · rfl

theorem IsWork.notQ {base B bw bf br bn n : Nat} {W : World} {vo vu v : Value} {F N R : Mv.PF} {ord xs : List Int} {out : List (Int × Int)} (h : IsWork base W bw bf br bn vo vu n F N R ord out) (hq : IsQ B W v xs) (ho : ∀ b, vo.ownBlock = some b → b < B) :
    ∀ b, v.ownBlock = some b → ¬ WB bw bf br bn vo vu b := by
  intro b hb
  obtain ⟨h1, h2, cur, hc⟩ := hq.lt hb
  rintro (rfl | rfl | rfl | rfl | hw | hw)
  · have := h.row; unfold Row at this; rw [this] at hc; simp at hc
  · exact map_not_cells h.f hc rfl
  · exact map_not_cells h.r hc rfl
  · exact map_not_cells h.n hc rfl
  · have := ho b hw; omega
  · obtain ⟨cur', hc', _⟩ := owns_cells h.u hw
    rw [hc] at hc'; simp at hc'

theorem nodup_len {A : List Int} : ∀ {B : List Int}, A.Nodup → (∀ x ∈ A, x ∈ B) → A.length ≤ B.length := by
  induction A with
  | nil => intro B _ _; simp
  | cons a A ih =>
    intro B hn hs
    have hn' := List.nodup_cons.1 hn
    have ha := hs a (by simp)
    have := ih (B := B.erase a) hn'.2 fun y hy => (List.mem_erase_of_ne (fun (e : y = a) => hn'.1 (e ▸ hy))).2 (hs y (by simp [hy]))
    rw [List.length_erase_of_mem ha] at this
    have := List.length_pos_of_mem ha
    simp; omega
theorem FInv_rlen {l : List (Int × Int)} {G N : Mv.PF} {ready : List Int} {out : List (Int × Int)} (ho : Mv.Once l) (h : Mv.FInv l G N ready out) : ready.length ≤ l.length := by
  refine Nat.le_trans (nodup_len h.rnd fun x hx => ?_) (Mv.ordS_le l)
  refine (Mv.fromS_dom ho).1 ?_
  rcases h.sub x with h1 | h1
  · exact absurd h1 (h.rdy x hx)
  · rw [← h1]; exact h.rdy x hx

/-- All that can be done is done. -/
def FreeP (base : Nat) (l : List (Int × Int)) (bw bf br bn : Nat) (vo : Value) (w : World) (e : Ending) (w' : World) : Prop :=
  ∃ vu G N n out, e = .returned (.tuple #[]) ∧ IsWork base w' bw bf br bn vo vu n G N (readsP l) (Mv.ordS l) out ∧ Mv.FDone l G out ∧ Below base w w' ∧ n ≤ 3 * l.length

theorem in64_of {l : List (Int × Int)} (h : ∀ m ∈ l, In64 m.1 ∧ In64 m.2) {x : Int} (hx : x ∈ Mv.ordS l) : In64 x := by
  obtain ⟨y, hy, _⟩ := Mv.mem_ordS.1 hx
  exact (h _ hy).1

set_option maxRecDepth 100000 in
set_option maxHeartbeats 4000000 in
theorem free_c {base : Nat} {l : List (Int × Int)} {bw bf br bn : Nat} {vo : Value} (w : World) (h : IsWork base w bw bf br bn vo (.slice none 0 0) (2 * l.length) (Mv.fromS l) (fun _ => none) (readsP l) (Mv.ordS l) []) (hl : l.length ≤ 1000) (ho : Mv.Once l) (h64 : ∀ m ∈ l, In64 m.1 ∧ In64 m.2) :
    Calls Try.prog 17 #[.pointer (some ⟨bw, 0, none⟩)] w (FreeP base l bw bf br bn vo w) := by
  have hol := Mv.ordS_le l
  have hbw : base ≤ w.heap.size := by have := h.wlt (.inl rfl : WB bw bf br bn vo (.slice none 0 0) bw); omega
  obtain ⟨O, HO⟩ : ∃ O, Hid (Mv.ordS l = O) := ⟨_, (rfl : Mv.ordS l = Mv.ordS l)⟩
  have hO := h
  rw [HO.out] at hol hO
  obtain ⟨oa, oc, rfl⟩ : ∃ oa oc, vo = .slice oa O.length oc := by
    rcases owns_nilcase hO.o with ⟨h1, h2, _⟩ | ⟨g, c, h1⟩
    · exact ⟨none, 0, by rw [h1, h2]⟩
    · exact ⟨_, _, h1⟩
  have hio := ints_of_owns (p := (· < w.heap.size)) hO.o (by omega) (fun _ _ _ hb => hb)
  have hov : ∀ b, (Value.slice oa O.length oc).ownBlock = some b → b < w.heap.size := fun b hb => (hO.o.lt b hb).2
  go_enter Try.func17, Try.ntmps17
  have c3 : w.cell? ⟨bw, 3, none⟩ = some (.slice oa O.length oc) := hO.row.cell rfl
  go_wp2_with fail
  go_loopw [2, 16] (fun s2 i wr => ∃ k : Nat, k ≤ O.length ∧ i = .int .i64 k ∧ IsQ w.heap.size wr s2 ((O.take k).filter fun x => Mv.readsS l x == 0) ∧ Below w.heap.size w wr) (fun _ i _ => O.length - (intOf i).toNat)
  case atStart => exact ⟨0, by omega, rfl, IsQ.nil _ _, bel_refl _⟩
  case round =>
    obtain ⟨k, hk, rfl, hq, hb⟩ := hrel
    have hW := h.below hb (Nat.le_refl _)
    have hsz := hb.size
    by_cases hlt : k < O.length
    · obtain ⟨_, _, hv0, -, hx⟩ := hio.keep (Keep.belowB hb)
      simp only [Value.slice.injEq, true_and] at hv0
      obtain ⟨rfl, rfl⟩ := hv0
      rcases hx with rfl | ⟨ob, oo, rfl, hpb, hx⟩
      · simp at hlt
      have t0 := hx k hlt
      simp only [CInt, Nat.mul_one] at t0
      clear hx
      have h641 : In64 O[k] := in64_of h64 (HO.out ▸ List.getElem_mem hlt)
      have HF := List.take_succ_eq_append_getElem hlt
      obtain ⟨x, HX⟩ : ∃ x, Hid (O[k] = x) := ⟨O[k], (rfl : O[k] = O[k])⟩
      rw [HX.out] at t0 h641 HF
      have hrun := hW.r.look h641
      rw [readsP_get] at hrun
      have c1 : wr.cell? ⟨bw, 1, none⟩ = some (.map (some br)) := hW.row.cell rfl
      obtain ⟨r, HR⟩ : ∃ r, Hid (Mv.readsS l x = r) := ⟨Mv.readsS l x, (rfl : Mv.readsS l x = Mv.readsS l x)⟩
      rw [HR.out] at hrun
      have HF2 : Hid ((O.take (k + 1)).filter (fun x => Mv.readsS l x == 0) = (O.take k).filter (fun x => Mv.readsS l x == 0) ++ (if r = 0 then [x] else [])) := by
        show _ = _
        rw [HF, List.filter_append]
        congr 1
        have := HR.out
        by_cases e : r = 0 <;> simp [this, e]
      obtain ⟨qs, HQ⟩ : ∃ qs, Hid ((O.take k).filter (fun x => Mv.readsS l x == 0) = qs) := ⟨_, (rfl : (O.take k).filter (fun x => Mv.readsS l x == 0) = (O.take k).filter (fun x => Mv.readsS l x == 0))⟩
      have hql : qs.length ≤ O.length := by rw [← HQ.out]; exact Nat.le_trans (List.length_filter_le _ _) (by simp; omega)
      rw [HQ.out] at hq HF2
      clear HF hW
      by_cases e : r = 0
      · have hr0 : ((r : Int) == 0) = true := by simp [e]
        have HF3 : Hid ((O.take (k + 1)).filter (fun x => Mv.readsS l x == 0) = qs ++ [x]) := by have := HF2.out; rw [if_pos e] at this; exact this
        clear e HF2
        go_wp2_with (at_builtin; refine stop_here ?_)
        refine stop_go (wp_qapp rfl _ _ rfl w.heap.size _ qs rfl (hq.keep fun b hb => Below.heap_alloc _ _ _ (hq.lt hb).2.1) _ x rfl (heap_alloc_eq _ _ _ rfl) (by omega) (by simp; omega) ?_)
        intro v' w' hq' hg'
        have hb' : Below w.heap.size w w' := bel_grown (bel_alloc hb _) hg' (fun k hk => (hq.lt hk).1)
        clear hq hb hg'
        go_wp2_with fail
        go_roundw
        case rel => exact ⟨k + 1, by omega, by go_num, by rw [HF3.out]; exact hq', hb'⟩
        case measure => simp [intOf]; omega
      · have hr0 : ((r : Int) == 0) = false := beq_eq_false_iff_ne.2 (by omega)
        have HF3 : Hid ((O.take (k + 1)).filter (fun x => Mv.readsS l x == 0) = qs) := by have := HF2.out; rw [if_neg e, List.append_nil] at this; exact this
        clear e HF2
        go_wp2_with fail
        go_roundw
        case rel => exact ⟨k + 1, by omega, by go_num, by rw [HF3.out]; exact hq, hb⟩
        case measure => simp [intOf]; omega
    · have hke : k = O.length := by omega
      have hst := Mv.FInv.start ho
      rw [HO.out] at hst
      rw [hke, List.take_length] at hq
      clear hke
      go_wp2_with fail
      clear hio c3
      have hst' : Hid (Mv.FInv l (Mv.fromS l) (fun _ => none) (O.filter fun x => Mv.readsS l x == 0) []) := hst
      have hbb := hb.mono hbw
      clear hst
      go_loopg [2] O.length (fun g s2 wr => ∃ (G N : Mv.PF) (ready : List Int) (vu : Value) (n : Nat) (out : List (Int × Int)), IsQ w.heap.size wr s2 ready ∧ IsWork base wr bw bf br bn (.slice oa O.length oc) vu n G N (readsP l) (Mv.ordS l) out ∧ Hid (Mv.FInv l G N ready out) ∧ Below base w wr ∧ w.heap.size ≤ wr.heap.size ∧ out.length + g = O.length ∧ n ≤ 2 * l.length + out.length)
      case atStart => exact ⟨_, _, _, _, _, _, hq, hW, hst', hbb, hsz, by simp, by simp⟩
      case round =>
        obtain ⟨G, N, ready, vu, n, out, hq1, hW1, hI, hb1, hsz1, hg, hn⟩ := hrel
        clear hq hW hst' hbb hb hsz
        have hnq := hW1.notQ hq1 hov
        cases ready with
        | nil =>
          obtain ⟨a, cap, rfl, -⟩ := id hq1
          have hdone := Mv.FInv.fin ho hI.out
          simp only [List.length_nil]
          go_wp2_with fail
          go_end0
          exact ⟨_, _, _, _, _, rfl, hW1, hdone, hb1, by omega⟩
        | cons p rest =>
          obtain ⟨a, cap, rfl, -⟩ := id hq1
          have hlr : (p :: rest).length = rest.length + 1 := rfl
          rw [hlr] at hq1 hnq ⊢
          clear hlr
          obtain ⟨g8, o8, rfl, hg8, hcap, c0, -, -⟩ := hq1.pop
          obtain ⟨v2, hrun2, hq2⟩ := run_pop hq1
          obtain ⟨q, hGq⟩ := Option.ne_none_iff_exists'.1 (hI.out.rdy p (by simp))
          have hFq := hI.out.here hGq
          have hFm := (Mv.fromS_iff ho).1 hFq
          obtain ⟨hp64, hq64⟩ := h64 _ hFm.1
          dsimp only at hp64 hq64
          have hrl : rest.length ≤ 1000 := by have := FInv_rlen ho hI.out; simp at this; omega
          have hnq2 := hW1.notQ hq2 hov
          have hr1 := hW1.f.look hp64
          rw [hGq] at hr1
          dsimp only [Option.getD_some] at hr1
          have c1 : wr.cell? ⟨bw, 0, none⟩ = some (.map (some bf)) := hW1.row.cell rfl
          have hpos : ((rest.length + 1 : Nat) : Int) > 0 := by omega
          go_wp2_with (at_delete; refine stop_here ?_)
          refine stop_go (wp_del rfl _ _ rfl hW1.f p rfl rfl hp64 ?_)
          intro W2 hf2 ht2
          have hW2 := hW1.turnF (Nat.le_refl _) hf2 ht2
          have hb2 : Below base w W2 := hb1.grown ht2.grown (by omega) (fun k hk => by cases hk; exact hW1.ge.2.1)
          have hsz2 : wr.heap.size ≤ W2.heap.size := ht2.grown.size
          have hq3 : IsQ w.heap.size W2 v2 rest := hq2.keep fun b hb => ht2.grown.block b (hq2.lt hb).2.1 (fun e => hnq2 b hb (.inr (.inl (by simpa using e))))
          have c2 : W2.cell? ⟨bw, 2, none⟩ = some (.map (some bn)) := hW2.row.cell rfl
          have c4 : W2.cell? ⟨bw, 4, none⟩ = some vu := hW2.row.cell rfl
          have hr2 := hW2.n.lookok hq64
          have hol2 : out.length ≤ 1000 := by omega
          clear hq1 hq2 hnq c0 hr1 c1 hrun2 hf2 ht2 hW1 hb1
          cases hNq : N q with
          | some c =>
            rw [hNq] at hr2
            dsimp only [Option.getD_some, Option.isSome_some] at hr2
            have hI2 : Hid (Mv.FInv l (Mv.del G p) N rest (out ++ [(p, c)])) := Mv.FInv.stepA ho hI.out hGq hNq
            have hlo := hI2.out.len
            rw [HO.out] at hlo
            simp only [List.length_append, List.length_cons, List.length_nil] at hlo
            have hlo1 : out.length + 1 ≤ O.length := by omega
            clear hNq hGq hFq hFm hlo
            go_wp2_with (at_builtin; refine stop_here ?_)
            refine stop_go (app_pair rfl _ _ rfl base vu out rfl (hW2.alloc _).u _ (p, c) rfl (heap_alloc_eq _ _ _ rfl) (by omega) (by simp; omega) ?_)
            intro v' w' ho' hg' _
            obtain ⟨hrow', hW3, hk3, hb3⟩ := (hW2.alloc _).told (by simp; omega) ho' hg'
            have c4' : w'.cell? ⟨bw, 4, none⟩ = some vu := hrow'.cell rfl
            have f4' := hrow'.frozen 4
            have hq4 : IsQ w.heap.size (w'.setCell ⟨bw, 4, none⟩ v') v2 rest := hq3.keep fun b hb => (hk3 b (by have := (hq3.lt hb).2.1; simp; omega) (fun e => hnq2 b hb (.inl e)) (fun e => hnq2 b hb (.inr (.inr (.inr (.inr (.inr e))))))).trans (Below.heap_alloc _ _ _ (hq3.lt hb).2.1)
            have hsz3 : w.heap.size ≤ (w'.setCell ⟨bw, 4, none⟩ v').heap.size := by have := hb3.size; simp at this ⊢; omega
            have hb4 := (hb2.alloc (by omega) _).trans hb3
            obtain ⟨ga, ca, rfl⟩ : ∃ ga ca, v' = .slice (some ⟨ga, 0, none⟩) (out.length + 1) ca := by
              rcases owns_nilcase ho' with ⟨_, h0, _⟩ | ⟨g, cc, h1⟩
              · simp at h0
              · exact ⟨g, cc, by simpa using h1⟩
            clear ho' hg' hrow' hk3 hb3 hq3 hW2 hb2 c4 hnq2
            go_wp2_with fail
            go_roundg (gk - 1)
            case measure => omega
            case rel => exact ⟨_, _, rest, _, n, _, hq4, hW3, hI2, hb4, hsz3, by simp; omega, by simp; omega⟩
          | none =>
            rw [hNq] at hr2
            dsimp only [Option.getD_none, Option.isSome_none] at hr2
            have hI2 := Mv.FInv.stepB ho hI.out hGq hNq
            have HI2 : Hid (Mv.FInv l (Mv.del G p) (Mv.upd N q p) (if Mv.del G p q = none then rest else rest ++ [q]) (out ++ [(p, q)])) := hI2
            have hlo := hI2.len
            rw [HO.out] at hlo
            simp only [List.length_append, List.length_cons, List.length_nil] at hlo
            have hlo1 : out.length + 1 ≤ O.length := by omega
            clear hNq hGq hFq hFm hI2 hlo
            go_wp2_with (at_builtin; refine stop_here ?_)
            refine stop_go (app_pair rfl _ _ rfl base vu out rfl (hW2.alloc _).u _ (p, q) rfl (heap_alloc_eq _ _ _ rfl) (by omega) (by simp; omega) ?_)
            intro v' w' ho' hg' _
            obtain ⟨hrow', hW3, hk3, hb3⟩ := (hW2.alloc _).told (by simp; omega) ho' hg'
            have c4' : w'.cell? ⟨bw, 4, none⟩ = some vu := hrow'.cell rfl
            have f4' := hrow'.frozen 4
            have c2' : w'.cell? ⟨bw, 2, none⟩ = some (.map (some bn)) := hrow'.cell rfl
            have hq4 : IsQ w.heap.size (w'.setCell ⟨bw, 4, none⟩ v') v2 rest := hq3.keep fun b hb => (hk3 b (by have := (hq3.lt hb).2.1; simp; omega) (fun e => hnq2 b hb (.inl e)) (fun e => hnq2 b hb (.inr (.inr (.inr (.inr (.inr e))))))).trans (Below.heap_alloc _ _ _ (hq3.lt hb).2.1)
            have hsz3 : w.heap.size ≤ (w'.setCell ⟨bw, 4, none⟩ v').heap.size := by have := hb3.size; simp at this ⊢; omega
            have hb4 := (hb2.alloc (by omega) _).trans hb3
            obtain ⟨ga, ca, rfl⟩ : ∃ ga ca, v' = .slice (some ⟨ga, 0, none⟩) (out.length + 1) ca := by
              rcases owns_nilcase ho' with ⟨_, h0, _⟩ | ⟨g, cc, h1⟩
              · simp at h0
              · exact ⟨g, cc, by simpa using h1⟩
            clear ho' hg' hrow' hk3 hb3 hq3 hW2 hb2 c4 hnq2 hr2
            go_wp2_with (at_mapUpdate; refine stop_here ?_)
            refine stop_go (wp_put rfl _ _ _ rfl hW3.n (by omega) q p rfl rfl rfl hq64 hp64 ?_)
            intro W4 hn4 ht4
            have hnq4 := hW3.notQ hq4 hov
            have hW4 := hW3.turnN (Nat.le_succ _) hn4 ht4
            have hq5 : IsQ w.heap.size W4 v2 rest := hq4.keep fun b hb => ht4.grown.block b (hq4.lt hb).2.1 (fun e => hnq4 b hb (.inr (.inr (.inr (.inl (by simpa using e))))))
            have hb5 : Below base w W4 := hb4.grown ht4.grown (by omega) (fun k hk => by cases hk; exact hW3.ge.2.2.2)
            have hsz5 : w.heap.size ≤ W4.heap.size := Nat.le_trans hsz3 ht4.grown.size
            have c0 : W4.cell? ⟨bw, 0, none⟩ = some (.map (some bf)) := hW4.row.cell rfl
            have hr4 := hW4.f.lookok hq64
            have hnq5 := hW4.notQ hq5 hov
            clear hn4 ht4 hnq4 hW3 hq4 hb4 hsz3 c4' f4' c2'
            cases hdq : Mv.del G p q with
            | none =>
              rw [hdq] at hr4
              dsimp only [Option.getD_none, Option.isSome_none] at hr4
              have HI3 : Hid (Mv.FInv l (Mv.del G p) (Mv.upd N q p) rest (out ++ [(p, q)])) := by have := HI2.out; rw [if_pos hdq] at this; exact this
              clear hdq HI2
              go_wp2_with fail
              go_roundg (gk - 1)
              case measure => omega
              case rel => exact ⟨_, _, rest, _, n + 1, _, hq5, hW4, HI3, hb5, hsz5, by simp; omega, by simp; omega⟩
            | some u =>
              rw [hdq] at hr4
              dsimp only [Option.getD_some, Option.isSome_some] at hr4
              have HI3 : Hid (Mv.FInv l (Mv.del G p) (Mv.upd N q p) (rest ++ [q]) (out ++ [(p, q)])) := by have := HI2.out; rw [if_neg (by rw [hdq]; simp)] at this; exact this
              clear hdq HI2
              go_wp2_with (at_builtin; refine stop_here ?_)
              refine stop_go (wp_qapp rfl _ _ rfl w.heap.size v2 rest rfl (hq5.keep fun b hb => Below.heap_alloc _ _ _ (hq5.lt hb).2.1) _ q rfl (heap_alloc_eq _ _ _ rfl) (by omega) (by simp; omega) ?_)
              intro v6 W6 hq6 hg6
              have hW6 : IsWork base W6 bw bf br bn (.slice oa O.length oc) _ (n + 1) (Mv.del G p) (Mv.upd N q p) (readsP l) (Mv.ordS l) (out ++ [(p, q)]) := hW4.keep fun b hb => (hg6.block b (by have := (hW4.wlt hb).2; simp; omega) (fun e => hnq5 b e.symm hb)).trans (Below.heap_alloc _ _ _ (hW4.wlt hb).2)
              have hb6 : Below base w W6 := (hb5.alloc (by omega) _).grown hg6 (by simp; omega) (fun k hk => by have := (hq5.lt hk).1; omega)
              have hsz6 : w.heap.size ≤ W6.heap.size := by have := hg6.size; simp at this; omega
              clear hW4 hq5 hb5 hsz5 hg6 hnq5 hr4 c0
              go_wp2_with fail
              go_roundg (gk - 1)
              case measure => omega
              case rel => exact ⟨_, _, rest ++ [q], _, n + 1, _, hq6, hW6, HI3, hb6, hsz6, by simp; omega, by simp; omega⟩
end Go.Proofs.Ytjgnailkfmgikaa
