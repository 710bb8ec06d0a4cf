/- The law MovesSeq. -/
import Derived.Test.YtjgnailkfmgikaaMovesFan
import Derived.Test.YtjgnailkfmgikaaMvWrong
import Derived.Test.YtjgnailkfmgikaaMvClone
import Derived.Test.YtjgnailkfmgikaaMvOpen
namespace Go.Proofs.Ytjgnailkfmgikaa
open Go.RowKit Go.Maps

/-- Two arrays of two alike numbers are alike. -/
theorem eq_pair_d (d : Nat) (x y : Int) (w : World) : (Op.equalIn (d + 1 + 1) 30 (.agg #[.int .i64 x, .int .i64 y]) (.agg #[.int .i64 x, .int .i64 y])).run Try.prog w = .ok true w := by
  have hi := run_equalIn_int (P := Try.prog) w d 3 .i64 .i64 x x Try.underlying3
  have hi2 := run_equalIn_int (P := Try.prog) w d 3 .i64 .i64 y y Try.underlying3
  generalize he : d + 1 = e at hi hi2 ⊢
  unfold Op.equalIn
  simp only [Sem.run_bind, run_underlying Try.underlying30, Result.andThen_ok]
  obtain ⟨i0, hi0, hz0, hz1, hz2⟩ := info_parts infoInt
  have hp0 : (part 3 #[Value.int .i64 x, Value.int .i64 y] 0).run Try.prog w = .ok (.int .i64 x) w := by
    simp [part, sizeOf, typeInfo, hi0, hz1, go_sem]
  have hp1 : (part 3 #[Value.int .i64 x, Value.int .i64 y] 1).run Try.prog w = .ok (.int .i64 y) w := by
    simp [part, sizeOf, typeInfo, hi0, hz1, go_sem]
  have hs : (sizeOf 3).run Try.prog w = .ok 1 w := by simp [sizeOf, typeInfo, hi0, hz1]
  have hr : List.range' 0 2 1 = [0, 1] := rfl
  simp [hs, Std.Legacy.Range.forIn_eq_forIn_range', Std.Legacy.Range.size, hr, hp0, hp1, hi, hi2, Result.andThen]

/-- Is a place the scratch, or one that is written, of the first t? -/
def RB (l : List (Int × Int)) (s x : Int) (t : Nat) (b : Bool) : Prop := b = true ↔ x = s ∨ ∃ i, ∃ h : i < l.length, i < t ∧ l[i].1 = x
theorem RB.keep {l : List (Int × Int)} {s x : Int} {t : Nat} (h : RB l s x t true) : RB l s x (t + 1) true := by
  unfold RB at *
  refine ⟨fun _ => ?_, fun _ => rfl⟩
  rcases h.1 rfl with h1 | ⟨i, hi, h1, h2⟩
  · exact .inl h1
  · exact .inr ⟨i, hi, by omega, h2⟩
theorem RB.hit {l : List (Int × Int)} {s x : Int} {t : Nat} (h : t < l.length) (e : l[t].1 = x) : RB l s x (t + 1) true := by
  unfold RB
  exact ⟨fun _ => .inr ⟨t, h, by omega, e⟩, fun _ => rfl⟩
theorem RB.miss {l : List (Int × Int)} {s x : Int} {t : Nat} (h : RB l s x t false) (ht : t < l.length) (e : l[t].1 ≠ x) : RB l s x (t + 1) false := by
  unfold RB at *
  rw [h]
  constructor
  · rintro (h1 | ⟨i, hi, h1, h2⟩)
    · exact .inl h1
    · exact .inr ⟨i, hi, by omega, h2⟩
  · rintro (h1 | ⟨i, hi, h1, h2⟩)
    · exact .inl h1
    · by_cases ei : i = t
      · subst ei; exact absurd h2 e
      · exact .inr ⟨i, hi, by omega, h2⟩

set_option maxRecDepth 100000 in
set_option maxHeartbeats 4000000 in
theorem movesSeq_c {p : Nat → Prop} {v : Value} {l : List (Int × Int)} (w : World) (h0 : IsPairs p w v l ∧ ∀ m ∈ l, In64 m.1 ∧ In64 m.2) (s : Int) :
    Calls Try.prog 3 #[v, .int .i64 s] w fun e w' => e = .returned (.bool true) ∧ Below w.heap.size w w' := by
  obtain ⟨h0, h64⟩ := h0
  have h : IsPairs (· < w.heap.size) w v l := h0.keep (Keep.refl w fun _ _ hb => hb)
  clear h0
  obtain ⟨a, cap, hv, hlen, _⟩ := id h
  subst hv
  have H64 : Hid (∀ m ∈ l, In64 m.1 ∧ In64 m.2) := h64
  clear h64
  go_enter Try.func3, Try.ntmps3
  go_wp2_with fail
  refine (alive20_c w).mono ?_
  rintro e w1 ⟨rfl, hB1⟩
  by_cases h60 : 60 < l.length
  · have hd : decide ((l.length : Int) > 60) = true := by simpa using (by omega : (60 : Int) < l.length)
    go_wp2_with fail
    go_ret
    exact ⟨rfl, hB1⟩
  · have hd : decide ((l.length : Int) > 60) = false := by simpa using (by omega : (l.length : Int) ≤ 60)
    have h1 := h.keep (Keep.belowB hB1)
    have hs1 := hB1.size
    go_wp2_with (at_builtin; refine stop_here ?_)
    refine stop_go (wp_clone rfl _ _ rfl rfl rfl h1 (by omega) ?_)
    intro v' w2 ho2 hb2
    have hB2 := bel_call hB1 hb2
    have h2 := h.keep (Keep.belowB hB2)
    have ho2' := owns_mono ho2 hs1
    have hi2 : IsPairs (· < w2.heap.size) w2 v' l := pairs_of_owns ho2 (by omega) (fun _ _ _ hb => hb)
    obtain ⟨va, vc, hv, -⟩ := id hi2
    subst hv
    clear ho2 hb2 h1 hs1 ho2'
    go_wp2_with fail
    refine (seq_c w2 s hi2 (by omega) H64.out).mono ?_
    rintro e w3 ⟨hb3, ⟨hbad, rfl⟩ | ⟨hbad, G, out0, n, H, out, v, rfl, ho3, hd3, hs3⟩⟩
    · have hB3 := bel_call hB2 hb3
      have h3 := h.keep (Keep.belowB hB3)
      have HBD : Hid (BadS l s) := hbad
      clear hb3 h2 hi2 hbad
      go_wp2_with fail
      refine (wrong_c w3 s h3 (by omega)).mono ?_
      rintro e w4 ⟨hb4, r, rfl, hr⟩
      have hr1 : r = true := hr.2 HBD.out
      subst hr1
      have hB4 := bel_call hB3 hb4
      clear hr hb4 h3
      go_wp2_with fail
      refine (num_c 1 _).mono ?_
      rintro e w' ⟨rfl, rfl⟩
      go_wp2_with fail
      go_ret
      exact ⟨rfl, hB4⟩
    · have hOnce : Mv.Once l := Classical.byContradiction fun hn => hbad (.inl hn)
      have hls : ∀ m ∈ l, m.1 ≠ s ∧ m.2 ≠ s := fun m hm => ⟨fun e => hbad (.inr ⟨m, hm, .inl e⟩), fun e => hbad (.inr ⟨m, hm, .inr e⟩)⟩
      obtain ⟨hlen3, haft, -, hdst, hcnt⟩ := hs3.fin hOnce hls
      have hnl := hcnt.le
      have hol := Mv.ordS_le l
      have hB3 := bel_call hB2 hb3
      have h3 := h.keep (Keep.belowB hB3)
      have hi3 : IsPairs (· < w3.heap.size) w3 (.slice va l.length vc) l := (hi2.keep (Keep.belowB hb3)).keep (Keep.refl w3 fun x hx _ => by have := hb3.size; omega)
      have his3 : IsPairs (· < w3.heap.size) w3 v out := pairs_of_owns ho3 (by omega) (fun _ _ _ hb => hb)
      have HF : Hid (Mv.Once l ∧ Mv.FDone l G out0 ∧ Mv.Cnt G (Mv.ordS l) n ∧ ¬ BadS l s ∧ (∀ m ∈ l, Mv.aft out m.1 = m.2) ∧ ∀ m ∈ out, m.1 = s ∨ ∃ m' ∈ l, m'.1 = m.1) := ⟨hOnce, hd3, hcnt, hbad, haft, hdst⟩
      have holn : out.length ≤ 10000 := by omega
      have HLN : Hid (out.length = (Mv.ordS l).length + n) := hlen3
      obtain ⟨oa, oc, hv, -⟩ := id his3
      subst hv
      clear hb3 h2 hi2 hbad hs3 ho3 hd3 hOnce hls haft hdst hcnt hlen3
      go_wp2_with fail
      refine (wrong_c w3 s h3 (by omega)).mono ?_
      rintro e w4 ⟨hb4, r, rfl, hr⟩
      have hr1 : r = false := by
        cases r
        · rfl
        · exact absurd (hr.1 rfl) HF.out.2.2.2.1
      subst hr1
      have hB4 := bel_call hB3 hb4
      have h4 := h.keep (Keep.belowB hB4)
      have hi4 := (hi3.keep (Keep.below hb4)).keep (Keep.refl (p' := (· < w4.heap.size)) w4 fun _ _ hb => hb)
      have his4 := (his3.keep (Keep.below hb4)).keep (Keep.refl (p' := (· < w4.heap.size)) w4 fun _ _ hb => hb)
      clear hr hb4 h3 hi3 his3 hB3
      go_wp2_with fail
      refine (num_c 0 _).mono ?_
      rintro e w' ⟨rfl, rfl⟩
      go_wp2_with fail
      refine (leastR_c w4 h4 (by omega) HF.out.1 HF.out.2.1).mono ?_
      rintro e w5 ⟨hb5, n2, rfl, hn2⟩
      have hnn : n2 = n := (hn2 HF.out.1).uniq HF.out.2.2.1
      subst hnn
      have hB5 := bel_call hB4 hb5
      have h5 := h.keep (Keep.belowB hB5)
      have hi5 := (hi4.keep (Keep.below hb5)).keep (Keep.refl (p' := (· < w5.heap.size)) w5 fun _ _ hb => hb)
      have his5 := (his4.keep (Keep.below hb5)).keep (Keep.refl (p' := (· < w5.heap.size)) w5 fun _ _ hb => hb)
      have hle : ((out.length : Int) != ((n2 + (Mv.ordS l).length : Nat) : Int)) = false := by have := HLN.out; simp; omega
      have hle2 : ((out.length : Int) != (n2 : Int) + ((Mv.ordS l).length : Int)) = false := by have := HLN.out; simp; omega
      clear hn2 hb5 h4 hi4 his4 hB4
      go_wp2_with fail
      refine (cycles_c w5 h5 (by omega) H64.out).mono ?_
      rintro e w6 ⟨hb6, n3, rfl, -, hn3⟩
      obtain ⟨G2, out2, hd6, hc6⟩ := hn3 HF.out.1
      have hB6 := bel_call hB5 hb6
      have h6 := h.keep (Keep.belowB hB6)
      have hi6 := (hi5.keep (Keep.below hb6)).keep (Keep.refl (p' := (· < w6.heap.size)) w6 fun _ _ hb => hb)
      have his6 := (his5.keep (Keep.below hb6)).keep (Keep.refl (p' := (· < w6.heap.size)) w6 fun _ _ hb => hb)
      have HC6 : Hid (Mv.Cnt G2 (Mv.ordS l) n3) := hc6
      clear hn3 hb6 h5 hi5 his5 hB5 hc6
      go_wp2_with fail
      refine (cyclesR_c w6 h6 (by omega) (fun _ => hd6)).mono ?_
      rintro e w7 ⟨hb7, n4, rfl, -, hn4⟩
      have hnn : n4 = n3 := (hn4 HF.out.1).uniq HC6.out
      subst hnn
      have hB7 := bel_call hB6 hb7
      have h7 := (h.keep (Keep.belowB hB7)).keep (Keep.refl (p' := (· < w7.heap.size)) w7 fun x hx _ => by have := hB7.size; omega)
      have hi7 := (hi6.keep (Keep.below hb7)).keep (Keep.refl (p' := (· < w7.heap.size)) w7 fun _ _ hb => hb)
      have his7 := (his6.keep (Keep.below hb7)).keep (Keep.refl (p' := (· < w7.heap.size)) w7 fun _ _ hb => hb)
      clear hn4 hb7 h6 hi6 his6 hB6 hd6
      go_wp2_with fail
      go_loopg [10] l.length (fun g i wr => ∃ k : Nat, k + g = l.length ∧ i = .int .i64 k ∧ Below w7.heap.size w7 wr)
      case atStart => exact ⟨0, by omega, rfl, bel_refl _⟩
      case round =>
        obtain ⟨j, hj, rfl, hb8⟩ := hrel
        have hB8 := bel_call hB7 hb8
        have his8 := (his7.keep (Keep.below hb8)).keep (Keep.refl (p' := (· < wr.heap.size)) wr fun x hx _ => by have := hb8.size; omega)
        have h8 := (h7.keep (Keep.below hb8)).keep (Keep.refl (p' := (· < wr.heap.size)) wr fun x hx _ => by have := hb8.size; omega)
        by_cases hjl : j < l.length
        · obtain ⟨_, _, hv0, -, hx⟩ := id h8
          simp only [Value.slice.injEq, true_and] at hv0
          obtain ⟨rfl, rfl⟩ := hv0
          rcases hx with rfl | ⟨lb, lo, rfl, hpb, hx⟩
          · simp at hjl
          obtain ⟨t0, t1⟩ := hx j hjl
          obtain ⟨_, _, hv0, -, hx2⟩ := (hi7.keep (Keep.below hb8)).keep (Keep.refl (p' := (· < wr.heap.size)) wr fun x hx _ => by have := hb8.size; omega)
          simp only [Value.slice.injEq, true_and] at hv0
          obtain ⟨rfl, rfl⟩ := hv0
          rcases hx2 with rfl | ⟨ob, oo, rfl, hpo, hx2⟩
          · simp at hjl
          obtain ⟨u0, u1⟩ := hx2 j hjl
          clear hx hx2
          have hm := HF.out.2.2.2.2.1 l[j] (List.getElem_mem hjl)
          obtain ⟨⟨x, y⟩, HM⟩ : ∃ m, Hid (l[j] = m) := ⟨l[j], (rfl : l[j] = l[j])⟩
          rw [HM.out] at t0 t1 hm u0 u1
          dsimp only at t0 t1 hm u0 u1
          have HXY : Hid (Mv.aft out x = y) := hm
          have hA : ∀ X, TwoS wr lb (lo + j * 2) (x, y) X → Calls Try.prog 15 #[.slice oa out.length oc, .int .i64 x] X fun e Y => e = .returned (.int .i64 y) ∧ TwoS wr lb (lo + j * 2) (x, y) Y ∧ Below X.heap.size X Y := by
            intro X hX
            have hi : IsPairs (· < wr.heap.size) X (.slice oa out.length oc) out := his8.keep (Keep.below hX.2.2)
            refine (after_c X x hi holn).mono ?_
            rintro e Y ⟨rfl, hb⟩
            rw [HXY.out]
            exact ⟨rfl, hX.call hb hpb, hb⟩
          have hE0 : TwoS wr lb (lo + j * 2) (x, y) wr := ⟨t0, t1, bel_refl _⟩
          have hyy : (y != y) = false := by simp
          have heq : ∀ W, (Op.equalIn 10000 30 (.agg #[.int .i64 x, .int .i64 y]) (.agg #[.int .i64 x, .int .i64 y])).run Try.prog W = .ok true W := fun W => eq_pair_d 9998 x y W
          clear hm his8 h8
          go_upto_region 14 with fail
          go_cut [89] (fun bb wx => bb = .bool false ∧ TwoS wr lb (lo + j * 2) (x, y) wx)
          case first =>
            go_region_held3 (fun X => X.cell? ⟨lb, lo + j * 2, none⟩ = some (.int .i64 x) ∧ X.cell? ⟨lb, lo + j * 2 + 1, none⟩ = some (.int .i64 y) ∧ X.cell? ⟨ob, oo + j * 2, none⟩ = some (.int .i64 x) ∧ X.cell? ⟨ob, oo + j * 2 + 1, none⟩ = some (.int .i64 y)) (first | go_keep)
              (first
                | (go_at_call 15; refine (hA _ hE0.drew).mono ?_; rintro e Ya ⟨rfl, hEa, hba⟩; have q0 := hEa.1; have q1 := hEa.2.1; have q2 : Ya.cell? ⟨ob, oo + j * 2, none⟩ = some (.int .i64 x) := (hEa.2.2.cell (p := ⟨ob, oo + j * 2, none⟩) hpo).trans u0; have q3 : Ya.cell? ⟨ob, oo + j * 2 + 1, none⟩ = some (.int .i64 y) := (hEa.2.2.cell (p := ⟨ob, oo + j * 2 + 1, none⟩) hpo).trans u1))
            all_goals (try go_wp2_with fail)
            all_goals go_meet
            all_goals exact ⟨by simp, by assumption⟩
          case rest =>
            obtain ⟨rfl, hE⟩ := hcut
            have hb9 := bel_call hb8 hE.2.2
            clear hA hE0 t0 t1 u0 u1 hE hb8 hB8 heq
            go_wp2_with fail
            go_roundg (gk - 1)
            case measure => omega
            case rel => exact ⟨j + 1, by omega, by go_num, hb9⟩
        · clear hi7 hb8
          go_wp2_with fail
          go_loopg [11] out.length (fun g i wx => ∃ k n : Nat, k + g = out.length ∧ i = .int .i64 k ∧ wx = wr.drewN n)
          case atStart => exact ⟨0, 0, by omega, rfl, rfl⟩
          case round =>
            obtain ⟨k, n1, hk, rfl, rfl⟩ := hrel
            by_cases hko : k < out.length
            · obtain ⟨_, _, hv0, -, hx⟩ := id his8
              simp only [Value.slice.injEq, true_and] at hv0
              obtain ⟨rfl, rfl⟩ := hv0
              rcases hx with rfl | ⟨sb, so, rfl, hsb, hx⟩
              · simp at hko
              obtain ⟨t0, -⟩ := hx k hko
              clear hx
              have hm := HF.out.2.2.2.2.2 out[k] (List.getElem_mem hko)
              obtain ⟨⟨x, y⟩, HM⟩ : ∃ m, Hid (out[k] = m) := ⟨out[k], (rfl : out[k] = out[k])⟩
              rw [HM.out] at t0 hm
              dsimp only at t0 hm
              have HIS : Hid (x = s ∨ ∃ m' ∈ l, m'.1 = x) := hm
              clear hm
              have HB0 : Hid (RB l s x 0 (x == s)) := by show RB l s x 0 (x == s); unfold RB; simp
              go_wp2_with fail
              obtain ⟨go, hgo⟩ : ∃ go, go = gk := ⟨gk, rfl⟩
              go_loopg [12, 13] l.length (fun g s12 i wx => ∃ (t n : Nat) (bb : Bool), t + g = l.length ∧ i = .int .i64 t ∧ s12 = .bool bb ∧ Hid (RB l s x t bb) ∧ wx = wr.drewN n)
              case atStart => exact ⟨0, n1, x == s, by omega, rfl, rfl, HB0, rfl⟩
              case round =>
                obtain ⟨t, n2, bb, ht, rfl, rfl, hRB, rfl⟩ := hrel
                clear HB0
                by_cases htl : t < l.length
                · obtain ⟨_, _, hv0, -, hx⟩ := id h8
                  simp only [Value.slice.injEq, true_and] at hv0
                  obtain ⟨rfl, rfl⟩ := hv0
                  rcases hx with rfl | ⟨lb, lo, rfl, hlb, hx⟩
                  · simp at htl
                  obtain ⟨r0, -⟩ := hx t htl
                  clear hx
                  cases bb with
                  | true =>
                    have hR2 : Hid (RB l s x (t + 1) true) := hRB.out.keep
                    clear hRB
                    go_wp2_with fail
                    go_quiet (fail)
                    go_wp2_with fail
                    go_roundg (gk - 1)
                    case measure => omega
                    case rel => exact ⟨t + 1, _, true, by omega, by go_num, rfl, hR2, rfl⟩
                  | false =>
                    obtain ⟨z, HZ⟩ : ∃ z, Hid (l[t].1 = z) := ⟨l[t].1, (rfl : l[t].1 = l[t].1)⟩
                    rw [HZ.out] at r0
                    by_cases hxz : x = z
                    · have hd8 : (x == z) = true := by simpa using hxz
                      have hR2 : Hid (RB l s x (t + 1) true) := RB.hit htl (by rw [HZ.out]; exact hxz.symm)
                      clear hRB hxz
                      go_wp2_with fail
                      go_quiet (fail)
                      go_wp2_with fail
                      go_roundg (gk - 1)
                      case measure => omega
                      case rel => exact ⟨t + 1, _, true, by omega, by go_num, rfl, hR2, rfl⟩
                    · have hd8 : (x == z) = false := beq_eq_false_iff_ne.2 hxz
                      have hR2 : Hid (RB l s x (t + 1) false) := hRB.out.miss htl (by rw [HZ.out]; exact fun e => hxz e.symm)
                      clear hRB hxz
                      go_wp2_with fail
                      go_quiet (fail)
                      go_wp2_with fail
                      go_roundg (gk - 1)
                      case measure => omega
                      case rel => exact ⟨t + 1, _, false, by omega, by go_num, rfl, hR2, rfl⟩
                · have hbt : bb = true := by
                    have := hRB.out
                    unfold RB at this
                    rw [this]
                    rcases HIS.out with h1 | ⟨m, hm, h1⟩
                    · exact .inl h1
                    · obtain ⟨i, hi, e⟩ := List.mem_iff_getElem.1 hm
                      exact .inr ⟨i, hi, by omega, by rw [e]; exact h1⟩
                  subst hbt
                  clear hRB
                  go_wp2_with fail
                  go_roundg (go - 1)
                  case measure => omega
                  case rel => exact ⟨k + 1, _, by omega, by go_num, rfl⟩
            · go_wp2_with fail
              go_ret
              exact ⟨rfl, bel_drewB hB8 _⟩
end Go.Proofs.Ytjgnailkfmgikaa
