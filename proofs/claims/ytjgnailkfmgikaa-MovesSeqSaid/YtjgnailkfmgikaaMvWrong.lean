/- 'wrong' and the reference's 'Least'. -/
import Derived.Test.YtjgnailkfmgikaaMvCycR
import Derived.Test.YtjgnailkfmgikaaMvSeq
namespace Go.Proofs.Ytjgnailkfmgikaa
open Go.RowKit Go.Maps

/-- Whether moves can't be is told. -/
def WrongP (l : List (Int × Int)) (s : Int) (w : World) (e : Ending) (w' : World) : Prop := Below w.heap.size w w' ∧ ∃ r, e = .returned (.bool r) ∧ (r = true ↔ BadS l s)

set_option maxRecDepth 100000 in
set_option maxHeartbeats 2000000 in
theorem wrong_c {p : Nat → Prop} {v : Value} {l : List (Int × Int)} (w : World) (s : Int) (h0 : IsPairs p w v l) (hl : l.length ≤ 1000) :
    Calls Try.prog 10 #[v, .int .i64 s] w (WrongP l s w) := by
  have h : IsPairs (· < w.heap.size) w v l := h0.keep (Keep.refl w fun _ _ hb => hb)
  clear h0
  obtain ⟨a, cap, hv, hlen, _⟩ := id h
  subst hv
  go_enter Try.func10, Try.ntmps10
  go_wp2_with fail
  go_loopg [5] l.length (fun g i wr => ∃ k : Nat, k + g = l.length ∧ i = .int .i64 k ∧ Hid (Mv.Once (l.take k) ∧ ∀ m ∈ l.take k, m.1 ≠ s ∧ m.2 ≠ s) ∧ Below w.heap.size w wr)
  case atStart => exact ⟨0, by omega, rfl, (⟨by simp [Mv.Once], fun m hm => by simp at hm⟩ : Mv.Once (l.take 0) ∧ ∀ m ∈ l.take 0, m.1 ≠ s ∧ m.2 ≠ s), bel_refl _⟩
  case round =>
    obtain ⟨k, hk, rfl, hO, hb⟩ := hrel
    by_cases hlt : k < l.length
    · obtain ⟨_, _, hv0, -, hx⟩ := h.keep (Keep.belowB hb)
      simp only [Value.slice.injEq, true_and] at hv0
      obtain ⟨rfl, rfl⟩ := hv0
      rcases hx with rfl | ⟨b, off, rfl, hpb, hx⟩
      · simp at hlt
      have HX : Hid (∀ j (hj : j < l.length), wr.cell? ⟨b, off + j * 2, none⟩ = some (.int .i64 l[j].1)) := fun j hj => (hx j hj).1
      obtain ⟨t0, t1⟩ := hx k hlt
      clear hx
      have htk := List.take_succ_eq_append_getElem hlt
      have hmem := List.getElem_mem hlt
      obtain ⟨⟨x, y⟩, HM⟩ : ∃ m, Hid (l[k] = m) := ⟨l[k], (rfl : l[k] = l[k])⟩
      rw [HM.out] at t0 t1 htk hmem
      dsimp only at t0 t1
      have HTK : Hid (l.take (k + 1) = l.take k ++ [(x, y)]) := htk
      clear htk
      by_cases hxs : x = s
      · have hbad : BadS l s := .inr ⟨_, hmem, .inl hxs⟩
        have hd : (x == s) = true := by simpa using hxs
        clear hxs
        go_wp2_with fail
        go_ret
        exact ⟨hb, true, rfl, by simpa using hbad⟩
      · by_cases hys : y = s
        · have hbad : BadS l s := .inr ⟨_, hmem, .inr hys⟩
          have hd : (x == s) = false := beq_eq_false_iff_ne.2 hxs
          have hd2 : (y == s) = true := by simpa using hys
          clear hxs hys
          go_wp2_with fail
          go_ret
          exact ⟨hb, true, rfl, by simpa using hbad⟩
        · have hd : (x == s) = false := beq_eq_false_iff_ne.2 hxs
          have hd2 : (y == s) = false := beq_eq_false_iff_ne.2 hys
          have HXY : Hid (x ≠ s ∧ y ≠ s) := ⟨hxs, hys⟩
          clear hxs hys
          go_wp2_with fail
          obtain ⟨go, hgo⟩ : ∃ go, go = gk := ⟨gk, rfl⟩
          go_loopg [6] k (fun g i wx => ∃ j n : Nat, j + g = k ∧ i = .int .i64 j ∧ Hid (∀ i (hi : i < l.length), i < j → l[i].1 ≠ x) ∧ wx = wr.drewN n)
          case atStart => exact ⟨0, 0, by omega, rfl, (fun i _ hi => by omega), rfl⟩
          case round =>
            obtain ⟨j, n, hj, rfl, hP, rfl⟩ := hrel
            by_cases hjk : j < k
            · have t2 := HX.out j (by omega)
              obtain ⟨z, HZ⟩ : ∃ z, Hid ((l[j]'(by omega)).1 = z) := ⟨(l[j]'(by omega)).1, (rfl : (l[j]'(by omega)).1 = (l[j]'(by omega)).1)⟩
              rw [HZ.out] at t2
              by_cases he : z = x
              · have hd3 : (z == x) = true := by simpa using he
                have hbad : BadS l s := .inl fun ho => by
                  have := Mv.once_inj ho (i := j) (j := k) (by omega) hlt (by rw [HZ.out, HM.out]; exact he)
                  omega
                clear he
                go_wp2_with fail
                go_quiet (fail)
                go_wp2_with fail
                go_ret
                exact ⟨bel_drewB (bel_drewB hb _) _, true, rfl, by simpa using hbad⟩
              · have hd3 : (z == x) = false := beq_eq_false_iff_ne.2 he
                have hP2 : Hid (∀ i (hi : i < l.length), i < j + 1 → l[i].1 ≠ x) := fun i hi hij => by
                  by_cases e : i = j
                  · subst e; rw [HZ.out]; exact he
                  · exact hP.out i hi (by omega)
                clear he hP
                go_wp2_with fail
                go_quiet (fail)
                go_wp2_with fail
                go_roundg (gk - 1)
                case measure => omega
                case rel => exact ⟨j + 1, _, by omega, by go_num, hP2, rfl⟩
            · have hje : j = k := by omega
              have hO2 : Hid (Mv.Once (l.take (k + 1)) ∧ ∀ m ∈ l.take (k + 1), m.1 ≠ s ∧ m.2 ≠ s) := by
                show _ ∧ _
                rw [HTK.out]
                refine ⟨hO.out.1.snoc fun hm => ?_, fun m hm => ?_⟩
                · obtain ⟨m, hm, e⟩ := List.mem_map.1 hm
                  obtain ⟨i, hi, ei⟩ := List.mem_iff_getElem.1 hm
                  rw [List.getElem_take] at ei
                  have hil : i < k := by simp at hi; omega
                  exact hP.out i (by omega) (by omega) (by rw [ei]; exact e)
                · rcases List.mem_append.1 hm with hm | hm
                  · exact hO.out.2 m hm
                  · simp at hm; subst hm; exact HXY.out
              clear hP hO
              go_wp2_with fail
              go_roundg (go - 1)
              case measure => omega
              case rel => exact ⟨k + 1, by omega, by go_num, hO2, bel_drewB hb _⟩
    · have hke : k = l.length := by omega
      have hO2 := hO.out
      rw [hke, List.take_length] at hO2
      have hbad : ¬ BadS l s := by
        rintro (h1 | ⟨m, hm, h1⟩)
        · exact h1 hO2.1
        · exact h1.elim (hO2.2 m hm).1 (hO2.2 m hm).2
      have HBD : Hid (¬ BadS l s) := hbad
      clear hO hO2 hke hbad
      go_wp2_with fail
      go_ret
      exact ⟨hb, false, rfl, by simpa using HBD.out⟩

/-- How few moves do. -/
def LeastP (l : List (Int × Int)) (G : Mv.PF) (w : World) (e : Ending) (w' : World) : Prop :=
  Below w.heap.size w w' ∧ ∃ n : Nat, e = .returned (.int .i64 ((n + (Mv.ordS l).length : Nat) : Int)) ∧ (Mv.Once l → Mv.Cnt G (Mv.ordS l) n)

set_option maxRecDepth 100000 in
set_option maxHeartbeats 1000000 in
theorem leastR_c {p : Nat → Prop} {v : Value} {l : List (Int × Int)} (w : World) (h0 : IsPairs p w v l) (hl : l.length ≤ 1000) {G : Mv.PF} {out : List (Int × Int)} (ho : Mv.Once l) (hd : Mv.FDone l G out) :
    Calls Try.prog 12 #[v] w (LeastP l G w) := by
  have h : IsPairs (· < w.heap.size) w v l := h0.keep (Keep.refl w fun _ _ hb => hb)
  clear h0
  obtain ⟨a, cap, hv, hlen, _⟩ := id h
  subst hv
  have HO : Hid (Mv.Once l) := ho
  go_enter Try.func12, Try.ntmps12
  go_wp2_with fail
  refine (cyclesR_c w h hl (fun _ => hd)).mono ?_
  rintro e w1 ⟨hb1, n, rfl, -, hc⟩
  have hc := hc HO.out
  have hnl := hc.le
  have hol := Mv.ordS_le l
  have HC : Hid (Mv.Cnt G (Mv.ordS l) n) := hc
  clear hc hd ho
  go_wp2_with fail
  go_loopg [3, 4] l.length (fun g s3 i wr => ∃ k m : Nat, k + g = l.length ∧ i = .int .i64 k ∧ s3 = .int .i64 m ∧ Hid (m = n + (Mv.ordS (l.take k)).length) ∧ m ≤ n + k ∧ Below w.heap.size w wr)
  case atStart => exact ⟨0, n, by omega, rfl, rfl, (by simp [Mv.ordS, Mv.unl] : n = n + (Mv.ordS (l.take 0)).length), by omega, hb1⟩
  case round =>
    obtain ⟨k, m, hk, rfl, rfl, hm, hmn, hb⟩ := hrel
    by_cases hlt : k < l.length
    · obtain ⟨_, _, hv0, -, hx⟩ := h.keep (Keep.belowB hb)
      simp only [Value.slice.injEq, true_and] at hv0
      obtain ⟨rfl, rfl⟩ := hv0
      rcases hx with rfl | ⟨b, off, rfl, hpb, hx⟩
      · simp at hlt
      obtain ⟨t0, t1⟩ := hx k hlt
      clear hx
      have htk := Mv.ordS_take hlt
      obtain ⟨⟨x, y⟩, HM⟩ : ∃ m, Hid (l[k] = m) := ⟨l[k], (rfl : l[k] = l[k])⟩
      rw [HM.out] at t0 t1 htk
      dsimp only at t0 t1 htk
      by_cases hxy : x = y
      · have hd : (x != y) = false := by simp [hxy]
        have hm2 : Hid (m = n + (Mv.ordS (l.take (k + 1))).length) := by rw [htk, if_pos hxy]; exact hm.out
        clear hxy htk hm
        go_wp2_with fail
        go_quiet (fail)
        go_wp2_with fail
        go_roundg (gk - 1)
        case measure => omega
        case rel => exact ⟨k + 1, m, by omega, by go_num, rfl, hm2, by omega, bel_drewB hb _⟩
      · have hd : (x != y) = true := by simpa using hxy
        have hm2 : Hid (m + 1 = n + (Mv.ordS (l.take (k + 1))).length) := by
          show _ = _
          rw [htk, if_neg hxy]; have := hm.out; simp; omega
        clear hxy htk hm
        go_wp2_with fail
        go_quiet (fail)
        go_wp2_with fail
        go_roundg (gk - 1)
        case measure => omega
        case rel => exact ⟨k + 1, m + 1, by omega, by go_num, by go_num, hm2, by omega, bel_drewB hb _⟩
    · have hke : k = l.length := by omega
      have hm2 := hm.out
      rw [hke, List.take_length] at hm2
      subst hm2
      clear hm hke
      go_wp2_with fail
      go_ret
      exact ⟨hb, n, rfl, fun _ => HC.out⟩
end Go.Proofs.Ytjgnailkfmgikaa
