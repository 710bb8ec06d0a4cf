/- 'Seq' of the program. -/
import Derived.Test.YtjgnailkfmgikaaMvCyc
namespace Go.Proofs.Ytjgnailkfmgikaa
open Go.RowKit Go.Maps

/-- Moves that can't be. -/
def BadS (l : List (Int × Int)) (s : Int) : Prop := ¬ Mv.Once l ∨ ∃ m ∈ l, m.1 = s ∨ m.2 = s
/-- Moves one behind the other. -/
def SeqP (l : List (Int × Int)) (s : Int) (w : World) (e : Ending) (w' : World) : Prop :=
  Below w.heap.size w w' ∧ ((BadS l s ∧ e = .returned (.tuple #[.slice none 0 0, .int .i64 1])) ∨
    (¬ BadS l s ∧ ∃ G out0 n H out v, e = .returned (.tuple #[v, .int .i64 0]) ∧ w'.ownsRow w.heap.size 30 2 v out.length (pairs out) ∧ Mv.FDone l G out0 ∧ Mv.SInv l s G (Mv.ordS l) H n out))

set_option maxRecDepth 100000 in
set_option maxHeartbeats 4000000 in
theorem seq_c {p : Nat → Prop} {v : Value} {l : List (Int × Int)} (w : World) (s : Int) (h0 : IsPairs p w v l) (hl : l.length ≤ 1000) (h64 : ∀ m ∈ l, In64 m.1 ∧ In64 m.2) :
    Calls Try.prog 9 #[v, .int .i64 s] w (SeqP l s w) := by
  have h : IsPairs (· < w.heap.size) w v l := h0.keep (Keep.refl w fun _ _ hb => hb)
  clear h0
  obtain ⟨a, cap, hv, _, _⟩ := id h
  subst hv
  go_enter Try.func9, Try.ntmps9
  go_wp2_with fail
  refine (begin_c w h hl h64).mono ?_
  rintro e w1 ⟨hb1, ⟨hno, rfl⟩ | ⟨ho, bw, bf, br, bn, vo, rfl, hW1⟩⟩
  · go_wp2_with fail
    go_ret2
    exact ⟨hb1, .inl ⟨.inl hno, rfl⟩⟩
  · have HO : Hid (Mv.Once l) := ho
    clear ho
    have hbs := hb1.size
    go_wp2_with fail
    go_loopg [23] l.length (fun g i wr => ∃ k : Nat, k + g = l.length ∧ i = .int .i64 k ∧ Hid (∀ m ∈ l.take k, m.1 ≠ s ∧ m.2 ≠ s) ∧ Below w1.heap.size w1 wr)
    case atStart => exact ⟨0, by omega, rfl, (fun m hm => by simp at hm), bel_refl _⟩
    case round =>
      obtain ⟨k, hk, rfl, hA, hb⟩ := hrel
      have hB := hb1.trans (hb.mono hbs)
      by_cases hlt : k < l.length
      · obtain ⟨_, _, hv0, -, hx⟩ := h.keep (Keep.belowB hB)
        simp only [Value.slice.injEq, true_and] at hv0
        obtain ⟨rfl, rfl⟩ := hv0
        rcases hx with rfl | ⟨b, off, rfl, hpb, hx⟩
        · simp at hlt
        obtain ⟨t0, t1⟩ := hx k hlt
        clear hx
        have htk := List.take_succ_eq_append_getElem hlt
        have hmem := List.getElem_mem hlt
        obtain ⟨⟨x, y⟩, HM⟩ : ∃ m, Hid (l[k] = m) := ⟨l[k], (rfl : l[k] = l[k])⟩
        rw [HM.out] at t0 t1 htk hmem
        dsimp only at t0 t1
        have HTK : Hid (l.take (k + 1) = l.take k ++ [(x, y)]) := htk
        have hb3 := bel_alloc hb (.cells #[.int .i64 x, .int .i64 y] 30)
        have hB3 := hb1.trans (hb3.mono hbs)
        clear htk
        by_cases hxs : x = s
        · have hbad : BadS l s := .inr ⟨_, hmem, .inl hxs⟩
          have hd : (x == s) = true := by simpa using hxs
          clear hxs
          go_wp2_with fail
          go_ret2
          exact ⟨hB3, .inl ⟨hbad, rfl⟩⟩
        · by_cases hys : y = s
          · have hbad : BadS l s := .inr ⟨_, hmem, .inr hys⟩
            have hd : (x == s) = false := beq_eq_false_iff_ne.2 hxs
            have hd2 : (y == s) = true := by simpa using hys
            clear hxs hys
            go_wp2_with fail
            go_ret2
            exact ⟨hB3, .inl ⟨hbad, rfl⟩⟩
          · have hd : (x == s) = false := beq_eq_false_iff_ne.2 hxs
            have hd2 : (y == s) = false := beq_eq_false_iff_ne.2 hys
            have hA2 : Hid (∀ m ∈ l.take (k + 1), m.1 ≠ s ∧ m.2 ≠ s) := fun m hm => by
              rw [HTK.out] at hm
              rcases List.mem_append.1 hm with hm | hm
              · exact hA.out m hm
              · simp at hm; subst hm; exact ⟨hxs, hys⟩
            clear hxs hys hA
            go_wp2_with fail
            go_roundg (gk - 1)
            case measure => omega
            case rel => exact ⟨k + 1, by omega, by go_num, hA2, hb3⟩
      · have hke : k = l.length := by omega
        have hA2 := hA.out
        rw [hke, List.take_length] at hA2
        have HA : Hid (∀ m ∈ l, m.1 ≠ s ∧ m.2 ≠ s) := hA2
        have hW2 := hW1.below hb (Nat.le_refl _)
        clear hA hA2 hke hW1 hb
        go_wp2_with fail
        refine (free_c wr hW2 hl HO.out h64).mono ?_
        rintro e w3 ⟨vu, G, N, n, out, rfl, hW3, hd, hb3, hn⟩
        have hB3 := hB.trans hb3
        have HD : Hid (Mv.FDone l G out) := hd
        have hol := Mv.ordS_le l
        have hlen := hd.len
        obtain ⟨oa, oc, rfl⟩ : ∃ oa oc, vo = .slice oa (Mv.ordS l).length oc := by
          rcases owns_nilcase hW3.o with ⟨h1, h2, _⟩ | ⟨g, c, h1⟩
          · exact ⟨none, 0, by rw [h1, h2]⟩
          · exact ⟨_, _, h1⟩
        have hds : ∀ x, G x ≠ none → x ∈ Mv.ordS l ∧ In64 x := fun x hx => dom64 HO.out h64 (by
          rcases hd.sub x with h1 | h1
          · exact absurd h1 hx
          · rw [← h1]; exact hx)
        have htn := hd.turns HO.out
        have hst := Mv.SInv.start HO.out hd s
        have hsn : Mv.fromS l s = none := by
          cases e : Mv.fromS l s with
          | none => rfl
          | some y => exact absurd rfl (HA.out _ ((Mv.fromS_iff HO.out).1 e).1).1
        have HSN : Hid (Mv.fromS l s = none) := hsn
        clear hd hB hb3 hW2 hsn
        obtain ⟨O, HOO⟩ : ∃ O, Hid (Mv.ordS l = O) := ⟨_, (rfl : Mv.ordS l = Mv.ordS l)⟩
        rw [HOO.out] at hol hW3 hds hlen
        have HT : Hid (Mv.Turns G ∧ ∀ x, G x ≠ none → x ∈ O ∧ In64 x) := ⟨htn, hds⟩
        have HC0 : Hid (Mv.SInv l s G [] G 0 out) := hst
        clear htn hds hst
        have c3 : w3.cell? ⟨bw, 3, none⟩ = some (.slice oa O.length oc) := hW3.row.cell rfl
        go_wp2_with fail
        go_loopg [45] O.length (fun g i wr => ∃ (k m : Nat) (H : Mv.PF) (vx : Value) (out' : List (Int × Int)), k + g = O.length ∧ m ≤ k ∧ i = .int .i64 k ∧ IsWork w.heap.size wr bw bf br bn (.slice oa O.length oc) vx n H N (readsP l) O out' ∧ Hid (Mv.SInv l s G (O.take k) H m out') ∧ Below w.heap.size w wr)
        case atStart => exact ⟨0, 0, G, vu, out, by omega, by omega, rfl, hW3, HC0, hB3⟩
        case round =>
          obtain ⟨k2, m, H, vx, out', hk2, hm, rfl, hW, hC, hb⟩ := hrel
          clear hW3 hB3 c3 HC0
          by_cases hlt2 : k2 < O.length
          · obtain ⟨_, _, hv0, -, hx⟩ := ints_of_owns (p := fun _ => True) hW.o (by omega) (fun _ _ _ _ => trivial)
            simp only [Value.slice.injEq, true_and] at hv0
            obtain ⟨rfl, rfl⟩ := hv0
            rcases hx with rfl | ⟨ob, oo, rfl, hpb, hx⟩
            · simp at hlt2
            have t0 := hx k2 hlt2
            simp only [CInt, Nat.mul_one] at t0
            clear hx
            have htk := List.take_succ_eq_append_getElem hlt2
            have hx64 : In64 O[k2] := in64_of h64 (HOO.out ▸ List.getElem_mem hlt2)
            obtain ⟨x, HX⟩ : ∃ x, Hid (O[k2] = x) := ⟨O[k2], (rfl : O[k2] = O[k2])⟩
            rw [HX.out] at t0 htk hx64
            have HTK : Hid (O.take (k2 + 1) = O.take k2 ++ [x]) := htk
            have hr := hW.f.lookok hx64
            have c0 : wr.cell? ⟨bw, 0, none⟩ = some (.map (some bf)) := hW.row.cell rfl
            have hol2 : out'.length ≤ 2000 := by
              have := hC.out.len
              rw [HOO.out] at this
              omega
            clear htk
            cases hHx : H x with
            | none =>
              rw [hHx] at hr
              dsimp only [Option.getD_none, Option.isSome_none] at hr
              have hC2 : Hid (Mv.SInv l s G (O.take (k2 + 1)) H m out') := by rw [HTK.out]; exact hC.out.skip hHx
              clear hHx hC
              go_wp2_with fail
              go_roundg (gk - 1)
              case measure => omega
              case rel => exact ⟨k2 + 1, m, H, vx, out', by omega, by omega, by go_num, hW, hC2, hb⟩
            | some y =>
              rw [hHx] at hr
              dsimp only [Option.getD_some, Option.isSome_some] at hr
              have hHx' : H x ≠ none := by rw [hHx]; simp
              have hHx'' : Hid (H x ≠ none) := hHx'
              clear hHx hHx'
              have hdom : ∀ u, H u ≠ none → u ∈ O ∧ In64 u := fun u hu => HT.out.2 u (by
                rcases hC.out.c.eq u with h1 | h1
                · exact absurd h1 hu
                · rw [← h1]; exact hu)
              have HDM : Hid (∀ u, H u ≠ none → u ∈ O ∧ In64 u) := hdom
              clear hdom
              go_wp2_with fail
              refine (ring_c wr hW (hC.out.c.turns HT.out.1) hHx''.out (O := O) (by omega) HDM.out).mono ?_
              rintro e w4 ⟨L, vL, rfl, hL, hP, hnd, hb4⟩
              have hW4 := hW.below hb4 (Nat.le_refl _)
              have hB4 := bel_call hb hb4
              have hC2 : Hid (Mv.SInv l s G (O.take (k2 + 1)) (Mv.delL H L) (m + 1) (out' ++ Mv.turnM H s x L)) := by rw [HTK.out]; exact hC.out.take HO.out HD.out HSN.out hP hnd
              have hLO : L.length ≤ O.length := nodup_len hnd fun u hu => (HDM.out u (hP.isOn u hu)).1
              have hii : IsInts (fun b => ¬ WB bw bf br bn (.slice (some ⟨ob, oo, none⟩) O.length oc) vx b ∧ b < w4.heap.size) w4 vL L := ints_of_owns hL (by omega) fun b hb hge hlt => ⟨fun hwb => by have := (hW.wlt hwb).2; omega, hlt⟩
              have HP : Hid (Mv.Path H x L x ∧ L.Nodup) := ⟨hP, hnd⟩
              have hsz4 := hB4.size
              clear hC hP hnd hL hb4 hW hb c0 hr t0 hHx''
              go_wp2_with fail
              refine (turn_c w4 hW4 hii (by omega) HP.out.1 HP.out.2 (by omega) (by omega) (fun u hu => (HDM.out u hu).2)).mono ?_
              rintro e w5 ⟨vu5, rfl, hW5, hb5⟩
              have hB5 := hB4.trans hb5
              clear hW4 hii hB4 hb5
              go_wp2_with fail
              go_roundg (gk - 1)
              case measure => omega
              case rel => exact ⟨k2 + 1, m + 1, _, vu5, _, by omega, by omega, by go_num, hW5, hC2, hB5⟩
          · have hke : k2 = O.length := by omega
            have hC3 := hC.out
            rw [hke, List.take_length] at hC3
            have HC3 : Hid (Mv.SInv l s G O H m out') := hC3
            have c4 : wr.cell? ⟨bw, 4, none⟩ = some vx := hW.row.cell rfl
            clear hC hC3 hke
            go_wp2_with fail
            go_ret2
            refine ⟨hb, .inr ⟨?_, G, out, m, H, out', vx, rfl, hW.u, HD.out, by rw [HOO.out]; exact HC3.out⟩⟩
            rintro (hx | ⟨m, hm, hx⟩)
            · exact hx HO.out
            · exact hx.elim (HA.out m hm).1 (HA.out m hm).2
end Go.Proofs.Ytjgnailkfmgikaa
