/- 'Cycles' and 'Seq' of the program. -/
import Derived.Test.YtjgnailkfmgikaaMvBegin
namespace Go.Proofs.Ytjgnailkfmgikaa
open Go.RowKit Go.Maps

/-- How many rings there are. -/
def CycP (l : List (Int × Int)) (w : World) (e : Ending) (w' : World) : Prop :=
  Below w.heap.size w w' ∧ ∃ n : Nat, e = .returned (.int .i64 n) ∧ (¬ Mv.Once l → n = 0) ∧ (Mv.Once l → ∃ G out, Mv.FDone l G out ∧ Mv.Cnt G (Mv.ordS l) n)

theorem dom64 {l : List (Int × Int)} (ho : Mv.Once l) (h64 : ∀ m ∈ l, In64 m.1 ∧ In64 m.2) {x : Int} (hx : Mv.fromS l x ≠ none) : x ∈ Mv.ordS l ∧ In64 x :=
  have h := (Mv.fromS_dom ho).1 hx
  ⟨h, in64_of h64 h⟩

set_option maxRecDepth 100000 in
set_option maxHeartbeats 4000000 in
theorem cycles_c {p : Nat → Prop} {v : Value} {l : List (Int × Int)} (w : World) (h0 : IsPairs p w v l) (hl : l.length ≤ 1000) (h64 : ∀ m ∈ l, In64 m.1 ∧ In64 m.2) :
    Calls Try.prog 13 #[v] w (CycP l w) := by
  have hB := h0
  obtain ⟨a, cap, hv, _, _⟩ := id h0
  subst hv
  go_enter Try.func13, Try.ntmps13
  go_wp2_with fail
  refine (begin_c w hB hl h64).mono ?_
  rintro e w1 ⟨hb1, ⟨hno, rfl⟩ | ⟨ho, bw, bf, br, bn, vo, rfl, hW1⟩⟩
  · go_wp2_with fail
    go_ret
    exact ⟨hb1, 0, rfl, fun _ => rfl, fun h => absurd h hno⟩
  · go_wp2_with fail
    refine (free_c w1 hW1 hl ho h64).mono ?_
    rintro e w2 ⟨vu, G, N, n, out, rfl, hW2, hd, hb2, hn⟩
    have hb2 := hb1.trans hb2
    have HO : Hid (Mv.Once l) := ho
    have HD : Hid (Mv.FDone l G out) := hd
    have hol := Mv.ordS_le l
    have HN := hW2.o
    obtain ⟨oa, oc, rfl⟩ : ∃ oa oc, vo = .slice oa (Mv.ordS l).length oc := by
      rcases owns_nilcase hW2.o with ⟨h1, h2, _⟩ | ⟨g, c, h1⟩
      · exact ⟨none, 0, by rw [h1, h2]⟩
      · exact ⟨_, _, h1⟩
    have hds : ∀ x, G x ≠ none → x ∈ Mv.ordS l ∧ In64 x := fun x hx => dom64 ho h64 (by
      rcases hd.sub x with h1 | h1
      · exact absurd h1 hx
      · rw [← h1]; exact hx)
    have htn := hd.turns ho
    have hst := Mv.CInv.start G htn
    clear hW1 ho hd hB h0 HN
    obtain ⟨O, HOO⟩ : ∃ O, Hid (Mv.ordS l = O) := ⟨_, (rfl : Mv.ordS l = Mv.ordS l)⟩
    rw [HOO.out] at hol hW2 hds
    have HT : Hid (Mv.Turns G ∧ ∀ x, G x ≠ none → x ∈ O ∧ In64 x) := ⟨htn, hds⟩
    have HC0 : Hid (Mv.CInv G [] G 0) := hst
    clear htn hds hst
    have c3 : w2.cell? ⟨bw, 3, none⟩ = some (.slice oa O.length oc) := hW2.row.cell rfl
    have hbs := hb2.size
    go_wp2_with fail
    go_loopg [5, 26] O.length (fun g s5 i wr => ∃ (k m : Nat) (H : Mv.PF), k + g = O.length ∧ m ≤ k ∧ s5 = .int .i64 m ∧ i = .int .i64 k ∧ IsWork w.heap.size wr bw bf br bn (.slice oa O.length oc) vu n H N (readsP l) O out ∧ Hid (Mv.CInv G (O.take k) H m) ∧ Below w.heap.size w wr)
    case atStart => exact ⟨0, 0, G, by omega, by omega, rfl, rfl, hW2, HC0, hb2⟩
    case round =>
      obtain ⟨k, m, H, hk, hm, rfl, rfl, hW, hC, hb⟩ := hrel
      clear hW2 hb2 c3 HC0
      by_cases hlt : k < O.length
      · obtain ⟨_, _, hv0, -, hx⟩ := ints_of_owns (p := fun _ => True) hW.o (by omega) (fun _ _ _ _ => trivial)
        simp only [Value.slice.injEq, true_and] at hv0
        obtain ⟨rfl, rfl⟩ := hv0
        rcases hx with rfl | ⟨ob, oo, rfl, hpb, hx⟩
        · simp at hlt
        have t0 := hx k hlt
        simp only [CInt, Nat.mul_one] at t0
        clear hx
        have htk := List.take_succ_eq_append_getElem hlt
        have hx64 : In64 O[k] := in64_of h64 (HOO.out ▸ List.getElem_mem hlt)
        obtain ⟨x, HX⟩ : ∃ x, Hid (O[k] = x) := ⟨O[k], (rfl : O[k] = O[k])⟩
        rw [HX.out] at t0 htk hx64
        have HTK : Hid (O.take (k + 1) = O.take k ++ [x]) := htk
        have hr := hW.f.lookok hx64
        have c0 : wr.cell? ⟨bw, 0, none⟩ = some (.map (some bf)) := hW.row.cell rfl
        clear htk
        cases hHx : H x with
        | none =>
          rw [hHx] at hr
          dsimp only [Option.getD_none, Option.isSome_none] at hr
          have hC2 : Hid (Mv.CInv G (O.take (k + 1)) H m) := by rw [HTK.out]; exact hC.out.skip hHx
          clear hHx hC
          go_wp2_with fail
          go_roundg (gk - 1)
          case measure => omega
          case rel => exact ⟨k + 1, m, H, by omega, by omega, rfl, by go_num, hW, hC2, hb⟩
        | some y =>
          rw [hHx] at hr
          dsimp only [Option.getD_some, Option.isSome_some] at hr
          have hHx' : H x ≠ none := by rw [hHx]; simp
          have hHx'' : Hid (H x ≠ none) := hHx'
          clear hHx hHx'
          go_wp2_with fail
          refine (ring_c wr hW (hC.out.turns HT.out.1) hHx''.out (O := O) (by omega) (fun u hu => HT.out.2 u (by
            rcases hC.out.eq u with h1 | h1
            · exact absurd h1 hu
            · rw [← h1]; exact hu))).mono ?_
          rintro e w4 ⟨L, vL, rfl, hL, hP, hnd, hb4⟩
          have hW4 := hW.below hb4 (Nat.le_refl _)
          have hB4 := bel_call hb hb4
          have hC2 : Hid (Mv.CInv G (O.take (k + 1)) (Mv.delL H L) (m + 1)) := by rw [HTK.out]; exact hC.out.take HT.out.1 hP
          have hon : ∀ u ∈ L, In64 u ∧ u ∈ O := fun u hu => by
            have := HT.out.2 u (by
              rcases hC.out.eq u with h1 | h1
              · exact absurd h1 (hP.isOn u hu)
              · rw [← h1]; exact hP.isOn u hu)
            exact ⟨this.2, this.1⟩
          have hLO : L.length ≤ O.length := nodup_len hnd fun u hu => (hon u hu).2
          have hLp : 0 < L.length := List.length_pos_iff.2 (List.ne_nil_of_mem hP.head)
          have HON : Hid (∀ u ∈ L, In64 u) := fun u hu => (hon u hu).1
          have hfl := hW.f.lt
          obtain ⟨lb, lc, rfl⟩ : ∃ g c, vL = .slice (some ⟨g, 0, none⟩) L.length c := by
            rcases owns_nilcase hL with ⟨_, h2, _⟩ | h2
            · omega
            · exact h2
          have hblw : bf ≠ lb := by have := (hL.lt lb rfl).1; omega
          have hii := ints_one (ints_of_owns (p := fun _ => True) hL (by omega) (fun _ _ _ _ => trivial))
          have hsz4 := hB4.size
          clear hC hP hnd hon hL hb4 hW hb c0 hr t0 hHx''
          go_wp2_with fail
          obtain ⟨go, hgo⟩ : ∃ go, go = gk := ⟨gk, rfl⟩
          go_loopg [46] L.length (fun g i wx => ∃ j : Nat, j + g = L.length ∧ i = .int .i64 j ∧ IsWork w.heap.size wx bw bf br bn (.slice (some ⟨ob, oo, none⟩) O.length oc) vu n (Mv.delL H (L.take j)) N (readsP l) O out ∧ Below w.heap.size w wx ∧ IsInts (· = lb) wx (.slice (some ⟨lb, 0, none⟩) L.length lc) L)
          case atStart => exact ⟨0, by omega, rfl, by rw [List.take_zero, Mv.delL_nil]; exact hW4, hB4, hii⟩
          case round =>
            obtain ⟨j, hj, rfl, hW5, hb5, hi5⟩ := hrel
            clear hW4 hB4 hii hsz4
            by_cases hjl : j < L.length
            · have t0 := hi5.cellK hjl
              rw [Nat.zero_add] at t0
              have hx64 := HON.out _ (List.getElem_mem hjl)
              have hst := List.take_succ_eq_append_getElem hjl
              have c0 : wr.cell? ⟨bw, 0, none⟩ = some (.map (some bf)) := hW5.row.cell rfl
              have hblt := lt_of_cell t0
              obtain ⟨z, HZ⟩ : ∃ z, Hid (L[j] = z) := ⟨L[j], (rfl : L[j] = L[j])⟩
              rw [HZ.out] at t0 hx64 hst
              have HST : Hid (L.take (j + 1) = L.take j ++ [z]) := hst
              clear hst
              go_wp2_with (at_delete; refine stop_here ?_)
              refine stop_go (wp_del rfl _ _ rfl hW5.f z rfl rfl hx64 ?_)
              intro W6 hf6 ht6
              have hW6 := hW5.turnF (Nat.le_refl _) hf6 ht6
              rw [← Mv.delL_snoc, ← HST.out] at hW6
              have hb6 : Below w.heap.size w W6 := hb5.grown ht6.grown (by have := hb5.size; omega) (fun k hk => by cases hk; exact hW5.ge.2.1)
              have hi6 : IsInts (· = lb) W6 (.slice (some ⟨lb, 0, none⟩) L.length lc) L := hi5.keep fun b hb hlt => ⟨hb, ht6.grown.block b hlt (fun e => hblw (by rw [← hb]; simpa using e.symm))⟩
              clear hf6 ht6 hW5 hb5 hi5 c0 t0
              go_wp2_with fail
              go_roundg (gk - 1)
              case measure => omega
              case rel => exact ⟨j + 1, by omega, by go_num, hW6, hb6, hi6⟩
            · have hke : j = L.length := by omega
              rw [hke, List.take_length] at hW5
              clear hke
              go_wp2_with fail
              go_roundg (go - 1)
              case measure => omega
              case rel => exact ⟨k + 1, m + 1, Mv.delL H L, by omega, by omega, by go_num, by go_num, hW5, hC2, hb5⟩
      · have hke : k = O.length := by omega
        have hcnt := hC.out.cnt
        rw [hke, List.take_length] at hcnt
        have HCN : Hid (Mv.Cnt G O m) := hcnt
        clear hcnt hC hke
        go_wp2_with fail
        go_ret
        exact ⟨hb, m, rfl, fun h => absurd HO.out h, fun _ => ⟨G, out, HD.out, by rw [HOO.out]; exact HCN.out⟩⟩
end Go.Proofs.Ytjgnailkfmgikaa
