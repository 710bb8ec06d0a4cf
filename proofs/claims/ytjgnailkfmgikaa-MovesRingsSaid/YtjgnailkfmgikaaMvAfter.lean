/- 'look' and 'after' of the law. -/
import Derived.Test.YtjgnailkfmgikaaMvSeq
import Derived.Test.YtjgnailkfmgikaaMvL
import Derived.Deep.QuietTactic
import Derived.BigQuiet
namespace Go.Proofs.Ytjgnailkfmgikaa
open Go.RowKit Go.Maps

/-- What is told of a place; else itself. -/
def lookS (pl : List (Int × Int)) (x : Int) : Int := match pl.find? (fun m => m.1 == x) with | some m => m.2 | none => x
theorem lookS_nil (x : Int) : lookS [] x = x := rfl
theorem lookS_hit {pl : List (Int × Int)} {k : Nat} (h : k < pl.length) (hb : ∀ j (hj : j < pl.length), j < k → pl[j].1 ≠ pl[k].1) : lookS pl pl[k].1 = pl[k].2 := by
  have : pl.find? (fun m => m.1 == pl[k].1) = some pl[k] := by
    rw [List.find?_eq_some_iff_getElem]
    exact ⟨by simp, k, h, rfl, fun j hj => by simpa using hb j (by omega) hj⟩
  unfold lookS; rw [this]
theorem lookS_miss {pl : List (Int × Int)} {x : Int} (h : ∀ j (hj : j < pl.length), pl[j].1 ≠ x) : lookS pl x = x := by
  have : pl.find? (fun m => m.1 == x) = none := by
    rw [List.find?_eq_none]
    intro m hm
    obtain ⟨j, hj, rfl⟩ := List.mem_iff_getElem.1 hm
    simpa using h j hj
  unfold lookS; rw [this]
theorem lookS_app {pl : List (Int × Int)} {d v : Int} (h : ∀ j (hj : j < pl.length), pl[j].1 ≠ d) (x : Int) : lookS (pl ++ [(d, v)]) x = if x = d then v else lookS pl x := by
  unfold lookS
  rw [List.find?_append]
  by_cases e : x = d
  · subst e
    have : pl.find? (fun m => m.1 == x) = none := by
      rw [List.find?_eq_none]
      intro m hm
      obtain ⟨j, hj, rfl⟩ := List.mem_iff_getElem.1 hm
      simpa using h j hj
    rw [this]; simp
  · have e' : ¬ d = x := fun h => e h.symm
    cases hf : pl.find? (fun m => m.1 == x) <;> simp [e, e']
theorem lookS_set {pl : List (Int × Int)} {k : Nat} {d v : Int} (hk : k < pl.length) (hd : pl[k].1 = d) (h : ∀ j (hj : j < pl.length), j < k → pl[j].1 ≠ d) (x : Int) : lookS (pl.set k (d, v)) x = if x = d then v else lookS pl x := by
  have hk' : k < (pl.set k (d, v)).length := by simpa using hk
  have hkk : (pl.set k (d, v))[k] = (d, v) := by simp
  by_cases e : x = d
  · subst e
    have := lookS_hit hk' (fun j hj hjk => by
      rw [hkk, List.getElem_set_ne (by omega)]
      exact h j (by simpa using hj) hjk)
    rw [hkk] at this
    rw [if_pos rfl]; exact this
  · rw [if_neg e]
    unfold lookS
    have : (pl.set k (d, v)).find? (fun m => m.1 == x) = pl.find? (fun m => m.1 == x) := by
      have e1 : pl = pl.take k ++ pl[k] :: pl.drop (k + 1) := by simp
      have e2 : pl.set k (d, v) = pl.take k ++ (d, v) :: pl.drop (k + 1) := by
        rw [List.set_eq_take_append_cons_drop, if_pos hk]
      have hdx : (d == x) = false := by simpa using fun h => e h.symm
      rw [e2]
      conv => rhs; rw [e1]
      rw [List.find?_append, List.find?_append, List.find?_cons, List.find?_cons]
      rw [hd, hdx]
    rw [this]

abbrev places := pairs
theorem infoPlace : (Try.prog.info? 50).map (fun i => (i.zero, i.size, i.bytes)) = some (some (.agg #[.int .i64 0, .int .i64 0]), 2, 16) := by kernel_rfl
/-- 'p = append(p, place{x, y})'. -/
theorem app_place {ops : Array Oper} {rest : List Oper} {o : Oper} {a : Act} {Q : Exit → Act → World → Prop} {W : World}
    (hgd : o.guard = none) (s x : Operand) (hop : o.op = .call { callee := .builtin .append, args := #[s, x], argTypes := #[47, 47] })
    (base : Nat) (v : Value) (zs : List (Int × Int)) (hs : a.eval s = v) (hown : W.ownsRow base 50 2 v zs.length (pairs zs)) (g : Nat) (y : Int × Int) (hx : a.eval x = .slice (some ⟨g, 0, none⟩) 1 1)
    (hc : W.heap[g]? = some (.cells #[.int .i64 y.1, .int .i64 y.2] 50 (0, 0))) (hn : zs.length + 1 ≤ 1000000) (hb : base ≤ W.heap.size)
    (h : ∀ v' w', w'.ownsRow base 50 2 v' (zs ++ [y]).length (pairs (zs ++ [y])) → W.grownBy w' v.ownBlock → (v'.ownBlock = v.ownBlock ∨ v'.ownBlock = some W.heap.size) → wpList Try.prog ops Q rest (a.put o.dst v') w') :
    wpList Try.prog ops Q (o :: rest) a W := by
  obtain ⟨i0, hi, hz0, hz1, hz2⟩ := info_parts infoPlace
  refine wp_app _ hgd s x 47 hop base 50 i0 _ 2 16 Try.underlying47 hi hz0 hz1 hz2 rfl (by decide) v zs.length (pairs zs) hs hown
    ⟨g, 0, none⟩ 1 1 [.int .i64 y.1, .int .i64 y.2] hx rfl ?_ ?_ ?_ ?_ hb ?_
  · intro j u hj
    have hcell : ∀ k, W.cell? ⟨g, k, none⟩ = #[Value.int .i64 y.1, .int .i64 y.2][k]? := fun k => by simp [World.cell?, hc]
    match j, hj with
    | 0, hj => simp at hj; subst hj; simp [Addr.add, hcell]
    | 1, hj => simp at hj; subst hj; simp [Addr.add, hcell]
  · intro u hu
    rcases List.mem_cons.1 hu with rfl | hu
    · rfl
    · simp at hu; subst hu; rfl
  · unfold maxLen; omega
  · omega
  · intro v' w' ho hg hv
    refine h v' w' ?_ hg hv
    simpa [pairs] using ho

theorem pairs_set (pl : List (Int × Int)) (k : Nat) (h : k < pl.length) (v : Int) : (pairs pl).set (k * 2 + 1) (.int .i64 v) = pairs (pl.set k (pl[k].1, v)) := by
  induction pl generalizing k with
  | nil => simp at h
  | cons m pl ih =>
    cases k with
    | zero => rfl
    | succ k =>
      have e1 : (k + 1) * 2 + 1 = k * 2 + 1 + 2 := by omega
      have := ih k (by simpa using h)
      rw [e1]
      show Value.int .i64 m.1 :: Value.int .i64 m.2 :: (pairs pl).set (k * 2 + 1) _ = _
      rw [this]
      rfl

set_option maxRecDepth 100000 in
theorem look_c {p : Nat → Prop} {v : Value} {pl : List (Int × Int)} (w : World) (x : Int) (h : IsPairs p w v pl) :
    Calls Try.prog 21 #[v, .int .i64 x] w fun e w' => e = .returned (.int .i64 (lookS pl x)) ∧ w = w' := by
  obtain ⟨a, cap, rfl, hl, hx⟩ := h
  go_enter Try.func21, Try.ntmps21
  go_wp2_with fail
  go_loop [5] (fun i => ∃ k : Nat, k ≤ pl.length ∧ i = .int .i64 k ∧ Hid (∀ j (hj : j < pl.length), j < k → pl[j].1 ≠ x)) (fun i => pl.length - (intOf i).toNat)
  case atStart => exact ⟨0, by omega, rfl, fun j _ hj => by omega⟩
  case round =>
    obtain ⟨k, hk, rfl, hb⟩ := hrel
    by_cases hlt : k < pl.length
    · rcases hx with rfl | ⟨b, off, rfl, _, hx⟩
      · simp at hlt
      obtain ⟨c1, c2⟩ := hx k hlt
      clear hx
      by_cases he : pl[k].1 = x
      · have hh := lookS_hit hlt (fun j hj hjk => by rw [he]; exact hb.out j hj hjk)
        rw [he] at hh c1
        have HH : Hid (lookS pl x = pl[k].2) := hh
        clear hh
        obtain ⟨y, HY⟩ : ∃ y, Hid (pl[k].2 = y) := ⟨pl[k].2, (rfl : pl[k].2 = pl[k].2)⟩
        rw [HY.out] at c2 HH
        clear he
        go_wp2_with fail
        go_ret
        exact ⟨ret_int HH.out.symm, rfl⟩
      · have hb2 : Hid (∀ j (hj : j < pl.length), j < k + 1 → pl[j].1 ≠ x) := fun j hj hjk => by
          by_cases e : j = k
          · subst e; exact he
          · exact hb.out j hj (by omega)
        obtain ⟨y, HY⟩ : ∃ y, Hid (pl[k].1 = y) := ⟨pl[k].1, (rfl : pl[k].1 = pl[k].1)⟩
        rw [HY.out] at c1 he
        have hd : (y == x) = false := beq_eq_false_iff_ne.2 he
        clear he hb
        go_wp2_with fail
        go_round
        case rel => exact ⟨k + 1, by omega, by go_num, hb2⟩
        case measure => simp [intOf]; omega
    · have hm : lookS pl x = x := lookS_miss fun j hj => hb.out j hj (by omega)
      have HM : Hid (lookS pl x = x) := hm
      clear hm hb
      go_wp2_with fail
      go_ret
      exact ⟨ret_int HM.out.symm, rfl⟩

set_option maxRecDepth 100000 in
set_option maxHeartbeats 2000000 in
theorem after_c {p : Nat → Prop} {v : Value} {l : List (Int × Int)} (w : World) (x : Int) (h0 : IsPairs p w v l) (hl : l.length ≤ 10000) :
    Calls Try.prog 15 #[v, .int .i64 x] w fun e w' => e = .returned (.int .i64 (Mv.aft l x)) ∧ Below w.heap.size w w' := by
  have h : IsPairs (· < w.heap.size) w v l := h0.keep (Keep.refl w fun _ _ hb => hb)
  clear h0
  obtain ⟨a, cap, hv, _, _⟩ := id h
  subst hv
  go_enter Try.func15, Try.ntmps15
  go_wp2_with fail
  go_loopg [5, 6] l.length (fun g s5 i wr => ∃ (k : Nat) (pl : List (Int × Int)) (a5 : Option Addr) (c5 : Nat), k + g = l.length ∧ i = .int .i64 k ∧ s5 = .slice a5 pl.length c5 ∧ wr.ownsRow w.heap.size 50 2 (.slice a5 pl.length c5) pl.length (pairs pl) ∧ pl.length ≤ k ∧ Hid (∀ x, lookS pl x = Mv.aft (l.take k) x) ∧ Below w.heap.size w wr)
  case atStart => exact ⟨0, [], none, 0, by omega, rfl, rfl, World.ownsRow_nil _ _ _ _, by simp, (fun x => rfl : ∀ x, lookS [] x = Mv.aft (l.take 0) x), bel_refl _⟩
  case round =>
    obtain ⟨k, pl, a5, c5, hk, rfl, rfl, ho, hpl, hL, hb⟩ := hrel
    have hsz := hb.size
    by_cases hlt : k < l.length
    · obtain ⟨_, _, hv0, -, hx⟩ := h.keep (Keep.belowB hb)
      simp only [Value.slice.injEq, true_and] at hv0
      obtain ⟨rfl, rfl⟩ := hv0
      rcases hx with rfl | ⟨b, off, rfl, hpb, hx⟩
      · simp at hlt
      obtain ⟨t0, t1⟩ := hx k hlt
      clear hx
      have htk := List.take_succ_eq_append_getElem hlt
      obtain ⟨⟨d, s⟩, HM⟩ : ∃ m, Hid (l[k] = m) := ⟨l[k], (rfl : l[k] = l[k])⟩
      rw [HM.out] at t0 t1 htk
      dsimp only at t0 t1
      have HTK : Hid (∀ x, Mv.aft (l.take (k + 1)) x = if x = d then Mv.aft (l.take k) s else Mv.aft (l.take k) x) := fun x => by rw [htk, Mv.aft_snoc]
      have hblt := lt_of_cell t0
      have hip : IsPairs (fun _ => True) wr (.slice a5 pl.length c5) pl := pairs_of_owns ho (by omega) (fun _ _ _ _ => trivial)
      clear htk
      go_wp2_with fail
      refine (look_c wr s hip).mono ?_
      rintro e w' ⟨rfl, rfl⟩
      obtain ⟨u, HU⟩ : ∃ u, Hid (lookS pl s = u) := ⟨_, (rfl : lookS pl s = lookS pl s)⟩
      rw [HU.out]
      go_wp2_with fail
      obtain ⟨go, hgo⟩ : ∃ go, go = gk := ⟨gk, rfl⟩
      go_loopg [8] pl.length (fun g i wx => ∃ (j n : Nat), j + g = pl.length ∧ i = .int .i64 j ∧ Hid (∀ i (hi : i < pl.length), i < j → pl[i].1 ≠ d) ∧ wx = wr.drewN n)
      case atStart => exact ⟨0, 0, by omega, rfl, (fun i _ hi => by omega), rfl⟩
      case round =>
        obtain ⟨j, n, hj, rfl, hP, rfl⟩ := hrel
        clear hip
        by_cases hjl : j < pl.length
        · obtain ⟨g5, rfl⟩ : ∃ g, a5 = some ⟨g, 0, none⟩ := by
            rcases owns_nilcase ho with ⟨_, h2, _⟩ | ⟨g, c, h2⟩
            · omega
            · simp at h2; exact ⟨g, h2.1⟩
          obtain ⟨g1, g2⟩ := pairs_get hjl
          have c1 := ho.cellAt (j * 2) (by omega)
          have c2 := ho.cellAt (j * 2 + 1) (by omega)
          have f2 := ho.frozenAt (j * 2 + 1)
          rw [g1] at c1
          rw [g2] at c2
          have hjl' : (j : Int) < (pl.length : Int) := by omega
          by_cases he : pl[j].1 = d
          · have hst := (ho.stored (j * 2 + 1) (.int .i64 u)).1
            rw [pairs_set pl j hjl u, he] at hst
            have hlo : pl.length = (pl.set j (d, u)).length := by simp
            have HL2 : Hid (∀ x, lookS (pl.set j (d, u)) x = Mv.aft (l.take (k + 1)) x) := fun x => by
              rw [HTK.out, lookS_set hjl he hP.out, ← HU.out, hL.out, hL.out]
            rw [he] at c1
            have hd : (d != d) = false := by simp
            have hjk : ((j : Int) == (pl.length : Int)) = false := beq_eq_false_iff_ne.2 (by omega)
            obtain ⟨zz, HZ⟩ : ∃ zz, Hid (pl[j].2 = zz) := ⟨pl[j].2, (rfl : pl[j].2 = pl[j].2)⟩
            rw [HZ.out] at c2
            have hbb : Below w.heap.size w (wr.setCell ⟨g5, j * 2 + 1, none⟩ (.int .i64 u)) := bel_setCell hb (ho.lt g5 rfl).1
            have hst2 : ∀ n, ((wr.drewN n).setCell ⟨g5, j * 2 + 1, none⟩ (.int .i64 u)).ownsRow w.heap.size 50 2 (.slice (some ⟨g5, 0, none⟩) pl.length c5) pl.length (pairs (pl.set j (d, u))) := fun _ => hst
            have hbb2 : ∀ n, Below w.heap.size w ((wr.drewN n).setCell ⟨g5, j * 2 + 1, none⟩ (.int .i64 u)) := fun n => bel_setCell (bel_drewN hb n) (ho.lt g5 rfl).1
            have hgl := (ho.lt g5 rfl).2
            have HSB : Hid ((∀ n, ((wr.drewN n).setCell ⟨g5, j * 2 + 1, none⟩ (.int .i64 u)).ownsRow w.heap.size 50 2 (.slice (some ⟨g5, 0, none⟩) pl.length c5) pl.length (pairs (pl.set j (d, u)))) ∧ ∀ n, Below w.heap.size w ((wr.drewN n).setCell ⟨g5, j * 2 + 1, none⟩ (.int .i64 u))) := ⟨hst2, hbb2⟩
            have HLO : Hid (pl.length = (pl.set j (d, u)).length) := hlo
            clear g1 g2 he hL hst hbb ho hb HTK hst2 hbb2 hlo hP
            go_wp2_with fail
            go_quiet (fail)
            go_wp2_with fail
            go_roundg (go - 1)
            case measure => omega
            case rel => exact ⟨k + 1, pl.set j (d, u), some ⟨g5, 0, none⟩, c5, by omega, by go_num, by rw [← HLO.out], by rw [← HLO.out]; exact HSB.out.1 _, by rw [← HLO.out]; omega, HL2, HSB.out.2 _⟩
          · have hP2 : Hid (∀ i (hi : i < pl.length), i < j + 1 → pl[i].1 ≠ d) := fun i hi hij => by
              by_cases e : i = j
              · subst e; exact he
              · exact hP.out i hi (by omega)
            obtain ⟨y, HY⟩ : ∃ y, Hid (pl[j].1 = y) := ⟨pl[j].1, (rfl : pl[j].1 = pl[j].1)⟩
            rw [HY.out] at c1 he
            have hd : (y != d) = true := by simpa using he
            clear he hP g1 g2
            go_wp2_with fail
            go_quiet (fail)
            go_wp2_with fail
            go_roundg (gk - 1)
            case measure => omega
            case rel => exact ⟨j + 1, _, by omega, by go_num, hP2, rfl⟩
        · have hje : j = pl.length := by omega
          subst hje
          have HL2 : Hid (∀ x, lookS (pl ++ [(d, u)]) x = Mv.aft (l.take (k + 1)) x) := fun x => by
            rw [HTK.out, lookS_app (fun i hi => hP.out i hi hi), ← HU.out, hL.out, hL.out]
          have hdd : decide ((pl.length : Int) < (pl.length : Int)) = false := by simp
          have ho2 : ∀ n, (wr.drewN n).ownsRow w.heap.size 50 2 (.slice a5 pl.length c5) pl.length (pairs pl) := fun _ => ho
          have hb2 : ∀ n, Below w.heap.size w (wr.drewN n) := fun n => bel_drewN hb n
          have HOB : Hid ((∀ n, (wr.drewN n).ownsRow w.heap.size 50 2 (.slice a5 pl.length c5) pl.length (pairs pl)) ∧ ∀ n, Below w.heap.size w (wr.drewN n)) := ⟨ho2, hb2⟩
          clear hL hP HTK ho hb ho2 hb2
          go_wp2_with fail
          go_quiet (fail)
          go_wp2_with (at_builtin; refine stop_here ?_)
          refine stop_go (app_place rfl _ _ rfl w.heap.size _ pl rfl (owns_keep (HOB.out.1 _) fun b hb => Below.heap_alloc _ _ _ ((HOB.out.1 _).lt b hb).2) _ (d, u) rfl (heap_alloc_eq _ _ _ rfl) (by omega) (by have := (HOB.out.2 (n + nq)).size; simp at this ⊢; omega) ?_)
          intro v' w' ho3 hg3 _
          have hb3 : Below w.heap.size w w' := bel_grown (bel_alloc (HOB.out.2 _) _) hg3 (fun k hk => ((HOB.out.1 0).lt k hk).1)
          obtain ⟨a9, c9, rfl⟩ : ∃ a c, v' = .slice a (pl ++ [(d, u)]).length c := by
            rcases owns_nilcase ho3 with ⟨_, h2, _⟩ | ⟨g, c, h2⟩
            · simp at h2
            · exact ⟨_, c, h2⟩
          have hlp : (pl ++ [(d, u)]).length = pl.length + 1 := by simp
          rw [hlp] at ho3 ⊢
          have HLP : Hid ((pl ++ [(d, u)]).length = pl.length + 1) := hlp
          clear hlp hg3
          go_wp2_with fail
          go_roundg (go - 1)
          case measure => omega
          case rel => exact ⟨k + 1, pl ++ [(d, u)], a9, c9, by omega, by go_num, by rw [HLP.out], by rw [HLP.out]; exact ho3, by rw [HLP.out]; omega, HL2, hb3⟩
    · have hke : k = l.length := by omega
      have hL2 := hL.out x
      rw [hke, List.take_length] at hL2
      have HL2 : Hid (lookS pl x = Mv.aft l x) := hL2
      have hip : IsPairs (fun _ => True) wr (.slice a5 pl.length c5) pl := pairs_of_owns ho (by omega) (fun _ _ _ _ => trivial)
      clear hL hL2 hke
      go_wp2_with fail
      refine (look_c wr x hip).mono ?_
      rintro e w' ⟨rfl, rfl⟩
      rw [HL2.out]
      go_wp2_with fail
      go_ret
      exact ⟨rfl, hb⟩
end Go.Proofs.Ytjgnailkfmgikaa
