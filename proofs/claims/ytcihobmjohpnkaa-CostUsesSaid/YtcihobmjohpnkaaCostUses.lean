/- 'CostUses': the walk. -/
import Derived.Test.YtcihobmjohpnkaaCost19
import Derived.Test.YtcihobmjohpnkaaCostUP
namespace Go.Proofs.Ytcihobmjohpnkaa
open Go.RowKit Go.Sort

theorem infoStr : (Try.prog.info? 9).map (fun i => (i.zero, i.size, i.bytes)) = some (some (.string ⟨#[]⟩), 1, 16) := by kernel_rfl
/-- 'make([]string, n)'. -/
theorem mk_strs {ops : Array Oper} {rest : List Oper} {o : Oper} {a : Act} {Q : Exit → Act → World → Prop} {W : World}
    (hgd : o.guard = none) (l c : Operand) (hop : o.op = Op.makeSlice 42 l c) (n : Nat) (hl : a.eval l = .int .i64 n) (hc : a.eval c = .int .i64 n) (hn : n ≤ 1000000)
    (h : wpList Try.prog ops Q rest (a.put o.dst (.slice (some ⟨W.heap.size, 0, none⟩) n n)) (W.alloc (.cells (List.replicate n (.string ⟨#[]⟩)).toArray 9))) :
    wpList Try.prog ops Q (o :: rest) a W := by
  obtain ⟨i0, hi, hz0, hz1, hz2⟩ := info_parts infoStr
  exact wp_make1 W hgd l c 42 hop 9 i0 _ (.string ⟨#[]⟩) 16 Try.underlying42 hi hz0 hz1 hz2 rfl n hl hc (by omega) (by omega) h

/-- While uses are counted: the row at g, all else as it was. -/
structure UsSt (g : Nat) (w wo : World) (O : List Int) (W : World) : Prop where
  row : Row W g 3 (ints O)
  bel : Below w.heap.size w W
  sz : wo.heap.size ≤ W.heap.size
  kq : ∀ b, b ≠ g → b < wo.heap.size → W.heap[b]? = wo.heap[b]?
theorem UsSt.below {g : Nat} {w wo : World} {O : List Int} {W W' : World} (h : UsSt g w wo O W) (hb : Below W.heap.size W W') : UsSt g w wo O W' :=
  ⟨h.row.keep (hb.block g h.row.lt), bel_call h.bel hb, by have := hb.size; have := h.sz; omega, fun b h1 h2 => (hb.block b (by have := h.sz; omega)).trans (h.kq b h1 h2)⟩
theorem UsSt.put {g : Nat} {w wo : World} {O : List Int} {W : World} (h : UsSt g w wo O W) (hg : w.heap.size ≤ g) (k : Nat) (x : Int) : UsSt g w wo (O.set k x) (W.setCell ⟨g, k, none⟩ (.int .i64 x)) :=
  ⟨by have := h.row.set k (.int .i64 x); rw [ints_set] at this; exact this, h.bel.setCell (by show w.heap.size ≤ g; omega) _, by simpa using h.sz, fun b h1 h2 => (Below.heap_setCell _ _ _ _ h1).trans (h.kq b h1 h2)⟩
theorem UsSt.up {g : Nat} {w wo wc : World} {O O' : List Int} {W : World} (h : UsSt g w wc O W) (h0 : UsSt g w wo O' wc) : UsSt g w wo O W :=
  ⟨h.row, h.bel, Nat.le_trans h0.sz h.sz, fun b h1 h2 => (h.kq b h1 (by have := h0.sz; omega)).trans (h0.kq b h1 h2)⟩
theorem UsSt.here {g : Nat} {w wo : World} {O : List Int} {W : World} (h : UsSt g w wo O W) : UsSt g w W O W := ⟨h.row, h.bel, Nat.le_refl _, fun _ _ _ => rfl⟩
theorem wantI_length (O : List Int) (i : InsD) : (wantI O i).length = O.length := by unfold wantI; split <;> (try split) <;> simp [incS_length]
theorem incs_length (rs : List Int) : ∀ O, (rs.foldl incS O).length = O.length := fold_length _ incS_length rs
theorem incs_small {m : Int} (rs : List Int) : ∀ O, SmallC m O → SmallC (m + rs.length) (rs.foldl incS O) := by
  induction rs generalizing m with
  | nil => intro O h; simpa using h
  | cons r rs ih => intro O h; rw [List.foldl_cons]; have := ih _ (incS_small h r); simp only [List.length_cons]; rw [show m + ((rs.length + 1 : Nat) : Int) = m + 1 + (rs.length : Int) by push_cast; omega]; exact this
theorem wants_small (l : List InsD) : ∀ {m : Int} {O : List Int}, SmallC m O → (∀ i ∈ l, i.k = 1 ∨ i.k = 2 ∨ i.k = 5) → SmallC (m + 2 * l.length) (l.foldl wantI O) := by
  induction l with
  | nil => intro m O h _; simpa using h
  | cons i l ih =>
    intro m O h hk
    have h2 : SmallC (m + 2) (wantI O i) := by
      unfold wantI
      split
      · have := incS_small (incS_small h i.a) i.b; rw [show m + 1 + 1 = m + 2 by omega] at this; exact this
      split
      · have := incS_small (incS_small h i.d) i.a; rw [show m + 1 + 1 = m + 2 by omega] at this; exact this
      · intro j; have := incS_small h i.d j; omega
    rw [List.foldl_cons]
    have := ih h2 fun x hx => hk x (by simp [hx])
    simp only [List.length_cons]
    rw [show m + 2 * ((l.length + 1 : Nat) : Int) = m + 2 + 2 * (l.length : Int) by push_cast; omega]
    exact this
theorem wants_take {O : List Int} {b : List InsD} {k : Nat} (h : k < b.length) : (b.take (k + 1)).foldl wantI O = wantI ((b.take k).foldl wantI O) b[k] := by rw [List.take_succ_eq_append_getElem h, List.foldl_append]; rfl
theorem incs_take {O : List Int} {rs : List Int} {k : Nat} (h : k < rs.length) : (rs.take (k + 1)).foldl incS O = incS ((rs.take k).foldl incS O) rs[k] := by rw [List.take_succ_eq_append_getElem h, List.foldl_append]; rfl

set_option maxRecDepth 100000 in
set_option maxHeartbeats 16000000 in
theorem costUses_c (w : World) (a : Option Addr) (len cap : Nat) (l : List InsD) (n : Int) (h : IsInsL (· < w.heap.size) w (.slice a len cap) l) :
    Calls Try.prog 19 #[.slice a len cap, .int .i64 n] w fun e w' => e = .returned (.bool true) ∧ Below w.heap.size w w' := by
  have HAL := hid_of (alive19_c w)
  have hln : l.length = len := by obtain ⟨_, _, hv0, -, -⟩ := id h; simp only [Value.slice.injEq] at hv0; exact hv0.2.1.symm
  have Hln := hid_of hln
  have HIL : Hid (∀ X, Below w.heap.size w X → IsInsL (· < w.heap.size) X (.slice a len cap) l) := fun X hX => h.keep (fun b hb hlt => ⟨hb, hX.block b hb⟩)
  clear hln h
  by_cases h1 : (len : Int) > 100
  · have d1 : decide ((len : Int) > 100) = true := by simpa using h1
    have d1' : decide (100 < len) = true := by simp; omega
    go_enter Try.func19, Try.ntmps19
    go_wp2_with fail
    refine HAL.out.mono ?_
    rintro e W ⟨rfl, hb⟩
    go_wp2_with fail
    go_ret
    exact ⟨rfl, hb⟩
  have d1 : decide ((len : Int) > 100) = false := by simpa using h1
  have d1' : decide (100 < len) = false := by simp; omega
  by_cases h2 : n < 0
  · have d2 : decide (n < 0) = true := by simpa using h2
    go_enter Try.func19, Try.ntmps19
    go_wp2_with fail
    refine HAL.out.mono ?_
    rintro e W ⟨rfl, hb⟩
    go_wp2_with fail
    go_ret
    exact ⟨rfl, hb⟩
  have d2 : decide (n < 0) = false := by simpa using h2
  by_cases h3 : n > 50
  · have d3 : decide (n > 50) = true := by simpa using h3
    have d3' : decide (50 < n) = true := by simpa using h3
    go_enter Try.func19, Try.ntmps19
    go_wp2_with fail
    refine HAL.out.mono ?_
    rintro e W ⟨rfl, hb⟩
    go_wp2_with fail
    go_ret
    exact ⟨rfl, hb⟩
  obtain ⟨nn, rfl⟩ : ∃ nn : Nat, n = nn := ⟨n.toNat, by omega⟩
  have d2' : decide ((nn : Int) < 0) = false := by simp
  have d3 : decide ((nn : Int) > 50) = false := by simpa using h3
  have d3' : decide (50 < nn) = false := by simp; omega
  have hn50 : nn ≤ 50 := by omega
  have hl100 : len ≤ 100 := by omega
  clear h1 h2 h3
  go_enter Try.func19, Try.ntmps19
  go_wp2_with fail
  refine HAL.out.mono ?_
  rintro e W1 ⟨rfl, hb1⟩
  have HB1 := hid_of hb1
  clear HAL hb1
  go_wp2_with (at_make; refine stop_here ?_)
  refine stop_go (mk_ints rfl _ _ rfl nn rfl rfl (by omega) ?_)
  go_wp2_with (at_make; refine stop_here ?_)
  refine stop_go (mk_strs rfl _ _ rfl nn rfl rfl (by omega) ?_)
  go_wp2_with fail
  clear d1 d1' d2 d2' d3 d3'
  generalize hW : World.alloc _ _ = W
  have hs : W.heap.size = W1.heap.size + 4 := by rw [← hW]; simp
  have hB : Below W1.heap.size W1 W := by rw [← hW]; exact bel_alloc (bel_alloc (bel_alloc (bel_alloc (bel_refl _) _) _) _) _
  have hr0 : Row W W1.heap.size 3 (ints (List.replicate nn 0)) := by
    rw [← hW]; refine heap_alloc_ne _ _ _ _ (heap_alloc_ne _ _ _ _ (heap_alloc_ne _ _ _ _ ?_))
    rw [show (ints (List.replicate nn 0)).toArray = Array.replicate nn (Value.int .i64 0) by simp [ints]]
    exact heap_alloc_eq _ _ _ rfl
  have hr2 : Row W (W1.heap.size + 1 + 1) 40 [.slice a len cap] := by
    rw [← hW]; exact heap_alloc_ne _ _ _ _ (heap_alloc_eq _ _ _ (by simp))
  have hr3 : Row W (W1.heap.size + 1 + 1 + 1) 44 [.string ⟨#[]⟩, .slice (some ⟨W1.heap.size + 1, 0, none⟩) nn nn, .slice none 0 0, .string ⟨#[]⟩, .slice (some ⟨W1.heap.size + 1 + 1, 0, none⟩) 1 1] := by
    rw [← hW]; exact heap_alloc_eq _ _ _ (by simp)
  clear hW
  have hwg := HB1.out.size
  have HS0 : Hid (UsSt W1.heap.size w W (List.replicate nn 0) W) := ⟨hr0, bel_call HB1.out hB, Nat.le_refl _, fun _ _ _ => rfl⟩
  have HR2 := hid_of hr2
  have HR3 := hid_of hr3
  have HWS := hid_of hs
  have HZ : Hid (SmallC 0 (List.replicate nn (0 : Int))) := fun j => by
    rw [List.getD_eq_getElem?_getD, List.getElem?_replicate]
    split <;> simp
  obtain ⟨Z, HZe⟩ : ∃ Z, Hid (List.replicate nn (0 : Int) = Z) := ⟨_, (rfl : List.replicate nn (0 : Int) = _)⟩
  have hzl : Z.length = nn := by rw [← HZe.out]; simp
  rw [HZe.out] at HS0 HZ
  have HZL := hid_of hzl
  obtain ⟨g, Hg⟩ : ∃ g, Hid (W1.heap.size = g) := ⟨_, (rfl : W1.heap.size = _)⟩
  rw [Hg.out] at HS0 HR2 HR3 HWS hwg ⊢
  clear hr0 hr2 hr3 hs hB hzl
  go_loopw [8] (fun s8 wx => ∃ i : Nat, i ≤ len ∧ s8 = .int .i64 i ∧ Hid (UsSt g w W ((l.take i).foldl wantI Z) wx) ∧ Hid (∀ x ∈ l.take i, x.k = 1 ∨ x.k = 2 ∨ x.k = 5)) (fun s8 _ => len - (intOf s8).toNat)
  case atStart => exact ⟨0, by omega, rfl, HS0, fun x hx => by simp at hx⟩
  case round =>
    obtain ⟨i, hi, rfl, HS, HK⟩ := hrel
    clear HS0
    by_cases hit : i < len
    · have hil : i < l.length := by rw [Hln.out]; exact hit
      obtain ⟨_, _, hv0, -, hx⟩ := HIL.out wr HS.out.bel
      simp only [Value.slice.injEq] at hv0
      obtain ⟨rfl, -, rfl⟩ := hv0
      rcases hx with hx | ⟨lb, lo, rfl, hplb, hx⟩
      · rw [hx] at hil; simp at hil
      have hci := hx i hil
      have hti := wants_take (O := Z) hil
      have hsm := wants_small (l.take i) HZ.out HK.out
      have hKn : ∀ y : InsD, l[i] = y → (y.k = 1 ∨ y.k = 2 ∨ y.k = 5) → ∀ x ∈ l.take (i + 1), x.k = 1 ∨ x.k = 2 ∨ x.k = 5 := fun y hy hk x hx => by
        rw [List.take_succ_eq_append_getElem hil, List.mem_append, List.mem_singleton] at hx
        rcases hx with hx | rfl
        · exact HK.out x hx
        · rw [hy]; exact hk
      have hlt : (l.take i).length ≤ 100 := by rw [List.length_take]; omega
      have HKN := hid_of hKn
      obtain ⟨ii, Hii⟩ : ∃ ii, Hid (l[i] = ii) := ⟨_, (rfl : l[i] = _)⟩
      rw [Hii.out] at hci hti HKN
      obtain ⟨O0, HO0⟩ : ∃ O0, Hid ((l.take i).foldl wantI Z = O0) := ⟨_, (rfl : (l.take i).foldl wantI Z = _)⟩
      have hol : O0.length = nn := by rw [← HO0.out, fold_length _ wantI_length]; exact HZL.out
      rw [HO0.out] at HS hti hsm
      have HTI := hid_of hti
      have HOL := hid_of hol
      have HSM : Hid (SmallC 200 O0) := fun j => by have := hsm j; omega
      obtain ⟨ik, idd, ja, ib, inn, iname, iargs, it, jf⟩ := ii
      obtain ⟨c0, c1, c2, c3, -⟩ := hci
      dsimp only at c0 c1 c2 c3
      have hi0 : (0 : Int) ≤ (i : Int) := by omega
      have hiz : (i : Int) < (len : Int) := by omega
      have hgl := HS.out.row.lt
      have hlb : lb < wr.heap.size := by have := HS.out.bel.size; omega
      clear hx hti hol hsm hKn hlt
      by_cases hk1 : ik = 1
      · subst hk1
        go_wp2_with fail
        refine wp_at (fun X => Row X wr.heap.size 3 (ints [idd]) ∧ Below wr.heap.size wr X) ⟨heap_alloc_eq _ _ _ rfl, bel_alloc (bel_refl wr) _⟩ ?_
        rintro wb ⟨hrb, hbb⟩
        have HSb := hid_of (HS.out.below hbb)
        obtain ⟨RS, HRS⟩ : ∃ RS, Hid ([idd] = RS) := ⟨_, (rfl : [idd] = _)⟩
        have HRL : Hid (RS.length = 1) := by show _ = _; rw [← HRS.out]; rfl
        have HWG := hid_of hwg
        obtain ⟨rb, Hrb⟩ : ∃ rb, Hid (wr.heap.size = rb) := ⟨_, (rfl : wr.heap.size = _)⟩
        have HRB : Hid (rb ≠ g) := by show _ ≠ _; have := Hrb.out; omega
        have HRX : Hid (∀ (j : Nat) (h : j < RS.length), wb.cell? ⟨rb, j, none⟩ = some (.int .i64 RS[j])) := by
          rw [← HRS.out, ← Hrb.out]
          intro j hj
          have : j = 0 := by simpa using hj
          subst this
          exact hrb.cell (k := 0) rfl
        rw [Hrb.out]
        clear hrb hbb c0 c1 c2 c3
        have HT0 : Hid (UsSt g w wb ((RS.take 0).foldl incS O0) wb) := HSb.out.here
        go_loopw [10] (fun s10 wx => ∃ j : Nat, j ≤ 1 ∧ s10 = .int .i64 j ∧ Hid (UsSt g w wb ((RS.take j).foldl incS O0) wx)) (fun s10 _ => 1 - (intOf s10).toNat)
        case atStart => exact ⟨0, by omega, rfl, HT0⟩
        case round =>
          obtain ⟨j, hj, rfl, HSj⟩ := hrel
          clear HT0
          by_cases hjt : j < 1
          · have hjR : j < RS.length := by rw [HRL.out]; exact hjt
            have e0 := HRX.out j hjR
            have e1 := (World.cell?_of_block (a := ⟨rb, j, none⟩) (HSj.out.kq rb HRB.out (lt_of_cell e0))).trans e0
            have hti := incs_take (O := O0) hjR
            have hsm := incs_small (RS.take j) O0 HSM.out
            have hlt : (RS.take j).length ≤ 2 := by rw [List.length_take]; omega
            obtain ⟨v, Hv⟩ : ∃ v, Hid (RS[j] = v) := ⟨_, (rfl : RS[j] = _)⟩
            rw [Hv.out] at e1 hti
            obtain ⟨O2, HO2⟩ : ∃ O2, Hid ((RS.take j).foldl incS O0 = O2) := ⟨_, (rfl : (RS.take j).foldl incS O0 = _)⟩
            have hol2 : O2.length = nn := by rw [← HO2.out, incs_length]; exact HOL.out
            rw [HO2.out] at HSj hti hsm
            have HTJ := hid_of hti
            have hj0 : (0 : Int) ≤ (j : Int) := by omega
            have hjz : (j : Int) < 1 := by omega
            clear e0 hti
            by_cases hv0 : v < 0
            · have d1 : decide (v ≥ 0) = false := by simpa using hv0
              have d1' : decide (0 ≤ v) = false := by simpa using hv0
              have HE : Hid ((RS.take (j + 1)).foldl incS O0 = O2) := by show _ = _; rw [HTJ.out]; unfold incS; rw [if_neg (by omega)]
              clear hv0 hol2 hsm hlt
              go_wp2_with fail
              go_roundw
              case rel => exact ⟨j + 1, by omega, by go_num, by rw [HE.out]; exact HSj⟩
              case measure => simp [intOf]; omega
            obtain ⟨vN, rfl⟩ : ∃ vN : Nat, v = vN := ⟨v.toNat, by omega⟩
            have d1 : decide ((vN : Int) ≥ 0) = true := by simp
            have d1' : decide (0 ≤ (vN : Int)) = true := by simp
            by_cases hvv : nn ≤ vN
            · have d2 : decide ((vN : Int) < (nn : Int)) = false := by simp; omega
              have d2' : decide (vN < nn) = false := by simp; omega
              have HE : Hid ((RS.take (j + 1)).foldl incS O0 = O2) := by show _ = _; rw [HTJ.out]; unfold incS; rw [if_neg (by omega)]
              clear hvv hol2 hv0 hsm hlt
              go_wp2_with fail
              go_roundw
              case rel => exact ⟨j + 1, by omega, by go_num, by rw [HE.out]; exact HSj⟩
              case measure => simp [intOf]; omega
            have d2 : decide ((vN : Int) < (nn : Int)) = true := by simp; omega
            have d2' : decide (vN < nn) = true := by simp; omega
            have hvO : vN < O2.length := by omega
            have hcv := hsm vN
            obtain ⟨cv, Hcv⟩ : ∃ cv, Hid (O2.getD vN 0 = cv) := ⟨_, (rfl : O2.getD vN 0 = _)⟩
            rw [Hcv.out] at hcv
            have q1 := HSj.out.row.cell (k := vN) (v := .int .i64 cv) (by
              have := Hcv.out
              simp only [List.getD, List.getElem?_eq_getElem hvO, Option.getD_some] at this
              simp [ints, hvO, this])
            have f1 := HSj.out.row.frozen vN
            have HE : Hid ((RS.take (j + 1)).foldl incS O0 = O2.set vN (cv + 1)) := by show _ = _; rw [HTJ.out]; unfold incS; rw [if_pos ⟨by omega, by omega⟩, Int.toNat_natCast, Hcv.out]
            have HSF := hid_of (HSj.out.put HWG.out vN (cv + 1))
            have hvz0 : (0 : Int) ≤ (vN : Int) := by omega
            have hvz1 : (vN : Int) < (nn : Int) := by omega
            have hcv1 : cv ≤ 1000 := by omega
            have hcv0 : 0 ≤ cv := by omega
            clear hol2 hv0 hvv hvO hcv hsm hlt
            go_wp2_with fail
            go_roundw
            case rel => exact ⟨j + 1, by omega, by go_num, by rw [HE.out]; exact HSF⟩
            case measure => simp [intOf]; omega
          · obtain rfl : j = 1 := by omega
            have hs := HSj.out
            have hwi : wantI O0 ⟨1, idd, ja, ib, inn, iname, iargs, it, jf⟩ = RS.foldl incS O0 := by rw [← HRS.out]; rfl
            rw [List.take_of_length_le (by rw [HRL.out]; exact Nat.le_refl _), ← hwi, ← HTI.out] at hs
            have HSE := hid_of (hs.up HSb.out)
            have HK2 := hid_of (HKN.out _ rfl (by simp))
            clear hs hwi
            go_wp2_with fail
            go_roundw
            case rel => exact ⟨i + 1, by omega, by go_num, HSE, HK2⟩
            case measure => simp [intOf]; omega
      by_cases hk2 : ik = 2
      · subst hk2
        have hown : (wr.alloc (.cells #[.int .i64 idd] 3)).ownsRow wr.heap.size 3 1 (.slice (some ⟨wr.heap.size, 0, none⟩) 1 1) [idd].length (ints [idd]) := owns_new rfl (Nat.le_refl _) (by unfold maxLen; omega) rfl rfl rfl
        have HOW := hid_of hown
        clear hown
        go_wp2_with (at_builtin; refine stop_here ?_)
        refine stop_go (app_int rfl _ _ rfl wr.heap.size (.slice (some ⟨wr.heap.size, 0, none⟩) 1 1) [idd] rfl (owns_below HOW.out (bel_alloc (bel_refl _) _)) _ ja rfl (heap_alloc_eq _ _ _ (by simp)) (by simp) (by simp; omega) ?_)
        intro v' wb ho hgr hv
        have hbb : Below wr.heap.size wr wb := bel_grown (bel_alloc (bel_alloc (bel_refl wr) _) _) hgr (fun b e => (HOW.out.lt b e).1)
        obtain ⟨va, vc, rfl, hva⟩ := owns_slice ho
        obtain ⟨vb, rfl⟩ := hva (by simp)
        have hvlt := ho.lt vb rfl
        have HSb := hid_of (HS.out.below hbb)
        have c0b := (World.cell?_of_block (a := ⟨lb, lo + i * 9, none⟩) (hbb.block lb hlb)).trans c0
        obtain ⟨RS, HRS⟩ : ∃ RS, Hid ([idd, ja] = RS) := ⟨_, (rfl : [idd, ja] = _)⟩
        have HRL : Hid (RS.length = 2) := by show _ = _; rw [← HRS.out]; rfl
        have HWG := hid_of hwg
        obtain ⟨rb, Hrb⟩ : ∃ rb, Hid (vb = rb) := ⟨_, (rfl : vb = _)⟩
        have HRB : Hid (rb ≠ g) := by show _ ≠ _; have := Hrb.out; omega
        have HRX : Hid (∀ (j : Nat) (h : j < RS.length), wb.cell? ⟨rb, j, none⟩ = some (.int .i64 RS[j])) := by
          rw [← HRS.out, ← Hrb.out]
          intro j hj
          have hc := ho.cellAt j (by simpa using hj)
          rw [hc]
          have : j = 0 ∨ j = 1 := by simp at hj; omega
          rcases this with rfl | rfl <;> rfl
        rw [Hrb.out]
        have hv2 : ([idd] ++ [ja]).length = 2 := rfl
        clear ho hgr hv hvlt hbb c0 c1 c2 c3 HOW
        go_wp2_with fail
        have HT0 : Hid (UsSt g w wb ((RS.take 0).foldl incS O0) wb) := HSb.out.here
        go_loopw [10] (fun s10 wx => ∃ j : Nat, j ≤ 2 ∧ s10 = .int .i64 j ∧ Hid (UsSt g w wb ((RS.take j).foldl incS O0) wx)) (fun s10 _ => 2 - (intOf s10).toNat)
        case atStart => exact ⟨0, by omega, rfl, HT0⟩
        case round =>
          obtain ⟨j, hj, rfl, HSj⟩ := hrel
          clear HT0
          by_cases hjt : j < 2
          · have hjR : j < RS.length := by rw [HRL.out]; exact hjt
            have e0 := HRX.out j hjR
            have e1 := (World.cell?_of_block (a := ⟨rb, j, none⟩) (HSj.out.kq rb HRB.out (lt_of_cell e0))).trans e0
            have hti := incs_take (O := O0) hjR
            have hsm := incs_small (RS.take j) O0 HSM.out
            have hlt : (RS.take j).length ≤ 2 := by rw [List.length_take]; omega
            obtain ⟨v, Hv⟩ : ∃ v, Hid (RS[j] = v) := ⟨_, (rfl : RS[j] = _)⟩
            rw [Hv.out] at e1 hti
            obtain ⟨O2, HO2⟩ : ∃ O2, Hid ((RS.take j).foldl incS O0 = O2) := ⟨_, (rfl : (RS.take j).foldl incS O0 = _)⟩
            have hol2 : O2.length = nn := by rw [← HO2.out, incs_length]; exact HOL.out
            rw [HO2.out] at HSj hti hsm
            have HTJ := hid_of hti
            have hj0 : (0 : Int) ≤ (j : Int) := by omega
            have hjz : (j : Int) < 2 := by omega
            clear e0 hti
            by_cases hv0 : v < 0
            · have d1 : decide (v ≥ 0) = false := by simpa using hv0
              have d1' : decide (0 ≤ v) = false := by simpa using hv0
              have HE : Hid ((RS.take (j + 1)).foldl incS O0 = O2) := by show _ = _; rw [HTJ.out]; unfold incS; rw [if_neg (by omega)]
              clear hv0 hol2 hsm hlt
              go_wp2_with fail
              go_roundw
              case rel => exact ⟨j + 1, by omega, by go_num, by rw [HE.out]; exact HSj⟩
              case measure => simp [intOf]; omega
            obtain ⟨vN, rfl⟩ : ∃ vN : Nat, v = vN := ⟨v.toNat, by omega⟩
            have d1 : decide ((vN : Int) ≥ 0) = true := by simp
            have d1' : decide (0 ≤ (vN : Int)) = true := by simp
            by_cases hvv : nn ≤ vN
            · have d2 : decide ((vN : Int) < (nn : Int)) = false := by simp; omega
              have d2' : decide (vN < nn) = false := by simp; omega
              have HE : Hid ((RS.take (j + 1)).foldl incS O0 = O2) := by show _ = _; rw [HTJ.out]; unfold incS; rw [if_neg (by omega)]
              clear hvv hol2 hv0 hsm hlt
              go_wp2_with fail
              go_roundw
              case rel => exact ⟨j + 1, by omega, by go_num, by rw [HE.out]; exact HSj⟩
              case measure => simp [intOf]; omega
            have d2 : decide ((vN : Int) < (nn : Int)) = true := by simp; omega
            have d2' : decide (vN < nn) = true := by simp; omega
            have hvO : vN < O2.length := by omega
            have hcv := hsm vN
            obtain ⟨cv, Hcv⟩ : ∃ cv, Hid (O2.getD vN 0 = cv) := ⟨_, (rfl : O2.getD vN 0 = _)⟩
            rw [Hcv.out] at hcv
            have q1 := HSj.out.row.cell (k := vN) (v := .int .i64 cv) (by
              have := Hcv.out
              simp only [List.getD, List.getElem?_eq_getElem hvO, Option.getD_some] at this
              simp [ints, hvO, this])
            have f1 := HSj.out.row.frozen vN
            have HE : Hid ((RS.take (j + 1)).foldl incS O0 = O2.set vN (cv + 1)) := by show _ = _; rw [HTJ.out]; unfold incS; rw [if_pos ⟨by omega, by omega⟩, Int.toNat_natCast, Hcv.out]
            have HSF := hid_of (HSj.out.put HWG.out vN (cv + 1))
            have hvz0 : (0 : Int) ≤ (vN : Int) := by omega
            have hvz1 : (vN : Int) < (nn : Int) := by omega
            have hcv1 : cv ≤ 1000 := by omega
            have hcv0 : 0 ≤ cv := by omega
            clear hol2 hv0 hvv hvO hcv hsm hlt
            go_wp2_with fail
            go_roundw
            case rel => exact ⟨j + 1, by omega, by go_num, by rw [HE.out]; exact HSF⟩
            case measure => simp [intOf]; omega
          · obtain rfl : j = 2 := by omega
            have hs := HSj.out
            have hwi : wantI O0 ⟨2, idd, ja, ib, inn, iname, iargs, it, jf⟩ = RS.foldl incS O0 := by rw [← HRS.out]; rfl
            rw [List.take_of_length_le (by rw [HRL.out]; exact Nat.le_refl _), ← hwi, ← HTI.out] at hs
            have HSE := hid_of (hs.up HSb.out)
            have HK2 := hid_of (HKN.out _ rfl (by simp))
            clear hs hwi
            go_wp2_with fail
            go_roundw
            case rel => exact ⟨i + 1, by omega, by go_num, HSE, HK2⟩
            case measure => simp [intOf]; omega
      by_cases hk5 : ik = 5
      · subst hk5
        go_wp2_with fail
        refine wp_at (fun X => X.cell? ⟨lb, lo + i * 9 + 2, none⟩ = some (.int .i64 ja) ∧ X.cell? ⟨lb, lo + i * 9 + 3, none⟩ = some (.int .i64 ib) ∧ Below wr.heap.size wr X) ⟨(World.cell?_of_block (a := ⟨lb, lo + i * 9 + 2, none⟩) ((bel_alloc (bel_refl wr) _).block lb hlb)).trans c2, (World.cell?_of_block (a := ⟨lb, lo + i * 9 + 3, none⟩) ((bel_alloc (bel_refl wr) _).block lb hlb)).trans c3, bel_alloc (bel_refl wr) _⟩ ?_
        rintro wq ⟨c2q, c3q, hbq⟩
        clear c0 c1 c2 c3
        go_region
        refine k_at (fun X => Row X wq.heap.size 3 (ints [ja, ib]) ∧ Below wr.heap.size wr X) ⟨heap_alloc_eq _ _ _ rfl, ((bel_alloc hbq _).drew)⟩ ?_
        rintro wb ⟨hrb, hbb⟩
        have HSb := hid_of (HS.out.below hbb)
        have hsq := hbq.size
        obtain ⟨RS, HRS⟩ : ∃ RS, Hid ([ja, ib] = RS) := ⟨_, (rfl : [ja, ib] = _)⟩
        have HRL : Hid (RS.length = 2) := by show _ = _; rw [← HRS.out]; rfl
        have HWG := hid_of hwg
        obtain ⟨rb, Hrb⟩ : ∃ rb, Hid (wq.heap.size = rb) := ⟨_, (rfl : wq.heap.size = _)⟩
        have HRB : Hid (rb ≠ g) := by show _ ≠ _; have := Hrb.out; omega
        have HRX : Hid (∀ (j : Nat) (h : j < RS.length), wb.cell? ⟨rb, j, none⟩ = some (.int .i64 RS[j])) := by
          rw [← HRS.out, ← Hrb.out]
          intro j hj
          have : j = 0 ∨ j = 1 := by simp at hj; omega
          rcases this with rfl | rfl
          · exact hrb.cell (k := 0) rfl
          · exact hrb.cell (k := 1) rfl
        rw [Hrb.out]
        clear hrb hbb c2q c3q hbq hsq
        go_wp2_with fail
        have HT0 : Hid (UsSt g w wb ((RS.take 0).foldl incS O0) wb) := HSb.out.here
        go_loopw [10] (fun s10 wx => ∃ j : Nat, j ≤ 2 ∧ s10 = .int .i64 j ∧ Hid (UsSt g w wb ((RS.take j).foldl incS O0) wx)) (fun s10 _ => 2 - (intOf s10).toNat)
        case atStart => exact ⟨0, by omega, rfl, HT0⟩
        case round =>
          obtain ⟨j, hj, rfl, HSj⟩ := hrel
          clear HT0
          by_cases hjt : j < 2
          · have hjR : j < RS.length := by rw [HRL.out]; exact hjt
            have e0 := HRX.out j hjR
            have e1 := (World.cell?_of_block (a := ⟨rb, j, none⟩) (HSj.out.kq rb HRB.out (lt_of_cell e0))).trans e0
            have hti := incs_take (O := O0) hjR
            have hsm := incs_small (RS.take j) O0 HSM.out
            have hlt : (RS.take j).length ≤ 2 := by rw [List.length_take]; omega
            obtain ⟨v, Hv⟩ : ∃ v, Hid (RS[j] = v) := ⟨_, (rfl : RS[j] = _)⟩
            rw [Hv.out] at e1 hti
            obtain ⟨O2, HO2⟩ : ∃ O2, Hid ((RS.take j).foldl incS O0 = O2) := ⟨_, (rfl : (RS.take j).foldl incS O0 = _)⟩
            have hol2 : O2.length = nn := by rw [← HO2.out, incs_length]; exact HOL.out
            rw [HO2.out] at HSj hti hsm
            have HTJ := hid_of hti
            have hj0 : (0 : Int) ≤ (j : Int) := by omega
            have hjz : (j : Int) < 2 := by omega
            clear e0 hti
            by_cases hv0 : v < 0
            · have d1 : decide (v ≥ 0) = false := by simpa using hv0
              have d1' : decide (0 ≤ v) = false := by simpa using hv0
              have HE : Hid ((RS.take (j + 1)).foldl incS O0 = O2) := by show _ = _; rw [HTJ.out]; unfold incS; rw [if_neg (by omega)]
              clear hv0 hol2 hsm hlt
              go_wp2_with fail
              go_roundw
              case rel => exact ⟨j + 1, by omega, by go_num, by rw [HE.out]; exact HSj⟩
              case measure => simp [intOf]; omega
            obtain ⟨vN, rfl⟩ : ∃ vN : Nat, v = vN := ⟨v.toNat, by omega⟩
            have d1 : decide ((vN : Int) ≥ 0) = true := by simp
            have d1' : decide (0 ≤ (vN : Int)) = true := by simp
            by_cases hvv : nn ≤ vN
            · have d2 : decide ((vN : Int) < (nn : Int)) = false := by simp; omega
              have d2' : decide (vN < nn) = false := by simp; omega
              have HE : Hid ((RS.take (j + 1)).foldl incS O0 = O2) := by show _ = _; rw [HTJ.out]; unfold incS; rw [if_neg (by omega)]
              clear hvv hol2 hv0 hsm hlt
              go_wp2_with fail
              go_roundw
              case rel => exact ⟨j + 1, by omega, by go_num, by rw [HE.out]; exact HSj⟩
              case measure => simp [intOf]; omega
            have d2 : decide ((vN : Int) < (nn : Int)) = true := by simp; omega
            have d2' : decide (vN < nn) = true := by simp; omega
            have hvO : vN < O2.length := by omega
            have hcv := hsm vN
            obtain ⟨cv, Hcv⟩ : ∃ cv, Hid (O2.getD vN 0 = cv) := ⟨_, (rfl : O2.getD vN 0 = _)⟩
            rw [Hcv.out] at hcv
            have q1 := HSj.out.row.cell (k := vN) (v := .int .i64 cv) (by
              have := Hcv.out
              simp only [List.getD, List.getElem?_eq_getElem hvO, Option.getD_some] at this
              simp [ints, hvO, this])
            have f1 := HSj.out.row.frozen vN
            have HE : Hid ((RS.take (j + 1)).foldl incS O0 = O2.set vN (cv + 1)) := by show _ = _; rw [HTJ.out]; unfold incS; rw [if_pos ⟨by omega, by omega⟩, Int.toNat_natCast, Hcv.out]
            have HSF := hid_of (HSj.out.put HWG.out vN (cv + 1))
            have hvz0 : (0 : Int) ≤ (vN : Int) := by omega
            have hvz1 : (vN : Int) < (nn : Int) := by omega
            have hcv1 : cv ≤ 1000 := by omega
            have hcv0 : 0 ≤ cv := by omega
            clear hol2 hv0 hvv hvO hcv hsm hlt
            go_wp2_with fail
            go_roundw
            case rel => exact ⟨j + 1, by omega, by go_num, by rw [HE.out]; exact HSF⟩
            case measure => simp [intOf]; omega
          · obtain rfl : j = 2 := by omega
            have hs := HSj.out
            have hwi : wantI O0 ⟨5, idd, ja, ib, inn, iname, iargs, it, jf⟩ = RS.foldl incS O0 := by rw [← HRS.out]; rfl
            rw [List.take_of_length_le (by rw [HRL.out]; exact Nat.le_refl _), ← hwi, ← HTI.out] at hs
            have HSE := hid_of (hs.up HSb.out)
            have HK2 := hid_of (HKN.out _ rfl (by simp))
            clear hs hwi
            go_wp2_with fail
            go_roundw
            case rel => exact ⟨i + 1, by omega, by go_num, HSE, HK2⟩
            case measure => simp [intOf]; omega
      have e1 : (ik != 1) = true := by simpa using hk1
      have e2 : (ik != 2) = true := by simpa using hk2
      have e5 : (ik != 5) = true := by simpa using hk5
      have e1' : (ik == 1) = false := by simpa using hk1
      have e2' : (ik == 2) = false := by simpa using hk2
      have e5' : (ik == 5) = false := by simpa using hk5
      clear hk1 hk2 hk5
      go_wp2_with fail
      go_ret
      exact ⟨rfl, HS.out.bel⟩
    · obtain rfl : i = len := by omega
      have hs := HS.out
      have hk := HK.out
      rw [List.take_of_length_le (by rw [Hln.out]; exact Nat.le_refl _)] at hs hk
      have HKK := hid_of hk
      have r3 := HR3.out.keep (hs.kq _ (by omega) (by have := HWS.out; omega))
      have r2 := HR2.out.keep (hs.kq _ (by omega) (by have := HWS.out; omega))
      have hsz : g + 4 ≤ wr.heap.size := by have := HWS.out; have := hs.sz; omega
      have hbl : IsBlocks (· < wr.heap.size) wr (.slice (some ⟨g + 1 + 1, 0, none⟩) 1 1) [l] := by
        refine ⟨_, 1, rfl, ⟨by simp, by simp⟩, .inr ⟨g + 1 + 1, 0, rfl, by show g + 1 + 1 < wr.heap.size; omega, fun j hj => ?_⟩⟩
        have : j = 0 := by simpa using hj
        subst this
        exact ⟨_, r2.cell (k := 0) rfl, (HIL.out wr hs.bel).keep (Keep.refl wr fun b hb _ => by have := hs.bel.size; show b < wr.heap.size; omega)⟩
      have hu : ∀ x ∈ l, (usesS x).length ≤ 1000002 := fun x hx => by
        have := hk x hx
        unfold usesS
        rcases this with e | e | e <;> rw [e] <;> simp
      have hbd : ∀ b ∈ [l], b.length ≤ 100000 ∧ ∀ i ∈ b, (usesS i).length ≤ 1000002 := by
        intro b hb
        rw [List.mem_singleton] at hb
        subst hb
        exact ⟨by have := Hln.out; omega, hu⟩
      have hC := costs_c wr ⟨#[]⟩ (some ⟨g + 1, 0, none⟩) nn nn none 0 0 ⟨#[]⟩ (some ⟨g + 1 + 1, 0, none⟩) 1 1 hbl (by omega) (by omega) hbd
      have hcu : costS nn [l] = l.foldl wantI Z := by rw [← HZe.out]; exact cost_uses hk (by have := Hln.out; omega)
      rw [hcu] at hC
      unfold funcV at hC
      obtain ⟨OO, HOO⟩ : ∃ OO, Hid (l.foldl wantI Z = OO) := ⟨_, (rfl : l.foldl wantI Z = _)⟩
      have hool : OO.length = nn := by rw [← HOO.out, fold_length _ wantI_length]; exact HZL.out
      rw [HOO.out] at hs hC
      have HSS := hid_of hs
      have HC := hid_of hC
      have HOOL := hid_of hool
      have q0 := r3.cell (k := 0) rfl
      have q1 := r3.cell (k := 1) rfl
      have q2 := r3.cell (k := 2) rfl
      have q3 := r3.cell (k := 3) rfl
      have q4 := r3.cell (k := 4) rfl
      clear hbl hu hbd hC hcu r2 r3 hk hs hool hsz hit
      go_wp2_with fail
      refine HC.out.mono ?_
      rintro e W3 ⟨g3, rfl, hg3, hr3, hb3⟩
      have hB3 := bel_call HSS.out.bel hb3
      have hi1 : IsInts (fun _ => True) W3 (.slice (some ⟨g3, 0, none⟩) nn nn) OO := by have := ints_of_row (xs := OO) (p := fun _ => True) hr3 trivial (by have := HOOL.out; omega); rw [HOOL.out] at this; exact this
      have hi2 : IsInts (fun _ => True) W3 (.slice (some ⟨g, 0, none⟩) nn nn) OO := by have := ints_of_row (xs := OO) (p := fun _ => True) (HSS.out.row.keep (hb3.block g HSS.out.row.lt)) trivial (by have := HOOL.out; omega); rw [HOOL.out] at this; exact this
      have HI1 := hid_of hi1
      have HI2 := hid_of hi2
      have HB3 := hid_of hB3
      clear hr3 hb3 hB3 hi1 hi2 hg3 q0 q1 q2 q3 q4
      go_wp2_with fail
      refine (sameInts_c _ HI1.out HI2.out).mono ?_
      rintro e W4 ⟨rfl, nd, rfl⟩
      rw [sameS_self]
      go_wp2_with fail
      go_ret
      exact ⟨rfl, bel_drewN HB3.out nd⟩
theorem costUses_d (w : World) {a : Option Addr} {len cap : Nat} {l : List InsD} (h : IsInsL (· < w.heap.size) w (.slice a len cap) l) (_ : ∀ i ∈ l, i.name.size ≤ 9223372036854775807) (n : Int) :
    Calls Try.prog 19 #[.slice a len cap, .int .i64 n] w fun e w' => e = .returned (.bool true) ∧ Below w.heap.size w w' := costUses_c w a len cap l n h
end Go.Proofs.Ytcihobmjohpnkaa
