/- 'Color': the colours of a graph. -/
import Derived.Test.YtinbfnabngdemaaCnB
import Derived.Test.YtinbfnabngdemaaCnP
namespace Go.Proofs.Ytinbfnabngdemaa
open Go.RowKit Go.Maps Go.Sort Go.Shelf Go.WideMaps Go.ChangeMaps Go.WideElems

/-- While the heavy ones are taken away. -/
structure MnI (L : Gl) (G : GD) (X : World) (SF S : CS) (ov sv : Value) (W : World) : Prop where
  dy : DyV L G S ov sv W
  st : StG L G W
  bl : Below X.heap.size X W
  ok : StOk G S
  nn : Nn G S
  sf : S.safe = []
  main : mainS G S = SF
theorem Nn.sim {G : GD} (hG : OkG G) {S : CS} (h : StOk G S) (hn : Nn G S) : StOk G (simS G S) ∧ Nn G (simS G S) ∧ (simS G S).safe = [] := by
  obtain ⟨⟨h1, h2⟩, h3⟩ := simS_ind (G := G) (P := fun S => StOk G S ∧ Nn G S) (fun S l v hs h => by
    obtain ⟨hp, hv⟩ := StOk.pop h.1 hs
    exact ⟨hp.take hG hv, Nn.take hG hp h.2 hv⟩) S ⟨h, hn⟩
  exact ⟨h1, h2, h3⟩
theorem take_safe {G : GD} (hF : Few G) {S : CS} (hs : S.safe = []) (v : Nat) : (takeS G S v).safe.length ≤ 100 := by
  unfold takeS
  split
  · rw [hs]; simp
  · have h1 := fold_safe_len G v (nbsS G (goneS S v) v) (goneS S v)
    have h2 := nbs_len G (goneS S v) v
    have h3 : (goneS S v).safe.length = 0 := by show S.safe.length = 0; rw [hs]; rfl
    have := hF.n
    omega
section
variable {L : Gl} {G : GD} {X W W' : World} {SF S : CS} {ov sv : Value}
theorem MnI.next (h : MnI L G X SF S ov sv W) (hG : OkG G) {v : Nat} (hv : v < G.A.length) (hh : heavyS G S = (v : Int)) {o' s' : Value} (hd : DyV L G (simS G (takeS G S v)) o' s' W') (hs : StG L G W') (hb : Below X.heap.size X W') : MnI L G X SF (simS G (takeS G S v)) o' s' W' := by
  obtain ⟨h1, h2, h3⟩ := Nn.sim hG (h.ok.take hG hv) (Nn.take hG h.ok h.nn hv)
  exact ⟨hd, hs, hb, h1, h2, h3, by rw [← mainS_step hh]; exact h.main⟩

/-- While the colours are written. -/
structure AfC (L : Gl) (G : GD) (X : World) (S : CS) (ov sv : Value) (kb : Nat) (col : Nat → Int) (W : World) : Prop where
  dy : DyV L G S ov sv W
  st : StG L G W
  bl : Below X.heap.size X W
  row : Row W kb 3 (ints ((List.range G.A.length).map col))
  ne : ov.ownBlock ≠ some kb ∧ sv.ownBlock ≠ some kb
  ge : L.B ≤ kb ∧ X.heap.size ≤ kb
theorem AfC.below {kb : Nat} {col : Nat → Int} (h : AfC L G X S ov sv kb col W) (hb : BkS W W') : AfC L G X S ov sv kb col W' :=
  ⟨h.dy.below hb, h.st.keep hb.size (fun b hl => hb.block b (by have := hl.1; have := h.st.hB; omega)), bel_call h.bl hb, h.row.keep (hb.block _ h.row.lt), h.ne, h.ge⟩
theorem AfC.set {kb : Nat} {col : Nat → Int} (h : AfC L G X S ov sv kb col W) (hok : GlOk L G) (i : Nat) (x : Int) : AfC L G X S ov sv kb (fun u => if u = i then x else col u) (W.setCell ⟨kb, i, none⟩ (.int .i64 x)) := by
  obtain ⟨s, f, h1, h2⟩ := h.dy.cost
  have hl := hok.lt
  have hg := h.ge.1
  refine ⟨⟨h.dy.row.other (by show L.gb ≠ kb; omega) _, ⟨s, f, h1.keep (Below.heap_setCell _ _ _ _ (by show L.cb ≠ kb; omega)), h2⟩, h.dy.sums.other (by show L.ub ≠ kb; omega) _, h.dy.gone.other (by show L.ob ≠ kb; omega) _, h.dy.ord.kept (gr_set _ _ _) (.inr h.ne.1), h.dy.sf.kept (gr_set _ _ _) (.inr h.ne.2), h.dy.ap⟩, h.st.keep (by simp) (fun b hb => Below.heap_setCell _ _ _ _ (by have := hb.1; show b ≠ kb; omega)), h.bl.setCell h.ge.2 _, ?_, h.ne, h.ge⟩
  have := h.row.set i (.int .i64 x)
  rw [ints_set, map_set_range] at this
  exact this
end
/-- The order from t on is coloured. -/
theorem col_step {G : GD} {O : List Nat} {t : Nat} (h : t < O.length) : colF G (O.drop t).reverse = fun u => if u = O[t] then pickS G (colF G (O.drop (t + 1)).reverse) O[t] else colF G (O.drop (t + 1)).reverse u := by
  rw [List.drop_eq_getElem_cons h, List.reverse_cons, colF_snoc]
  rfl
theorem col_rng {G : GD} (hG : OkG G) {O : List Nat} (hn : O.Nodup) (hm : ∀ v ∈ O, v < G.A.length) (t : Nat) : ∀ u, u < G.A.length → colF G (O.drop t).reverse u = -1 ∨ (0 ≤ colF G (O.drop t).reverse u ∧ colF G (O.drop t).reverse u < (G.Lp.length : Int)) := fun u hu => by
  have h := colF_ok hG (O.drop t).reverse ((List.reverse_perm _).nodup_iff.2 (hn.sublist (List.drop_sublist _ _))) (fun v hv => hm v (List.mem_of_mem_drop (List.mem_reverse.1 hv)))
  exact (h.okc u hu).imp id fun h => hG.alw_rng h
theorem ord_full {G : GD} (hG : OkG G) : (ordS G).length = G.A.length := by
  obtain ⟨h1, h2⟩ := ord_ok hG
  have : (ordS G).Perm (List.range G.A.length) := (List.perm_ext_iff_of_nodup h1 List.nodup_range).2 fun v => by rw [h2, List.mem_range]
  simpa using this.length_eq

set_option maxRecDepth 100000 in
set_option maxHeartbeats 8000000 in
theorem color_c (w : World) {ea ma aa la : Option Addr} {en ec mn mc n ac ln lc : Nat} {G : GD} (h : IsGr (· < w.heap.size) w ⟨ea, en, ec, ma, mn, mc, aa, n, ac, la, ln, lc⟩ G) (hF : Few G) :
    Calls Try.prog 14 #[.agg #[.slice ea en ec, .slice ma mn mc, .slice aa n ac, .slice la ln lc]] w fun e w' => Below w.heap.size w w' ∧ ((¬ OkG G ∧ e = .returned (.tuple #[.slice none 0 0, .int .i64 1])) ∨ (OkG G ∧ ∃ kb, w.heap.size ≤ kb ∧ e = .returned (.tuple #[.slice (some ⟨kb, 0, none⟩) n n, .int .i64 0]) ∧ Row w' kb 3 (ints (colS G)))) := by
  obtain ⟨he, hm, ha, hl⟩ := h.lens
  dsimp only at he hm ha hl
  have hac := (sl_len h.a).2.1
  dsimp only at hac
  have hn1 : n ≤ 100 := by rw [ha]; exact hF.n
  have HCh := hid_of (fun (Y : World) (hY : Below w.heap.size w Y) => check_c Y (h.keep (p' := (· < Y.heap.size)) (fun b hb hlt => ⟨by have := hY.size; omega, hY.block b hlt⟩)) hF)
  have HBg := hid_of (fun (hG : OkG G) (Y : World) (hY : Below w.heap.size w Y) => begin_c Y (h.keep (p' := (· < Y.heap.size)) (fun b hb hlt => ⟨by have := hY.size; omega, hY.block b hlt⟩)) hG hF)
  have hmi := fun W => run_mk_int W n (by omega)
  have Hn := hid_of ha
  clear he hm ha hl h
  by_cases hG : OkG G
  · rw [chk_ok hG] at HCh
    have HBg := hid_of (HBg.out hG)
    go_enter Try.func14, Try.ntmps14
    go_upto_region 1 with fail
    refine wp_at (fun X => Row X w.heap.size 25 [.slice ea en ec, .slice ma mn mc, .slice aa n ac, .slice la ln lc] ∧ Below w.heap.size w X) ⟨heap_alloc_eq _ _ _ rfl, bel_alloc (bel_refl w) _⟩ ?_
    rintro X ⟨r0, hX⟩
    have HCX := hid_of (HCh.out X hX)
    have HR := hid_of r0
    have HX := hid_of hX
    have q0 := r0.cell (k := 0) rfl
    have q1 := r0.cell (k := 1) rfl
    have q2 := r0.cell (k := 2) rfl
    have q3 := r0.cell (k := 3) rfl
    clear HCh r0 hX
    go_wp2_with fail
    clear q0 q1 q2 q3
    refine HCX.out.mono ?_
    rintro e X1 ⟨rfl, hX1⟩
    have HBX := hid_of (HBg.out X1 (bel_call HX.out hX1))
    have HR1 := hid_of (HR.out.keep (hX1.block _ HR.out.lt))
    have HX1 : Hid (BkS X X1) := hX1
    have q0 := HR1.out.cell (k := 0) rfl
    have q1 := HR1.out.cell (k := 1) rfl
    have q2 := HR1.out.cell (k := 2) rfl
    have q3 := HR1.out.cell (k := 3) rfl
    clear HCX HBg hX1
    go_wp2_with fail
    clear q0 q1 q2 q3
    refine HBX.out.mono ?_
    rintro e X2 ⟨L, ov, sv, rfl, hst, hdy, hok, hb2, hSt⟩
    have hXX1 := HX1.out.size
    have hSt2 : ∀ b, b < X.heap.size → L.St b := fun b hb => hSt b (by omega)
    have hX2 : Below X.heap.size X X2 := bel_call HX1.out hb2
    have HST := hid_of hSt2
    have HOK := hid_of hok
    have hm0 := (meas_begD G G.A.length).1
    have hSi := simplify_s hst hdy hok hG hF (StOk.beg G) (Nn.beg hG hF _) (Nat.le_trans (meas_le hF (by unfold begS; have := hF.n; omega)) (by omega))
    have HSim := hid_of (Nn.sim hG (StOk.beg G) (Nn.beg hG hF G.A.length))
    have HXL : Hid (X.heap.size ≤ L.B) := by
      rcases Nat.lt_or_ge L.gb X.heap.size with h | h
      · exact absurd rfl (hSt2 _ h).2.1
      · exact Nat.le_of_lt (Nat.lt_of_le_of_lt h hok.lt.1)
    have HSi : Hid (Calls Try.prog 29 #[.pointer (some ⟨L.gb, 0, none⟩)] X2 fun e Y => e = .returned (.tuple #[]) ∧ ∃ ov' sv', DyV L G (simS G (begS G)) ov' sv' Y ∧ StG L G Y ∧ Below X.heap.size X Y) := hSi.mono (by
      rintro e Y ⟨rfl, o', s', h1, h2⟩
      exact ⟨rfl, o', s', h1, hst.step hdy h2, hX2.trans (h2.below hdy hSt2 hX2.size)⟩)
    clear hst hdy hok hb2 hSt hSt2 hX2 hSi hm0 HBX hXX1
    go_wp2_with fail
    refine HSi.out.mono ?_
    rintro e X3 ⟨rfl, o3, s3, hd3, hs3, hb3⟩
    obtain ⟨S1, HS1⟩ : ∃ S, Hid (simS G (begS G) = S) := ⟨_, (rfl : simS G (begS G) = _)⟩
    rw [HS1.out] at HSim
    rw [HS1.out] at hd3
    obtain ⟨SF, HSF⟩ : ∃ S, Hid (mainS G S1 = S) := ⟨_, (rfl : mainS G S1 = _)⟩
    have HSO : Hid (SF.order = ordS G) := by show _ = _; unfold ordS; rw [HS1.out, HSF.out]
    have hM0 : MnI L G X SF S1 o3 s3 X3 := ⟨hd3, hs3, hb3, HSim.out.1, HSim.out.2.1, HSim.out.2.2, HSF.out⟩
    have HHv : Hid (∀ (S : CS) (o s : Value) (Y : World), MnI L G X SF S o s Y → Calls Try.prog 30 #[.pointer (some ⟨L.gb, 0, none⟩)] Y fun e Y' => e = .returned (.int .i64 (heavyS G S)) ∧ MnI L G X SF S o s Y') := fun S o s Y hM => (heavy_s hM.st hM.dy hG hF hM.nn).mono (by
      rintro e Y' ⟨rfl, q, rfl⟩
      exact ⟨rfl, hM.dy.drewN q, hM.st.drewN q, bel_drewN hM.bl q, hM.ok, hM.nn, hM.sf, hM.main⟩)
    have HH0 := hid_of (HHv.out S1 o3 s3 X3 hM0)
    clear hd3 hs3 hb3 hM0 HSi HSim HSF HS1
    go_wp2_with fail
    refine HH0.out.mono ?_
    rintro e X4 ⟨rfl, hM4⟩
    have HM4 := hid_of hM4
    clear hM4 HH0
    go_wp2_with fail
    go_loopg [6] (leftS G S1) (fun gh s6 wx => ∃ (S : CS) (o s : Value), leftS G S = gh ∧ s6 = .int .i64 (heavyS G S) ∧ Hid (MnI L G X SF S o s wx))
    case atStart => exact ⟨S1, o3, s3, rfl, rfl, HM4⟩
    case round =>
      obtain ⟨S, o, s, hgm, rfl, HM⟩ := hrel
      clear HM4
      rcases heavyS_lt G S with hh | ⟨v, hh, hv, hgo⟩
      · rw [hh]
        have hSF : S = SF := by rw [← HM.out.main, mainS_stop hh]
        subst hSF
        have HQ : Hid (Row wr w.heap.size 25 [.slice ea en ec, .slice ma mn mc, .slice aa n ac, .slice la ln lc]) := HR.out.keep (HM.out.bl.block _ HR.out.lt)
        have q2 := HQ.out.cell (k := 2) rfl
        have hWL := HM.out.st.hB
        have HA0 : Hid (AfC L G X S o s wr.heap.size (fun u => if u < 0 then -1 else 0) (wr.alloc (.cells (List.replicate n (Value.int .i64 0)).toArray 3))) := by
          have hb : BkS wr (wr.alloc (.cells (List.replicate n (Value.int .i64 0)).toArray 3)) := bk_alloc (bk_refl wr) _
          refine ⟨HM.out.dy.below hb, HM.out.st.keep hb.size (fun b hl => hb.block b (by have := hl.1; omega)), bel_call HM.out.bl hb, ?_, ⟨fun e => by have := (HM.out.dy.ord.lt _ e).2; omega, fun e => by have := (HM.out.dy.sf.lt _ e).2; omega⟩, hWL, HM.out.bl.size⟩
          have e : ints ((List.range G.A.length).map fun u => if u < 0 then (-1 : Int) else 0) = List.replicate n (.int .i64 0) := by
            rw [List.eq_replicate_iff]
            exact ⟨by simp [ints, Hn.out], fun x hx => by simp [ints] at hx; exact hx.2.symm⟩
          rw [e]
          exact heap_alloc_eq _ _ _ rfl
        obtain ⟨kb, Hkb⟩ : ∃ kb, Hid (wr.heap.size = kb) := ⟨_, (rfl : wr.heap.size = _)⟩
        have hkw : w.heap.size ≤ kb := by rw [← Hkb.out]; have := HX.out.size; have := HM.out.bl.size; omega
        clear HQ hWL HM HHv
        go_wp2_with fail
        clear q2
        rw [Hkb.out] at HA0 ⊢
        go_loopw [37] (fun s37 wx => ∃ k : Nat, k ≤ n ∧ s37 = .int .i64 k ∧ Hid (AfC L G X S o s kb (fun u => if u < k then -1 else 0) wx)) (fun s37 _ => n - (intOf s37).toNat)
        case atStart => exact ⟨0, by omega, rfl, HA0⟩
        case round =>
          obtain ⟨k, hk, rfl, HA⟩ := hrel
          clear HA0
          by_cases hlt : k < n
          · have hfk := HA.out.row.frozen k
            have hck : wr.cell? ⟨kb, k, none⟩ = some (.int .i64 0) := HA.out.row.cell (by simp [ints, show k < G.A.length by rw [← Hn.out]; exact hlt])
            have HA2 : Hid (AfC L G X S o s kb (fun u => if u < k + 1 then -1 else 0) (wr.setCell ⟨kb, k, none⟩ (.int .i64 (-1)))) := by
              have := HA.out.set HOK.out k (-1)
              have e : (fun u => if u = k then (-1 : Int) else if u < k then -1 else 0) = fun u => if u < k + 1 then (-1 : Int) else 0 := by
                funext u
                by_cases h1 : u = k
                · rw [if_pos h1, if_pos (by omega)]
                · rw [if_neg h1]
                  by_cases h2 : u < k
                  · rw [if_pos h2, if_pos (by omega)]
                  · rw [if_neg h2, if_neg (by omega)]
              rw [e] at this
              exact this
            have hkz : (k : Int) < (n : Int) := by omega
            clear HA
            go_wp2_with fail
            go_roundw
            case rel => exact ⟨k + 1, by omega, by go_num, HA2⟩
            case measure => simp [intOf]; omega
          · obtain rfl : n = k := by omega
            have hO : S.order.length = n := by rw [HSO.out, ord_full hG, Hn.out]
            have hON := ord_ok hG
            rw [← HSO.out] at hON
            obtain ⟨oa, oc, rfl, hoa⟩ := owns_slice HA.out.dy.ord
            have c11 := HA.out.dy.c11
            rw [hO] at c11
            have HB0 : Hid (AfC L G X S (.slice oa S.order.length oc) s kb (colF G (S.order.drop n).reverse) wr) := by
              have := HA.out
              have e : colF G (S.order.drop n).reverse = fun _ => -1 := by rw [List.drop_eq_nil_of_le (by omega)]; rfl
              rw [e]
              refine ⟨this.dy, this.st, this.bl, ?_, this.ne, this.ge⟩
              have h2 : ((List.range G.A.length).map fun u => if u < n then (-1 : Int) else 0) = (List.range G.A.length).map fun _ => -1 := List.map_congr_left fun u hu => by rw [if_pos (by have := List.mem_range.1 hu; rw [← Hn.out] at this; exact this)]
              rw [← h2]
              exact this.row
            have HO := hid_of hO
            have HON := hid_of hON
            have HOA := hid_of hoa
            clear HA hO hON hoa
            go_wp2_with fail
            clear c11
            go_loopw [9] (fun s9 wx => ∃ t : Nat, t ≤ n ∧ s9 = .int .i64 ((t : Int) - 1) ∧ Hid (AfC L G X S (.slice oa S.order.length oc) s kb (colF G (S.order.drop t).reverse) wx)) (fun s9 _ => (intOf s9 + 1).toNat)
            case atStart => exact ⟨n, by omega, by go_num, HB0⟩
            case round =>
              obtain ⟨t, ht, rfl, HB⟩ := hrel
              clear HB0
              cases t with
              | zero =>
                rw [show ((0 : Nat) : Int) - 1 = -1 from rfl]
                have hf := HB.out.row
                have hbl := HX.out.trans (HB.out.bl.mono HX.out.size)
                clear HB
                go_wp2_with fail
                go_ret2
                refine ⟨hbl, .inr ⟨hG, kb, hkw, rfl, ?_⟩⟩
                have e : colS G = (List.range G.A.length).map (colF G (S.order.drop 0).reverse) := by unfold colS; rw [List.drop_zero, HSO.out]
                rw [e]
                exact hf
              | succ t =>
                rw [show ((t + 1 : Nat) : Int) - 1 = (t : Int) by omega]
                have htO : t < S.order.length := by rw [HO.out]; omega
                obtain ⟨og, rfl⟩ := HOA.out (by omega)
                have c11 := HB.out.dy.c11
                have ct := (RowP.of_owns HB.out.dy.ord).cell (k := t) (v := .int .i64 ((S.order[t] : Nat) : Int)) (by simp [htO])
                have hcl := (owns_block HB.out.dy.ord).choose_spec.2.2.1
                rw [HO.out] at c11 hcl
                have hstep := col_step (G := G) htO
                have hvm : S.order[t] < G.A.length := (HON.out.2 _).1 (List.getElem_mem htO)
                obtain ⟨v, Hv⟩ : ∃ v, Hid (S.order[t] = v) := ⟨_, (rfl : S.order[t] = _)⟩
                rw [Hv.out] at ct hstep hvm
                obtain ⟨x, Hx⟩ : ∃ x, Hid (pickS G (colF G (S.order.drop (t + 1)).reverse) v = x) := ⟨_, (rfl : pickS G (colF G (S.order.drop (t + 1)).reverse) v = _)⟩
                have hPk := pick_s HB.out.st HB.out.dy HOK.out hG hF hvm HB.out.row (col_rng hG HON.out.1 (fun v hv => (HON.out.2 v).1 hv) (t + 1))
                rw [Hx.out] at hPk hstep
                have hvn : v < n := by rw [Hn.out]; exact hvm
                have HPk : Hid (Calls Try.prog 32 #[.pointer (some ⟨L.gb, 0, none⟩), .int .i64 (v : Int), .slice (some ⟨kb, 0, none⟩) n n] wr fun e Y => e = .returned (.int .i64 x) ∧ (∃ u, Y.cell? ⟨kb, v, none⟩ = some u) ∧ Y.frozen? ⟨kb, v, none⟩ = false ∧ Hid (AfC L G X S (.slice (some ⟨og, 0, none⟩) S.order.length oc) s kb (colF G (S.order.drop t).reverse) (Y.setCell ⟨kb, v, none⟩ (.int .i64 x)))) := by
                  rw [← Hn.out] at hPk
                  refine hPk.mono ?_
                  rintro e Y ⟨rfl, hb⟩
                  have hB5 := HB.out.below hb
                  refine ⟨rfl, ⟨_, hB5.row.cell (by simp [ints, hvm]; rfl)⟩, hB5.row.frozen v, ?_⟩
                  have := hB5.set HOK.out v x
                  rw [hstep]
                  exact this
                have hvz : (v : Int) < (n : Int) := by omega
                have htz : (t : Int) < (n : Int) := by omega
                clear HB hstep hvm hPk Hv htO
                go_wp2_with fail
                clear c11 ct
                refine HPk.out.mono ?_
                rintro e Y ⟨rfl, ⟨u, hu⟩, hfu, HB5⟩
                clear HPk
                go_wp2_with fail
                go_roundw
                case rel => exact ⟨t, by omega, by go_num, HB5⟩
                case measure => simp [intOf]
      · rw [hh]
        have hvz : (v : Int) ≥ 0 := by omega
        have hTk := (callsIn_wide (n := 8)).1 (take_in HM.out.st HM.out.dy HOK.out hG hF hv (by rw [HM.out.sf]; simp) (by have := ord_len HM.out.ok; have := hF.n; omega) (fun i hi => by have := HM.out.nn i hi; omega))
        have HTk : Hid (Calls Try.prog 31 #[.pointer (some ⟨L.gb, 0, none⟩), .int .i64 (v : Int)] wr fun e Y => e = .returned (.tuple #[]) ∧ ∃ o' s', DyV L G (takeS G S v) o' s' Y ∧ StG L G Y ∧ Below X.heap.size X Y) := hTk.mono (by
          rintro e Y ⟨rfl, o', s', h1, h2⟩
          exact ⟨rfl, o', s', h1, HM.out.st.step HM.out.dy h2, HM.out.bl.trans (h2.below HM.out.dy HST.out HM.out.bl.size)⟩)
        have HSi : Hid (∀ (Y : World) (o' s' : Value), DyV L G (takeS G S v) o' s' Y → StG L G Y → Below X.heap.size X Y → Calls Try.prog 29 #[.pointer (some ⟨L.gb, 0, none⟩)] Y fun e Y' => e = .returned (.tuple #[]) ∧ ∃ o'' s'', MnI L G X SF (simS G (takeS G S v)) o'' s'' Y') := fun Y o' s' hd hs hb =>
          (simplify_s hs hd HOK.out hG hF (HM.out.ok.take hG hv) (Nn.take hG HM.out.ok HM.out.nn hv) (Nat.le_trans (meas_le hF (by have := take_safe hF HM.out.sf v; omega)) (by omega))).mono (by
            rintro e Y' ⟨rfl, o'', s'', h1, h2⟩
            exact ⟨rfl, o'', s'', HM.out.next hG hv hh h1 (hs.step hd h2) (hb.trans (h2.below hd HST.out hb.size))⟩)
        have hlt : leftS G (simS G (takeS G S v)) < leftS G S := Nat.lt_of_le_of_lt (simS_left_le G _) (left_take (fun h => h.elim (fun h => by rw [hgo] at h; cases h) (fun h => by omega)))
        have HLT := hid_of hlt
        clear hTk hlt hgo HM
        go_wp2_with fail
        refine HTk.out.mono ?_
        rintro e Y1 ⟨rfl, o1, s1, hd1, hs1, hb1⟩
        have HSi1 := hid_of (HSi.out Y1 o1 s1 hd1 hs1 hb1)
        clear hd1 hs1 hb1 HSi HTk
        go_wp2_with fail
        refine HSi1.out.mono ?_
        rintro e Y2 ⟨rfl, o2, s2, hM2⟩
        have HH2 := hid_of (HHv.out _ o2 s2 Y2 hM2)
        clear HSi1 hM2
        go_wp2_with fail
        refine HH2.out.mono ?_
        rintro e Y3 ⟨rfl, hM3⟩
        have HM3 := hid_of hM3
        clear HH2 hM3
        go_wp2_with fail
        go_roundg (leftS G (simS G (takeS G S v)))
        case measure => have := HLT.out; omega
        case rel => exact ⟨_, o2, s2, rfl, rfl, HM3⟩
  · rw [chk_no hG] at HCh
    go_enter Try.func14, Try.ntmps14
    go_wp2_with fail
    refine (HCh.out _ (bel_alloc (bel_refl w) _)).mono ?_
    rintro e X ⟨rfl, hX⟩
    have hb := (bel_call (bel_alloc (bel_refl w) _) hX)
    go_wp2_with fail
    go_ret2
    exact ⟨hb, .inl ⟨hG, rfl⟩⟩

open Classical in
noncomputable def sureB (G : GD) : Bool := if OkG G then sureS G else false
set_option maxRecDepth 100000 in
set_option maxHeartbeats 8000000 in
theorem sure_c (w : World) {ea ma aa la : Option Addr} {en ec mn mc n ac ln lc : Nat} {G : GD} (h : IsGr (· < w.heap.size) w ⟨ea, en, ec, ma, mn, mc, aa, n, ac, la, ln, lc⟩ G) (hF : Few G) :
    Calls Try.prog 17 #[.agg #[.slice ea en ec, .slice ma mn mc, .slice aa n ac, .slice la ln lc]] w fun e w' => e = .returned (.bool (sureB G)) ∧ Below w.heap.size w w' := by
  obtain ⟨he, hm, ha, hl⟩ := h.lens
  dsimp only at he hm ha hl
  have hac := (sl_len h.a).2.1
  dsimp only at hac
  have hn1 : n ≤ 100 := by rw [ha]; exact hF.n
  have HCh := hid_of (fun (Y : World) (hY : Below w.heap.size w Y) => check_c Y (h.keep (p' := (· < Y.heap.size)) (fun b hb hlt => ⟨by have := hY.size; omega, hY.block b hlt⟩)) hF)
  have HBg := hid_of (fun (hG : OkG G) (Y : World) (hY : Below w.heap.size w Y) => begin_c Y (h.keep (p' := (· < Y.heap.size)) (fun b hb hlt => ⟨by have := hY.size; omega, hY.block b hlt⟩)) hG hF)
  have Hn := hid_of ha
  clear he hm ha hl h
  by_cases hG : OkG G
  · have HSB : Hid (sureB G = decide ((simS G (begS G)).order.length = n)) := by show _ = _; unfold sureB sureS; rw [if_pos hG, Hn.out]
    rw [chk_ok hG] at HCh
    have HBg := hid_of (HBg.out hG)
    go_enter Try.func17, Try.ntmps17
    go_upto_region 1 with fail
    refine wp_at (fun X => Row X w.heap.size 25 [.slice ea en ec, .slice ma mn mc, .slice aa n ac, .slice la ln lc] ∧ Below w.heap.size w X) ⟨heap_alloc_eq _ _ _ rfl, bel_alloc (bel_refl w) _⟩ ?_
    rintro X ⟨r0, hX⟩
    have HCX := hid_of (HCh.out X hX)
    have HR := hid_of r0
    have HX := hid_of hX
    have q0 := r0.cell (k := 0) rfl
    have q1 := r0.cell (k := 1) rfl
    have q2 := r0.cell (k := 2) rfl
    have q3 := r0.cell (k := 3) rfl
    clear HCh r0 hX
    go_wp2_with fail
    clear q0 q1 q2 q3
    refine HCX.out.mono ?_
    rintro e X1 ⟨rfl, hX1⟩
    have HBX := hid_of (HBg.out X1 (bel_call HX.out hX1))
    have HR1 := hid_of (HR.out.keep (hX1.block _ HR.out.lt))
    have HX1 : Hid (BkS X X1) := hX1
    have q0 := HR1.out.cell (k := 0) rfl
    have q1 := HR1.out.cell (k := 1) rfl
    have q2 := HR1.out.cell (k := 2) rfl
    have q3 := HR1.out.cell (k := 3) rfl
    clear HCX HBg hX1
    go_wp2_with fail
    clear q0 q1 q2 q3
    refine HBX.out.mono ?_
    rintro e X2 ⟨L, ov, sv, rfl, hst, hdy, hok, hb2, hSt⟩
    have hXX1 := HX1.out.size
    have hSt2 : ∀ b, b < X.heap.size → L.St b := fun b hb => hSt b (by omega)
    have hX2 : Below X.heap.size X X2 := bel_call HX1.out hb2
    have hm0 := (meas_begD G G.A.length).1
    have hSi := simplify_s hst hdy hok hG hF (StOk.beg G) (Nn.beg hG hF _) (Nat.le_trans (meas_le hF (by unfold begS; have := hF.n; omega)) (by omega))
    have HSi : Hid (Calls Try.prog 29 #[.pointer (some ⟨L.gb, 0, none⟩)] X2 fun e Y => e = .returned (.tuple #[]) ∧ (∃ oa m oc, Y.cell? ⟨L.gb, 11, none⟩ = some (.slice oa m oc) ∧ decide ((m : Int) = (n : Int)) = sureB G) ∧ Below X.heap.size X Y) := hSi.mono (by
      rintro e Y ⟨rfl, o', s', h1, h2⟩
      obtain ⟨oa, oc, rfl, -⟩ := owns_slice h1.ord
      refine ⟨rfl, ⟨oa, _, oc, h1.c11, ?_⟩, hX2.trans (h2.below hdy hSt2 hX2.size)⟩
      rw [HSB.out]
      simp only [decide_eq_decide]
      omega)
    have hgl : L.gb < X2.heap.size := hdy.gb_lt
    clear hst hdy hok hb2 hSt hSt2 hX2 hSi hm0 HBX hXX1
    go_wp2_with fail
    refine HSi.out.mono ?_
    rintro e X3 ⟨rfl, ⟨oa, m, oc, c11, HM⟩, hb3⟩
    have c2 := (HR.out.keep (hb3.block _ HR.out.lt)).cell (k := 2) rfl
    have hbw : Below w.heap.size w X3 := HX.out.trans (hb3.mono HX.out.size)
    have HM := hid_of HM
    have HBW := hid_of hbw
    clear HSi hb3 hbw HX HX1 HR HR1 HSB
    go_wp2_with fail
    go_quiet (fail)
    go_wp2_with fail
    go_ret
    have e : ((m : Int) == (n : Int)) = sureB G := by rw [← HM.out, Bool.eq_iff_iff]; simp
    refine ⟨?_, ?_⟩
    · show Ending.returned (.bool ((m : Int) == (n : Int))) = _
      rw [e]
    · first | exact HBW.out | exact Below.drew HBW.out | exact bel_drewN HBW.out _
  · have hs : sureB G = false := by unfold sureB; rw [if_neg hG]
    rw [chk_no hG] at HCh
    rw [hs]
    go_enter Try.func17, Try.ntmps17
    go_wp2_with fail
    refine (HCh.out _ (bel_alloc (bel_refl w) _)).mono ?_
    rintro e X ⟨rfl, hX⟩
    have hb := (bel_call (bel_alloc (bel_refl w) _) hX)
    go_wp2_with fail
    go_ret
    exact ⟨rfl, hb⟩
end Go.Proofs.Ytinbfnabngdemaa
