/- 'loops.Depth': a loop that holds a loop over a function. -/
import Derived.Test.YtcihobmjohpnkaaLoopsD
import Derived.Test.YtcihobmjohpnkaaEach3
namespace Go.Proofs.Ytcihobmjohpnkaa
open Go.RowKit Go.Sort Go.Shelf

attribute [local go_sem] Oper.semAt_some

/-- What a round of 'Depth' has in memory. -/
structure DpSt (n tr : Nat) (W1 W2 : World) (O : List Int) (W : World) : Prop where
  r3 : Row W W1.heap.size 99 [.pointer (some ⟨tr, 0, none⟩)]
  r4 : Row W (W1.heap.size + 1 + 1) 25 [.slice (some ⟨W1.heap.size + 1, 0, none⟩) n n]
  rO : Row W (W1.heap.size + 1) 3 (ints O)
  lO : O.length = n
  kp : Below W1.heap.size W1 W
  sz : W1.heap.size + 3 ≤ W2.heap.size ∧ W2.heap.size ≤ W.heap.size
  kq : ∀ b, W1.heap.size + 3 ≤ b → b < W2.heap.size → W.heap[b]? = W2.heap[b]?
theorem DpSt.grown {n tr : Nat} {W1 W2 : World} {O : List Int} {W W' : World} {row : Option Nat} (h : DpSt n tr W1 W2 O W) (hg : W.grownBy W' row) (hr : ∀ r, row = some r → W2.heap.size ≤ r) : DpSt n tr W1 W2 O W' := by
  have hsz := h.sz
  have hb : ∀ b, b < W2.heap.size → W'.heap[b]? = W.heap[b]? := fun b h1 => hg.block b (by omega) (fun e => by have := hr b e.symm; omega)
  exact ⟨h.r3.keep (hb _ (by omega)), h.r4.keep (hb _ (by omega)), h.rO.keep (hb _ (by omega)), h.lO, h.kp.grown hg h.kp.size (fun r e => by have := hr r e; omega), ⟨hsz.1, by have := hg.size; omega⟩, fun b h1 h2 => (hb b h2).trans (h.kq b h1 h2)⟩
theorem DpSt.below {n tr : Nat} {W1 W2 : World} {O : List Int} {W W' : World} (h : DpSt n tr W1 W2 O W) (hb : Below W.heap.size W W') : DpSt n tr W1 W2 O W' :=
  ⟨h.r3.keep (hb.block _ h.r3.lt), h.r4.keep (hb.block _ h.r4.lt), h.rO.keep (hb.block _ h.rO.lt), h.lO, bel_call h.kp hb, ⟨h.sz.1, by have := h.sz.2; have := hb.size; omega⟩, fun b h1 h2 => (hb.block b (by have := h.sz.2; omega)).trans (h.kq b h1 h2)⟩
theorem DpSt.put {n tr : Nat} {W1 W2 : World} {O : List Int} {W : World} (h : DpSt n tr W1 W2 O W) (k : Nat) (x : Int) : DpSt n tr W1 W2 (O.set k x) (W.setCell ⟨W1.heap.size + 1, k, none⟩ (.int .i64 x)) :=
  ⟨h.r3.other (by show W1.heap.size ≠ W1.heap.size + 1; omega) _, h.r4.other (by show W1.heap.size + 1 + 1 ≠ W1.heap.size + 1; omega) _, row_putInt h.rO x, by rw [List.length_set]; exact h.lO, h.kp.setCell (by show W1.heap.size ≤ W1.heap.size + 1; omega) _, ⟨h.sz.1, by simpa using h.sz.2⟩, fun b h1 h2 => (Below.heap_setCell _ _ _ _ (by show b ≠ W1.heap.size + 1; omega)).trans (h.kq b h1 h2)⟩
abbrev valsI {ws : List Nat} (pre : List { x : Int // x ∈ listI ws }) : List Int := pre.map fun x => x.1
theorem words_keepsBut {n₀ Bo : Nat} {W W' : World} {p : Nat → Prop} {v : Value} {ws : List Nat} (h : IsWords p W v ws) (hp : ∀ b, p b → Prot Bo b W) (hk : KeepsBut n₀ Bo W W') : IsWords (fun _ => True) W' v ws := by
  obtain ⟨a, cap, hv, hl, hx⟩ := h
  refine ⟨a, cap, hv, hl, ?_⟩
  rcases hx with hx | ⟨b, off, ha, hb, hc⟩
  · exact .inl hx
  · exact .inr ⟨b, off, ha, trivial, fun j hj => hk.cell _ _ _ (hp b hb) (hc j hj)⟩

set_option maxRecDepth 100000 in
set_option maxHeartbeats 8000000 in
theorem depth_in {a : Option Addr} {n cap : Nat} (w : World) {L : List (List InsD)} (h : IsBlocks (· < w.heap.size) w (.slice a n cap) L) (hl : n ≤ 1000) :
    CallsIn Fence.wide 5 Try.prog 61 #[.slice a n cap] w fun e w' => ∃ z, e = .returned z ∧ w'.ownsRow w.heap.size 3 1 z n (ints (depthO L (headsS L).length)) ∧ Below w.heap.size w w' := by
  have hnL : n = L.length := by obtain ⟨_, _, hv0, hl0, hx⟩ := id h; simp only [Value.slice.injEq] at hv0; exact hv0.2.1
  have HNL := hid_of hnL
  have HKP : Hid (∀ W, Below w.heap.size w W → IsBlocks (· < W.heap.size) W (.slice a n cap) L) := fun W hW => h.keep (fun b hb hlt => ⟨Nat.lt_of_lt_of_le hb hW.size, hW.block b hlt⟩)
  obtain ⟨zs, HZ⟩ : ∃ zs : Array Value, Hid (zs = (List.replicate n (Value.int .i64 0)).toArray) := ⟨_, (rfl : _ = (List.replicate n (Value.int .i64 0)).toArray)⟩
  have hmk : ∀ W : World, (Instr.makeSlice 25 (.int .i64 (n : Int)) (.int .i64 (n : Int))).run Try.prog W = .ok (.slice (some ⟨W.heap.size, 0, none⟩) n n) (W.alloc (.cells zs 3)) := fun W => by
    rw [HZ.out]; exact run_mk_ints W n (by omega)
  have HOf := hid_of (tree_of w h hl)
  have hhl : (headsS L).length ≤ n := by rw [hnL]; exact headsP_length L _
  clear hnL h
  refine callsIn_of_wp_marks Try.func61 rfl trivial ?_ rfl
  simp only [Try.ntmps61, List.size_toArray, List.length_cons, List.length_nil, Nat.reduceAdd, Nat.reduceSub, Array.replicate_succ, Array.replicate_zero, List.push_toArray, List.append_toArray, List.nil_append, List.cons_append]
  gi_wp2
  refine ⟨trivial, (callsIn_wide.2 HOf.out).mono ?_⟩
  rintro e W1 ⟨tr, R, D, rfl, hT, hb1⟩
  have HT := hid_of hT
  have HB1 := hid_of hb1
  have hbb := bel_alloc (bel_alloc (bel_alloc (bel_refl W1) (.cells #[.pointer (some ⟨tr, 0, none⟩)] 99)) (.cells zs 3)) (.cells #[.slice (some ⟨W1.heap.size + 1, 0, none⟩) n n] 25)
  have q3 : Row (((W1.alloc (.cells #[.pointer (some ⟨tr, 0, none⟩)] 99)).alloc (.cells zs 3)).alloc (.cells #[.slice (some ⟨W1.heap.size + 1, 0, none⟩) n n] 25)) W1.heap.size 99 [.pointer (some ⟨tr, 0, none⟩)] := heap_alloc_ne _ _ _ _ (heap_alloc_ne _ _ _ _ (heap_alloc_eq _ _ _ rfl))
  have q4 : Row (((W1.alloc (.cells #[.pointer (some ⟨tr, 0, none⟩)] 99)).alloc (.cells zs 3)).alloc (.cells #[.slice (some ⟨W1.heap.size + 1, 0, none⟩) n n] 25)) (W1.heap.size + 1 + 1) 25 [.slice (some ⟨W1.heap.size + 1, 0, none⟩) n n] := heap_alloc_eq _ _ _ (by simp)
  have qO : Row (((W1.alloc (.cells #[.pointer (some ⟨tr, 0, none⟩)] 99)).alloc (.cells zs 3)).alloc (.cells #[.slice (some ⟨W1.heap.size + 1, 0, none⟩) n n] 25)) (W1.heap.size + 1) 3 (ints (depthO L 0)) := by
    have := heap_alloc_ne _ (.cells #[.slice (some ⟨W1.heap.size + 1, 0, none⟩) n n] 25) _ _ (heap_alloc_eq (W1.alloc (.cells #[.pointer (some ⟨tr, 0, none⟩)] 99)) (.cells zs 3) (W1.heap.size + 1) (by simp))
    rw [depthO_zero, ← HNL.out]
    show _ = _
    rw [this, HZ.out]
    simp [ints]
  have HQ3 := hid_of q3
  have HQ4 := hid_of q4
  have HQO := hid_of qO
  have HBB := hid_of hbb
  have HH := hid_of (heads_c _ (HT.out.below hbb) (by rw [← HNL.out]; exact hl) HNL.out)
  clear HOf hT hb1 q3 q4 qO hbb
  gi_wp2
  refine ⟨trivial, (callsIn_wide.2 HH.out).mono ?_⟩
  rintro e W2 ⟨hz, rfl, hho, hb2⟩
  have hs2 := hb2.size
  have HS0 : Hid (DpSt n tr W1 W2 (depthO L 0) W2) := ⟨HQ3.out.keep (hb2.block _ HQ3.out.lt), HQ4.out.keep (hb2.block _ HQ4.out.lt), HQO.out.keep (hb2.block _ HQO.out.lt), by rw [depthO_length]; exact HNL.out.symm, bel_call HBB.out hb2, ⟨by simp at hs2; omega, Nat.le_refl _⟩, fun _ _ _ => rfl⟩
  have hhi : IsInts (W1.heap.size + 3 ≤ ·) W2 hz (headsS L) := ints_of_owns hho (by omega) (fun _ _ h _ => by simp at h; omega)
  obtain ⟨ha, hc, rfl, -, hhx⟩ := id hhi
  obtain ⟨nh, Hnh⟩ : ∃ nh, Hid ((headsS L).length = nh) := ⟨_, (rfl : (headsS L).length = _)⟩
  rw [Hnh.out] at hhl ⊢
  have HX := hid_of hhx
  clear HH HQ3 HQ4 HQO HBB hho hb2 hhi hhx hs2
  gi_wp2
  refine wpIn_loop_ghost_k (fun g a' w' => ∃ (k : Nat) (kz : Int) (Ds : List Nat) (u5 u6 u7 u19 u20 u21 u22 u23 u24 u25 u26 u27 u28 u29 u30 u31 u32 u33 u34 u35 u36 u37 u38 : Value), a' = { tmps := #[.slice a n cap, undef, .slice none 0 0, .pointer (some ⟨W1.heap.size, 0, none⟩), .pointer (some ⟨W1.heap.size + 1 + 1, 0, none⟩), u5, u6, u7, .slice a n cap, .pointer (some ⟨tr, 0, none⟩), .slice a n cap, .int .i64 (n : Int), .slice (some ⟨W1.heap.size + 1, 0, none⟩) n n, .pointer (some ⟨tr, 0, none⟩), .slice a n cap, .int .i64 (n : Int), .slice ha nh hc, .int .i64 (nh : Int), .int .i64 kz, u19, u20, u21, u22, u23, u24, u25, u26, u27, u28, u29, u30, u31, u32, u33, u34, u35, u36, u37, u38], defers := markL Ds } ∧ kz = (k : Int) ∧ k ≤ nh ∧ g = nh - k ∧ Hid (DpSt n tr W1 W2 (depthO L k) w') ∧ Hid (Marks W2.heap.size Ds w')) nh ?atStart ?round
  case atStart => exact ⟨0, 0, [], _, _, _, _, _, _, _, _, _, _, _, _, _, _, _, _, _, _, _, _, _, _, _, rfl, rfl, by omega, by omega, HS0, Marks.nil _ _⟩
  case round =>
    clear HS0
    intro gk a' wr hrel J K hJ hK
    obtain ⟨k, _, Ds, u5, u6, u7, u19, u20, u21, u22, u23, u24, u25, u26, u27, u28, u29, u30, u31, u32, u33, u34, u35, u36, u37, u38, rfl, rfl, hk, rfl, HS, HM⟩ := hrel
    have HJ := hid_of hJ
    clear hJ
    by_cases hlt : k < nh
    · have q3 := HS.out.r3.cell (k := 0) (v := .pointer (some ⟨tr, 0, none⟩)) rfl
      have hl3 := HS.out.r3.lt
      have hkH : k < (headsS L).length := by rw [Hnh.out]; exact hlt
      rcases HX.out with hx | ⟨pb, po, rfl, hpb, hx⟩
      · rw [hx] at hkH; simp at hkH
      have e0 := hx k hkH
      unfold CInt at e0
      rw [Nat.mul_one] at e0
      have hhr := heads_range hkH
      obtain ⟨hN, hhN⟩ : ∃ hN : Nat, (headsS L)[k] = hN := ⟨(headsS L)[k].toNat, by omega⟩
      have hds := depth_step hkH
      rw [hhN] at e0 hds hhr
      have HDS := hid_of hds
      have hNn : hN < n := by rw [HNL.out]; omega
      have e1 := (World.cell?_of_block (a := ⟨pb, po + k, none⟩) (HS.out.kq pb hpb (lt_of_cell e0))).trans e0
      have hk0 : (0 : Int) ≤ (k : Int) := by omega
      have hkz : (k : Int) < (nh : Int) := by omega
      have HBd := hid_of (body_c wr (HKP.out wr (bel_call HB1.out HS.out.kp)) (HT.out.below HS.out.kp) hl hNn)
      clear hx e0 hds hhr hhN hkH
      gi_wp2
      refine ⟨trivial, (callsIn_wide.2 HBd.out).mono ?_⟩
      rintro e W3 ⟨zz, S, rfl, hz3, hg3, hls, hb3⟩
      obtain ⟨za, zn, zc, rfl⟩ := words_slice hz3
      have HS3 := hid_of (HS.out.below hb3)
      have HM3 := hid_of (HM.out.keep (fun M hM => hb3.block M (HM.out.lt M hM)))
      have HZ3 := hid_of hz3
      have HLS := hid_of hls
      have hsw := HS.out.sz
      have hs3 := hb3.size
      clear HBd hb3 hz3 hls q3 e1 HS HM
      gi_wp2
      refine ⟨trivial, (Each_in za zn zc W3).mono ?_⟩
      rintro e Wx ⟨rfl, rfl⟩
      gi_wp2
      obtain ⟨W0, hW0⟩ : ∃ W0, (W3.alloc (.cells #[.slice za zn zc] 96)).alloc (.cells #[.slice za zn zc] 96) = W0 := ⟨_, rfl⟩
      have hb30 : Below W3.heap.size W3 W0 := by rw [← hW0]; exact bel_alloc (bel_alloc (bel_refl W3) _) _
      have hsz0 : W0.heap.size = W3.heap.size + 2 := by rw [← hW0]; simp
      have bN : Boxed W0 (W3.heap.size + 1) 96 (.slice za zn zc) := by
        rw [← hW0]; exact heap_alloc_eq (W3.alloc _) _ _ (by simp)
      have hS0 := HS3.out.below hb30
      have hM0 := HM3.out.keep (fun M hM => hb30.block M (HM3.out.lt M hM))
      have hDs : ∀ M ∈ Ds, M < W0.heap.size := hM0.lt
      have hgd : Good (W1.heap.size + 1) W0 := ⟨by omega, fun v hv b' hb' => by rw [good_ints hS0.rO v hv] at hb'; simp at hb'⟩
      have hpA : ∀ b, b ≠ W1.heap.size + 1 → Prot (W1.heap.size + 1) b W0 := fun b hb => ⟨hb, fun v hv e => by rw [good_ints hS0.rO v hv] at e; simp at e⟩
      have hpx : Prot (W1.heap.size + 1) (W3.heap.size + 1) W0 := hpA _ (by omega)
      rw [hW0]
      have hLw : ∀ W', KeepsBut W1.heap.size (W1.heap.size + 1) W0 W' → IsWords (fun _ => True) W' (.slice za zn zc) S := fun W' hW' => words_keepsBut (HZ3.out.keep (p' := (wr.heap.size ≤ ·)) (Keep.below hb30)) (fun b hb => hpA b (by omega)) hW'
      have hk01 := hS0.kp.size
      refine wpIn_rangeFunc_ownF (w := W0) rfl (by omega) (gf := 125) (lb := #[.pointer (some ⟨W3.heap.size + 1, 0, none⟩)]) rfl trivial (enters_of Try.func125 (by kernel_rfl) rfl)
        (each3_stops 4 (by omega) (W3.heap.size + 1) (W1.heap.size + 1) W1.heap.size _ S (by have := hg3.2; omega) hg3.1.1 W0 bN.cell hpx hgd hk01 hLw) KeepsBut.trans ?hkb (Below.refl _ _) (fun _ => rfl)
        (fun pre W => Hid (DpSt n tr W1 W2 (bumpD L (depthO L k) (valsI pre)) W) ∧ Hid (Marks W2.heap.size Ds W))
        (fun _ _ _ => False)
        ?hown
        (fun _ _ _ _ _ hs _ _ => hs)
        ⟨hS0, hM0⟩
        (fun x => { tmps := #[.slice a n cap, undef, .slice none 0 0, .pointer (some ⟨W1.heap.size, 0, none⟩), .pointer (some ⟨W1.heap.size + 1 + 1, 0, none⟩), u5, .int .i64 (hN : Int), .int .i64 x.1, .slice a n cap, .pointer (some ⟨tr, 0, none⟩), .slice a n cap, .int .i64 (n : Int), .slice (some ⟨W1.heap.size + 1, 0, none⟩) n n, .pointer (some ⟨tr, 0, none⟩), .slice a n cap, .int .i64 (n : Int), .slice (some ⟨pb, po, none⟩) nh hc, .int .i64 (nh : Int), .int .i64 (k : Int), .bool true, .pointer (some ⟨pb, po + k, none⟩), .int .i64 (hN : Int), .slice a n cap, .pointer (some ⟨tr, 0, none⟩), .int .i64 (hN : Int), .agg #[.slice za zn zc], .func (.func 125) #[] #[.pointer (some ⟨W3.heap.size + 1, 0, none⟩)], .int .i64 x.1, u28, u29, u30, u31, u32, u33, u34, u35, u36, u37, u38], defers := [] }) ?assign ?body ?done ?stop
      case hkb =>
        intro W l o o' hl ho hc hw
        have hBo : (W.putObj l o').heap[W1.heap.size + 1]? = W.heap[W1.heap.size + 1]? := World.putObj_heap_other (by omega)
        have hsz' : (W.putObj l o').heap.size = W.heap.size := by simp
        refine ⟨belowK_b (w := W0) (by omega) W l o o' hl ho hc hw, fun b o1 v _ hcv => cell_kept hcv (grownBy_putObj' W l o') (fun r e => by cases e; exact ⟨o, ho, hc⟩), fun b _ hp => ⟨hp.1, fun v hv => hp.2 v (by rw [← cell_of_block hBo]; exact hv)⟩, fun hG => ⟨by rw [hsz']; exact hG.1, fun v hv b hb => by rw [hsz']; exact hG.2 v (by rw [← cell_of_block hBo]; exact hv) b hb⟩⟩
      case hown =>
        rintro s W W' row ⟨h1, h3⟩ hg hr
        exact ⟨h1.out.grown hg (fun r e => by have := (hr r e).1; omega), h3.out.keep (fun M hM => hg.block M (h3.out.lt M hM) (fun e => by have := (hr M e.symm).1; have := hDs M hM; omega))⟩
      case assign =>
        intro lp x W K hK
        gi_wp2
        exact hK
      case body =>
        rintro lp pre ⟨x, hx⟩ W ⟨hS, hM⟩ hlen
        have hxb := hx
        rw [HLS.out] at hxb
        have hxr := (mem_bodyS.1 hxb).1
        obtain ⟨xN, rfl⟩ : ∃ xN : Nat, x = xN := ⟨x.toNat, by omega⟩
        have hxn : xN < n := by rw [HNL.out]; omega
        have hsn : bumpD L (depthO L k) (valsI (pre ++ [⟨(xN : Int), hx⟩])) = bump1 L (bumpD L (depthO L k) (valsI pre)) xN := by unfold valsI; rw [List.map_append, List.map_singleton, bumpD_snoc]
        obtain ⟨O, HO⟩ : ∃ O, Hid (bumpD L (depthO L k) (valsI pre) = O) := ⟨_, (rfl : bumpD L (depthO L k) (valsI pre) = _)⟩
        have hle := bumpD_le (L := L) (O := depthO L k) (valsI pre) (j := xN)
        unfold valsI at hle
        rw [depthO_get (by omega), List.length_map] at hle
        change (bumpD L (depthO L k) (valsI pre)).getD xN 0 ≤ _ ∧ _ ≤ (bumpD L (depthO L k) (valsI pre)).getD xN 0 at hle
        have hkle := depthK_le L k xN
        have hpl : pre.length ≤ n := by
          have h1 : (listI S).length ≤ n := by rw [HLS.out, HNL.out]; exact bodyP_length L _ _
          omega
        rw [HO.out] at hle hsn hS
        have hlo := hS.out.lO
        obtain ⟨cv, Hcv⟩ : ∃ cv, Hid (O.getD xN 0 = cv) := ⟨_, (rfl : O.getD xN 0 = _)⟩
        rw [Hcv.out] at hle
        have hcv0 : 0 ≤ cv := by omega
        have hcv1 : cv ≤ 3000 := by omega
        have hcell : (ints O)[xN]? = some (.int .i64 cv) := by
          have := Hcv.out
          have h2 : xN < O.length := by omega
          simp only [List.getD, List.getElem?_eq_getElem h2, Option.getD_some] at this
          simp [ints, h2, this]
        obtain ⟨rx, Hrx⟩ : ∃ rx, Hid (decide ((xN : Int) ∈ orderS L) = rx) := ⟨_, (rfl : decide ((xN : Int) ∈ orderS L) = _)⟩
        have hRe : ∀ {m : Nat}, CallsIn (Fence.wide.inRound lp) m Try.prog 92 #[.pointer (some ⟨tr, 0, none⟩), .int .i64 (xN : Int)] W fun e X' => e = .returned (.bool rx) ∧ Below W.heap.size W X' := fun {m} => by
          refine (CallsIn.inRound lp (callsIn_wide.2 (reached_t W (HT.out.below hS.out.kp) (xN : Int)))).mono ?_
          rintro e X' ⟨rfl, hb⟩
          rw [Hrx.out]
          exact ⟨rfl, hb⟩
        have HSN := hid_of hsn
        have q3 := hS.out.r3.cell (k := 0) (v := .pointer (some ⟨tr, 0, none⟩)) rfl
        have hl3' := hS.out.r3.lt
        have hgdW : Good (W1.heap.size + 1) W := ⟨hS.out.rO.lt, fun v hv b' hb' => by rw [good_ints hS.out.rO v hv] at hb'; simp at hb'⟩
        have hn0W : W1.heap.size ≤ W.heap.size := hS.out.kp.size
        have hx0 : (0 : Int) ≤ (xN : Int) := by omega
        have hxz : (xN : Int) < (n : Int) := by omega
        have hwf : ∀ f : FuncId, Fence.wide.fn f = True := fun _ => rfl
        clear hle hkle hlo hsn hxb
        gi_wp2
        refine hRe.mono ?_
        rintro e X ⟨rfl, hX⟩
        have hS1 := hS.out.below hX
        have hM1 := hM.out.keep (fun M hM' => hX.block M (hM.out.lt M hM'))
        have HXo1 : KeepsOthers W X := ⟨hX.size, fun b o hb _ => (hX.block b (Array.getElem?_eq_some_iff.1 hb).1).trans hb⟩
        have HXb1 := (KeepsBut.of_below hgdW hn0W hX).1
        clear q3 hRe
        cases rx with
        | false =>
          have hSX : Hid (DpSt n tr W1 W2 (bumpD L (depthO L k) (valsI (pre ++ [⟨(xN : Int), hx⟩]))) X) := by
            rw [HSN.out]; unfold bump1; rw [if_neg (by have := Hrx.out; simpa using this)]; exact hS1
          have hMX := hid_of hM1
          clear hS1 hM1
          gi_wp2
          exact ⟨HXo1, HXb1, hSX, hMX⟩
        | true =>
          have x4 := hS1.r4.cell (k := 0) (v := .slice (some ⟨W1.heap.size + 1, 0, none⟩) n n) rfl
          have xO := hS1.rO.cell (k := xN) (v := .int .i64 cv) hcell
          have xF := hS1.rO.frozen xN
          have xl := hS1.rO.lt
          have hSX : Hid (DpSt n tr W1 W2 (bumpD L (depthO L k) (valsI (pre ++ [⟨(xN : Int), hx⟩]))) (X.setCell ⟨W1.heap.size + 1, xN, none⟩ (.int .i64 (cv + 1)))) := by
            rw [HSN.out]; unfold bump1; rw [if_pos (by have := Hrx.out; simpa using this), Int.toNat_natCast, Hcv.out]; exact hS1.put xN (cv + 1)
          have HXo : KeepsOthers W (X.setCell ⟨W1.heap.size + 1, xN, none⟩ (.int .i64 (cv + 1))) := KeepsOthers.trans HXo1 (KeepsOthers.setCell _ _ _)
          have HXb := HXb1.trans (KeepsBut.putInt (k := xN) (by omega : W1.heap.size ≤ W1.heap.size + 1) hS1.rO (cv + 1))
          have hMX := hid_of (hM1.keep (W' := X.setCell ⟨W1.heap.size + 1, xN, none⟩ (.int .i64 (cv + 1))) (fun M hM' => Below.heap_setCell _ _ _ _ (by have := (hM1.at' M hM').1; show M ≠ W1.heap.size + 1; omega)))
          clear hS1 hM1
          gi_wp2
          exact ⟨HXo, HXb, hSX, hMX⟩
      case done =>
        rintro M ys W hMl hys ⟨hS, hM⟩ hK2
        rw [show valsI ys = _ from hys, HLS.out, HDS.out] at hS
        have HM4 : Hid (Marks W2.heap.size (M :: Ds) W) := hM.out.cons (by omega) hK2 (fun hh => by have := hDs M hh; omega)
        clear hys hM
        gi_wp2
        refine Handed.intro (nh - (k + 1)) (by omega) (HJ.out _ _ _ ⟨k + 1, (k : Int) + 1, M :: Ds, _, _, _, _, _, _, _, _, _, _, _, _, _, _, _, _, _, _, _, _, _, _, _, rfl, by omega, by omega, rfl, hS, HM4⟩)
      case stop =>
        rintro M c pre W _ _ h _
        exact h.elim
    · obtain rfl : k = nh := by omega
      have q4 := HS.out.r4.cell (k := 0) (v := .slice (some ⟨W1.heap.size + 1, 0, none⟩) n n) rfl
      gi_wp2
      refine (leaves_marks Ds wr HM.out ?_ : LeavesInM _ _ _ _ _ _ _ _ _)
      intro W' hb hs ho
      have hsz2 := HS.out.sz
      rw [Hnh.out]
      refine ⟨_, results_tmp rfl _ _ _, _, rfl, ?_, (bel_call HB1.out HS.out.kp).trans (hb.mono (by have := HB1.out.size; omega))⟩
      have r := HS.out.rO.keep (ho (W1.heap.size + 1) (fun hm => by have := (HM.out.at' _ hm).1; omega))
      have hsz := HB1.out.size
      have hlo := HS.out.lO
      exact ⟨by simp [ints, hlo], .inr ⟨W1.heap.size + 1, n, (ints (depthO L k)).toArray, rfl, by omega, r, Nat.le_refl _, by unfold maxLen; omega, by simp [ints, hlo], by rw [List.take_of_length_le (by simp [ints, hlo])]⟩⟩
theorem depth_c {a : Option Addr} {n cap : Nat} (w : World) {L : List (List InsD)} (h : IsBlocks (· < w.heap.size) w (.slice a n cap) L) (hl : n ≤ 1000) :
    Calls Try.prog 61 #[.slice a n cap] w fun e w' => ∃ z, e = .returned z ∧ w'.ownsRow w.heap.size 3 1 z n (ints (depthO L (headsS L).length)) ∧ Below w.heap.size w w' := callsIn_wide.1 (depth_in w h hl)
end Go.Proofs.Ytcihobmjohpnkaa
