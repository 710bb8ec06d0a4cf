/- How deep each block is: in plain Lean, and the reference 'Depth'. -/
import Derived.Test.YtcihobmjohpnkaaLoopsR
namespace Go.Proofs.Ytcihobmjohpnkaa
open Go.RowKit Go.Sort

/-- One more for each of these blocks that is reached. -/
def bump1 (L : List (List InsD)) (O : List Int) (x : Int) : List Int := if x ∈ orderS L then O.set x.toNat (O.getD x.toNat 0 + 1) else O
def bumpD (L : List (List InsD)) (O : List Int) (xs : List Int) : List Int := xs.foldl (bump1 L) O
theorem bumpD_snoc (L : List (List InsD)) (O : List Int) (xs : List Int) (x : Int) : bumpD L O (xs ++ [x]) = bump1 L (bumpD L O xs) x := by unfold bumpD; rw [List.foldl_append]; rfl
theorem bump1_length (L : List (List InsD)) (O : List Int) (x : Int) : (bump1 L O x).length = O.length := by unfold bump1; split <;> simp
theorem bumpD_length (L : List (List InsD)) (O : List Int) (xs : List Int) : (bumpD L O xs).length = O.length := by
  unfold bumpD
  induction xs generalizing O with
  | nil => rfl
  | cons x xs ih => rw [List.foldl_cons, ih, bump1_length]
theorem bump1_get {L : List (List InsD)} {O : List Int} {x : Int} (hx : 0 ≤ x ∧ x < O.length) {j : Nat} (hj : j < O.length) : (bump1 L O x).getD j 0 = O.getD j 0 + if (j : Int) = x ∧ (j : Int) ∈ orderS L then 1 else 0 := by
  unfold bump1
  split
  · rename_i h
    rw [List.getD_eq_getElem?_getD, List.getElem?_set]
    by_cases e : x.toNat = j
    · have : (j : Int) = x := by omega
      rw [if_pos e, if_pos (by omega), if_pos ⟨this, by rw [this]; exact h⟩]
      subst e; rfl
    · rw [if_neg e, if_neg (by omega), List.getD_eq_getElem?_getD]; simp
  · rename_i h
    rw [if_neg (by rintro ⟨e, h2⟩; exact h (e ▸ h2))]; simp
theorem bumpD_get {L : List (List InsD)} {xs : List Int} (hn : xs.Nodup) : ∀ {O : List Int}, (∀ x ∈ xs, 0 ≤ x ∧ x < O.length) → ∀ {j : Nat}, j < O.length → (bumpD L O xs).getD j 0 = O.getD j 0 + if (j : Int) ∈ xs ∧ (j : Int) ∈ orderS L then 1 else 0 := by
  induction xs with
  | nil => intro O _ j _; simp [bumpD]
  | cons x xs ih =>
    intro O hr j hj
    obtain ⟨n1, n2⟩ := List.nodup_cons.1 hn
    have := ih n2 (O := bump1 L O x) (fun y hy => by rw [bump1_length]; exact hr y (by simp [hy])) (j := j) (by rw [bump1_length]; exact hj)
    have e : bumpD L O (x :: xs) = bumpD L (bump1 L O x) xs := rfl
    rw [e, this, bump1_get (hr x (by simp)) hj]
    by_cases h1 : (j : Int) = x
    · have h2 : (j : Int) ∉ xs := by rw [h1]; exact n1
      simp [h1, n1]
    · simp [h1]

/-- How deep each block is by the first k heads. -/
def depthO (L : List (List InsD)) (k : Nat) : List Int := (List.range L.length).map fun j => ((depthK L k j : Nat) : Int)
theorem depthO_length (L : List (List InsD)) (k : Nat) : (depthO L k).length = L.length := by simp [depthO]
theorem depthO_get {L : List (List InsD)} {k j : Nat} (hj : j < L.length) : (depthO L k).getD j 0 = (depthK L k j : Nat) := by simp [depthO, List.getD, hj]
theorem depthO_zero (L : List (List InsD)) : depthO L 0 = List.replicate L.length 0 := by
  refine List.ext_getElem (by simp [depthO]) fun j h1 h2 => ?_
  simp [depthO, depthK]
theorem depthK_succ {L : List (List InsD)} {k : Nat} (hk : k < (headsS L).length) (j : Nat) : depthK L (k + 1) j = depthK L k j + if bodyB L (headsS L)[k] j = true ∧ (j : Int) ∈ orderS L then 1 else 0 := by
  unfold depthK
  by_cases h : (j : Int) ∈ orderS L
  · rw [if_pos h, if_pos h, List.take_succ_eq_append_getElem hk, List.filter_append, List.length_append]
    congr 1
    cases hb : bodyB L (headsS L)[k] j <;> simp [hb, h]
  · rw [if_neg h, if_neg h, if_neg (fun hh => h hh.2)]
theorem bodyS_nodup (L : List (List InsD)) (h : Int) : (bodyS L h).Nodup := ((range_rising L.length).filter _).imp fun h => by omega
theorem mem_bodyS {L : List (List InsD)} {h x : Int} : x ∈ bodyS L h ↔ (0 ≤ x ∧ x < L.length) ∧ bodyB L h x = true := by unfold bodyS bodyP; exact mem_range_filter
theorem depth_step {L : List (List InsD)} {k : Nat} (hk : k < (headsS L).length) : bumpD L (depthO L k) (bodyS L (headsS L)[k]) = depthO L (k + 1) := by
  refine List.ext_getElem (by rw [bumpD_length, depthO_length, depthO_length]) fun j h1 h2 => ?_
  have hj : j < L.length := by rw [depthO_length] at h2; exact h2
  have e1 := bumpD_get (L := L) (bodyS_nodup L (headsS L)[k]) (O := depthO L k) (fun x hx => by rw [depthO_length]; exact (mem_bodyS.1 hx).1) (j := j) (by rw [depthO_length]; exact hj)
  rw [depthO_get hj] at e1
  have e2 : (bumpD L (depthO L k) (bodyS L (headsS L)[k]))[j] = (bumpD L (depthO L k) (bodyS L (headsS L)[k])).getD j 0 := by simp [List.getD, h1]
  rw [e2, e1]
  have e3 : (depthO L (k + 1))[j] = ((depthK L (k + 1) j : Nat) : Int) := by simp [depthO]
  rw [e3, depthK_succ hk]
  have e4 : ((j : Int) ∈ bodyS L (headsS L)[k] ∧ (j : Int) ∈ orderS L) ↔ (bodyB L (headsS L)[k] j = true ∧ (j : Int) ∈ orderS L) := by
    rw [mem_bodyS]
    exact ⟨fun h => ⟨h.1.2, h.2⟩, fun h => ⟨⟨by omega, h.1⟩, h.2⟩⟩
  by_cases h : bodyB L (headsS L)[k] j = true ∧ (j : Int) ∈ orderS L
  · rw [if_pos (e4.2 h), if_pos h]; push_cast; rfl
  · rw [if_neg (fun hh => h (e4.1 hh)), if_neg h]; simp
theorem heads_range {L : List (List InsD)} {k : Nat} (hk : k < (headsS L).length) : 0 ≤ (headsS L)[k] ∧ (headsS L)[k] < L.length := by
  have := List.getElem_mem hk
  unfold headsS headsP at this
  exact (mem_range_filter.1 this).1
theorem bumpD_le {L : List (List InsD)} {O : List Int} (xs : List Int) {j : Nat} : (bumpD L O xs).getD j 0 ≤ O.getD j 0 + xs.length ∧ O.getD j 0 ≤ (bumpD L O xs).getD j 0 := by
  refine rev_ind (P := fun xs => (bumpD L O xs).getD j 0 ≤ O.getD j 0 + xs.length ∧ O.getD j 0 ≤ (bumpD L O xs).getD j 0) (by simp [bumpD]) (fun xs x ih => ?_) xs
  rw [bumpD_snoc, List.length_append, List.length_singleton]
  have key : (bump1 L (bumpD L O xs) x).getD j 0 ≤ (bumpD L O xs).getD j 0 + 1 ∧ (bumpD L O xs).getD j 0 ≤ (bump1 L (bumpD L O xs) x).getD j 0 := by
    unfold bump1
    split
    · rw [List.getD_eq_getElem?_getD, List.getElem?_set]
      split
      · rename_i e
        split
        · rw [← e, List.getD_eq_getElem?_getD]; simp; omega
        · rename_i hh
          rw [List.getD_eq_getElem?_getD, List.getElem?_eq_none (by omega)]; simp
      · rw [List.getD_eq_getElem?_getD]; omega
    · omega
  push_cast
  omega
theorem depthK_le (L : List (List InsD)) (k j : Nat) : depthK L k j ≤ k := by
  unfold depthK
  split
  · exact Nat.le_trans (List.length_filter_le _ _) (List.length_take_le _ _)
  · omega

set_option maxRecDepth 100000 in
set_option maxHeartbeats 16000000 in
theorem depthR_c {ba : Option Addr} {n bc : Nat} (w : World) {L : List (List InsD)} (h : IsBlocks (· < w.heap.size) w (.slice ba n bc) L) (hl : n ≤ 1000) :
    Calls Try.prog 62 #[.slice ba n bc] w fun e w' => ∃ g, e = .returned (.slice (some ⟨g, 0, none⟩) n n) ∧ w.heap.size ≤ g ∧ Row w' g 3 (ints (depthO L (headsS L).length)) ∧ Below w.heap.size w w' := by
  have hnL : n = L.length := by obtain ⟨_, _, hv0, hl0, hx⟩ := id h; simp only [Value.slice.injEq] at hv0; exact hv0.2.1
  have HNL := hid_of hnL
  have HKP : Hid (∀ W, Below w.heap.size w W → IsBlocks (· < W.heap.size) W (.slice ba n bc) L) := fun W hW => h.keep (fun b hb hlt => ⟨Nat.lt_of_lt_of_le hb hW.size, hW.block b hlt⟩)
  have HR : Hid (∀ W, Below w.heap.size w W → Calls Try.prog 31 #[.slice ba n bc] W fun e w' => ∃ g, e = .returned (.slice (some ⟨g, 0, none⟩) n n) ∧ W.heap.size ≤ g ∧ Row w' g 4 (bools (fromS L 0 (-1))) ∧ Below W.heap.size W w') := fun W hW => by
    have := reachedQ_c W (HKP.out W hW) (by omega)
    rw [← hnL] at this
    exact this
  have HHd := hid_of (fun W (hW : Below w.heap.size w W) => headsR_c W (HKP.out W hW) hl)
  have hra : Row (w.alloc (.cells (ints (List.replicate n 0)).toArray 3)) w.heap.size 3 (ints (List.replicate n 0)) := heap_alloc_eq _ _ _ rfl
  have HQ := hid_of (And.intro hra (bel_alloc (bel_refl w) (.cells (ints (List.replicate n 0)).toArray 3)))
  have HZ : Hid (List.replicate n 0 = depthO L 0) := by show _ = _; rw [depthO_zero, hnL]
  have hhl : (headsS L).length ≤ n := by rw [hnL]; exact headsP_length L _
  clear hnL h hra
  go_enter Try.func62, Try.ntmps62
  go_wp2_with (at_make; refine stop_here ?_)
  refine stop_go (mk_ints rfl _ _ rfl n rfl rfl (by omega) ?_)
  refine k_at (fun X => Row X w.heap.size 3 (ints (List.replicate n 0)) ∧ Below w.heap.size w X) HQ.out ?_
  rintro W1 ⟨hr1, hb1⟩
  rw [HZ.out] at hr1
  obtain ⟨g, Hg⟩ : ∃ g, Hid (w.heap.size = g) := ⟨_, (rfl : w.heap.size = _)⟩
  have HR1 := hid_of (HR.out W1 hb1)
  have HO1 := hid_of hr1
  have Hb1 := hid_of hb1
  rw [Hg.out] at HO1 ⊢
  clear HQ HZ hr1 hb1 HR
  go_wp2_with fail
  refine HR1.out.mono ?_
  rintro e W2 ⟨gr, rfl, hgr, hr2, hb2⟩
  have hgne : g < gr := by have := HO1.out.lt; omega
  have HO2 := hid_of (HO1.out.keep (hb2.block g HO1.out.lt))
  have hb02 := bel_call Hb1.out hb2
  have Hb2 := hid_of hb02
  have HQ2 := hid_of hr2
  have HH2 := hid_of (HHd.out W2 hb02)
  clear HR1 hr2 hb2 HO1 hb02 Hb1 HHd
  go_wp2_with fail
  refine HH2.out.mono ?_
  rintro e W3 ⟨hz, rfl, hho, hb3⟩
  have hhi : IsInts (W2.heap.size ≤ ·) W3 hz (headsS L) := ints_of_owns hho (by omega) (fun _ _ h _ => h)
  have HHR : Hid (∀ k (_ : k < (headsS L).length), ∃ hN : Nat, (headsS L)[k] = hN ∧ hN < n) := fun k hk => by
    have := heads_range hk
    exact ⟨(headsS L)[k].toNat, by omega, by rw [HNL.out]; omega⟩
  obtain ⟨ha, hc, rfl, -, hhx⟩ := id hhi
  obtain ⟨hn, Hhn⟩ : ∃ hn, Hid ((headsS L).length = hn) := ⟨_, (rfl : (headsS L).length = _)⟩
  have HO3 := hid_of (HO2.out.keep (hb3.block g HO2.out.lt))
  have HQ3 := hid_of (HQ2.out.keep (hb3.block gr HQ2.out.lt))
  have Hb3 := hid_of (bel_call Hb2.out hb3)
  have HX := hid_of hhx
  have hgW2 : g < W2.heap.size := HO2.out.lt
  rw [Hhn.out] at hhl ⊢
  clear HH2 hho hb3 hhi hhx HO2 HQ2 Hb2
  go_wp2_with fail
  obtain ⟨wo, rfl⟩ : ∃ wo : World, wo = W3 := ⟨_, rfl⟩
  have HK3 : Hid (∀ b, b ≠ g → b < wo.heap.size → wo.heap[b]? = wo.heap[b]?) := fun _ _ _ => rfl
  go_loopw [6] (fun s6 wx => ∃ k : Nat, k ≤ hn ∧ s6 = .int .i64 k ∧ Hid (Row wx g 3 (ints (depthO L k))) ∧ Hid (Below g w wx) ∧ Hid (wo.heap.size ≤ wx.heap.size ∧ ∀ b, b ≠ g → b < wo.heap.size → wx.heap[b]? = wo.heap[b]?)) (fun s6 _ => hn - (intOf s6).toNat)
  case atStart => exact ⟨0, by omega, rfl, HO3, by rw [← Hg.out]; exact Hb3, ⟨Nat.le_refl _, fun _ _ _ => rfl⟩⟩
  case round =>
    obtain ⟨k, hk, rfl, HO, HB, HKx⟩ := hrel
    by_cases hkt : k < hn
    · have hkH : k < (headsS L).length := by rw [Hhn.out]; exact hkt
      rcases HX.out with hx | ⟨pb, po, rfl, hpb, hx⟩
      · exfalso; rw [hx] at hkH; simp at hkH
      have e0 := hx k hkH
      unfold CInt at e0
      rw [Nat.mul_one] at e0
      obtain ⟨hN, hhN, hNn⟩ := HHR.out k hkH
      have e1 := (World.cell?_of_block (a := ⟨pb, po + k, none⟩) (HKx.out.2 pb (by omega) (lt_of_cell e0))).trans e0
      have hds := depth_step hkH
      rw [hhN] at e1 hds
      have hbw : Below w.heap.size w wr := by rw [Hg.out]; exact HB.out
      have HBd := hid_of (bodyR_c wr (HKP.out wr hbw) hl (hN : Int))
      have hbl : (bodyS L (hN : Int)).length ≤ n := by rw [HNL.out]; exact bodyP_length L _ _
      have HBM : Hid (∀ x ∈ bodyS L (hN : Int), ∃ xN : Nat, x = xN ∧ xN < n) := fun x hx => by
        have := (mem_bodyS.1 hx).1
        exact ⟨x.toNat, by omega, by rw [HNL.out]; omega⟩
      have HDS := hid_of hds
      have hk0 : (0 : Int) ≤ (k : Int) := by omega
      have hkz : (k : Int) < (hn : Int) := by omega
      clear hx e0 hds hbw
      go_wp2_with fail
      refine HBd.out.mono ?_
      rintro e W4 ⟨bz, rfl, hbo, hb4⟩
      have hbi : IsInts (wr.heap.size ≤ ·) W4 bz (bodyS L (hN : Int)) := ints_of_owns hbo (by omega) (fun _ _ h _ => h)
      obtain ⟨bA, bC, rfl, -, hbx⟩ := id hbi
      obtain ⟨X, HXe⟩ : ∃ X, Hid (bodyS L (hN : Int) = X) := ⟨_, (rfl : bodyS L (hN : Int) = _)⟩
      rw [HXe.out] at hbl HBM HDS hbx ⊢
      obtain ⟨bn, Hbn⟩ : ∃ bn, Hid (X.length = bn) := ⟨_, (rfl : X.length = _)⟩
      rw [Hbn.out] at hbl ⊢
      have HBX := hid_of hbx
      have HO4 := hid_of (HO.out.keep (hb4.block g HO.out.lt))
      have hsw := HKx.out.1
      have hgl := HO.out.lt
      have HK4 : Hid (wo.heap.size ≤ W4.heap.size ∧ ∀ b, b ≠ g → b < wo.heap.size → W4.heap[b]? = wo.heap[b]?) := ⟨by have := hb4.size; omega, fun b h1 h2 => (hb4.block b (by omega)).trans (HKx.out.2 b h1 h2)⟩
      have HB4 : Hid (Below g w W4) := HB.out.trans (hb4.mono (by omega))
      clear HBd hbo hb4 hbi hbx HO HB HKx e1
      go_wp2_with fail
      obtain ⟨W5, rfl⟩ : ∃ W5, W5 = W4 := ⟨_, rfl⟩
      go_loopw [8] (fun s8 wx => ∃ i : Nat, i ≤ bn ∧ s8 = .int .i64 i ∧ Hid (Row wx g 3 (ints (bumpD L (depthO L k) (X.take i)))) ∧ Hid (Below g w wx) ∧ Hid (W5.heap.size ≤ wx.heap.size ∧ ∀ b, b ≠ g → b < W5.heap.size → wx.heap[b]? = W5.heap[b]?)) (fun s8 _ => bn - (intOf s8).toNat)
      case atStart => exact ⟨0, by omega, rfl, HO4, HB4, ⟨Nat.le_refl _, fun _ _ _ => rfl⟩⟩
      case round =>
        obtain ⟨i, hi, rfl, HOi, HBi, HKi⟩ := hrel
        clear HO4 HB4
        by_cases hit : i < bn
        · have hiX : i < X.length := by rw [Hbn.out]; exact hit
          rcases HBX.out with hx | ⟨qb, qo, rfl, hqb, hx⟩
          · exfalso; rw [hx] at hiX; simp at hiX
          have e0 := hx i hiX
          unfold CInt at e0
          rw [Nat.mul_one] at e0
          have hqg : qb ≠ g := by omega
          have e1 := (World.cell?_of_block (a := ⟨qb, qo + i, none⟩) (HKi.out.2 qb hqg (lt_of_cell e0))).trans e0
          obtain ⟨xN, hxN, hxn⟩ := HBM.out X[i] (List.getElem_mem hiX)
          have ht := congrArg (bumpD L (depthO L k)) (List.take_succ_eq_append_getElem hiX)
          rw [bumpD_snoc, hxN] at ht
          rw [hxN] at e1
          have hxL : xN < L.length := by rw [← HNL.out]; exact hxn
          obtain ⟨rx, Hrx⟩ : ∃ rx, Hid (decide ((xN : Int) ∈ orderS L) = rx) := ⟨_, (rfl : decide ((xN : Int) ∈ orderS L) = _)⟩
          have qr := (HQ3.out.keep ((HKi.out.2 gr (by omega) (by have := HQ3.out.lt; have := HK4.out.1; omega)).trans (HK4.out.2 gr (by omega) HQ3.out.lt))).cell (k := xN) (v := .bool rx) (by rw [reach_cell hxL, Hrx.out])
          have hle := bumpD_le (L := L) (O := depthO L k) (X.take i) (j := xN)
          rw [depthO_get hxL] at hle
          have hkle := depthK_le L k xN
          have htl : (X.take i).length ≤ i := List.length_take_le _ _
          have hol := bumpD_length L (depthO L k) (X.take i)
          rw [depthO_length] at hol
          obtain ⟨cv, Hcv⟩ : ∃ cv, Hid ((bumpD L (depthO L k) (X.take i)).getD xN 0 = cv) := ⟨_, (rfl : (bumpD L (depthO L k) (X.take i)).getD xN 0 = _)⟩
          rw [Hcv.out] at hle
          have hcv0 : 0 ≤ cv := by omega
          have hcv1 : cv ≤ 3000 := by omega
          have qo' := HOi.out.cell (k := xN) (v := .int .i64 cv) (by
            have := Hcv.out
            have h2 : xN < (bumpD L (depthO L k) (X.take i)).length := by omega
            simp only [List.getD, List.getElem?_eq_getElem h2, Option.getD_some] at this
            simp [ints, h2, this])
          have fo := HOi.out.frozen xN
          have hi0 : (0 : Int) ≤ (i : Int) := by omega
          have hiz : (i : Int) < (bn : Int) := by omega
          have hx0 : (0 : Int) ≤ (xN : Int) := by omega
          have hxz : (xN : Int) < (n : Int) := by omega
          have HT := hid_of ht
          have hgl := HOi.out.lt
          clear hx e0 ht hle hkle htl hol HBX
          cases rx with
          | false =>
            have HE : Hid (bumpD L (depthO L k) (X.take (i + 1)) = bumpD L (depthO L k) (X.take i)) := by
              show _ = _; rw [HT.out]; unfold bump1; rw [if_neg (by have := Hrx.out; simpa using this)]
            clear qo' fo
            go_wp2_with fail
            go_roundw
            case rel => exact ⟨i + 1, by omega, by go_num, by rw [HE.out]; exact HOi, HBi, HKi⟩
            case measure => simp [intOf]; omega
          | true =>
            have HE : Hid (bumpD L (depthO L k) (X.take (i + 1)) = (bumpD L (depthO L k) (X.take i)).set xN (cv + 1)) := by
              show _ = _; rw [HT.out]; unfold bump1; rw [if_pos (by have := Hrx.out; simpa using this), Int.toNat_natCast, Hcv.out]
            have hR9 := HOi.out.set xN (.int .i64 (cv + 1))
            rw [ints_set, ← HE.out] at hR9
            have HR9 := hid_of hR9
            have HB9 := hid_of (HBi.out.setCell (p := ⟨g, xN, none⟩) (Nat.le_refl _) (.int .i64 (cv + 1)))
            have HK9 : Hid (W5.heap.size ≤ (wr.setCell ⟨g, xN, none⟩ (.int .i64 (cv + 1))).heap.size ∧ ∀ b, b ≠ g → b < W5.heap.size → (wr.setCell ⟨g, xN, none⟩ (.int .i64 (cv + 1))).heap[b]? = W5.heap[b]?) :=
              ⟨by simpa using HKi.out.1, fun b h1 h2 => (Below.heap_setCell _ _ _ _ h1).trans (HKi.out.2 b h1 h2)⟩
            clear hR9
            go_wp2_with fail
            go_roundw
            case rel => exact ⟨i + 1, by omega, by go_num, HR9, HB9, HK9⟩
            case measure => simp [intOf]; omega
        · obtain rfl : i = bn := by omega
          have ho := HOi.out
          rw [List.take_of_length_le (by rw [Hbn.out]; exact Nat.le_refl _), HDS.out] at ho
          have HOF := hid_of ho
          have HKF : Hid (wo.heap.size ≤ wr.heap.size ∧ ∀ b, b ≠ g → b < wo.heap.size → wr.heap[b]? = wo.heap[b]?) := ⟨Nat.le_trans HK4.out.1 HKi.out.1, fun b h1 h2 => (HKi.out.2 b h1 (by have := HK4.out.1; omega)).trans (HK4.out.2 b h1 h2)⟩
          clear ho
          go_wp2_with fail
          go_roundw
          case rel => exact ⟨k + 1, by omega, by go_num, HOF, HBi, HKF⟩
          case measure => simp [intOf]; omega
    · obtain rfl : k = hn := by omega
      have HBF : Hid (Below w.heap.size w wr) := by show Below _ _ _; rw [Hg.out]; exact HB.out
      go_wp2_with fail
      go_ret
      exact ⟨g, rfl, by rw [Hg.out]; exact Nat.le_refl _, by rw [Hhn.out]; exact HO.out, HBF.out⟩
end Go.Proofs.Ytcihobmjohpnkaa
