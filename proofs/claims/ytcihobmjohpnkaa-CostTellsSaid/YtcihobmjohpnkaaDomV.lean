/- What 'dom.Of' hands back, and what is asked of it: 'Reached', 'Over'. -/
import Derived.Test.YtcihobmjohpnkaaDomOf
import Derived.Test.YtcihobmjohpnkaaBitL
import Derived.Test.YtcihobmjohpnkaaBitW
namespace Go.Proofs.Ytcihobmjohpnkaa
open Go.RowKit Go.Sort

structure TreeAt (B t : Nat) (L : List (List InsD)) (R : List (List Int)) (D : List (List Nat)) (W : World) : Prop where
  lo : B ≤ t
  row : ∃ ord vp vo, Row W t 102 [ord, vp, vo] ∧ IsRows (B ≤ ·) W vp R ∧ IsSets (B ≤ ·) W vo D
  len : R.length = L.length
  pr : PredOk L R
  ov : OverOk L D
  sm : ∀ s, (R.getD s []).length ≤ 3000
theorem TreeAt.below {B t : Nat} {L : List (List InsD)} {R : List (List Int)} {D : List (List Nat)} {W W' : World} (h : TreeAt B t L R D W) (hb : Below W.heap.size W W') : TreeAt B t L R D W' :=
  let ⟨o, p, v, h1, h2, h3⟩ := h.row
  ⟨h.lo, ⟨o, p, v, h1.keep (hb.block t h1.lt), h2.keep (Keep.below hb), h3.keep (Keep.below hb)⟩, h.len, h.pr, h.ov, h.sm⟩
theorem TreeAt.lt {B t : Nat} {L : List (List InsD)} {R : List (List Int)} {D : List (List Nat)} {W : World} (h : TreeAt B t L R D W) : t < W.heap.size := let ⟨_, _, _, h1, _⟩ := h.row; h1.lt

/-- Is block a over block b? -/
def overS (L : List (List InsD)) (a b : Int) : Bool := decide (a ∈ orderS L) && decide (b ∈ orderS L) && (decide (a = b) || !(sn (fromS L 0 a) b))
theorem order_range {L : List (List InsD)} {x : Int} (h : x ∈ orderS L) : 0 ≤ x ∧ x < L.length ∧ Way (succS L) 0 x := by
  have hpos : 0 < L.length := by
    apply Classical.byContradiction
    intro hn
    have : orderS L = [] := by unfold orderS; rw [if_pos (by omega)]
    rw [this] at h; simp at h
  obtain ⟨T, hT⟩ := ord_ex hpos
  rw [hT.eq] at h
  exact ⟨(hT.rg x h).1, (hT.rg x h).2, (hT.way x).1 h⟩
theorem order_way {L : List (List InsD)} (hn : 0 < L.length) {x : Int} (h : Way (succS L) 0 x) : x ∈ orderS L := by
  obtain ⟨T, hT⟩ := ord_ex hn
  rw [hT.eq]; exact (hT.way x).2 h
theorem dm_over {L : List (List InsD)} {a b : Int} (hb : b ∈ orderS L) : Dm L a b ↔ overS L a b = true := by
  obtain ⟨b0, b1, bw⟩ := order_range hb
  unfold overS
  rw [Bool.and_eq_true, Bool.and_eq_true, Bool.or_eq_true, decide_eq_true_eq, decide_eq_true_eq, decide_eq_true_eq, Bool.not_eq_true', ← Bool.not_eq_true]
  have key : ∀ a ∈ orderS L, (a = 0 ∨ ¬ Way (succX L a) 0 b) ↔ ¬ (sn (fromS L 0 a) b = true) := fun a ha => by
    obtain ⟨a0, a1, -⟩ := order_range ha
    by_cases e : a = 0
    · subst e
      have : fromS L 0 0 = List.replicate L.length false := by unfold fromS; rw [if_neg (fun h => h.2.2 rfl)]
      rw [this]
      have : sn (List.replicate L.length false) b = false := by simp [sn, List.getD, show b.toNat < L.length by omega]
      simp [this]
    · rw [fromS_way L ⟨Int.le_refl _, by omega, fun h => e h.symm⟩ b ⟨b0, b1⟩]
      simp [e]
  constructor
  · intro h
    have ha := order_way (by omega) h.reach
    refine ⟨⟨ha, hb⟩, ?_⟩
    rcases h.2 with h2 | h2
    · exact .inl h2
    · exact .inr ((key a ha).1 h2)
  · rintro ⟨⟨ha, -⟩, h | h⟩
    · exact ⟨bw, .inl h⟩
    · exact ⟨bw, .inr ((key a ha).2 h)⟩
theorem OverOk.over {L : List (List InsD)} {D : List (List Nat)} (h : OverOk L D) {b : Int} (hb : b ∈ orderS L) (a : Nat) : Bit.has (D.getD b.toNat []) a = overS L a b := by
  rw [Bool.eq_iff_iff, h.mem b hb a, dm_over hb]
theorem OverOk.has {L : List (List InsD)} {D : List (List Nat)} (h : OverOk L D) {a b : Int} (ha : a ∈ orderS L) (hb : b ∈ orderS L) : hasI (D.getD b.toNat []) a = overS L a b := by
  obtain ⟨a0, a1, -⟩ := order_range ha
  have e := h.over hb a.toNat
  rw [Int.toNat_of_nonneg a0] at e
  rw [← e]
  unfold hasI
  simp [a0]
/-- A set has numbers just where its block is reached. -/
theorem OverOk.some {L : List (List InsD)} {D : List (List Nat)} (h : OverOk L D) (b : Nat) (hb : b < L.length) : (0 < (listI (D.getD b [])).length) ↔ (b : Int) ∈ orderS L := by
  constructor
  · intro hp
    apply Classical.byContradiction
    intro hn
    rw [h.out b hb hn] at hp
    simp [listI, uptoI, Bit.upto] at hp
  · intro hm
    have h1 := h.over hm b
    rw [Int.toNat_natCast] at h1
    have h2 : overS L b b = true := by unfold overS; simp [hm]
    rw [h2] at h1
    have : (b : Int) ∈ listI (D.getD b []) := by rw [mem_listI]; exact ⟨by omega, by simpa using h1⟩
    exact List.length_pos_iff.2 (List.ne_nil_of_mem this)

theorem tree_of {a : Option Addr} {n cap : Nat} (w : World) {L : List (List InsD)} (h : IsBlocks (· < w.heap.size) w (.slice a n cap) L) (hl : n ≤ 1000) :
    Calls Try.prog 87 #[.slice a n cap] w fun e w' => ∃ t R D, e = .returned (.pointer (some ⟨t, 0, none⟩)) ∧ TreeAt w.heap.size t L R D w' ∧ Below w.heap.size w w' :=
  (dom_of w h hl).mono (by rintro e w' ⟨t, o, p, v, R, D, rfl, h1, h2, h3, h4, h5, h6, h7, h8⟩; exact ⟨t, R, D, rfl, ⟨h1, ⟨o, p, v, h2, h3, h6⟩, h4, h5.1, h7, h5.2⟩, h8⟩)

set_option maxRecDepth 100000 in
set_option maxHeartbeats 2000000 in
theorem reached_t {B t : Nat} {L : List (List InsD)} {R : List (List Int)} {D : List (List Nat)} (w : World) (h : TreeAt B t L R D w) (b : Int) :
    Calls Try.prog 92 #[.pointer (some ⟨t, 0, none⟩), .int .i64 b] w fun e w' => e = .returned (.bool (decide (b ∈ orderS L))) ∧ Below w.heap.size w w' := by
  obtain ⟨ord, vp, vo, h1, h2, h3⟩ := h.row
  obtain ⟨oa, oc, rfl, hol, hx⟩ := id h3
  have hDl := h.ov.len
  obtain ⟨n, Hn⟩ : ∃ n, Hid (D.length = n) := ⟨_, (rfl : D.length = _)⟩
  rw [Hn.out] at h1 hDl
  have c2 := h1.cell (k := 2) (v := .slice oa n oc) rfl
  obtain ⟨rb, Hrb⟩ : ∃ rb, Hid (decide (b ∈ orderS L) = rb) := ⟨_, (rfl : decide (b ∈ orderS L) = _)⟩
  rw [Hrb.out]
  by_cases hb : b < 0
  · have d1 : decide (b ≥ 0) = false := by simpa using hb
    have d1' : decide (0 ≤ b) = false := by simpa using hb
    have e : decide (b ∈ orderS L) = false := by simp; intro hm; have := (order_range hm).1; omega
    have E := hid_of e
    clear hx e hb hDl
    go_enter Try.func92, Try.ntmps92
    go_wp2_with fail
    go_ret
    exact ⟨by rw [← Hrb.out, E.out]; rfl, bel_refl w⟩
  obtain ⟨bN, rfl⟩ : ∃ bN : Nat, b = bN := ⟨b.toNat, by omega⟩
  have d1 : decide ((bN : Int) ≥ 0) = true := by simp
  have d1' : decide (0 ≤ (bN : Int)) = true := by simp
  by_cases hbn : n ≤ bN
  · have d2 : decide ((bN : Int) < (n : Int)) = false := by simpa using hbn
    have d2' : decide (bN < n) = false := by simpa using hbn
    have e : decide ((bN : Int) ∈ orderS L) = false := by simp; intro hm; have := (order_range hm).2.1; omega
    have E := hid_of e
    clear hx e hbn hb hDl
    go_enter Try.func92, Try.ntmps92
    go_wp2_with fail
    go_ret
    exact ⟨by rw [← Hrb.out, E.out]; rfl, bel_refl w⟩
  have hbl : bN < D.length := by have := Hn.out; omega
  rcases hx with hx | ⟨ob, oo, rfl, -, hx⟩
  · rw [hx] at hbl; simp at hbl
  obtain ⟨v, c3, hv⟩ := hx bN hbl
  rw [Nat.mul_one] at c3
  obtain ⟨xa, xn, xc, rfl⟩ := words_slice hv
  have eD : D[bN] = D.getD bN [] := by simp [List.getD, hbl]
  have hg := good_getD h.ov.good bN
  rw [eD] at hv
  have HL := hid_of (len_c w (hv.keep (p' := (· < w.heap.size)) (Keep.refl w fun _ _ hlt => hlt)) (by have := hg.2; omega) hg.1.1)
  have hs := h.ov.some bN (by omega)
  obtain ⟨ll, Hll⟩ : ∃ ll, Hid ((listI (D.getD bN [])).length = ll) := ⟨_, (rfl : (listI (D.getD bN [])).length = _)⟩
  rw [Hll.out] at HL hs
  have d2 : decide ((bN : Int) < (n : Int)) = true := by simp; omega
  have d2' : decide (bN < n) = true := by simp; omega
  have hb0 : (0 : Int) ≤ (bN : Int) := by omega
  have hbz : (bN : Int) < (n : Int) := by omega
  have E : Hid (decide ((bN : Int) ∈ orderS L) = decide (0 < ll)) := by show decide _ = decide _; rw [decide_eq_decide]; exact hs.symm
  clear hx hv eD hg hs hbn hb hbl hDl
  go_enter Try.func92, Try.ntmps92
  go_wp2_with fail
  refine HL.out.mono ?_
  rintro e W1 ⟨rfl, hb1⟩
  go_wp2_with fail
  go_ret
  exact ⟨by rw [← Hrb.out, E.out]; simp, hb1⟩

set_option maxRecDepth 100000 in
set_option maxHeartbeats 2000000 in
theorem over_t {B t : Nat} {L : List (List InsD)} {R : List (List Int)} {D : List (List Nat)} (w : World) (h : TreeAt B t L R D w) (hl : L.length ≤ 1000) (a b : Int) :
    Calls Try.prog 90 #[.pointer (some ⟨t, 0, none⟩), .int .i64 a, .int .i64 b] w fun e w' => e = .returned (.bool (overS L a b)) ∧ Below w.heap.size w w' := by
  have hRa := fun W (hW : Below w.heap.size w W) => reached_t W (h.below hW) a
  have hRb := fun W (hW : Below w.heap.size w W) => reached_t W (h.below hW) b
  by_cases ha : a ∈ orderS L
  · by_cases hbo : b ∈ orderS L
    · obtain ⟨a0, a1, -⟩ := order_range ha
      obtain ⟨b0, b1, -⟩ := order_range hbo
      have hHas : ∀ W, Below w.heap.size w W → ∀ ws v p, IsWords p W v ws → ws = D.getD b.toNat [] → Calls Try.prog 115 #[.agg #[v], .int .i64 a] W fun e w' => e = .returned (.bool (overS L a b)) ∧ Below W.heap.size W w' := fun W hW ws v p hv e => by
        subst e
        refine (has_c W a hv (good_getD h.ov.good _).1.1 (by omega)).mono ?_
        rintro e w' ⟨rfl, hb⟩
        rw [h.ov.has ha hbo]
        exact ⟨rfl, hb⟩
      simp only [ha, decide_true] at hRa
      simp only [hbo, decide_true] at hRb
      have HRa := hid_of (hRa w (bel_refl w))
      have HRb := hid_of hRb
      obtain ⟨r, Hr⟩ : ∃ r, Hid (overS L a b = r) := ⟨_, (rfl : overS L a b = _)⟩
      rw [Hr.out] at hHas
      rw [Hr.out]
      have HHas := hid_of hHas
      have HT := hid_of h
      obtain ⟨bN, rfl⟩ : ∃ bN : Nat, b = bN := ⟨b.toNat, by omega⟩
      have HLn : Hid (bN < L.length) := by show bN < L.length; omega
      have hb0 : (0 : Int) ≤ (bN : Int) := by omega
      clear hRa hRb hHas h ha hbo a0 a1 b0 b1
      go_enter Try.func90, Try.ntmps90
      go_wp2_with fail
      refine HRa.out.mono ?_
      rintro e W1 ⟨rfl, hb1⟩
      have HRb1 := hid_of (HRb.out W1 hb1)
      go_wp2_with fail
      refine HRb1.out.mono ?_
      rintro e W2 ⟨rfl, hb2⟩
      have hB2 := bel_call hb1 hb2
      have hT2 := HT.out.below hB2
      obtain ⟨ord, vp, vo, h1, -, h3⟩ := hT2.row
      obtain ⟨oa, oc, rfl, hol, hx⟩ := id h3
      have hDl := hT2.ov.len
      obtain ⟨n, Hn⟩ : ∃ n, Hid (D.length = n) := ⟨_, (rfl : D.length = _)⟩
      rw [Hn.out] at h1 hDl
      have c2 := h1.cell (k := 2) (v := .slice oa n oc) rfl
      have hbl : bN < D.length := by have := Hn.out; have := HLn.out; omega
      rcases hx with hx | ⟨ob, oo, rfl, -, hx⟩
      · rw [hx] at hbl; simp at hbl
      obtain ⟨v, c3, hv⟩ := hx bN hbl
      rw [Nat.mul_one] at c3
      obtain ⟨xa, xn, xc, rfl⟩ := words_slice hv
      have eD : D[bN] = D.getD bN [] := by simp [List.getD, hbl]
      have HC := hid_of (HHas.out W2 hB2 _ _ _ hv (by rw [eD, Int.toNat_natCast]))
      have hbz : (bN : Int) < (n : Int) := by have := HLn.out; omega
      have HB2 := hid_of hB2
      clear hT2 h3 hx hv eD hbl hB2 hb1 hb2 HRb1 hol hDl
      go_wp2_with fail
      refine HC.out.mono ?_
      rintro e W3 ⟨rfl, hb3⟩
      have HB3 := hid_of (bel_call HB2.out hb3)
      clear hb3 HC c2 c3
      go_wp2_with fail
      go_ret
      exact ⟨rfl, HB3.out⟩
    · have e : overS L a b = false := by unfold overS; simp [hbo]
      simp only [ha, decide_true] at hRa
      simp only [hbo, decide_false] at hRb
      have HRa := hid_of (hRa w (bel_refl w))
      have HRb := hid_of hRb
      rw [e]
      clear hRa hRb e ha hbo
      go_enter Try.func90, Try.ntmps90
      go_wp2_with fail
      refine HRa.out.mono ?_
      rintro e W1 ⟨rfl, hb1⟩
      have HRb1 := hid_of (HRb.out W1 hb1)
      go_wp2_with fail
      refine HRb1.out.mono ?_
      rintro e W2 ⟨rfl, hb2⟩
      have HB2 := hid_of (bel_call hb1 hb2)
      clear hb1 hb2 HRb1
      go_wp2_with fail
      go_ret
      exact ⟨rfl, HB2.out⟩
  · have e : overS L a b = false := by unfold overS; simp [ha]
    simp only [ha, decide_false] at hRa
    have HRa := hid_of (hRa w (bel_refl w))
    rw [e]
    clear hRa hRb e ha
    go_enter Try.func90, Try.ntmps90
    go_wp2_with fail
    refine HRa.out.mono ?_
    rintro e W1 ⟨rfl, hb1⟩
    go_wp2_with fail
    go_ret
    exact ⟨rfl, hb1⟩

section
/- 'dom.Frontier': the search by a closure, and the walk. -/
open Go.RowKit Go.Sort

set_option maxRecDepth 100000 in
set_option maxHeartbeats 2000000 in
/-- 'slices.IndexFunc' by Frontier's closure: where the first one stands. -/
theorem idxF_c {p : Nat → Prop} {v : Value} {xs : List Int} (w : World) (h : IsInts p w v xs) (f : Int → Bool) (pt pa : Value)
    (hP : ∀ W, Below w.heap.size w W → ∀ x ∈ xs, Calls Try.prog 91 #[.int .i64 x, pt, pa] W fun e W' => e = .returned (.bool (f x)) ∧ Below W.heap.size W W') :
    Calls Try.prog 102 #[v, .func (.func 91) #[] #[pt, pa]] w fun e w' => ∃ i : Int, e = .returned (.int .i64 i) ∧ Hid (decide (i ≥ 0) = xs.any f) ∧ Hid (Below w.heap.size w w') := by
  have h0 := h
  obtain ⟨a, cap, rfl, hl, -⟩ := h
  obtain ⟨n, Hn⟩ : ∃ n, Hid (xs.length = n) := ⟨_, (rfl : xs.length = _)⟩
  rw [Hn.out] at h0 hl ⊢
  have H0 := hid_of h0
  have HP := hid_of hP
  have hn := hl.2
  clear h0 hP hl
  go_enter Try.func102, Try.ntmps102
  go_wp2_with fail
  go_loopw [8] (fun s8 wr => ∃ k : Nat, k ≤ n ∧ s8 = .int .i64 k ∧ Hid ((xs.take k).any f = false) ∧ Hid (Below w.heap.size w wr)) (fun s8 _ => n - (intOf s8).toNat)
  case atStart => exact ⟨0, by omega, rfl, by simp [Hid], hid_of (bel_refl w)⟩
  case round =>
    obtain ⟨k, hk, rfl, HA, HB⟩ := hrel
    by_cases hlt : k < n
    · have hkx : k < xs.length := by rw [Hn.out]; exact hlt
      have h1 := H0.out.keep (Keep.below HB.out)
      obtain ⟨_, _, hv, -, hx⟩ := h1
      simp only [Value.slice.injEq] at hv
      obtain ⟨rfl, -, rfl⟩ := hv
      rcases hx with hx | ⟨b, o, rfl, -, hx⟩
      · rw [hx] at hkx; simp at hkx
      have e1 := hx k hkx
      unfold CInt at e1
      rw [Nat.mul_one] at e1
      obtain ⟨x, Hx⟩ : ∃ x, Hid (xs[k] = x) := ⟨_, (rfl : xs[k] = _)⟩
      have HC := hid_of (HP.out wr HB.out xs[k] (List.getElem_mem hkx))
      rw [Hx.out] at e1 HC
      have HS : Hid ((xs.take (k + 1)).any f = f x) := by
        show _ = _
        rw [List.take_succ_eq_append_getElem hkx, List.any_append, HA.out, Hx.out]
        simp
      have hin : f x = true → Hid (xs.any f = true) := fun hh => List.any_eq_true.2 ⟨x, by rw [← Hx.out]; exact List.getElem_mem hkx, hh⟩
      have HIN := hid_of hin
      have hk0 : (0 : Int) ≤ (k : Int) := by omega
      have hkz : (k : Int) < (n : Int) := by omega
      obtain ⟨r, Hr⟩ : ∃ r, Hid (f x = r) := ⟨_, (rfl : f x = _)⟩
      rw [Hr.out] at HC HS HIN
      clear hx hin HA
      go_wp2_with fail
      refine HC.out.mono ?_
      rintro e W2 ⟨rfl, hb2⟩
      have HB2 := hid_of (bel_call HB.out hb2)
      clear HC hb2 e1 HB
      cases r with
      | true =>
        go_wp2_with fail
        go_ret
        refine ⟨_, rfl, ?_, HB2⟩
        show _ = _
        rw [(HIN.out (by trivial)).out]
        simp
      | false =>
        go_wp2_with fail
        go_roundw
        case rel => exact ⟨k + 1, by omega, by go_num, HS, HB2⟩
        case measure => simp [intOf]; omega
    · obtain rfl : k = n := by omega
      have hA := HA.out
      rw [← Hn.out, List.take_length] at hA
      have HA2 := hid_of hA
      clear hA
      go_wp2_with fail
      go_ret
      refine ⟨_, rfl, ?_, HB⟩
      show _ = _
      rw [HA2.out]
      simp

set_option maxRecDepth 100000 in
theorem conF_c {p : Nat → Prop} {v : Value} {xs : List Int} (w : World) (h : IsInts p w v xs) (f : Int → Bool) (pt pa : Value)
    (hP : ∀ W, Below w.heap.size w W → ∀ x ∈ xs, Calls Try.prog 91 #[.int .i64 x, pt, pa] W fun e W' => e = .returned (.bool (f x)) ∧ Below W.heap.size W W') :
    Calls Try.prog 93 #[v, .func (.func 91) #[] #[pt, pa]] w fun e w' => e = .returned (.bool (xs.any f)) ∧ Below w.heap.size w w' := by
  have HI := hid_of (idxF_c w h f pt pa hP)
  obtain ⟨a, cap, rfl, -, -⟩ := h
  clear hP
  obtain ⟨r, Hr⟩ : ∃ r, Hid (xs.any f = r) := ⟨_, (rfl : xs.any f = _)⟩
  rw [Hr.out] at HI ⊢
  go_enter Try.func93, Try.ntmps93
  go_wp2_with fail
  refine HI.out.mono ?_
  rintro e W ⟨i, rfl, hi, hb⟩
  go_wp2_with fail
  go_ret
  exact ⟨by rw [← hi.out]; simp, hb.out⟩

/-- The blocks at which what block a is over ends. -/
def frontB (L : List (List InsD)) (a b : Int) : Bool := decide (b ∈ orderS L) && ((orderS L).any fun p => decide (b ∈ succS L p) && overS L a p) && (decide (a = b) || !overS L a b)
def frontP (L : List (List InsD)) (a : Int) (k : Nat) : List Int := ((List.range k).map fun (i : Nat) => (i : Int)).filter (frontB L a)
theorem frontP_succ (L : List (List InsD)) (a : Int) (k : Nat) : frontP L a (k + 1) = frontP L a k ++ if frontB L a k then [(k : Int)] else [] := by
  unfold frontP
  rw [List.range_succ, List.map_append, List.filter_append, List.map_singleton]
  congr 1
  cases h : frontB L a (k : Int) <;> simp [h]
theorem frontP_length (L : List (List InsD)) (a : Int) (k : Nat) : (frontP L a k).length ≤ k := by
  unfold frontP
  exact Nat.le_trans (List.length_filter_le _ _) (by simp)
theorem any_pred {L : List (List InsD)} {R : List (List Int)} (h : PredOk L R) (a : Int) {b : Nat} (hb : b < L.length) : (R.getD b []).any (overS L a) = (orderS L).any fun p => decide ((b : Int) ∈ succS L p) && overS L a p := by
  have hm := fun p => h (b : Int) p (by omega) (by omega)
  simp only [Int.toNat_natCast] at hm
  rw [Bool.eq_iff_iff, List.any_eq_true, List.any_eq_true]
  constructor
  · rintro ⟨p, hp, ho⟩
    obtain ⟨h1, h2⟩ := (hm p).1 hp
    exact ⟨p, h1, by simp [h2, ho]⟩
  · rintro ⟨p, hp, ho⟩
    rw [Bool.and_eq_true, decide_eq_true_eq] at ho
    exact ⟨p, (hm p).2 ⟨hp, ho.1⟩, ho.2⟩

set_option maxRecDepth 100000 in
theorem closF_c {B t g0 g5 : Nat} {L : List (List InsD)} {R : List (List Int)} {D : List (List Nat)} {tp : TypeId} (w : World) (h : TreeAt B t L R D w) (hl : L.length ≤ 1000) (a p : Int) (h5 : Row w g5 tp [.pointer (some ⟨t, 0, none⟩)]) (h0 : Row w g0 3 [.int .i64 a]) :
    Calls Try.prog 91 #[.int .i64 p, .pointer (some ⟨g5, 0, none⟩), .pointer (some ⟨g0, 0, none⟩)] w fun e w' => e = .returned (.bool (overS L a p)) ∧ Below w.heap.size w w' := by
  have c5 := h5.cell (k := 0) (v := .pointer (some ⟨t, 0, none⟩)) rfl
  have c0 := h0.cell (k := 0) (v := .int .i64 a) rfl
  have HO := hid_of (over_t w h hl a p)
  clear h h5 h0
  go_enter Try.func91, Try.ntmps91
  go_wp2_with fail
  refine HO.out.mono ?_
  rintro e W ⟨rfl, hb⟩
  go_wp2_with fail
  go_ret
  exact ⟨rfl, hb⟩

set_option maxRecDepth 100000 in
set_option maxHeartbeats 8000000 in
theorem frontier_c {a : Option Addr} {n cap : Nat} (w : World) {L : List (List InsD)} (h : IsBlocks (· < w.heap.size) w (.slice a n cap) L) (hl : n ≤ 1000) (x : Int) :
    Calls Try.prog 53 #[.slice a n cap, .int .i64 x] w fun e w' => ∃ z, e = .returned z ∧ w'.ownsRow w.heap.size 3 1 z (frontP L x L.length).length (ints (frontP L x L.length)) ∧ Below w.heap.size w w' := by
  have hnL : n = L.length := by obtain ⟨_, _, hv0, hl0, hx⟩ := id h; simp only [Value.slice.injEq] at hv0; exact hv0.2.1
  have HNL := hid_of hnL
  have hb0 := bel_alloc (bel_refl w) (.cells #[.int .i64 x] 3)
  have HOf := hid_of (tree_of (w.alloc (.cells #[.int .i64 x] 3)) (h.keep (fun b hb hlt => ⟨by simp; omega, hb0.block b hlt⟩)) hl)
  have r0 : Row (w.alloc (.cells #[.int .i64 x] 3)) w.heap.size 3 [.int .i64 x] := heap_alloc_eq _ _ _ rfl
  have H0 := hid_of r0
  have HB0 := hid_of hb0
  clear hnL h hb0 r0
  rw [← HNL.out]
  go_enter Try.func53, Try.ntmps53
  go_wp2_with fail
  refine HOf.out.mono ?_
  rintro e W1 ⟨t, R, D, rfl, hT, hb1⟩
  have hb2 := bel_alloc (bel_refl W1) (.cells #[.pointer (some ⟨t, 0, none⟩)] 99)
  have HT := hid_of (hT.below hb2)
  have H5 : Hid (Row (W1.alloc (.cells #[.pointer (some ⟨t, 0, none⟩)] 99)) W1.heap.size 99 [.pointer (some ⟨t, 0, none⟩)]) := heap_alloc_eq _ _ _ rfl
  have hr0 := (H0.out.keep (hb1.block w.heap.size H0.out.lt)).keep (hb2.block _ (by have := hb1.size; simp at this; omega))
  have HR0 := hid_of hr0
  have HB2 := hid_of (bel_call (bel_call HB0.out hb1) hb2)
  clear HOf hT hb1 hb2 H0 HB0 hr0
  obtain ⟨W2, HW2⟩ : ∃ W2, Hid (W1.alloc (.cells #[.pointer (some ⟨t, 0, none⟩)] 99) = W2) := ⟨_, (rfl : W1.alloc (.cells #[.pointer (some ⟨t, 0, none⟩)] 99) = _)⟩
  rw [HW2.out] at HT H5 HR0 HB2
  go_wp2_with fail
  go_loopw [6, 13] (fun s6 s13 wx => ∃ k : Nat, k ≤ n ∧ s13 = .int .i64 k ∧ Hid (wx.ownsRow W2.heap.size 3 1 s6 (frontP L x k).length (ints (frontP L x k))) ∧ Hid (Below W2.heap.size W2 wx)) (fun _ s13 _ => n - (intOf s13).toNat)
  case atStart => exact ⟨0, by omega, rfl, World.ownsRow_nil _ _ _ _, by rw [← HW2.out]; exact bel_refl _⟩
  case round =>
    obtain ⟨k, hk, rfl, HO, HB⟩ := hrel
    by_cases hlt : k < n
    ·
      have hkl : k < L.length := by rw [← HNL.out]; exact hlt
      have hll : L.length ≤ 1000 := by rw [← HNL.out]; exact hl
      have hRe := fun W (hW : Below W2.heap.size W2 W) => reached_t W (HT.out.below hW) (k : Int)
      have hOv := fun W (hW : Below W2.heap.size W2 W) => over_t W (HT.out.below hW) hll x (k : Int)
      have hCl := fun W (hW : Below W2.heap.size W2 W) p => closF_c W (HT.out.below hW) hll x p (H5.out.keep (hW.block _ H5.out.lt)) (HR0.out.keep (hW.block _ HR0.out.lt))
      obtain ⟨ord, vp, vo, h1, h2, -⟩ := HT.out.row
      have hRl : R.length = n := by rw [HT.out.len, HNL.out]
      obtain ⟨pa, pc, rfl, -, hx⟩ := id h2
      rw [hRl] at h1
      have hkR : k < R.length := by rw [hRl]; exact hlt
      rcases hx with hx | ⟨pb, po, rfl, -, hx⟩
      · rw [hx] at hkR; simp at hkR
      obtain ⟨v, q1, hv⟩ := hx k hkR
      rw [Nat.mul_one] at q1
      obtain ⟨ra, rc, rfl, -, -⟩ := id hv
      have eR : R[k] = R.getD k [] := by simp [List.getD, hkR]
      obtain ⟨rl, Hrl⟩ : ∃ rl, Hid (R[k].length = rl) := ⟨_, (rfl : R[k].length = _)⟩
      rw [Hrl.out] at hv q1
      have hAn := any_pred HT.out.pr x hkl
      rw [← eR] at hAn
      obtain ⟨rb, Hrb⟩ : ∃ rb, Hid (decide ((k : Int) ∈ orderS L) = rb) := ⟨_, (rfl : decide ((k : Int) ∈ orderS L) = _)⟩
      obtain ⟨ab, Hab⟩ : ∃ ab, Hid (((orderS L).any fun p => decide ((k : Int) ∈ succS L p) && overS L x p) = ab) := ⟨_, (rfl : ((orderS L).any fun p => decide ((k : Int) ∈ succS L p) && overS L x p) = _)⟩
      obtain ⟨ob, Hob⟩ : ∃ ob, Hid (overS L x (k : Int) = ob) := ⟨_, (rfl : overS L x (k : Int) = _)⟩
      obtain ⟨eb, Heb⟩ : ∃ eb, Hid (decide (x = (k : Int)) = eb) := ⟨_, (rfl : decide (x = (k : Int)) = _)⟩
      have HF : Hid (frontP L x (k + 1) = frontP L x k ++ if (rb && ab && (eb || !ob)) then [(k : Int)] else []) := by
        show _ = _
        rw [frontP_succ]
        unfold frontB
        rw [Hrb.out, Hab.out, Hob.out, Heb.out]
      have hCo : ∀ W, Below W2.heap.size W2 W → Calls Try.prog 93 #[.slice ra rl rc, .func (.func 91) #[] #[.pointer (some ⟨W1.heap.size, 0, none⟩), .pointer (some ⟨w.heap.size, 0, none⟩)]] W fun e W' => e = .returned (.bool ab) ∧ Below W.heap.size W W' := fun W hW => by
        refine (conF_c W (hv.keep (p' := fun _ => True) (fun b hb hlt => ⟨trivial, hW.block b hlt⟩)) (overS L x) _ _ (fun X hX p _ => hCl X (bel_call hW hX) p)).mono ?_
        rintro e W' ⟨rfl, hb⟩
        rw [hAn, Hab.out]
        exact ⟨rfl, hb⟩
      rw [Hrb.out] at hRe
      rw [Hob.out] at hOv
      have HRe := hid_of hRe
      have HOv := hid_of hOv
      have HCo := hid_of hCo
      have HT1 := hid_of h1
      have Q1 := hid_of q1
      have hEq : (x == (k : Int)) = eb := by rw [← Heb.out]; rfl
      have hk0 : (0 : Int) ≤ (k : Int) := by omega
      have hkz : (k : Int) < (n : Int) := by omega
      have hfl := frontP_length L x k
      have HC0 := hid_of (HRe.out wr HB.out)
      have hB := HB.out
      have k5 := (H5.out.keep (hB.block _ H5.out.lt)).cell (k := 0) (v := .pointer (some ⟨t, 0, none⟩)) rfl
      have k0 := (HR0.out.keep (hB.block _ HR0.out.lt)).cell (k := 0) (v := .int .i64 x) rfl
      have k1 := (HT1.out.keep (hB.block _ HT1.out.lt)).cell (k := 1) (v := .slice (some ⟨pb, po, none⟩) n pc) rfl
      have kq := (World.cell?_of_block (a := ⟨pb, po + k, none⟩) (hB.block pb (lt_of_cell Q1.out))).trans Q1.out
      clear hRe hOv hCl hCo h1 h2 hx hv q1 eR hRl hAn hkl hll hB
      go_wp2_with fail
      refine HC0.out.mono ?_
      rintro e W3 ⟨rfl, hb3⟩
      have hB3 := bel_call HB.out hb3
      clear k5 k0 k1 kq HC0
      have HO3 := hid_of (owns_below HO.out hb3)
      cases rb with
      | false =>
        have HBF := hid_of hB3
        clear hB3
        go_wp2_with fail
        go_roundw
        case rel => exact ⟨k + 1, by omega, by go_num, by rw [HF.out]; simpa using HO3, HBF⟩
        case measure => simp [intOf]; omega
      | true =>
        have HC1 := hid_of (HCo.out W3 hB3)
        have k5 := (H5.out.keep (hB3.block _ H5.out.lt)).cell (k := 0) (v := .pointer (some ⟨t, 0, none⟩)) rfl
        have k0 := (HR0.out.keep (hB3.block _ HR0.out.lt)).cell (k := 0) (v := .int .i64 x) rfl
        have k1 := (HT1.out.keep (hB3.block _ HT1.out.lt)).cell (k := 1) (v := .slice (some ⟨pb, po, none⟩) n pc) rfl
        have kq := (World.cell?_of_block (a := ⟨pb, po + k, none⟩) (hB3.block pb (lt_of_cell Q1.out))).trans Q1.out
        go_wp2_with fail
        refine HC1.out.mono ?_
        rintro e W4 ⟨rfl, hb4⟩
        have hB4 := bel_call hB3 hb4
        clear k5 k0 k1 kq HC1
        have HO4 := hid_of (owns_below HO3.out hb4)
        clear hb4 hb3 hB3
        cases ab with
        | false =>
          have HBF := hid_of hB4
          clear hB4
          go_wp2_with fail
          go_roundw
          case rel => exact ⟨k + 1, by omega, by go_num, by rw [HF.out]; simpa using HO4, HBF⟩
          case measure => simp [intOf]; omega
        | true =>
          have k5 := (H5.out.keep (hB4.block _ H5.out.lt)).cell (k := 0) (v := .pointer (some ⟨t, 0, none⟩)) rfl
          have k0 := (HR0.out.keep (hB4.block _ HR0.out.lt)).cell (k := 0) (v := .int .i64 x) rfl
          have k1 := (HT1.out.keep (hB4.block _ HT1.out.lt)).cell (k := 1) (v := .slice (some ⟨pb, po, none⟩) n pc) rfl
          have kq := (World.cell?_of_block (a := ⟨pb, po + k, none⟩) (hB4.block pb (lt_of_cell Q1.out))).trans Q1.out
          cases eb with
          | true =>
            have HKK := hid_of hB4
            have HBF := hid_of hB4
            have hs2 := hB4.size
            clear hB4
            obtain ⟨fp, Hfp⟩ : ∃ fp, Hid (frontP L x k = fp) := ⟨_, (rfl : frontP L x k = _)⟩
            have ho := HO4.out
            rw [Hfp.out] at ho hfl
            go_wp2_with (at_builtin; refine stop_here ?_)
            refine stop_go (app_int rfl _ _ rfl W2.heap.size u6 fp rfl (ho.alloc _) _ (k : Int) rfl (heap_alloc_eq _ _ _ rfl) (by omega) (by simp; omega) ?_)
            intro v' w' ho' hg hv'
            have HBE := hid_of (bel_grown (bel_alloc HBF.out _) hg (fun b hb => (ho.lt b hb).1))
            have HOE : Hid (w'.ownsRow W2.heap.size 3 1 v' (frontP L x (k + 1)).length (ints (frontP L x (k + 1)))) := by
              rw [HF.out, Hfp.out]
              have h9 := ho'
              show World.ownsRow _ _ _ _ _ _ _
              simpa [ints] using h9
            clear ho ho' hg hv'
            go_wp2_with fail
            go_roundw
            case rel => exact ⟨k + 1, by omega, by go_num, HOE, HBE⟩
            case measure => simp [intOf]; omega
          | false =>
            have HC2 := hid_of (HOv.out W4 hB4)
            go_wp2_with fail
            refine HC2.out.mono ?_
            rintro e W5 ⟨rfl, hb5⟩
            have hB5 := bel_call hB4 hb5
            clear k5 k0 k1 kq HC2
            have HO5 := hid_of (owns_below HO4.out hb5)
            clear hb5 hB4
            cases ob with
            | true =>
              have HBF := hid_of hB5
              clear hB5
              go_wp2_with fail
              go_roundw
              case rel => exact ⟨k + 1, by omega, by go_num, by rw [HF.out]; simpa using HO5, HBF⟩
              case measure => simp [intOf]; omega
            | false =>
              have HBF := hid_of hB5
              have hs2 := hB5.size
              clear hB5
              obtain ⟨fp, Hfp⟩ : ∃ fp, Hid (frontP L x k = fp) := ⟨_, (rfl : frontP L x k = _)⟩
              have ho := HO5.out
              rw [Hfp.out] at ho hfl
              go_wp2_with (at_builtin; refine stop_here ?_)
              refine stop_go (app_int rfl _ _ rfl W2.heap.size u6 fp rfl (ho.alloc _) _ (k : Int) rfl (heap_alloc_eq _ _ _ rfl) (by omega) (by simp; omega) ?_)
              intro v' w' ho' hg hv'
              have HBE := hid_of (bel_grown (bel_alloc HBF.out _) hg (fun b hb => (ho.lt b hb).1))
              have HOE : Hid (w'.ownsRow W2.heap.size 3 1 v' (frontP L x (k + 1)).length (ints (frontP L x (k + 1)))) := by
                rw [HF.out, Hfp.out]
                have h9 := ho'
                show World.ownsRow _ _ _ _ _ _ _
                simpa [ints] using h9
              clear ho ho' hg hv'
              go_wp2_with fail
              go_roundw
              case rel => exact ⟨k + 1, by omega, by go_num, HOE, HBE⟩
              case measure => simp [intOf]; omega
    · obtain rfl : k = n := by omega
      go_wp2_with fail
      go_ret
      exact ⟨_, rfl, owns_mono HO.out HB2.out.size, bel_call HB2.out HB.out⟩
end
end Go.Proofs.Ytcihobmjohpnkaa
