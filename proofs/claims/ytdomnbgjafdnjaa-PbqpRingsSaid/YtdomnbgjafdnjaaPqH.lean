/- A matrix with rows and columns exchanged. -/
import Derived.Test.YtdomnbgjafdnjaaPqG
namespace Go.Proofs.Ytdomnbgjafdnjaa
open Go.RowKit

/-- A matrix of m columns turned: behind r rows, and k columns of row r. -/
def turnP (M : List (List Int)) (m r k : Nat) : List (List Int) := (List.range m).map fun j => (M.take (if j < k then r + 1 else r)).map fun l => l.getD j 0
def turnS (M : List (List Int)) (m : Nat) : List (List Int) := (List.range m).map fun j => M.map fun l => l.getD j 0
theorem turnP_length (M : List (List Int)) (m r k : Nat) : (turnP M m r k).length = m := by simp [turnP]
theorem turnP_zero (M : List (List Int)) (m : Nat) : turnP M m 0 0 = List.replicate m [] := by
  refine List.ext_getElem (by simp [turnP]) fun j h1 h2 => by simp [turnP]
theorem turnP_next (M : List (List Int)) (m r : Nat) : turnP M m r m = turnP M m (r + 1) 0 := by
  refine List.ext_getElem (by simp [turnP]) fun j h1 h2 => ?_
  have : j < m := by simpa [turnP] using h1
  simp [turnP, this]
theorem turnP_all (M : List (List Int)) (m : Nat) : turnP M m M.length 0 = turnS M m := by
  refine List.ext_getElem (by simp [turnP, turnS]) fun j h1 h2 => by simp [turnP, turnS]
theorem turnP_get {M : List (List Int)} {m r k : Nat} (hk : k < m) : (turnP M m r k).getD k [] = (M.take r).map fun l => l.getD k 0 := by
  simp [turnP, List.getD, hk]
theorem turnP_set {M : List (List Int)} {m r k : Nat} (_ : k < m) (hr : r < M.length) : (turnP M m r k).set k (((M.take r).map fun l => l.getD k 0) ++ [(M.getD r []).getD k 0]) = turnP M m r (k + 1) := by
  refine List.ext_getElem (by simp [turnP]) fun j h1 h2 => ?_
  rw [List.getElem_set]
  by_cases e : k = j
  · subst e
    rw [if_pos rfl]
    simp only [turnP, List.getElem_map, List.getElem_range]
    rw [if_pos (by omega), List.take_succ_eq_append_getElem hr, List.map_append]
    simp [List.getD, hr]
  · rw [if_neg e]
    simp only [turnP, List.getElem_map, List.getElem_range]
    by_cases hj : j < k
    · rw [if_pos hj, if_pos (by omega)]
    · rw [if_neg hj, if_neg (by omega)]

/-- A row of vectors, each in a block of its own. -/
structure MatO (B : Nat) (own : Nat → Nat) (ob : Nat) (Ls : List (List Int)) (vals : List Value) (W : World) : Prop where
  row : Row W ob 71 vals
  len : vals.length = Ls.length
  el : ∀ j (_ : j < vals.length), W.ownsRow B 3 1 vals[j] (Ls.getD j []).length (ints (Ls.getD j []))
  ap : ∀ j (_ : j < vals.length) b, vals[j].ownBlock = some b → b ≠ ob ∧ own b = j
theorem getDL_set {I : List (List Int)} (b k : Nat) (x : List Int) : (I.set b x).getD k [] = if b = k ∧ k < I.length then x else I.getD k [] := by
  rw [List.getD_eq_getElem?_getD, List.getElem?_set, List.getD_eq_getElem?_getD]
  by_cases h1 : b = k
  · by_cases h2 : k < I.length
    · subst h1; simp [h2]
    · subst h1; simp [h2]
  · simp [h1]
theorem MatO.made {X : World} {n : Nat} : MatO X.heap.size (fun _ => 0) X.heap.size (List.replicate n []) (List.replicate n (.slice none 0 0)) (X.alloc (.cells (List.replicate n (Value.slice none 0 0)).toArray 71)) := by
  refine ⟨heap_alloc_eq _ _ _ rfl, by simp, fun j hj => ?_, fun j hj b hb => ?_⟩
  · have e : (List.replicate n ([] : List Int)).getD j [] = [] := by rw [List.getD_eq_getElem?_getD, List.getElem?_replicate]; split <;> rfl
    rw [List.getElem_replicate, e]
    exact World.ownsRow_nil _ _ _ _
  · rw [List.getElem_replicate] at hb
    simp [Value.ownBlock] at hb
theorem MatO.push {B ob k : Nat} {own : Nat → Nat} {Ls : List (List Int)} {vals : List Value} {W Y w1 : World} {v' : Value} {l : List Int} (h : MatO B own ob Ls vals W) (hk : k < vals.length) (hB : B ≤ ob) (hY : Below W.heap.size W Y)
    (ho : w1.ownsRow B 3 1 v' l.length (ints l)) (hg : Y.grownBy w1 vals[k].ownBlock) (hat : v'.ownBlock = vals[k].ownBlock ∨ v'.ownBlock = some Y.heap.size) :
    w1.cell? ⟨ob, k, none⟩ = some vals[k] ∧ w1.frozen? ⟨ob, k, none⟩ = false ∧ MatO B (fun b => if b < W.heap.size then own b else k) ob (Ls.set k l) (vals.set k v') (w1.setCell ⟨ob, k, none⟩ v') ∧
      (∀ B0 w0, Below B0 w0 W → B0 ≤ B → Below B0 w0 (w1.setCell ⟨ob, k, none⟩ v')) := by
  have hys := hY.size
  have hol := h.row.lt
  have hub : ∀ j (hj : j < vals.length) b, vals[j].ownBlock = some b → B ≤ b ∧ b < W.heap.size := fun j hj b hb => (h.el j hj).lt b hb
  have hob : some ob ≠ vals[k].ownBlock := fun e => (h.ap k hk ob e.symm).1 rfl
  have k1 : ∀ b, b < W.heap.size → some b ≠ vals[k].ownBlock → w1.heap[b]? = W.heap[b]? := fun b hb hn => (hg.block b (by omega) hn).trans (hY.block b hb)
  have k3 : ∀ b, b ≠ ob → (w1.setCell ⟨ob, k, none⟩ v').heap[b]? = w1.heap[b]? := fun b hb => Below.heap_setCell _ _ _ _ hb
  have hrow := h.row.keep (k1 ob hol hob)
  have hvb : ∀ b, v'.ownBlock = some b → b ≠ ob ∧ (if b < W.heap.size then own b else k) = k := fun b hb => by
    rcases hat with e | e
    · rw [e] at hb
      have h1 := h.ap k hk b hb
      have h2 := (hub k hk b hb).2
      rw [if_pos h2]
      exact h1
    · rw [e] at hb
      have : Y.heap.size = b := by simpa using hb
      rw [if_neg (by omega)]
      exact ⟨by omega, rfl⟩
  refine ⟨hrow.cell (by simp [hk]), hrow.frozen k, ⟨hrow.set k v', by simp [h.len], fun j hj => ?_, fun j hj b hb => ?_⟩, fun B0 w0 hb0 hBB => ?_⟩
  · have hj' : j < vals.length := by simpa using hj
    rw [List.getElem_set, getDL_set]
    by_cases e : k = j
    · subst e
      rw [if_pos rfl, if_pos ⟨rfl, by have := h.len; omega⟩]
      refine ho.kept (kept_set ⟨ob, k, none⟩ v') ?_
      cases hvo : v'.ownBlock with
      | none => exact .inl rfl
      | some b => exact .inr fun e2 => (hvb b hvo).1 (by simpa using e2)
    · rw [if_neg e, if_neg (by omega)]
      have h1 : w1.ownsRow B 3 1 vals[j] (Ls.getD j []).length (ints (Ls.getD j [])) := by
        refine (owns_below (h.el j hj') hY).kept hg ?_
        cases hvo : vals[j].ownBlock with
        | none => exact .inl rfl
        | some b => exact .inr fun e2 => by have a1 := (h.ap j hj' b hvo).2; have a2 := (h.ap k hk b e2.symm).2; omega
      refine h1.kept (kept_set ⟨ob, k, none⟩ v') ?_
      cases hvo : vals[j].ownBlock with
      | none => exact .inl rfl
      | some b => exact .inr fun e2 => (h.ap j hj' b hvo).1 (by simpa using e2)
  · have hj' : j < vals.length := by simpa using hj
    rw [List.getElem_set] at hb
    by_cases e : k = j
    · subst e
      rw [if_pos rfl] at hb
      exact hvb b hb
    · rw [if_neg e] at hb
      have h1 := h.ap j hj' b hb
      have h2 := (hub j hj' b hb).2
      exact ⟨h1.1, by show (if b < W.heap.size then own b else k) = j; rw [if_pos h2]; exact h1.2⟩
  · refine Below.setCell (Below.grown (hb0.trans (hY.mono (by omega))) hg (by omega) (fun b e => by have := (hub k hk b e).1; omega)) (by show B0 ≤ ob; omega) _
/-- 'make(matrix, n)'. -/
theorem mk_mat {ops : Array Oper} {rest : List Oper} {o : Oper} {a : Act} {Q : Exit → Act → World → Prop} {W : World}
    (hgd : o.guard = none) (l c : Operand) (hop : o.op = Op.makeSlice 68 l c) (n : Nat) (hl : a.eval l = .int .i64 n) (hc : a.eval c = .int .i64 n) (hn : n ≤ 1000000)
    (h : wpList Try.prog ops Q rest (a.put o.dst (.slice (some ⟨W.heap.size, 0, none⟩) n n)) (W.alloc (.cells (List.replicate n (Value.slice none 0 0)).toArray 71))) :
    wpList Try.prog ops Q (o :: rest) a W := by
  obtain ⟨i0, hi, hz0, hz1, hz2⟩ := info_parts infoVec
  exact wp_make1 W hgd l c 68 hop 71 i0 _ (.slice none 0 0) 24 Try.underlying68 hi hz0 hz1 hz2 rfl n hl hc (by omega) (by omega) h

set_option maxRecDepth 100000 in
set_option maxHeartbeats 8000000 in
theorem turned_c {p : Nat → Prop} (W : World) {a : Option Addr} {n c m : Nat} {M : List (List Int)} (hM : IsRows p W (.slice a n c) M) (hp : ∀ b, p b → b < W.heap.size) (h0 : 0 < n) (hm : ∀ r, r < n → (M.getD r []).length = m) (hn : n ≤ 300) (hm2 : m ≤ 300) :
    Calls Try.prog 40 #[.slice a n c] W fun e w' => ∃ ob own vals, e = .returned (.slice (some ⟨ob, 0, none⟩) m m) ∧ W.heap.size ≤ ob ∧ MatO W.heap.size own ob (turnS M m) vals w' ∧ Below W.heap.size W w' := by
  have HNL := hid_of (sl_len hM).1
  have HM : Hid (∀ X, Below W.heap.size W X → IsRows p X (.slice a n c) M) := fun X hX => hM.keep (fun b hb hlt => ⟨hb, hX.block b (hp b hb)⟩)
  have HLM := hid_of hm
  obtain ⟨b0, o0, a0, n0, c0, ha0, -, k0, -, hn0, -⟩ := rows_at2 hM (show 0 < M.length by have := HNL.out; omega)
  have hn0m : n0 = m := by rw [hn0]; exact hm 0 h0
  subst hn0m
  rw [Nat.add_zero] at k0
  subst ha0
  have h00 : (0 : Int) < (n : Int) := by omega
  clear hM hm hn0
  go_enter Try.func40, Try.ntmps40
  go_wp2_with (at_make; refine stop_here ?_)
  refine stop_go (mk_mat rfl _ _ rfl n0 rfl rfl (by omega) ?_)
  refine k_at (fun X => ∃ own vals, MatO W.heap.size own W.heap.size (turnP M n0 0 0) vals X ∧ Below W.heap.size W X ∧ W.heap.size < X.heap.size) ⟨_, _, by rw [turnP_zero]; exact MatO.made, bel_alloc (bel_refl W) _, by simp⟩ ?_
  rintro X ⟨own, vals, hX, hbX, hsX⟩
  have HX0 : Hid (∃ own vals, MatO W.heap.size own W.heap.size (turnP M n0 0 0) vals X ∧ Below W.heap.size W X ∧ W.heap.size < X.heap.size) := ⟨own, vals, hX, hbX, hsX⟩
  obtain ⟨ob, Hob⟩ : ∃ ob, Hid (W.heap.size = ob) := ⟨_, (rfl : W.heap.size = _)⟩
  clear hX hbX hsX k0
  rw [Hob.out] at HX0 ⊢
  go_wp2_with fail
  go_loopw [15] (fun s15 wx => ∃ r : Nat, r ≤ n ∧ s15 = .int .i64 r ∧ Hid (∃ own vals, MatO ob own ob (turnP M n0 r 0) vals wx ∧ Below ob W wx ∧ ob < wx.heap.size)) (fun s15 _ => n - (intOf s15).toNat)
  case atStart => exact ⟨0, by omega, rfl, HX0⟩
  case round =>
    obtain ⟨r, hr, rfl, HS⟩ := hrel
    clear HX0
    by_cases hrt : r < n
    · have hrx : r < M.length := by have := HNL.out; omega
      have hbr : Below W.heap.size W wr := by obtain ⟨_, _, _, h, _⟩ := HS.out; rw [Hob.out]; exact h
      obtain ⟨b1, o1, a3, n3, c3, hab, -, ck, hi, hn3, -⟩ := rows_at2 (HM.out wr hbr) hrx
      simp only [Option.some.injEq, Addr.mk.injEq, and_true] at hab
      obtain ⟨rfl, rfl⟩ := hab
      have hn30 : n3 = n0 := by rw [hn3]; exact HLM.out r hrt
      subst hn30
      obtain ⟨LL, HLL⟩ : ∃ LL, Hid (M.getD r [] = LL) := ⟨_, (rfl : M.getD r [] = _)⟩
      rw [HLL.out] at hi hn3
      have HIL : Hid (∀ X, Below W.heap.size W X → IsInts p X (.slice a3 n3 c3) LL) := fun X hX => by
        have hk : Keep p p wr X := fun b hb hlt => ⟨hb, (hX.block b (hp b hb)).trans (hbr.block b (hp b hb)).symm⟩
        exact hi.keep hk
      have HN3 := hid_of hn3
      have hrz : (r : Int) < (n : Int) := by omega
      clear hi hn3 hbr
      go_wp2_with fail
      clear ck
      go_loopw [21] (fun s21 wx => ∃ k : Nat, k ≤ n3 ∧ s21 = .int .i64 k ∧ Hid (∃ own vals, MatO ob own ob (turnP M n3 r k) vals wx ∧ Below ob W wx ∧ ob < wx.heap.size)) (fun s21 _ => n3 - (intOf s21).toNat)
      case atStart => exact ⟨0, by omega, rfl, HS⟩
      case round =>
        obtain ⟨k, hk, rfl, HK⟩ := hrel
        clear HS
        by_cases hkt : k < n3
        · obtain ⟨own, vals, hMO, hbl, hol⟩ := HK.out
          have hvl : k < vals.length := by rw [hMO.len, turnP_length]; exact hkt
          obtain ⟨lb, lo, rfl, -, cl⟩ := ints_at (HIL.out wr (by rw [Hob.out]; exact hbl)) (show k < LL.length by have := HN3.out; omega)
          have hel := hMO.el k hvl
          rw [turnP_get hkt] at hel
          have hset := turnP_set (r := r) hkt hrx
          rw [HLL.out] at hset
          obtain ⟨x, Hx⟩ : ∃ x, Hid (LL.getD k 0 = x) := ⟨_, (rfl : LL.getD k 0 = _)⟩
          rw [Hx.out] at cl hset
          obtain ⟨l, Hl⟩ : ∃ l, Hid ((M.take r).map (fun l => l.getD k 0) = l) := ⟨_, (rfl : (M.take r).map (fun l => l.getD k 0) = _)⟩
          rw [Hl.out] at hel hset
          have hll : l.length ≤ 300 := by rw [← Hl.out]; simp; omega
          obtain ⟨lq, Hlq⟩ : ∃ lq, Hid (l.length = lq) := ⟨_, (rfl : l.length = _)⟩
          rw [Hlq.out] at hel hll
          obtain ⟨u, Hu⟩ : ∃ u, Hid (vals[k] = u) := ⟨_, (rfl : vals[k] = _)⟩
          rw [Hu.out] at hel
          have cu := hMO.row.cell (k := k) (v := u) (by rw [← Hu.out]; simp [hvl])
          obtain ⟨ua, uc, rfl, -⟩ := owns_slice hel
          have HEL := hid_of hel
          have HSET := hid_of hset
          have HMO := hid_of hMO
          have HBL := hid_of hbl
          have HAP : Hid (((ints l).length + 1) * 8 ≤ 140737488355328 ∧ (ints l).length + 1 ≤ maxLen) := by
            have : (ints l).length = lq := by rw [← Hlq.out]; simp
            rw [this]; exact ⟨by omega, by unfold maxLen; omega⟩
          have hkz : (k : Int) < (n3 : Int) := by omega
          have HVL := hid_of hvl
          clear hMO hbl hel hset hll HK
          go_wp2_with (at_builtin; refine stop_here ?_)
          refine stop_go (app_cell 71 3 (.int .i64 0) 8 Try.underlying71 infoInt rfl rfl _ _ rfl ob (.slice ua lq uc) (ints l) rfl (owns_below (show wr.ownsRow ob 3 1 (.slice ua lq uc) (ints l).length (ints l) by rw [show (ints l).length = lq by rw [← Hlq.out]; simp]; exact HEL.out) (bel_alloc (bel_refl wr) _)) _ (.int .i64 x) rfl rfl (heap_alloc_eq _ _ _ rfl) HAP.out.1 HAP.out.2 (by simp; omega) ?_)
          intro v' w' ho hgr hv
          have ho2 : w'.ownsRow ob 3 1 v' (l ++ [x]).length (ints (l ++ [x])) := by
            have e1 : (ints l ++ [Value.int .i64 x]).length = (l ++ [x]).length := by simp
            have e2 : ints l ++ [Value.int .i64 x] = ints (l ++ [x]) := by simp [ints]
            rw [e1, e2] at ho
            exact ho
          obtain ⟨u1, u2, u3, u4⟩ := HMO.out.push HVL.out (Nat.le_refl _) (bel_alloc (bel_refl wr) (.cells #[.int .i64 x] 3)) ho2 (by rw [Hu.out]; exact hgr) (by rw [Hu.out]; exact hv)
          rw [HSET.out] at u3
          rw [Hu.out] at u1
          have hb4 := u4 ob W HBL.out (Nat.le_refl _)
          have HU : Hid (∃ own vals, MatO ob own ob (turnP M n3 r (k + 1)) vals (w'.setCell ⟨ob, k, none⟩ v') ∧ Below ob W (w'.setCell ⟨ob, k, none⟩ v') ∧ ob < (w'.setCell ⟨ob, k, none⟩ v').heap.size) := ⟨_, _, u3, hb4, u3.row.lt⟩
          obtain ⟨lq1, Hq1⟩ : ∃ lq1, Hid ((l ++ [x]).length = lq1) := ⟨_, (rfl : (l ++ [x]).length = _)⟩
          have ho3 := ho2
          rw [Hq1.out] at ho3
          obtain ⟨va, vc, rfl, -⟩ := owns_slice ho3
          clear ho ho2 ho3 hgr hv u3 u4 hb4 cl cu HEL HMO HBL HAP
          go_wp2_with fail
          go_roundw
          case rel => exact ⟨k + 1, by omega, by go_num, HU⟩
          case measure => simp [intOf]; omega
        · obtain rfl : k = n3 := by omega
          have HN : Hid (∃ own vals, MatO ob own ob (turnP M k (r + 1) 0) vals wr ∧ Below ob W wr ∧ ob < wr.heap.size) := by
            obtain ⟨own, vals, h1, h2, h3⟩ := HK.out
            exact ⟨own, vals, by rw [← turnP_next]; exact h1, h2, h3⟩
          go_wp2_with fail
          go_roundw
          case rel => exact ⟨r + 1, by omega, by go_num, HN⟩
          case measure => simp [intOf]; omega
    · obtain rfl : r = n := by omega
      obtain ⟨own, vals, h1, h2, h3⟩ := HS.out
      rw [HNL.out, turnP_all] at h1
      have H1 := hid_of h1
      have H2 := hid_of h2
      clear h1 h2 h3
      go_wp2_with fail
      go_ret
      rw [Hob.out]
      exact ⟨ob, own, vals, rfl, Nat.le_refl _, H1.out, H2.out⟩
end Go.Proofs.Ytdomnbgjafdnjaa
