/- Matrices whose rows lie apart: two are added; one is made by appends. -/
import Derived.Test.YtdomnbgjafdnjaaPqRw
import Derived.Test.YtdomnbgjafdnjaaPqU
import Derived.Test.YtdomnbgjafdnjaaPqN
import Derived.Deep.RegionLaw
namespace Go.Proofs.Ytdomnbgjafdnjaa
open Go.RowKit Go.Maps Go.ChangeMaps

structure MxAt (p : Nat → Prop) (W : World) (ob n c : Nat) (rb rc : Nat → Nat) (M : List (List Int)) : Prop where
  len : M.length = n
  cap : n ≤ c
  nb : n ≤ 300
  pos : 0 < n
  po : p ob
  row : ∀ i, i < n → W.cell? ⟨ob, i, none⟩ = some (.slice (some ⟨rb i, 0, none⟩) (M.getD i []).length (rc i))
  rcap : ∀ i, i < n → (M.getD i []).length ≤ rc i ∧ (M.getD i []).length ≤ 300
  rp : ∀ i, i < n → RowP W (rb i) 3 (ints (M.getD i []))
  pr : ∀ i, i < n → p (rb i) ∧ rb i ≠ ob
  ap : ∀ i j, i < n → j < n → i ≠ j → rb i ≠ rb j
section
variable {p q : Nat → Prop} {W W' Y w1 : World} {ob n c : Nat} {rb rc : Nat → Nat} {M : List (List Int)}
theorem MxAt.rows (h : MxAt p W ob n c rb rc M) : IsRows p W (.slice (some ⟨ob, 0, none⟩) n c) M := by
  have hl := h.len
  have hn := h.nb
  subst hl
  refine ⟨_, _, rfl, ⟨h.cap, by omega⟩, .inr ⟨ob, 0, rfl, h.po, fun j hj => ?_⟩⟩
  refine ⟨_, by rw [Nat.zero_add, Nat.mul_one]; exact h.row j hj, ?_⟩
  have e : M.getD j [] = M[j] := by simp [List.getD, hj]
  rw [← e]
  exact (h.rp j hj).ints (h.pr j hj).1 (by have := (h.rcap j hj).2; omega) (h.rcap j hj).1
theorem MxAt.lt (h : MxAt p W ob n c rb rc M) : ob < W.heap.size := lt_of_cell (h.row 0 h.pos)
theorem MxAt.keep (h : MxAt p W ob n c rb rc M) (hk : ∀ b, p b → b < W.heap.size → q b ∧ W'.heap[b]? = W.heap[b]?) : MxAt q W' ob n c rb rc M :=
  ⟨h.len, h.cap, h.nb, h.pos, (hk _ h.po h.lt).1, fun i hi => (World.cell?_of_block (a := ⟨ob, i, none⟩) (hk _ h.po h.lt).2).trans (h.row i hi), h.rcap, fun i hi => (h.rp i hi).keep (hk _ (h.pr i hi).1 (h.rp i hi).lt).2, fun i hi => ⟨(hk _ (h.pr i hi).1 (h.rp i hi).lt).1, (h.pr i hi).2⟩, h.ap⟩
/-- Behind k rows of the sum. -/
def addMK (M N : List (List Int)) (n k : Nat) : List (List Int) := (List.range n).map fun i => if i < k then addS (M.getD i []) (N.getD i []) else M.getD i []
def addMS (M N : List (List Int)) (n : Nat) : List (List Int) := addMK M N n n
theorem addMK_get {M N : List (List Int)} {n k i : Nat} (h : i < n) : (addMK M N n k).getD i [] = if i < k then addS (M.getD i []) (N.getD i []) else M.getD i [] := by simp [addMK, List.getD, h]
theorem addMK_len (M N : List (List Int)) (n k : Nat) : (addMK M N n k).length = n := by simp [addMK]
theorem addMK_zero {M N : List (List Int)} : addMK M N M.length 0 = M := by
  refine List.ext_getElem (by simp [addMK]) fun i h1 h2 => ?_
  simp [addMK, List.getD, h2]
theorem OkM.addM {M N : List (List Int)} {n m : Nat} (h : OkM M n m) (h2 : OkM N n m) (k : Nat) : OkM (addMK M N n k) n m := by
  have hl : ∀ i, i < n → (addS (M.getD i []) (N.getD i [])).length = m := fun i hi => by rw [addS_length (by rw [h.cols i hi, h2.cols i hi]), h.cols i hi]
  refine ⟨addMK_len .., fun i hi => ?_, fun i => ?_⟩
  · rw [addMK_get hi]
    split
    · exact hl i hi
    · exact h.cols i hi
  · by_cases hi : i < n
    · rw [addMK_get hi]
      split
      · exact fun j => addS_ok (h.ok i) (h2.ok i) j
      · exact h.ok i
    · have : (addMK M N n k).getD i [] = [] := by rw [List.getD_eq_getElem?_getD, List.getElem?_eq_none (by rw [addMK_len]; omega)]; rfl
      rw [this]
      intro j; simp
/-- Nothing but blocks of p has turned. -/
structure OnlyP (p : Nat → Prop) (W W' : World) : Prop where
  sz : W.heap.size = W'.heap.size
  kq : ∀ b, ¬ p b → W'.heap[b]? = W.heap[b]?
  bel : ∀ B w0, Below B w0 W → (∀ b, p b → B ≤ b) → Below B w0 W'
theorem OnlyP.refl (p : Nat → Prop) (W : World) : OnlyP p W W := ⟨rfl, fun _ _ => rfl, fun _ _ h _ => h⟩
theorem OnlyP.drewN (h : OnlyP p W W') (q : Nat) : OnlyP p W (W'.drewN q) := ⟨h.sz, h.kq, fun B w0 h1 h2 => by have := h.bel B w0 h1 h2; exact ⟨this.os, this.tape, this.output, this.size, this.block⟩⟩
theorem OnlyP.only {g : Nat} (h : OnlyP p W W') (h2 : Only g W' Y) (hg : p g) : OnlyP p W Y :=
  ⟨h.sz.trans h2.sz, fun b hb => (h2.kq b (fun e => hb (e ▸ hg))).trans (h.kq b hb), fun B w0 h3 h4 => h2.bel B w0 (h.bel B w0 h3 h4) (h4 g hg)⟩
theorem MxAt.add1 {N : List (List Int)} {k m : Nat} (hE : OkM M n m) (hF : OkM N n m) (h : MxAt p W ob n c rb rc (addMK M N n k)) (hk : k < n) (hr : RowP W' (rb k) 3 (ints (addS (M.getD k []) (N.getD k [])))) (ho : Only (rb k) W W') : MxAt p W' ob n c rb rc (addMK M N n (k + 1)) := by
  have hla : (addS (M.getD k []) (N.getD k [])).length = m := by rw [addS_length (by rw [hE.cols k hk, hF.cols k hk]), hE.cols k hk]
  have hg : ∀ i, i < n → i ≠ k → (addMK M N n (k + 1)).getD i [] = (addMK M N n k).getD i [] := fun i hi hne => by
    rw [addMK_get hi, addMK_get hi]
    by_cases h1 : i < k
    · rw [if_pos h1, if_pos (by omega)]
    · rw [if_neg h1, if_neg (by omega)]
  have hgk : (addMK M N n (k + 1)).getD k [] = addS (M.getD k []) (N.getD k []) := by rw [addMK_get hk, if_pos (by omega)]
  have hll : ∀ i, i < n → ((addMK M N n (k + 1)).getD i []).length = ((addMK M N n k).getD i []).length := fun i hi => by rw [(hE.addM hF _).cols i hi, (hE.addM hF _).cols i hi]
  refine ⟨addMK_len .., h.cap, h.nb, h.pos, h.po, fun i hi => ?_, fun i hi => ?_, fun i hi => ?_, h.pr, h.ap⟩
  · rw [hll i hi]
    exact (World.cell?_of_block (a := ⟨ob, i, none⟩) (ho.kq ob (Ne.symm (h.pr k hk).2))).trans (h.row i hi)
  · rw [hll i hi]; exact h.rcap i hi
  · by_cases e : i = k
    · subst e; rw [hgk]; exact hr
    · rw [hg i hi e]
      exact (h.rp i hi).keep (ho.kq _ (h.ap i k hi hk e))

set_option maxRecDepth 100000 in
set_option maxHeartbeats 4000000 in
theorem addM_c {na : Option Addr} {nc m : Nat} {N : List (List Int)} (hM : MxAt p W ob n c rb rc M) (hN : IsRows q W (.slice na n nc) N) (hpq : ∀ b, q b → ¬ p b) (hE : OkM M n m) (hF : OkM N n m) :
    Calls Try.prog 48 #[.slice (some ⟨ob, 0, none⟩) n c, .slice na n nc] W fun e w' => e = .returned (.tuple #[]) ∧ MxAt p w' ob n c rb rc (addMS M N n) ∧ OnlyP p W w' := by
  have hn3 := hM.nb
  have HX0 : Hid (MxAt p W ob n c rb rc (addMK M N n 0) ∧ OnlyP p W W) := ⟨by
    have e := hM.len
    have e2 : addMK M N n 0 = M := by rw [← e]; exact addMK_zero
    rw [e2]; exact hM, OnlyP.refl _ _⟩
  have HN := hid_of hN
  have HPQ := hid_of hpq
  have HE := hid_of hE
  have HF := hid_of hF
  have hnl := (sl_len hN).1
  have HNL := hid_of hnl
  clear hM hN hpq hE hF hnl
  go_enter Try.func48, Try.ntmps48
  go_wp2_with fail
  go_loopw [7] (fun s7 wx => ∃ k : Nat, k ≤ n ∧ s7 = .int .i64 k ∧ Hid (MxAt p wx ob n c rb rc (addMK M N n k) ∧ OnlyP p W wx)) (fun s7 _ => n - (intOf s7).toNat)
  case atStart => exact ⟨0, by omega, rfl, HX0⟩
  case round =>
    obtain ⟨k, hk, rfl, HS⟩ := hrel
    clear HX0
    by_cases hlt : k < n
    · obtain ⟨hMx, hOn⟩ := HS.out
      have hNk : IsRows q wr (.slice na n nc) N := HN.out.keep (fun b hb _ => ⟨hb, hOn.kq b (HPQ.out b hb)⟩)
      obtain ⟨nb, no, na3, nn, nc3, rfl, -, cn, hni, hnn, -⟩ := rows_at2 hNk (show k < N.length by have := HNL.out; omega)
      have cm := hMx.row k hlt
      have hmk : (addMK M N n k).getD k [] = M.getD k [] := by rw [addMK_get hlt, if_neg (by omega)]
      have hrp := hMx.rp k hlt
      have hrq := hMx.rcap k hlt
      rw [hmk] at cm hrp hrq
      have hmc := HE.out.cols k hlt
      have hnc := HF.out.cols k hlt
      rw [hnc] at hnn
      subst hnn
      rw [hmc] at cm hrq
      obtain ⟨g, Hg⟩ : ∃ g, Hid (rb k = g) := ⟨_, (rfl : rb k = _)⟩
      obtain ⟨gc, Hgc⟩ : ∃ g, Hid (rc k = g) := ⟨_, (rfl : rc k = _)⟩
      have hAd : ∀ d, Calls Try.prog 39 #[.slice (some ⟨g, 0, none⟩) nn gc, .slice na3 nn nc3] (wr.drewN d) fun e w' => e = .returned (.tuple #[]) ∧ Hid (MxAt p w' ob n c rb rc (addMK M N n (k + 1)) ∧ OnlyP p W w') := fun d => by
        have h1 := add_c (p := q) (wr.drewN d) (g := rb k) (n := nn) (c := rc k) (cb := nc3) (a := na3) (xs := M.getD k []) (ys := N.getD k []) hrp (hni.keep (fun b hb _ => ⟨hb, rfl⟩)) (fun hb => HPQ.out _ hb (hMx.pr k hlt).1) hmc (HE.out.ok k) (HF.out.ok k) (by omega)
        rw [Hg.out, Hgc.out] at h1
        refine h1.mono ?_
        rintro e w' ⟨rfl, h2, h3⟩
        have h4 : MxAt p (wr.drewN d) ob n c rb rc (addMK M N n k) := hMx.keep (fun b hb _ => ⟨hb, rfl⟩)
        exact ⟨rfl, h4.add1 HE.out HF.out hlt (by rw [Hg.out]; exact h2) (by rw [Hg.out]; exact h3), (hOn.drewN d).only h3 (by rw [← Hg.out]; exact (hMx.pr k hlt).1)⟩
      rw [Hg.out, Hgc.out] at cm
      have hkz : (k : Int) < (n : Int) := by omega
      clear hMx hOn hNk hmk hrp hrq hmc hnc hni HS
      go_wp2_with fail
      go_region_law (first
        | (go_simp; go_at_call 39; refine (hAd _).mono ?_; rintro e2 Y ⟨rfl, HY⟩))
      all_goals clear cm cn hAd
      all_goals go_wp2_with fail
      all_goals go_roundw
      all_goals first | exact ⟨k + 1, by omega, by go_num, HY⟩ | (simp [intOf]; omega)
    · obtain rfl : k = n := by omega
      go_wp2_with fail
      go_end0
      exact ⟨rfl, HS.out⟩

/-- A matrix turned. -/
def blkV : Value → Nat
  | .slice (some a) _ _ => a.block
  | _ => 0
def capV : Value → Nat
  | .slice _ _ c => c
  | _ => 0
theorem MatO.mx {B : Nat} {own : Nat → Nat} {vals : List Value} (h : MatO B own ob M vals W) (hB : B ≤ ob) (hn : M.length = n) (h0 : 0 < n) (h3 : n ≤ 300) (hr : ∀ j, j < n → 0 < (M.getD j []).length ∧ (M.getD j []).length ≤ 300) : ∃ rb rc, MxAt (fun b => B ≤ b ∧ b < W.heap.size) W ob n n rb rc M := by
  have key : ∀ j, j < n → ∃ g c, vals[j]? = some (.slice (some ⟨g, 0, none⟩) (M.getD j []).length c) ∧ blkV (vals.getD j .nilFunc) = g ∧ capV (vals.getD j .nilFunc) = c ∧ (M.getD j []).length ≤ c ∧ RowP W g 3 (ints (M.getD j [])) ∧ (B ≤ g ∧ g < W.heap.size) ∧ g ≠ ob ∧ own g = j := fun j hj => by
    have hj2 : j < vals.length := by rw [h.len, hn]; exact hj
    have h1 := h.el j hj2
    have h4 := h.ap j hj2
    have e1 : vals[j]? = some vals[j] := List.getElem?_eq_getElem hj2
    have e2 : vals.getD j .nilFunc = vals[j] := by rw [List.getD_eq_getElem?_getD, e1]; rfl
    rw [e1, e2]
    generalize vals[j] = v at h1 h4
    obtain ⟨a, c, rfl, h2⟩ := owns_slice h1
    obtain ⟨g, rfl⟩ := h2 (hr j hj).1
    obtain ⟨cur, q1, -, q3, -, -, -, -, q8⟩ := owns_block h1
    exact ⟨g, c, rfl, rfl, rfl, q3, RowP.of_owns h1, ⟨q1, q8⟩, h4 g rfl⟩
  refine ⟨fun j => blkV (vals.getD j .nilFunc), fun j => capV (vals.getD j .nilFunc), hn, Nat.le_refl _, h3, h0, ⟨hB, h.row.lt⟩, fun j hj => ?_, fun j hj => ?_, fun j hj => ?_, fun j hj => ?_, fun i j hi hj hne => ?_⟩
  · obtain ⟨g, c, e1, rfl, rfl, -⟩ := key j hj
    exact h.row.cell e1
  · obtain ⟨g, c, e1, rfl, rfl, h5, -⟩ := key j hj
    exact ⟨h5, (hr j hj).2⟩
  · obtain ⟨g, c, e1, rfl, rfl, -, h5, -⟩ := key j hj
    exact h5
  · obtain ⟨g, c, e1, rfl, rfl, -, -, h5, h6, -⟩ := key j hj
    exact ⟨h5, h6⟩
  · obtain ⟨g, c, -, rfl, -, -, -, -, -, h5⟩ := key i hi
    obtain ⟨g, c, -, rfl, -, -, -, -, -, h6⟩ := key j hj
    intro e
    rw [e, h6] at h5
    exact hne h5.symm
/-- Of a matrix its first rows have been laid, each in a block of its own. -/
structure MtX (B : Nat) (M : List (List Int)) (mv : Value) (vs : List Value) (rb rc : Nat → Nat) (W : World) : Prop where
  ow : W.ownsRow B 71 1 mv vs.length vs
  el : ∀ j, j < vs.length → vs[j]? = some (.slice (some ⟨rb j, 0, none⟩) (M.getD j []).length (rc j)) ∧ (M.getD j []).length ≤ rc j ∧ RowP W (rb j) 3 (ints (M.getD j [])) ∧ B ≤ rb j ∧ some (rb j) ≠ mv.ownBlock
  ap : ∀ i j, i < vs.length → j < vs.length → i ≠ j → rb i ≠ rb j
theorem MtX.nil (B : Nat) (M : List (List Int)) (W : World) : MtX B M (.slice none 0 0) [] (fun _ => 0) (fun _ => 0) W := ⟨World.ownsRow_nil _ _ _ _, fun j hj => by simp at hj, fun i j hi => by simp at hi⟩
theorem MtX.push {B g uc : Nat} {mv v' u : Value} {vs : List Value} (h : MtX B M mv vs rb rc W) (hY : Below W.heap.size W Y) (hB : B ≤ W.heap.size) (hu : u = .slice (some ⟨g, 0, none⟩) (M.getD vs.length []).length uc) (huc : (M.getD vs.length []).length ≤ uc)
    (hg0 : W.heap.size ≤ g) (hi : RowP Y g 3 (ints (M.getD vs.length []))) (ho : w1.ownsRow B 71 1 v' (vs ++ [u]).length (vs ++ [u])) (hg : Y.grownBy w1 mv.ownBlock) (hat : v'.ownBlock = mv.ownBlock ∨ ∃ g, v'.ownBlock = some g ∧ Y.heap.size ≤ g) : ∃ rb' rc', MtX B M v' (vs ++ [u]) rb' rc' w1 := by
  have hub : ∀ b, mv.ownBlock = some b → B ≤ b ∧ b < W.heap.size := fun b hb => h.ow.lt b hb
  have hys := hY.size
  have hgl := hi.lt
  have hno : ∀ b, b < Y.heap.size → some b ≠ mv.ownBlock → some b ≠ v'.ownBlock := fun b hb hne e => by
    rcases hat with e4 | ⟨g2, e4, e5⟩
    · exact hne (by rw [e, e4])
    · rw [e4] at e
      have : b = g2 := by simpa using e
      omega
  refine ⟨fun j => if j = vs.length then g else rb j, fun j => if j = vs.length then uc else rc j, ho, fun j hj => ?_, fun i j hi2 hj hne => ?_⟩
  · by_cases hjl : j < vs.length
    · obtain ⟨e1, e2, e3, e4, e5⟩ := h.el j hjl
      have hjn : ¬ j = vs.length := by omega
      rw [if_neg hjn, if_neg hjn, List.getElem?_append_left hjl]
      have hl := e3.lt
      exact ⟨e1, e2, e3.keep ((hg.block _ (by omega) e5).trans (hY.block _ hl)), e4, hno _ (by omega) e5⟩
    · have hje : j = vs.length := by simp at hj; omega
      subst hje
      rw [if_pos rfl, if_pos rfl, List.getElem?_append_right (Nat.le_refl _)]
      simp only [Nat.sub_self, List.getElem?_cons_zero]
      have hne : some g ≠ mv.ownBlock := fun e => by have := (hub g e.symm).2; omega
      exact ⟨by rw [hu], huc, hi.keep (hg.block _ hgl hne), by omega, hno _ hgl hne⟩
  · have hlt : ∀ k, k < vs.length → rb k < W.heap.size := fun k hk => (h.el k hk).2.2.1.lt
    simp at hi2 hj
    by_cases e1 : i = vs.length
    · have e2 : ¬ j = vs.length := by omega
      rw [if_pos e1, if_neg e2]
      have := hlt j (by omega); omega
    · rw [if_neg e1]
      by_cases e2 : j = vs.length
      · rw [if_pos e2]; have := hlt i (by omega); omega
      · rw [if_neg e2]; exact h.ap i j (by omega) (by omega) hne
theorem MtX.mx {B : Nat} {mv : Value} {vs : List Value} (h : MtX B M mv vs rb rc W) (hl : vs.length = M.length) (hn : M.length = n) (h0 : 0 < n) (h3 : n ≤ 300) (hr : ∀ j, j < n → (M.getD j []).length ≤ 300) : ∃ ob c, mv = .slice (some ⟨ob, 0, none⟩) n c ∧ MxAt (fun b => B ≤ b ∧ b < W.heap.size) W ob n c rb rc M := by
  have how := h.ow
  obtain ⟨a, c, e1, e2⟩ := owns_slice how
  obtain ⟨ob, rfl⟩ := e2 (by omega)
  rw [hl, hn] at e1
  subst e1
  have hr0 := RowP.of_owns (by rw [hl, hn] at how; exact how)
  obtain ⟨_, q1, -, q3, -, -, -, -, q8⟩ := owns_block (by rw [hl, hn] at how; exact how)
  have hln : vs.length = n := by omega
  refine ⟨ob, c, rfl, hn, q3, h3, h0, ⟨q1, q8⟩, fun j hj => hr0.cell (h.el j (by omega)).1, fun j hj => ⟨(h.el j (by omega)).2.1, hr j hj⟩, fun j hj => (h.el j (by omega)).2.2.1, fun j hj => ?_, fun i j hi hj => h.ap i j (by omega) (by omega)⟩
  obtain ⟨-, -, e3, e4, e5⟩ := h.el j (by omega)
  exact ⟨⟨e4, e3.lt⟩, fun e => e5 (by rw [e]; rfl)⟩
end
end Go.Proofs.Ytdomnbgjafdnjaa
