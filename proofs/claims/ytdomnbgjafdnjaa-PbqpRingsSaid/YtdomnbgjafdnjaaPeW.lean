/- All choices, one behind the other: each has a number of its own. Plain Lean. -/
import Derived.Test.YtdomnbgjafdnjaaPgC
import Derived.Test.YtdomnbgjafdnjaaPeA
namespace Go.Proofs.Ytdomnbgjafdnjaa

section
/-- How many choices the first k nodes have. -/
def wtZ (N : List (List Int)) : Nat → Int
  | 0 => 1
  | k + 1 => wtZ N k * (csN N k : Int)
/-- A choice's number. -/
def valZ (N : List (List Int)) (l : List Int) : Nat → Int
  | 0 => 0
  | k + 1 => valZ N l k + l.getD k 0 * wtZ N k
def RgZ (N : List (List Int)) (l : List Int) (k : Nat) : Prop := ∀ i, i < k → 0 ≤ l.getD i 0 ∧ l.getD i 0 < (csN N i : Int)
theorem wt_succ (N : List (List Int)) (k : Nat) : wtZ N (k + 1) = wtZ N k * (csN N k : Int) := rfl
theorem val_succ (N : List (List Int)) (l : List Int) (k : Nat) : valZ N l (k + 1) = valZ N l k + l.getD k 0 * wtZ N k := rfl
section
variable {N : List (List Int)} {l g : List Int}
theorem wt_nn (N : List (List Int)) : ∀ k, 0 ≤ wtZ N k
  | 0 => by unfold wtZ; omega
  | k + 1 => by rw [wt_succ]; exact Int.mul_nonneg (wt_nn N k) (by omega)
theorem val_rg : ∀ k, RgZ N l k → 0 ≤ valZ N l k ∧ valZ N l k < wtZ N k
  | 0, _ => by unfold valZ wtZ; omega
  | k + 1, h => by
    obtain ⟨h1, h2⟩ := val_rg k (fun i hi => h i (by omega))
    obtain ⟨h3, h4⟩ := h k (by omega)
    rw [val_succ, wt_succ]
    have h5 := Int.mul_nonneg h3 (wt_nn N k)
    have h6 : (l.getD k 0 + 1) * wtZ N k ≤ (csN N k : Int) * wtZ N k := Int.mul_le_mul_of_nonneg_right (by omega) (wt_nn N k)
    rw [Int.add_mul, Int.one_mul, Int.mul_comm (csN N k : Int)] at h6
    omega
theorem val_inj : ∀ k, RgZ N l k → RgZ N g k → valZ N l k = valZ N g k → ∀ i, i < k → l.getD i 0 = g.getD i 0
  | 0, _, _, _ => fun i hi => by omega
  | k + 1, hl, hg, he => by
    have hl' : RgZ N l k := fun i hi => hl i (by omega)
    have hg' : RgZ N g k := fun i hi => hg i (by omega)
    obtain ⟨a1, a2⟩ := val_rg k hl'
    obtain ⟨b1, b2⟩ := val_rg k hg'
    rw [val_succ, val_succ] at he
    have key : ∀ x y u v : Int, 0 ≤ u → u < wtZ N k → 0 ≤ v → v < wtZ N k → u + x * wtZ N k = v + y * wtZ N k → ¬ x < y := fun x y u v hu hu2 hv hv2 h hxy => by
      have h6 : (x + 1) * wtZ N k ≤ y * wtZ N k := Int.mul_le_mul_of_nonneg_right (by omega) (wt_nn N k)
      rw [Int.add_mul, Int.one_mul] at h6
      omega
    have e1 := key _ _ _ _ a1 a2 b1 b2 he
    have e2 := key _ _ _ _ b1 b2 a1 a2 he.symm
    have e3 : l.getD k 0 = g.getD k 0 := by omega
    rw [e3] at he
    intro i hi
    by_cases e : i = k
    · rw [e]; exact e3
    · exact val_inj k hl' hg' (by omega) i (by omega)
theorem getD_set {l : List Int} {i j : Nat} {x : Int} (hi : i < l.length) : (l.set i x).getD j 0 = if j = i then x else l.getD j 0 := by
  rw [List.getD_eq_getElem?_getD, List.getElem?_set]
  by_cases e : i = j
  · subst e; simp [hi]
  · rw [if_neg e, if_neg (Ne.symm e), ← List.getD_eq_getElem?_getD]
theorem val_set {i : Nat} {x : Int} (hi : i < l.length) : ∀ k, valZ N (l.set i x) k = valZ N l k + if i < k then (x - l.getD i 0) * wtZ N i else 0
  | 0 => by simp [valZ]
  | k + 1 => by
    rw [val_succ, val_succ, val_set hi k, getD_set hi]
    by_cases e : k = i
    · subst e
      rw [if_neg (Nat.lt_irrefl _), if_pos rfl, if_pos (by omega), Int.sub_mul]
      omega
    · rw [if_neg e]
      by_cases h : i < k
      · rw [if_pos h, if_pos (by omega)]; omega
      · rw [if_neg h, if_neg (by omega)]; omega
theorem val_zero : ∀ k, (∀ i, i < k → l.getD i 0 = 0) → valZ N l k = 0
  | 0, _ => rfl
  | k + 1, h => by
    rw [val_succ, val_zero k (fun i hi => h i (by omega)), h k (by omega)]
    omega
theorem rg_allIn (h : l.length = N.length) : RgZ N l N.length ↔ allIn N l l.length = true := by
  unfold RgZ allIn
  rw [List.all_eq_true, h]
  constructor
  · intro h1 k hk
    have := h1 k (List.mem_range.1 hk)
    unfold inB
    simp only [Bool.and_eq_true, decide_eq_true_eq]
    exact this
  · intro h1 k hk
    have := h1 k (List.mem_range.2 hk)
    unfold inB at this
    simp only [Bool.and_eq_true, decide_eq_true_eq] at this
    exact this
/-- What is known when all choices ahead of number v have been asked. -/
structure BestI (N : List (List Int)) (Es : List EdgeD) (B v : Int) : Prop where
  le : B ≤ infC
  lo : ∀ g : List Int, g.length = N.length → RgZ N g N.length → valZ N g N.length < v → B ≤ costP N Es g
  at_ : B = infC ∨ ∃ g : List Int, g.length = N.length ∧ RgZ N g N.length ∧ B = costP N Es g
theorem BestI.init (N : List (List Int)) (Es : List EdgeD) : BestI N Es infC 0 :=
  ⟨Int.le_refl _, fun g _ h1 h2 => by have := (val_rg _ h1).1; omega, .inl rfl⟩
theorem costP_rg {Es : List EdgeD} (hc : chkS N Es = 0) (hl : l.length = N.length) (hr : RgZ N l N.length) : 0 ≤ costP N Es l ∧ costP N Es l ≤ infC := by
  have hi := (rg_allIn hl).1 hr
  rw [costP_capZ hc hl hi]
  have h1 := cost_begin (N := N) (l := l) hc (allIn_fit (by rw [← hl]; exact hi)) Es.length (Nat.le_refl _)
  rw [← h1]
  obtain ⟨o1, w1⟩ := begin_ok hc Es.length (Nat.le_refl _)
  have h2 := cost_nn (apS_ok o1 w1) (chF l) (List.range N.length)
  exact ⟨capZ_nn h2, (capZ_le _).2⟩
theorem BestI.step {Es : List EdgeD} {B : Int} (hc : chkS N Es = 0) (h : BestI N Es B (valZ N l N.length)) (hl : l.length = N.length) (hr : RgZ N l N.length) : BestI N Es (if costP N Es l < B then costP N Es l else B) (valZ N l N.length + 1) := by
  have hin : ∀ g : List Int, g.length = N.length → RgZ N g N.length → valZ N g N.length < valZ N l N.length + 1 → valZ N g N.length < valZ N l N.length ∨ g = l := fun g hg hgr hlt => by
    by_cases e : valZ N g N.length = valZ N l N.length
    · right
      have h1 := val_inj N.length hgr hr e
      refine List.ext_getElem (by omega) fun i h2 h3 => ?_
      have := h1 i (by omega)
      simpa [List.getD, h2, h3] using this
    · left; omega
  have hcr := costP_rg hc hl hr
  by_cases hlt : costP N Es l < B
  · rw [if_pos hlt]
    refine ⟨hcr.2, fun g hg hgr hv => ?_, .inr ⟨l, hl, hr, rfl⟩⟩
    rcases hin g hg hgr hv with h1 | h1
    · have := h.lo g hg hgr h1; omega
    · rw [h1]; exact Int.le_refl _
  · rw [if_neg hlt]
    refine ⟨h.le, fun g hg hgr hv => ?_, h.at_⟩
    rcases hin g hg hgr hv with h1 | h1
    · exact h.lo g hg hgr h1
    · rw [h1]; omega
/-- The least of all. -/
theorem BestI.all {Es : List EdgeD} {B : Int} (h : BestI N Es B (wtZ N N.length)) : (∀ g : List Int, g.length = N.length → RgZ N g N.length → B ≤ costP N Es g) ∧ (B = infC ∨ ∃ g : List Int, g.length = N.length ∧ RgZ N g N.length ∧ B = costP N Es g) :=
  ⟨fun g hg hr => h.lo g hg hr (val_rg _ hr).2, h.at_⟩
/-- Carrying: the digits ahead of i are 0. -/
structure CarI (N : List (List Int)) (v : Int) (i : Nat) (l : List Int) : Prop where
  len : l.length = N.length
  rg : RgZ N l N.length
  z : ∀ j, j < i → l.getD j 0 = 0
  vl : valZ N l N.length + wtZ N i = v + 1
theorem CarI.init (hl : l.length = N.length) (hr : RgZ N l N.length) : CarI N (valZ N l N.length) 0 l := ⟨hl, hr, fun j hj => by omega, rfl⟩
theorem CarI.more {v : Int} {i : Nat} (h : CarI N v i l) (hi : i < N.length) (hx : l.getD i 0 + 1 = (csN N i : Int)) : CarI N v (i + 1) ((l.set i (l.getD i 0 + 1)).set i 0) := by
  have hil : i < l.length := by rw [h.len]; exact hi
  rw [List.set_set]
  refine ⟨by rw [List.length_set]; exact h.len, fun j hj => ?_, fun j hj => ?_, ?_⟩
  · rw [getD_set hil]
    by_cases e : j = i
    · rw [if_pos e]; have := h.rg i hi; subst e; omega
    · rw [if_neg e]; exact h.rg j hj
  · rw [getD_set hil]
    by_cases e : j = i
    · rw [if_pos e]
    · rw [if_neg e]; exact h.z j (by omega)
  · rw [val_set hil, if_pos hi]
    have hv := h.vl
    show _ + wtZ N i * (csN N i : Int) = v + 1
    rw [← hx, Int.mul_add, Int.mul_one, Int.zero_sub, Int.neg_mul, Int.mul_comm (wtZ N i)]
    omega
theorem CarI.stop {v : Int} {i : Nat} (h : CarI N v i l) (hi : i < N.length) (hx : l.getD i 0 + 1 < (csN N i : Int)) : (l.set i (l.getD i 0 + 1)).length = N.length ∧ RgZ N (l.set i (l.getD i 0 + 1)) N.length ∧ valZ N (l.set i (l.getD i 0 + 1)) N.length = v + 1 := by
  have hil : i < l.length := by rw [h.len]; exact hi
  refine ⟨by rw [List.length_set]; exact h.len, fun j hj => ?_, ?_⟩
  · rw [getD_set hil]
    by_cases e : j = i
    · rw [if_pos e]; have := h.rg i hi; subst e; omega
    · rw [if_neg e]; exact h.rg j hj
  · rw [val_set hil, if_pos hi]
    have hv := h.vl
    have e : l.getD i 0 + 1 - l.getD i 0 = 1 := by omega
    rw [e, Int.one_mul]
    exact hv
theorem CarI.end_ {v : Int} (h : CarI N v N.length l) : wtZ N N.length = v + 1 := by
  have := h.vl
  rw [val_zero N.length h.z] at this
  omega
end
end

section
/- The reference's 'Best' and 'Ways'. -/
open Go.RowKit

set_option maxRecDepth 100000 in
set_option maxHeartbeats 8000000 in
theorem ways_c {p : Nat → Prop} (w : World) {na : Option Addr} {nl nc : Nat} {ea : Option Addr} {el ec : Nat} {N : List (List Int)} {Es : List EdgeD} (hp : ∀ b, p b → b < w.heap.size) (h : IsPq p w na nl nc ea el ec N Es) (hc : chkS N Es = 0) :
    Calls Try.prog 20 #[costsV na nl nc ea el ec] w fun e w' => ∃ z : Int, e = .returned (.int .i64 z) ∧ Below w.heap.size w w' := by
  obtain ⟨hn3, -, hnn, -⟩ := chk_ok hc
  have hNL := (sl_len h.nd).1
  have hxn : nl ≤ 300 := by omega
  have HN : Hid (∀ X, Below w.heap.size w X → IsRows p X (.slice na nl nc) N) := fun X hX => h.nd.keep (fun b hb hlt => ⟨hb, hX.block b (hp b hb)⟩)
  have HNN : Hid (∀ n ∈ N, n.length ≤ 32) := fun n hn => (hnn n hn).1
  have HNL := hid_of hNL
  clear h hc hn3 hnn hNL
  go_enter Try.func20, Try.ntmps20
  have H0 : Hid (Row (w.alloc (.cells #[.slice na nl nc, .slice ea el ec] 25)) w.heap.size 25 [.slice na nl nc, .slice ea el ec] ∧ Below w.heap.size w (w.alloc (.cells #[.slice na nl nc, .slice ea el ec] 25))) := ⟨heap_alloc_eq _ _ _ rfl, bel_alloc (bel_refl w) _⟩
  go_wp2_with fail
  go_loopw [3, 4] (fun s3 s4 wx => ∃ (z : Int) (k : Nat), k ≤ nl ∧ s4 = .int .i64 k ∧ s3 = .int .i64 z ∧ (0 ≤ z ∧ z ≤ 100000) ∧ Hid (Row wx w.heap.size 25 [.slice na nl nc, .slice ea el ec] ∧ Below w.heap.size w wx)) (fun _ s4 _ => nl - (intOf s4).toNat)
  case atStart => exact ⟨1, 0, by omega, rfl, rfl, by omega, H0⟩
  case round =>
    obtain ⟨z, k, hk, rfl, rfl, hz, HK⟩ := hrel
    clear H0
    have a0 := HK.out.1.cell (k := 0) rfl
    by_cases hlt : k < nl
    · have hkx : k < N.length := by have := HNL.out; omega
      obtain ⟨b, off, a3, n3, c3, rfl, hpb, ck, hi, hn3, hn3m⟩ := rows_at2 (HN.out wr HK.out.2) hkx
      have h32 := HNN.out _ (mem_getD (d := []) hkx)
      have hn4 : n3 ≤ 32 := by omega
      have hm0 : 0 ≤ z * (n3 : Int) := Int.mul_nonneg hz.1 (by omega)
      have hm1 : z * (n3 : Int) ≤ 100000 * 32 := Int.mul_le_mul hz.2 (by omega) (by omega) (by omega)
      obtain ⟨m, Hm⟩ : ∃ m, Hid (z * (n3 : Int) = m) := ⟨_, (rfl : z * (n3 : Int) = _)⟩
      have hmm := Hm.out
      rw [hmm] at hm0 hm1
      have hkz : (k : Int) < (nl : Int) := by omega
      clear hi hn3 hn3m h32 hpb
      by_cases hbig : 100000 < m
      · have hd : decide (100000 < m) = true := by simpa using hbig
        go_wp2_with fail
        go_ret
        exact ⟨_, rfl, HK.out.2⟩
      · have hd : decide (100000 < m) = false := by simpa using hbig
        go_wp2_with fail
        go_roundw
        case rel => exact ⟨m, k + 1, by omega, by go_num, rfl, by omega, HK⟩
        case measure => simp [intOf]; omega
    · obtain rfl : k = nl := by omega
      go_wp2_with fail
      go_ret
      exact ⟨_, rfl, HK.out.2⟩

set_option maxRecDepth 100000 in
set_option maxHeartbeats 8000000 in
theorem best_c {p : Nat → Prop} (w : World) {na : Option Addr} {nl nc : Nat} {ea : Option Addr} {el ec : Nat} {N : List (List Int)} {Es : List EdgeD} (hp : ∀ b, p b → b < w.heap.size) (h : IsPq p w na nl nc ea el ec N Es) (hc : chkS N Es = 0) :
    Calls Try.prog 21 #[costsV na nl nc ea el ec] w fun e w' => ∃ B : Int, e = .returned (.int .i64 B) ∧ Hid (BestI N Es B (wtZ N N.length)) ∧ Below w.heap.size w w' := by
  obtain ⟨hn3, -, hnn, -⟩ := chk_ok hc
  have hNL := (sl_len h.nd).1
  have hxn : nl ≤ 300 := by omega
  have HP : Hid (∀ X, Below w.heap.size w X → IsPq p X na nl nc ea el ec N Es) := fun X hX => h.keep (fun b hb hlt => ⟨hb, hX.block b (hp b hb)⟩)
  have HNN : Hid (∀ n ∈ N, n.length ≠ 0 ∧ n.length ≤ 32) := fun n hn => ⟨(hnn n hn).2.1, (hnn n hn).1⟩
  have HNL := hid_of hNL
  have HCC := hid_of hc
  have hmi := fun W => run_mk_int W nl (by omega)
  clear h hc hn3 hnn hNL
  go_enter Try.func21, Try.ntmps21
  obtain ⟨lb, Hlb⟩ : ∃ lb, Hid (w.heap.size + 1 = lb) := ⟨_, (rfl : w.heap.size + 1 = _)⟩
  have H0 : Hid (Row ((w.alloc (.cells #[.slice na nl nc, .slice ea el ec] 25)).alloc (.cells (Array.replicate nl (Value.int .i64 0)) 3)) w.heap.size 25 [.slice na nl nc, .slice ea el ec] ∧ Row ((w.alloc (.cells #[.slice na nl nc, .slice ea el ec] 25)).alloc (.cells (Array.replicate nl (Value.int .i64 0)) 3)) lb 3 (ints (List.replicate nl 0)) ∧ Below w.heap.size w ((w.alloc (.cells #[.slice na nl nc, .slice ea el ec] 25)).alloc (.cells (Array.replicate nl (Value.int .i64 0)) 3))) :=
    ⟨heap_alloc_ne _ _ _ _ (heap_alloc_eq _ _ _ rfl), by
      rw [← Hlb.out]
      unfold Row
      rw [show (ints (List.replicate nl 0)).toArray = Array.replicate nl (Value.int .i64 0) by simp [ints]]
      exact heap_alloc_eq _ _ _ (by simp), bel_alloc (bel_alloc (bel_refl w) _) _⟩
  have HS : Hid (∃ (l : List Int) (v : Int), l.length = N.length ∧ RgZ N l N.length ∧ BestI N Es 1099511627776 (valZ N l N.length) ∧ v = valZ N l N.length ∧ ints l = ints (List.replicate nl 0)) := by
    refine ⟨List.replicate nl 0, _, by rw [List.length_replicate]; exact HNL.out, fun i hi => ?_, ?_, rfl, rfl⟩
    · have h1 := HNN.out _ (mem_getD (d := []) hi)
      have e : (List.replicate nl (0 : Int)).getD i 0 = 0 := by simp [List.getD, show i < nl by have := HNL.out; omega]
      rw [e]
      unfold csN
      omega
    · rw [val_zero N.length (fun i hi => by simp [List.getD, show i < nl by have := HNL.out; omega])]
      exact BestI.init N Es
  have H1 : Hid (∃ l : List Int, l.length = N.length ∧ RgZ N l N.length ∧ BestI N Es 1099511627776 (valZ N l N.length) ∧ Row ((w.alloc (.cells #[.slice na nl nc, .slice ea el ec] 25)).alloc (.cells (Array.replicate nl (Value.int .i64 0)) 3)) lb 3 (ints l) ∧ Row ((w.alloc (.cells #[.slice na nl nc, .slice ea el ec] 25)).alloc (.cells (Array.replicate nl (Value.int .i64 0)) 3)) w.heap.size 25 [.slice na nl nc, .slice ea el ec] ∧ Below w.heap.size w ((w.alloc (.cells #[.slice na nl nc, .slice ea el ec] 25)).alloc (.cells (Array.replicate nl (Value.int .i64 0)) 3))) := by
    obtain ⟨l, -, h1, h2, h3, -, h5⟩ := HS.out
    exact ⟨l, h1, h2, h3, by rw [h5]; exact H0.out.2.1, H0.out.1, H0.out.2.2⟩
  go_wp2_with fail
  clear H0 HS hmi
  generalize (w.alloc (.cells #[.slice na nl nc, .slice ea el ec] 25)).alloc (.cells (Array.replicate nl (Value.int .i64 0)) 3) = W1 at *
  rw [Hlb.out]
  go_loopg [4] ((wtZ N N.length).toNat) (fun gh s4 wx => ∃ B : Int, s4 = .int .i64 B ∧ Hid (∃ l : List Int, l.length = N.length ∧ RgZ N l N.length ∧ BestI N Es B (valZ N l N.length) ∧ (wtZ N N.length - valZ N l N.length).toNat ≤ gh ∧ Row wx lb 3 (ints l) ∧ Row wx w.heap.size 25 [.slice na nl nc, .slice ea el ec] ∧ Below w.heap.size w wx))
  case atStart =>
    obtain ⟨l, h1, h2, h3, h4⟩ := H1.out
    exact ⟨_, rfl, l, h1, h2, h3, by have := (val_rg _ h2).1; omega, h4⟩
  case round =>
    obtain ⟨B, rfl, HB⟩ := hrel
    clear H1
    obtain ⟨l, hll, hrg, hbe, hgh, hrl, hrc, hbw⟩ := HB.out
    have a0 := hrc.cell (k := 0) rfl
    have a1 := hrc.cell (k := 1) rfl
    have hli : IsInts (fun b => b < wr.heap.size) wr (.slice (some ⟨lb, 0, none⟩) nl nl) l := by
      have := ints_of_row (p := fun b => b < wr.heap.size) hrl hrl.lt (by have := HNL.out; omega)
      rw [hll, ← HNL.out] at this
      exact this
    have HCO := hid_of (costR_c (p := fun b => b < wr.heap.size) wr (fun b hb => hb) ((HP.out wr hbw).keep (Keep.refl wr fun b hb hlt => hlt)) hli)
    have hstep := hbe.step HCC.out hll hrg
    have hvr := val_rg _ hrg
    obtain ⟨x, Hx⟩ : ∃ x, Hid (costP N Es l = x) := ⟨_, (rfl : costP N Es l = _)⟩
    rw [Hx.out] at HCO hstep
    have HST := hid_of hstep
    have hgp : 0 < gk := by omega
    have HLG : Hid (l.length = N.length ∧ RgZ N l N.length ∧ (wtZ N N.length - valZ N l N.length).toNat ≤ gk ∧ (0 ≤ valZ N l N.length ∧ valZ N l N.length < wtZ N N.length)) := ⟨hll, hrg, hgh, hvr⟩
    have HRL := hid_of hrl
    have HRC := hid_of hrc
    have HBW := hid_of hbw
    clear hll hrg hbe hgh hrl hrc hbw hli hstep hvr HB
    go_wp2_with fail
    refine HCO.out.mono ?_
    rintro e W2 ⟨rfl, hb2⟩
    have HM : Hid (Row W2 lb 3 (ints l) ∧ Row W2 w.heap.size 25 [.slice na nl nc, .slice ea el ec] ∧ Below w.heap.size w W2) := ⟨HRL.out.keep (hb2.block _ HRL.out.lt), HRC.out.keep (hb2.block _ HRC.out.lt), bel_call HBW.out hb2⟩
    clear a0 a1 hb2 HRL HRC HBW HCO
    obtain ⟨B2, HB2⟩ : ∃ B2, Hid ((if x < B then x else B) = B2) := ⟨_, (rfl : (if x < B then x else B) = _)⟩
    rw [HB2.out] at HST
    by_cases hxb : x < B
    · have hd : decide (x < B) = true := by simpa using hxb
      have HZ : Hid (B2 = x) := by show _ = _; rw [← HB2.out, if_pos hxb]
      rw [HZ.out] at HST
      have HC0 : Hid (CarI N (valZ N l N.length) 0 l ∧ Row W2 lb 3 (ints l) ∧ Row W2 w.heap.size 25 [.slice na nl nc, .slice ea el ec] ∧ Below w.heap.size w W2) := ⟨.init HLG.out.1 HLG.out.2.1, HM.out⟩
      clear HM hxb HB2 HZ
      go_wp2_with fail
      go_loopw [6] (fun s6 wx => ∃ i : Nat, i ≤ nl ∧ s6 = .int .i64 i ∧ Hid (∃ l2, CarI N (valZ N l N.length) i l2 ∧ Row wx lb 3 (ints l2) ∧ Row wx w.heap.size 25 [.slice na nl nc, .slice ea el ec] ∧ Below w.heap.size w wx)) (fun s6 _ => nl - (intOf s6).toNat)
      case atStart => exact ⟨0, by omega, rfl, l, HC0.out⟩
      case round =>
        obtain ⟨i, hi, rfl, HI⟩ := hrel
        clear HC0
        obtain ⟨l2, hC, hrl, hrc, hbw⟩ := HI.out
        by_cases hit : i < nl
        · have hin : i < N.length := by have := HNL.out; omega
          have hil : i < l2.length := by rw [hC.len]; exact hin
          have hrg := hC.rg i hin
          have hcs : csN N i ≤ 32 := (HNN.out _ (mem_getD (d := []) hin)).2
          obtain ⟨y, Hy⟩ : ∃ y, Hid (l2.getD i 0 = y) := ⟨_, (rfl : l2.getD i 0 = _)⟩
          have c0 := hrl.cell (k := i) (v := .int .i64 y) (by
            have h2 := Hy.out
            simp only [List.getD, List.getElem?_eq_getElem hil, Option.getD_some] at h2
            simp [ints, hil, h2])
          have f0 := hrl.frozen i
          have hW3 : Row (wr.setCell ⟨lb, i, none⟩ (.int .i64 (y + 1))) lb 3 (ints (l2.set i (y + 1))) ∧ Row (wr.setCell ⟨lb, i, none⟩ (.int .i64 (y + 1))) w.heap.size 25 [.slice na nl nc, .slice ea el ec] ∧ Below w.heap.size w (wr.setCell ⟨lb, i, none⟩ (.int .i64 (y + 1))) := by
            have h1 := hrl.set i (.int .i64 (y + 1))
            rw [ints_set] at h1
            exact ⟨h1, hrc.other (by show w.heap.size ≠ lb; have := Hlb.out; omega) _, hbw.setCell (show w.heap.size ≤ lb by have := Hlb.out; omega) _⟩
          have HC := hid_of hC
          rw [Hy.out] at hrg
          have hiz : (i : Int) < (nl : Int) := by omega
          have HCI := hid_of hcs
          have hy0 : 0 ≤ y ∧ y < 32 := by omega
          have HRG := hid_of hrg
          clear hC hrl hrc hbw hrg hcs HI
          go_upto_region 9 with fail
          clear c0 f0
          refine wp_at (fun Y => Row Y lb 3 (ints (l2.set i (y + 1))) ∧ Row Y w.heap.size 25 [.slice na nl nc, .slice ea el ec] ∧ Below w.heap.size w Y) hW3 ?_
          clear hW3
          rintro Y ⟨hrl, hrc, hbw⟩
          have a0 := hrc.cell (k := 0) rfl
          have c0 := hrl.cell (k := i) (v := .int .i64 (y + 1)) (by simp [ints, hil])
          obtain ⟨b, off, a3, n3, c3, rfl, hpb, ck, hi3, hn3, hn3m⟩ := rows_at2 ((HP.out Y hbw).nd) hin
          have HN3 : Hid (csN N i = n3) := hn3.symm
          have f0 := hrl.frozen i
          have HM3 := hid_of (And.intro hrl (And.intro hrc hbw))
          clear hrl hrc hbw hi3 hn3 hn3m hpb
          by_cases hlt : y + 1 < (n3 : Int)
          · have hdl : decide (y + 1 < (n3 : Int)) = true := by simpa using hlt
            have hst := HC.out.stop hin (by rw [Hy.out, HN3.out]; exact hlt)
            rw [Hy.out] at hst
            obtain ⟨s1, s2, s3⟩ := hst
            have HG : Hid (∃ l : List Int, l.length = N.length ∧ RgZ N l N.length ∧ BestI N Es x (valZ N l N.length) ∧ (wtZ N N.length - valZ N l N.length).toNat ≤ gk - 1 ∧ (∀ q, Row (Y.drewN q) lb 3 (ints l) ∧ Row (Y.drewN q) w.heap.size 25 [.slice (some ⟨b, off, none⟩) nl nc, .slice ea el ec] ∧ Below w.heap.size w (Y.drewN q))) :=
              ⟨_, s1, s2, by rw [s3]; exact HST.out, by rw [s3]; have := HLG.out.2.2; omega, fun q => ⟨HM3.out.1, HM3.out.2.1, bel_drewN HM3.out.2.2 q⟩⟩
            have hne : ((i : Int) == (nl : Int)) = false := by simp; omega
            clear HM3 s1 s2 s3 hlt
            go_wp2_with fail
            go_quiet (fail)
            clear a0 c0 ck f0
            go_wp2_with fail
            go_roundg (gk - 1)
            case rel =>
              obtain ⟨l9, t1, t2, t3, t4, t5⟩ := HG.out
              exact ⟨_, rfl, l9, t1, t2, t3, t4, t5 _⟩
            case measure => omega
          · have hdl : decide (y + 1 < (n3 : Int)) = false := by simpa using hlt
            have hmo := HC.out.more hin (by rw [Hy.out, HN3.out]; have := HRG.out.2; have := HN3.out; omega)
            rw [Hy.out] at hmo
            have HG : Hid (∀ q, ∃ l2', CarI N (valZ N l N.length) (i + 1) l2' ∧ Row ((Y.drewN q).setCell ⟨lb, i, none⟩ (.int .i64 0)) lb 3 (ints l2') ∧ Row ((Y.drewN q).setCell ⟨lb, i, none⟩ (.int .i64 0)) w.heap.size 25 [.slice (some ⟨b, off, none⟩) nl nc, .slice ea el ec] ∧ Below w.heap.size w ((Y.drewN q).setCell ⟨lb, i, none⟩ (.int .i64 0))) := fun q => by
              have h1 := (show Row (Y.drewN q) lb 3 (ints (l2.set i (y + 1))) from HM3.out.1).set i (.int .i64 0)
              rw [ints_set] at h1
              exact ⟨_, hmo, h1, (show Row (Y.drewN q) w.heap.size 25 _ from HM3.out.2.1).other (a := ⟨lb, i, none⟩) (by show w.heap.size ≠ lb; have := Hlb.out; omega) _, (bel_drewN HM3.out.2.2 q).setCell (show w.heap.size ≤ lb by have := Hlb.out; omega) _⟩
            clear HM3 hmo hlt
            go_wp2_with fail
            go_quiet (fail)
            go_wp2_with fail
            go_roundw
            case rel => exact ⟨i + 1, by omega, by go_num, HG.out _⟩
            case measure => simp [intOf]; omega
        · obtain rfl : i = nl := by omega
          have hC2 := hC
          rw [HNL.out] at hC2
          have hend := hC2.end_
          have HF := hid_of HST.out
          have HE : Hid (BestI N Es x (wtZ N N.length)) := by show BestI _ _ _ _; rw [hend]; exact HST.out
          have HBW := hid_of hbw
          have heq : ((i : Int) == (i : Int)) = true := by simp
          clear hC hrl hrc hbw hC2 hend HI
          go_wp2_with fail
          go_ret
          exact ⟨_, rfl, HE.out, HBW.out⟩
    · have hd : decide (x < B) = false := by simpa using hxb
      have HZ : Hid (B2 = B) := by show _ = _; rw [← HB2.out, if_neg hxb]
      rw [HZ.out] at HST
      have HC0 : Hid (CarI N (valZ N l N.length) 0 l ∧ Row W2 lb 3 (ints l) ∧ Row W2 w.heap.size 25 [.slice na nl nc, .slice ea el ec] ∧ Below w.heap.size w W2) := ⟨.init HLG.out.1 HLG.out.2.1, HM.out⟩
      clear HM hxb HB2 HZ
      go_wp2_with fail
      go_loopw [6] (fun s6 wx => ∃ i : Nat, i ≤ nl ∧ s6 = .int .i64 i ∧ Hid (∃ l2, CarI N (valZ N l N.length) i l2 ∧ Row wx lb 3 (ints l2) ∧ Row wx w.heap.size 25 [.slice na nl nc, .slice ea el ec] ∧ Below w.heap.size w wx)) (fun s6 _ => nl - (intOf s6).toNat)
      case atStart => exact ⟨0, by omega, rfl, l, HC0.out⟩
      case round =>
        obtain ⟨i, hi, rfl, HI⟩ := hrel
        clear HC0
        obtain ⟨l2, hC, hrl, hrc, hbw⟩ := HI.out
        by_cases hit : i < nl
        · have hin : i < N.length := by have := HNL.out; omega
          have hil : i < l2.length := by rw [hC.len]; exact hin
          have hrg := hC.rg i hin
          have hcs : csN N i ≤ 32 := (HNN.out _ (mem_getD (d := []) hin)).2
          obtain ⟨y, Hy⟩ : ∃ y, Hid (l2.getD i 0 = y) := ⟨_, (rfl : l2.getD i 0 = _)⟩
          have c0 := hrl.cell (k := i) (v := .int .i64 y) (by
            have h2 := Hy.out
            simp only [List.getD, List.getElem?_eq_getElem hil, Option.getD_some] at h2
            simp [ints, hil, h2])
          have f0 := hrl.frozen i
          have hW3 : Row (wr.setCell ⟨lb, i, none⟩ (.int .i64 (y + 1))) lb 3 (ints (l2.set i (y + 1))) ∧ Row (wr.setCell ⟨lb, i, none⟩ (.int .i64 (y + 1))) w.heap.size 25 [.slice na nl nc, .slice ea el ec] ∧ Below w.heap.size w (wr.setCell ⟨lb, i, none⟩ (.int .i64 (y + 1))) := by
            have h1 := hrl.set i (.int .i64 (y + 1))
            rw [ints_set] at h1
            exact ⟨h1, hrc.other (by show w.heap.size ≠ lb; have := Hlb.out; omega) _, hbw.setCell (show w.heap.size ≤ lb by have := Hlb.out; omega) _⟩
          have HC := hid_of hC
          rw [Hy.out] at hrg
          have hiz : (i : Int) < (nl : Int) := by omega
          have HCI := hid_of hcs
          have hy0 : 0 ≤ y ∧ y < 32 := by omega
          have HRG := hid_of hrg
          clear hC hrl hrc hbw hrg hcs HI
          go_upto_region 9 with fail
          clear c0 f0
          refine wp_at (fun Y => Row Y lb 3 (ints (l2.set i (y + 1))) ∧ Row Y w.heap.size 25 [.slice na nl nc, .slice ea el ec] ∧ Below w.heap.size w Y) hW3 ?_
          clear hW3
          rintro Y ⟨hrl, hrc, hbw⟩
          have a0 := hrc.cell (k := 0) rfl
          have c0 := hrl.cell (k := i) (v := .int .i64 (y + 1)) (by simp [ints, hil])
          obtain ⟨b, off, a3, n3, c3, rfl, hpb, ck, hi3, hn3, hn3m⟩ := rows_at2 ((HP.out Y hbw).nd) hin
          have HN3 : Hid (csN N i = n3) := hn3.symm
          have f0 := hrl.frozen i
          have HM3 := hid_of (And.intro hrl (And.intro hrc hbw))
          clear hrl hrc hbw hi3 hn3 hn3m hpb
          by_cases hlt : y + 1 < (n3 : Int)
          · have hdl : decide (y + 1 < (n3 : Int)) = true := by simpa using hlt
            have hst := HC.out.stop hin (by rw [Hy.out, HN3.out]; exact hlt)
            rw [Hy.out] at hst
            obtain ⟨s1, s2, s3⟩ := hst
            have HG : Hid (∃ l : List Int, l.length = N.length ∧ RgZ N l N.length ∧ BestI N Es B (valZ N l N.length) ∧ (wtZ N N.length - valZ N l N.length).toNat ≤ gk - 1 ∧ (∀ q, Row (Y.drewN q) lb 3 (ints l) ∧ Row (Y.drewN q) w.heap.size 25 [.slice (some ⟨b, off, none⟩) nl nc, .slice ea el ec] ∧ Below w.heap.size w (Y.drewN q))) :=
              ⟨_, s1, s2, by rw [s3]; exact HST.out, by rw [s3]; have := HLG.out.2.2; omega, fun q => ⟨HM3.out.1, HM3.out.2.1, bel_drewN HM3.out.2.2 q⟩⟩
            have hne : ((i : Int) == (nl : Int)) = false := by simp; omega
            clear HM3 s1 s2 s3 hlt
            go_wp2_with fail
            go_quiet (fail)
            clear a0 c0 ck f0
            go_wp2_with fail
            go_roundg (gk - 1)
            case rel =>
              obtain ⟨l9, t1, t2, t3, t4, t5⟩ := HG.out
              exact ⟨_, rfl, l9, t1, t2, t3, t4, t5 _⟩
            case measure => omega
          · have hdl : decide (y + 1 < (n3 : Int)) = false := by simpa using hlt
            have hmo := HC.out.more hin (by rw [Hy.out, HN3.out]; have := HRG.out.2; have := HN3.out; omega)
            rw [Hy.out] at hmo
            have HG : Hid (∀ q, ∃ l2', CarI N (valZ N l N.length) (i + 1) l2' ∧ Row ((Y.drewN q).setCell ⟨lb, i, none⟩ (.int .i64 0)) lb 3 (ints l2') ∧ Row ((Y.drewN q).setCell ⟨lb, i, none⟩ (.int .i64 0)) w.heap.size 25 [.slice (some ⟨b, off, none⟩) nl nc, .slice ea el ec] ∧ Below w.heap.size w ((Y.drewN q).setCell ⟨lb, i, none⟩ (.int .i64 0))) := fun q => by
              have h1 := (show Row (Y.drewN q) lb 3 (ints (l2.set i (y + 1))) from HM3.out.1).set i (.int .i64 0)
              rw [ints_set] at h1
              exact ⟨_, hmo, h1, (show Row (Y.drewN q) w.heap.size 25 _ from HM3.out.2.1).other (a := ⟨lb, i, none⟩) (by show w.heap.size ≠ lb; have := Hlb.out; omega) _, (bel_drewN HM3.out.2.2 q).setCell (show w.heap.size ≤ lb by have := Hlb.out; omega) _⟩
            clear HM3 hmo hlt
            go_wp2_with fail
            go_quiet (fail)
            go_wp2_with fail
            go_roundw
            case rel => exact ⟨i + 1, by omega, by go_num, HG.out _⟩
            case measure => simp [intOf]; omega
        · obtain rfl : i = nl := by omega
          have hC2 := hC
          rw [HNL.out] at hC2
          have hend := hC2.end_
          have HF := hid_of HST.out
          have HE : Hid (BestI N Es B (wtZ N N.length)) := by show BestI _ _ _ _; rw [hend]; exact HST.out
          have HBW := hid_of hbw
          have heq : ((i : Int) == (i : Int)) = true := by simp
          clear hC hrl hrc hbw hC2 hend HI
          go_wp2_with fail
          go_ret
          exact ⟨_, rfl, HE.out, HBW.out⟩
end
end Go.Proofs.Ytdomnbgjafdnjaa
