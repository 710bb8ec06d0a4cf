/- 'dom.Idom': a loop that holds a loop over a function. -/
import Derived.Test.YtcihobmjohpnkaaDomV
import Derived.Sort.LoopGhostIn
import Derived.Test.YtcihobmjohpnkaaBitL
import Derived.Sort.BigQuietIn
import Derived.Deep.RegionWith
import Derived.StillTailTactics
namespace Go.Proofs.Ytcihobmjohpnkaa
open Go.RowKit Go.Sort Go.Shelf

attribute [local go_sem] Oper.semAt_some

/-- The marks that loops over functions have left behind, in blocks from B on. -/
def markL (Ds : List Nat) : List Deferred := Ds.map fun D => { target := .collected D, args := #[] }
structure Marks (B : Nat) (Ds : List Nat) (W : World) : Prop where
  nd : Ds.Nodup
  at' : ∀ D ∈ Ds, B ≤ D ∧ W.heap[D]? = some (.deferred (some []))
theorem Marks.nil (B : Nat) (W : World) : Marks B [] W := ⟨List.nodup_nil, fun D h => by simp at h⟩
theorem Marks.lt {B : Nat} {Ds : List Nat} {W : World} (h : Marks B Ds W) : ∀ D ∈ Ds, D < W.heap.size := fun D hD => (Array.getElem?_eq_some_iff.1 (h.at' D hD).2).1
theorem Marks.keep {B : Nat} {Ds : List Nat} {W W' : World} (h : Marks B Ds W) (hk : ∀ D ∈ Ds, W'.heap[D]? = W.heap[D]?) : Marks B Ds W' := ⟨h.nd, fun D hD => ⟨(h.at' D hD).1, (hk D hD).trans (h.at' D hD).2⟩⟩
theorem Marks.cons {B D : Nat} {Ds : List Nat} {W : World} (h : Marks B Ds W) (hB : B ≤ D) (hD : W.heap[D]? = some (.deferred (some []))) (hn : D ∉ Ds) : Marks B (D :: Ds) W :=
  ⟨List.nodup_cons.2 ⟨hn, h.nd⟩, fun x hx => (List.mem_cons.1 hx).elim (fun e => e ▸ ⟨hB, hD⟩) (fun hx => h.at' x hx)⟩
/-- At the end each of them is taken: what lies below B, and the result, stay. -/
theorem leaves_marks {F : Fence} {n : Nat} {P : Program} {fn : Func} {tmps : Array Value} {R : Ending → World → Prop} {B : Nat} : ∀ (Ds : List Nat) (W : World), Marks B Ds W →
    (∀ W', Below B W W' → W'.heap.size = W.heap.size → (∀ b, b ∉ Ds → W'.heap[b]? = W.heap[b]?) → ∃ v, (results fn tmps).run P W' = .ok v W' ∧ R (.returned v) W') → LeavesInM F n P fn tmps R (markL Ds) .returning W
  | [], W, _, hR => by
    obtain ⟨v, h1, h2⟩ := hR W (Below.refl _ _) rfl (fun _ _ => rfl)
    exact ⟨v, h1, h2⟩
  | D :: Ds, W, h, hR => by
    obtain ⟨hB, hD⟩ := h.at' D (by simp)
    have hnd := List.nodup_cons.1 h.nd
    have hlt := (Array.getElem?_eq_some_iff.1 hD).1
    refine ⟨by simp, .inl ⟨D, _, rfl, run_takeDeferred hD, ?_⟩⟩
    have hk : ∀ b, b ≠ D → (W.putObj D (.deferred none)).heap[b]? = W.heap[b]? := fun b hb => World.putObj_heap_other hb
    refine leaves_marks Ds _ ⟨hnd.2, fun x hx => ⟨(h.at' x (by simp [hx])).1, ?_⟩⟩ ?_
    · rw [hk x (fun e => hnd.1 (e ▸ hx))]; exact (h.at' x (by simp [hx])).2
    · intro W' hb hs ho
      have hsz : (W.putObj D (.deferred none)).heap.size = W.heap.size := by simp
      refine hR W' (((Below.refl B W).grown (grownBy_putObj' W D _) (by have := hlt; omega) (fun k e => by cases e; exact hB)).trans hb) (hs.trans hsz) (fun b hb' => ?_)
      simp only [List.mem_cons, not_or] at hb'
      exact (ho b hb'.2).trans (hk b hb'.1)

/-- The nearest one over block b, going over the blocks that are over it. -/
def idC (D : List (List Nat)) (x : Int) : Nat := (listI (D.getD x.toNat [])).length
def idStep (D : List (List Nat)) (b cur a : Int) : Int := if a ≠ b ∧ (cur < 0 ∨ idC D cur < idC D a) then a else cur
def idAt (D : List (List Nat)) (b : Nat) : Int := (listI (D.getD b [])).foldl (idStep D b) (-1)

theorem Each_in (a : Option Addr) (len cap : Nat) (w : World) :
    CallsIn Fence.wide 4 Try.prog 88 #[.agg #[.slice a len cap]] w fun e w' => e = .returned (.func (.func 125) #[] #[.pointer (some ⟨w.heap.size + 1, 0, none⟩)]) ∧ w' = (w.alloc (.cells #[.slice a len cap] 96)).alloc (.cells #[.slice a len cap] 96) := by
  refine callsIn_of_wp Try.func88 rfl trivial ?_ rfl
  simp only [Try.ntmps88, List.size_toArray, List.length_cons, List.length_nil, Nat.reduceAdd, Nat.reduceSub, Array.replicate_succ, Array.replicate_zero, List.push_toArray, List.append_toArray, List.nil_append, List.cons_append]
  gi_wp2
  refine ⟨trivial, (each_in _ _ _ _ _).mono ?_⟩
  rintro e w' ⟨rfl, rfl⟩
  gi_wp2
  go_ret
  exact ⟨by simp, rfl⟩

theorem OverOk.lt {L : List (List InsD)} {D : List (List Nat)} (h : OverOk L D) {b : Nat} (hb : b < L.length) {x : Int} (hx : x ∈ listI (D.getD b [])) : x ∈ orderS L ∧ (b : Int) ∈ orderS L := by
  have hbo : (b : Int) ∈ orderS L := by
    rw [← h.some b hb]; exact List.length_pos_iff.2 (List.ne_nil_of_mem hx)
  rw [mem_listI] at hx
  have h1 := h.over hbo x.toNat
  rw [Int.toNat_natCast, Int.toNat_of_nonneg hx.1, hx.2] at h1
  have h2 := h1.symm
  unfold overS at h2
  simp only [Bool.and_eq_true, decide_eq_true_eq] at h2
  exact ⟨h2.1.1, hbo⟩
theorem idFold_mem (D : List (List Nat)) (b : Int) : ∀ (ys : List Int) (c : Int), ys.foldl (idStep D b) c = c ∨ ys.foldl (idStep D b) c ∈ ys
  | [], c => .inl rfl
  | y :: ys, c => by
    rw [List.foldl_cons]
    rcases idFold_mem D b ys (idStep D b c y) with h | h
    · rw [h]; unfold idStep
      split
      · exact .inr (by simp)
      · exact .inl rfl
    · exact .inr (List.mem_cons_of_mem _ h)
/-- What 'Idom' has found when so many have come. -/
def idF (D : List (List Nat)) (k : Nat) {ws : List Nat} (pre : List { x : Int // x ∈ listI ws }) : Int := (pre.map fun x => x.1).foldl (idStep D k) (-1)
theorem idF_snoc (D : List (List Nat)) (k : Nat) {ws : List Nat} (pre : List { x : Int // x ∈ listI ws }) (x : { x : Int // x ∈ listI ws }) : idF D k (pre ++ [x]) = idStep D k (idF D k pre) x.1 := by
  unfold idF; rw [List.map_append, List.foldl_append]; rfl
theorem good_ints {W : World} {Bo : Nat} {O : List Int} (hr : Row W Bo 3 (ints O)) : ∀ v, W.cell? ⟨Bo, 0, none⟩ = some v → v.ownBlock = none := fun v hv => by
  cases O with
  | nil =>
    have : W.cell? ⟨Bo, 0, none⟩ = none := by unfold World.cell?; rw [show W.heap[Bo]? = _ from hr]; rfl
    rw [this] at hv; cases hv
  | cons y O =>
    have := hr.cell (k := 0) (v := .int .i64 y) rfl
    rw [this] at hv; cases hv; rfl
theorem row_putInt {W : World} {Bo k : Nat} {O : List Int} (hr : Row W Bo 3 (ints O)) (x : Int) : Row (W.setCell ⟨Bo, k, none⟩ (.int .i64 x)) Bo 3 (ints (O.set k x)) := by
  have e : (ints O).set k (.int .i64 x) = ints (O.set k x) := by simp [ints, List.map_set]
  rw [← e]; exact hr.set k _
theorem KeepsBut.putInt {W : World} {n₀ Bo k : Nat} {O : List Int} (hB : n₀ ≤ Bo) (hr : Row W Bo 3 (ints O)) (x : Int) : KeepsBut n₀ Bo W (W.setCell ⟨Bo, k, none⟩ (.int .i64 x)) := by
  have hc := good_ints (row_putInt (k := k) hr x)
  refine ⟨(Below.refl _ _).setCell (by show n₀ ≤ Bo; exact hB) _, fun b o u hp hcu => ?_, fun b _ hp => ⟨hp.1, fun u hu => ?_⟩, fun hG => ⟨by simpa using hr.lt, fun u hu b hub => ?_⟩⟩
  · rw [cell_of_block (Below.heap_setCell _ _ _ _ hp.1)]; exact hcu
  · rw [hc u hu]; simp
  · rw [hc u hu] at hub; simp at hub

/-- What a round of 'Idom' has in memory. -/
structure IdSt (n tr : Nat) (D : List (List Nat)) (W1 : World) (k : Nat) (O : List Int) (W : World) : Prop where
  r3 : Row W W1.heap.size 99 [.pointer (some ⟨tr, 0, none⟩)]
  r4 : Row W (W1.heap.size + 1 + 1) 25 [.slice (some ⟨W1.heap.size + 1, 0, none⟩) n n]
  rO : Row W (W1.heap.size + 1) 3 (ints O)
  lO : O.length = n
  at' : ∀ j, j < k → O.getD j 0 = idAt D j
  kp : Below W1.heap.size W1 W

theorem IdSt.grown {n tr : Nat} {D : List (List Nat)} {W1 : World} {k : Nat} {O : List Int} {W W' : World} {row : Option Nat} (h : IdSt n tr D W1 k O W) (hg : W.grownBy W' row) (hr : ∀ r, row = some r → W1.heap.size + 3 ≤ r) : IdSt n tr D W1 k O W' := by
  have hb : ∀ b, b < W1.heap.size + 3 → b < W.heap.size → W'.heap[b]? = W.heap[b]? := fun b h1 h2 => hg.block b h2 (fun e => by have := hr b e.symm; omega)
  exact ⟨h.r3.keep (hb _ (by omega) h.r3.lt), h.r4.keep (hb _ (by omega) h.r4.lt), h.rO.keep (hb _ (by omega) h.rO.lt), h.lO, h.at', h.kp.grown hg h.kp.size (fun r e => by have := hr r e; omega)⟩

theorem IdSt.below {n tr : Nat} {D : List (List Nat)} {W1 : World} {k : Nat} {O : List Int} {W W' : World} (h : IdSt n tr D W1 k O W) (hb : Below W.heap.size W W') : IdSt n tr D W1 k O W' :=
  ⟨h.r3.keep (hb.block _ h.r3.lt), h.r4.keep (hb.block _ h.r4.lt), h.rO.keep (hb.block _ h.rO.lt), h.lO, h.at', bel_call h.kp hb⟩
theorem run_mk_ints (W : World) (n : Nat) (hn : n ≤ 1000000) : (Instr.makeSlice 25 (.int .i64 (n : Int)) (.int .i64 (n : Int))).run Try.prog W = .ok (.slice (some ⟨W.heap.size, 0, none⟩) n n) (W.alloc (.cells (List.replicate n (Value.int .i64 0)).toArray 3)) := by
  obtain ⟨i0, hi, hz0, hz1, hz2⟩ := info_parts infoInt
  have hrun := run_make (P := Try.prog) W 25 3 i0 _ Try.underlying25 hi hz0 .i64 .i64 n n (by omega) (Int.le_refl _) (by rw [hz2]; omega) (by omega)
  have hmade : madeCells (Value.int .i64 0).cells (n * i0.size) = (List.replicate n (Value.int .i64 0)).toArray := by
    rw [hz1, Nat.mul_one]
    exact Array.toList_inj.1 (by rw [show (Value.int .i64 0).cells = #[.int .i64 0] from rfl, toList_madeCells_one])
  simp only [Int.toNat_natCast] at hrun
  rw [hmade] at hrun
  exact hrun

set_option maxRecDepth 100000 in
set_option maxHeartbeats 8000000 in
theorem idom_in {a : Option Addr} {n cap : Nat} (w : World) {L : List (List InsD)} (h : IsBlocks (· < w.heap.size) w (.slice a n cap) L) (hl : n ≤ 1000) :
    CallsIn Fence.wide 5 Try.prog 50 #[.slice a n cap] w fun e w' => ∃ z D, e = .returned z ∧ OverOk L D ∧ w'.ownsRow w.heap.size 3 1 z n (ints ((List.range n).map (idAt D))) ∧ Below w.heap.size w w' := by
  have hnL : n = L.length := by obtain ⟨_, _, hv0, hl0, hx⟩ := id h; simp only [Value.slice.injEq] at hv0; exact hv0.2.1
  have HNL := hid_of hnL
  obtain ⟨zs, HZ⟩ : ∃ zs : Array Value, Hid (zs = (List.replicate n (Value.int .i64 0)).toArray) := ⟨_, (rfl : _ = (List.replicate n (Value.int .i64 0)).toArray)⟩
  have hmk : ∀ W : World, (Instr.makeSlice 25 (.int .i64 (n : Int)) (.int .i64 (n : Int))).run Try.prog W = .ok (.slice (some ⟨W.heap.size, 0, none⟩) n n) (W.alloc (.cells zs 3)) := fun W => by
    rw [HZ.out]; exact run_mk_ints W n (by omega)
  have HOf := hid_of (tree_of w h hl)
  clear hnL h
  refine callsIn_of_wp_marks Try.func50 rfl trivial ?_ rfl
  simp only [Try.ntmps50, List.size_toArray, List.length_cons, List.length_nil, Nat.reduceAdd, Nat.reduceSub, Array.replicate_succ, Array.replicate_zero, List.push_toArray, List.append_toArray, List.nil_append, List.cons_append]
  gi_wp2
  refine ⟨trivial, (callsIn_wide.2 HOf.out).mono ?_⟩
  rintro e W1 ⟨tr, R, D, rfl, hT, hb1⟩
  have HT := hid_of hT
  have HB1 := hid_of hb1
  clear HOf hT hb1
  gi_wp2
  have HS0 : Hid (IdSt n tr D W1 0 (List.replicate n 0) (((W1.alloc (.cells #[.pointer (some ⟨tr, 0, none⟩)] 99)).alloc (.cells zs 3)).alloc (.cells #[.slice (some ⟨W1.heap.size + 1, 0, none⟩) n n] 25))) := by
    have hbb := bel_alloc (bel_alloc (bel_alloc (bel_refl W1) (.cells #[.pointer (some ⟨tr, 0, none⟩)] 99)) (.cells zs 3)) (.cells #[.slice (some ⟨W1.heap.size + 1, 0, none⟩) n n] 25)
    refine ⟨heap_alloc_ne _ _ _ _ (heap_alloc_ne _ _ _ _ (heap_alloc_eq _ _ _ rfl)), heap_alloc_eq _ _ _ (by simp), ?_, by simp, fun j hj => by omega, hbb⟩
    have := heap_alloc_ne _ (.cells #[.slice (some ⟨W1.heap.size + 1, 0, none⟩) n n] 25) _ _ (heap_alloc_eq (W1.alloc (.cells #[.pointer (some ⟨tr, 0, none⟩)] 99)) (.cells zs 3) (W1.heap.size + 1) (by simp))
    rw [HZ.out] at this
    show _ = _
    rw [HZ.out, this]
    simp [ints]
  refine wpIn_loop_ghost_k (fun g a' w' => ∃ (k : Nat) (kz : Int) (Ds : List Nat) (O : List Int) (u5 u6 u15 u16 u17 u18 u19 u20 u21 u22 u23 u24 u25 u26 u27 u28 u29 u30 u31 u32 u33 u34 u35 u36 u37 u38 u39 u40 u41 u42 u43 u44 u45 u46 u47 u48 u49 u50 u51 u52 u53 u54 u55 u56 u57 u58 u59 u60 u61 u62 u63 u64 u65 u66 : Value), a' = { tmps := #[.slice a n cap, undef, .slice none 0 0, .pointer (some ⟨W1.heap.size, 0, none⟩), .pointer (some ⟨W1.heap.size + 1 + 1, 0, none⟩), u5, u6, .slice a n cap, .pointer (some ⟨tr, 0, none⟩), .slice a n cap, .int .i64 (n : Int), .slice (some ⟨W1.heap.size + 1, 0, none⟩) n n, .slice (some ⟨W1.heap.size + 1, 0, none⟩) n n, .int .i64 (n : Int), .int .i64 kz, u15, u16, u17, u18, u19, u20, u21, u22, u23, u24, u25, u26, u27, u28, u29, u30, u31, u32, u33, u34, u35, u36, u37, u38, u39, u40, u41, u42, u43, u44, u45, u46, u47, u48, u49, u50, u51, u52, u53, u54, u55, u56, u57, u58, u59, u60, u61, u62, u63, u64, u65, u66], defers := markL Ds } ∧ kz = (k : Int) ∧ k ≤ n ∧ g = n - k ∧ Hid (IdSt n tr D W1 k O w') ∧ Hid (Marks (W1.heap.size + 3) Ds w')) n ?atStart ?round
  case atStart => exact ⟨0, 0, [], List.replicate n 0, _, _, _, _, _, _, _, _, _, _, _, _, _, _, _, _, _, _, _, _, _, _, _, _, _, _, _, _, _, _, _, _, _, _, _, _, _, _, _, _, _, _, _, _, _, _, _, _, _, _, _, _, _, _, rfl, rfl, by omega, by omega, HS0, Marks.nil _ _⟩
  case round =>
    clear HS0
    intro gk a' wr hrel J K hJ hK
    obtain ⟨k, _, Ds, O, u5, u6, u15, u16, u17, u18, u19, u20, u21, u22, u23, u24, u25, u26, u27, u28, u29, u30, u31, u32, u33, u34, u35, u36, u37, u38, u39, u40, u41, u42, u43, u44, u45, u46, u47, u48, u49, u50, u51, u52, u53, u54, u55, u56, u57, u58, u59, u60, u61, u62, u63, u64, u65, u66, rfl, rfl, hk, rfl, HS, HM⟩ := hrel
    have HJ := hid_of hJ
    clear hJ
    by_cases hlt : k < n
    · have q3 := HS.out.r3.cell (k := 0) (v := .pointer (some ⟨tr, 0, none⟩)) rfl
      have q4 := HS.out.r4.cell (k := 0) (v := .slice (some ⟨W1.heap.size + 1, 0, none⟩) n n) rfl
      have hl3 := HS.out.r3.lt
      have hl4 := HS.out.r4.lt
      have hlO := HS.out.rO.lt
      have hlo := HS.out.lO
      have qO := HS.out.rO.cell (k := k) (v := .int .i64 (O.getD k 0)) (by simp [ints, List.getD, show k < O.length by omega])
      have fO := HS.out.rO.frozen k
      have hk0 : (0 : Int) ≤ (k : Int) := by omega
      have hkz : (k : Int) < (n : Int) := by omega
      have hd3 : W1.heap.size ≠ W1.heap.size + 1 := by omega
      have hd4 : W1.heap.size + 1 + 1 ≠ W1.heap.size + 1 := by omega
      clear hlo
      obtain ⟨ord, vp, vo, tr1, -, tr3⟩ := HT.out.row
      obtain ⟨oa, oc, rfl, -, hx⟩ := id tr3
      have hDl : D.length = n := by rw [HT.out.ov.len, HNL.out]
      rw [hDl] at tr1
      have hkD : k < D.length := by rw [hDl]; exact hlt
      rcases hx with hx | ⟨ob, oo, rfl, -, hx⟩
      · rw [hx] at hkD; simp at hkD
      obtain ⟨v, e0, hv⟩ := hx k hkD
      rw [Nat.mul_one] at e0
      obtain ⟨za, zn, zc, rfl⟩ := words_slice hv
      have eD : D[k] = D.getD k [] := by simp [List.getD, hkD]
      rw [eD] at hv
      have ht0 := tr1.lt
      have ho0 : ob < W1.heap.size := lt_of_cell e0
      have e1 := (tr1.keep (HS.out.kp.block tr ht0)).cell (k := 2) (v := .slice (some ⟨ob, oo, none⟩) n oc) rfl
      have e2 := (World.cell?_of_block (a := ⟨ob, oo + k, none⟩) (HS.out.kp.block ob ho0)).trans e0
      have htl : tr < wr.heap.size := by omega
      have hol : ob < wr.heap.size := by omega
      have hdt : tr ≠ W1.heap.size + 1 := by omega
      have hdo : ob ≠ W1.heap.size + 1 := by omega
      have HV := hid_of hv
      have HOV : Hid (∀ j, j < n → ∃ ja jn jc, W1.cell? ⟨ob, oo + j, none⟩ = some (.slice ja jn jc) ∧ IsWords (w.heap.size ≤ ·) W1 (.slice ja jn jc) (D.getD j [])) := fun j hj => by
        have hjD : j < D.length := by omega
        obtain ⟨v, g0, gv⟩ := hx j hjD
        rw [Nat.mul_one] at g0
        obtain ⟨ja, jn, jc, rfl⟩ := words_slice gv
        have eJ : D[j] = D.getD j [] := by simp [List.getD, hjD]
        rw [eJ] at gv
        exact ⟨ja, jn, jc, g0, gv⟩
      have TR1 := hid_of tr1
      clear hx hkD eD hv tr3 hDl
      gi_wp2
      have hmo : Try.prog.follows Departure.mixedOrders = true := by kernel_rfl
      refine wpIn_wide.2 ?_
      have hs1 := HS.out.kp.size
      have hbb : Below W1.heap.size W1 ((wr.setCell ⟨W1.heap.size + 1, k, none⟩ (.int .i64 (-1))).alloc (.cells #[.int .i64 (k : Int)] 3)) := ((HS.out.kp).setCell (by show W1.heap.size ≤ W1.heap.size + 1; omega) _).alloc (by simpa using hs1) _
      have hQ : IdSt n tr D W1 k (O.set k (-1)) ((wr.setCell ⟨W1.heap.size + 1, k, none⟩ (.int .i64 (-1))).alloc (.cells #[.int .i64 (k : Int)] 3)) ∧ Row ((wr.setCell ⟨W1.heap.size + 1, k, none⟩ (.int .i64 (-1))).alloc (.cells #[.int .i64 (k : Int)] 3)) wr.heap.size 3 [.int .i64 (k : Int)] ∧ Marks (W1.heap.size + 3) Ds ((wr.setCell ⟨W1.heap.size + 1, k, none⟩ (.int .i64 (-1))).alloc (.cells #[.int .i64 (k : Int)] 3)) ∧ ((wr.setCell ⟨W1.heap.size + 1, k, none⟩ (.int .i64 (-1))).alloc (.cells #[.int .i64 (k : Int)] 3)).heap.size = wr.heap.size + 1 := by
        refine ⟨⟨heap_alloc_ne _ _ _ _ (HS.out.r3.other hd3 _), heap_alloc_ne _ _ _ _ (HS.out.r4.other hd4 _), ?_, by simpa using HS.out.lO, fun j hj => ?_, hbb⟩, heap_alloc_eq _ _ _ (by simp), HM.out.keep (fun M hM => ?_), by simp⟩
        · have := HS.out.rO.set k (.int .i64 (-1))
          have e : (ints O).set k (.int .i64 (-1)) = ints (O.set k (-1)) := by simp [ints, List.map_set]
          rw [e] at this
          exact heap_alloc_ne _ _ _ _ this
        · rw [List.getD_eq_getElem?_getD, List.getElem?_set_ne (by omega), ← List.getD_eq_getElem?_getD]
          exact HS.out.at' j hj
        · have h1 := (HM.out.at' M hM).1
          have h2 := HM.out.lt M hM
          exact (Below.heap_alloc _ _ _ (by simpa using h2)).trans (Below.heap_setCell _ _ _ _ (by show M ≠ W1.heap.size + 1; omega))
      obtain ⟨c, Hc⟩ : ∃ c, Hid (wr.heap.size = c) := ⟨_, (rfl : wr.heap.size = _)⟩
      rw [Hc.out] at hQ ⊢
      refine wp_at (fun W => IdSt n tr D W1 k (O.set k (-1)) W ∧ Row W c 3 [.int .i64 (k : Int)] ∧ Marks (W1.heap.size + 3) Ds W ∧ W.heap.size = c + 1) hQ ?_
      clear hQ hbb q3 q4 qO fO e1 e2 hmk
      rintro W2 ⟨hS2, hR2, hM2, hz2⟩
      have q3 := hS2.r3.cell (k := 0) (v := .pointer (some ⟨tr, 0, none⟩)) rfl
      have qb := hR2.cell (k := 0) (v := .int .i64 (k : Int)) rfl
      have e1 := (tr1.keep (hS2.kp.block tr ht0)).cell (k := 2) (v := .slice (some ⟨ob, oo, none⟩) n oc) rfl
      have e2 := (World.cell?_of_block (a := ⟨ob, oo + k, none⟩) (hS2.kp.block ob ho0)).trans e0
      have hEach := fun W => callsIn_wide.1 (Each_in za zn zc W)
      go_still_tail 7, (by kernel_rfl)
      change wpList _ _ _ _ _ W2.drew
      go_wp2_with fail
      refine (hEach _).mono ?_
      rintro e Wx ⟨rfl, rfl⟩
      go_wp2_with fail
      gi_wp2
      obtain ⟨W0, hW0⟩ : ∃ W0, ((W2.alloc (.cells #[.slice za zn zc] 96)).alloc (.cells #[.slice za zn zc] 96)).drew = W0 := ⟨_, rfl⟩
      have hb20 : Below W2.heap.size W2 W0 := by rw [← hW0]; exact (bel_alloc (bel_alloc (bel_refl W2) _) _).drew
      have hsz0 : W0.heap.size = c + 3 := by rw [← hW0]; simp [hz2]
      have bN : Boxed W0 (c + 1 + 1) 96 (.slice za zn zc) := by
        rw [← hW0]; exact heap_alloc_eq (W2.alloc _) _ _ (by simp [hz2])
      have hgO : W1.heap.size + 1 < c := by have := Hc.out; omega
      have hS0 := hS2.grown (W' := W0) (row := none) (by rw [← hW0]; exact grown_trans (grown_trans (World.grownBy_alloc W2 _ none) (World.grownBy_alloc _ _ none)) ⟨rfl, rfl, rfl, Nat.le_refl _, fun _ _ _ => rfl⟩) (fun r e => by cases e)
      have hR0 := hR2.keep (hb20.block c (by omega))
      have hM0 := hM2.keep (fun M hM => hb20.block M (hM2.lt M hM))
      have hDs : ∀ M ∈ Ds, M < W0.heap.size := hM0.lt
      have hgd : Good (W1.heap.size + 1) W0 := ⟨by omega, fun v hv b' hb' => by rw [good_ints hS0.rO v hv] at hb'; simp at hb'⟩
      have hpx : Prot (W1.heap.size + 1) (c + 1 + 1) W0 := ⟨by omega, fun v hv e => by rw [good_ints hS0.rO v hv] at e; simp at e⟩
      rw [hW0]
      have hgoodD := good_getD HT.out.ov.good k
      have hLw : IsWords (· < W1.heap.size) W0 (.slice za zn zc) (D.getD k []) := HV.out.keep (fun b hb hlt => ⟨hlt, hS0.kp.block b hlt⟩)
      have hk01 := hS0.kp.size
      refine wpIn_rangeFunc_ownF (w := W0) rfl (by omega) (gf := 125) (lb := #[.pointer (some ⟨c + 1 + 1, 0, none⟩)]) rfl trivial (enters_of Try.func125 (by kernel_rfl) rfl)
        (each2_stops 4 (by omega) (c + 1 + 1) (W1.heap.size + 1) W1.heap.size _ (D.getD k []) (by have := hgoodD.2; omega) hgoodD.1.1 W0 bN.cell hpx hgd hk01 hLw) KeepsBut.trans ?hkb (Below.refl _ _) (fun _ => rfl)
        (fun pre W => Hid (IdSt n tr D W1 k (O.set k (idF D k pre)) W) ∧ Hid (Row W c 3 [.int .i64 (k : Int)]) ∧ Hid (Marks (W1.heap.size + 3) Ds W))
        (fun _ _ _ => False)
        ?hown
        (fun _ _ _ _ _ hs _ _ => hs)
        ⟨hS0, hR0, hM0⟩
        (fun x => { tmps := #[.slice a n cap, undef, .slice none 0 0, .pointer (some ⟨W1.heap.size, 0, none⟩), .pointer (some ⟨W1.heap.size + 1 + 1, 0, none⟩), .pointer (some ⟨c, 0, none⟩), .int .i64 x.1, .slice a n cap, .pointer (some ⟨tr, 0, none⟩), .slice a n cap, .int .i64 (n : Int), .slice (some ⟨W1.heap.size + 1, 0, none⟩) n n, .slice (some ⟨W1.heap.size + 1, 0, none⟩) n n, .int .i64 (n : Int), .int .i64 (k : Int), .bool true, .int .i64 (k : Int), .slice (some ⟨W1.heap.size + 1, 0, none⟩) n n, .int .i64 (k : Int), .pointer (some ⟨W1.heap.size + 1, k, none⟩), .pointer (some ⟨tr, 0, none⟩), .pointer (some ⟨tr, 0, none⟩), .pointer (some ⟨tr, 2, none⟩), .slice (some ⟨ob, oo, none⟩) n oc, .int .i64 (k : Int), .pointer (some ⟨ob, oo + k, none⟩), .agg #[.slice za zn zc], .func (.func 125) #[] #[.pointer (some ⟨c + 1 + 1, 0, none⟩)], .int .i64 x.1, u29, u30, u31, u32, u33, u34, u35, u36, u37, u38, u39, u40, u41, u42, u43, u44, u45, u46, u47, u48, u49, u50, u51, u52, u53, u54, u55, u56, u57, u58, u59, u60, u61, u62, u63, u64, u65, u66], defers := [] }) ?assign ?body ?done ?stop
      case hkb =>
        intro W l o o' hl ho hc hw
        have hBo : (W.putObj l o').heap[W1.heap.size + 1]? = W.heap[W1.heap.size + 1]? := World.putObj_heap_other (by omega)
        have hsz' : (W.putObj l o').heap.size = W.heap.size := by simp
        refine ⟨belowK_b (w := W0) (by omega) W l o o' hl ho hc hw, fun b o1 v _ hcv => cell_kept hcv (grownBy_putObj' W l o') (fun r e => by cases e; exact ⟨o, ho, hc⟩), fun b _ hp => ⟨hp.1, fun v hv => hp.2 v (by rw [← cell_of_block hBo]; exact hv)⟩, fun hG => ⟨by rw [hsz']; exact hG.1, fun v hv b hb => by rw [hsz']; exact hG.2 v (by rw [← cell_of_block hBo]; exact hv) b hb⟩⟩
      case hown =>
        rintro s W W' row ⟨h1, h2, h3⟩ hg hr
        exact ⟨h1.out.grown hg (fun r e => by have := (hr r e).1; omega), h2.out.keep (hg.block c h2.out.lt (fun e => by have := (hr c e.symm).1; omega)), h3.out.keep (fun M hM => hg.block M (h3.out.lt M hM) (fun e => by have := (hr M e.symm).1; have := hDs M hM; omega))⟩
      case assign =>
        intro lp x W K hK
        gi_wp2
        exact hK
      case body =>
        rintro lp pre ⟨x, hx⟩ W ⟨hS, hR, hM⟩ hlen
        have hwf : ∀ f : FuncId, Fence.wide.fn f = True := fun _ => rfl
        have hkl : k < L.length := by rw [← HNL.out]; exact hlt
        obtain ⟨hxo, hko⟩ := HT.out.ov.lt hkl hx
        obtain ⟨x0, x1, -⟩ := order_range hxo
        obtain ⟨xN, rfl⟩ : ∃ xN : Nat, x = xN := ⟨x.toNat, by omega⟩
        have hxn : xN < n := by rw [HNL.out]; omega
        obtain ⟨cv, Hcv⟩ : ∃ cv, Hid (idF D k pre = cv) := ⟨_, (rfl : idF D k pre = _)⟩
        have hcv : cv = -1 ∨ cv ∈ orderS L := by
          rw [← Hcv.out]
          unfold idF
          rcases idFold_mem D k (pre.map fun x => x.1) (-1) with h | h
          · exact .inl h
          · obtain ⟨z, -, he⟩ := List.mem_map.1 h
            refine .inr ?_
            rw [← he]
            exact (HT.out.ov.lt hkl z.2).1
        have hsn := idF_snoc D k pre ⟨(xN : Int), hx⟩
        rw [Hcv.out] at hsn hS
        dsimp only at hsn
        have hlo := HS.out.lO
        have hcell : (ints (O.set k cv))[k]? = some (.int .i64 cv) := by simp [ints, show k < O.length by omega]
        have hgdW : Good (W1.heap.size + 1) W := ⟨hS.out.rO.lt, fun v hv b' hb' => by rw [good_ints hS.out.rO v hv] at hb'; simp at hb'⟩
        have hn0W : W1.heap.size ≤ W.heap.size := hS.out.kp.size
        have hk0' : (0 : Int) ≤ (k : Int) := by omega
        have hx0 : (0 : Int) ≤ (xN : Int) := by omega
        have hxz : (xN : Int) < (n : Int) := by omega
        clear q3 qb e1 e2 hlo
        by_cases hxk : xN = k
        · have hne : ((xN : Int) != (k : Int)) = false := by simp [hxk]
          have hst : idStep D k cv xN = cv := by unfold idStep; rw [if_neg (fun h => h.1 (by omega))]
          have HC : Hid (∀ X, BkS W X → X.cell? ⟨c, 0, none⟩ = some (.int .i64 (k : Int)) ∧ X.cell? ⟨W1.heap.size + 1 + 1, 0, none⟩ = some (.slice (some ⟨W1.heap.size + 1, 0, none⟩) n n) ∧ X.cell? ⟨W1.heap.size + 1, k, none⟩ = some (.int .i64 cv)) := fun X hX => ⟨((hR.out.keep (hX.block _ hR.out.lt)).cell (k := 0) rfl), ((hS.out.r4.keep (hX.block _ hS.out.r4.lt)).cell (k := 0) rfl), ((hS.out.rO.keep (hX.block _ hS.out.rO.lt)).cell (k := k) hcell)⟩
          have HKX := hid_of hxk
          clear hxk
          gi_wp2
          refine wpIn_region_class (C := BkS W) (by kernel_rfl) (by kernel_rfl) (by kernel_rfl) ((bel_refl W).drew) ?_
          repeat (first
            | gi_big_quiet_skip
            | (gi_big_quiet_want; gi_big_quiet_op; first | go_big_quiet_on | (apply Exists.intro; refine ⟨fun X hX => ?_, ?_⟩; (first | rfl | (obtain ⟨m1, m2, m3⟩ := HC.out X hX; go_simp; first | done | rfl)); go_big_quiet_on)))
          refine wpQuietIn_nil ?_
          intro X hX
          have hSX : Hid (IdSt n tr D W1 k (O.set k (idF D k (pre ++ [⟨(xN : Int), hx⟩]))) X) := by
            rw [hsn, hst]; exact hS.out.below hX
          have HXo : KeepsOthers W X := ⟨hX.size, fun b o hb _ => (hX.block b (Array.getElem?_eq_some_iff.1 hb).1).trans hb⟩
          have HXb := (KeepsBut.of_below hgdW hn0W hX).1
          have hRX := hid_of (hR.out.keep (hX.block _ hR.out.lt))
          have hMX := hid_of (hM.out.keep (fun M hM' => hX.block M (hM.out.lt M hM')))
          gi_wp2
          exact ⟨HXo, HXb, hSX, hRX, hMX⟩
        · have hne : ((xN : Int) != (k : Int)) = true := by simp; omega
          by_cases hc0 : cv < 0
          · have hd : decide (cv < 0) = true := by simpa using hc0
            have hst : idStep D k cv xN = xN := by unfold idStep; rw [if_pos ⟨by omega, .inl hc0⟩]
            have HC : Hid (∀ X, BkS W X → X.cell? ⟨c, 0, none⟩ = some (.int .i64 (k : Int)) ∧ X.cell? ⟨W1.heap.size + 1 + 1, 0, none⟩ = some (.slice (some ⟨W1.heap.size + 1, 0, none⟩) n n) ∧ X.cell? ⟨W1.heap.size + 1, k, none⟩ = some (.int .i64 cv)) := fun X hX => ⟨((hR.out.keep (hX.block _ hR.out.lt)).cell (k := 0) rfl), ((hS.out.r4.keep (hX.block _ hS.out.r4.lt)).cell (k := 0) rfl), ((hS.out.rO.keep (hX.block _ hS.out.rO.lt)).cell (k := k) hcell)⟩
            clear hcv hc0
            gi_wp2
            refine wpIn_region_class (C := BkS W) (by kernel_rfl) (by kernel_rfl) (by kernel_rfl) ((bel_refl W).drew) ?_
            repeat (first
              | gi_big_quiet_skip
              | (gi_big_quiet_want; gi_big_quiet_op; first | go_big_quiet_on | (apply Exists.intro; refine ⟨fun X hX => ?_, ?_⟩; (first | rfl | (obtain ⟨m1, m2, m3⟩ := HC.out X hX; go_simp; first | done | rfl)); go_big_quiet_on)))
            refine wpQuietIn_nil ?_
            intro X hX
            have hS1 := hS.out.below hX
            have hR1 := hR.out.keep (hX.block _ hR.out.lt)
            have hM1 := hM.out.keep (fun M hM' => hX.block M (hM.out.lt M hM'))
            have x4 := hS1.r4.cell (k := 0) (v := .slice (some ⟨W1.heap.size + 1, 0, none⟩) n n) rfl
            have xb := hR1.cell (k := 0) (v := .int .i64 (k : Int)) rfl
            have xO := hS1.rO.cell (k := k) (v := .int .i64 cv) hcell
            have xF := hS1.rO.frozen k
            have hSX : Hid (IdSt n tr D W1 k (O.set k (idF D k (pre ++ [⟨(xN : Int), hx⟩]))) (X.setCell ⟨W1.heap.size + 1, k, none⟩ (.int .i64 (xN : Int)))) := by
              rw [hsn, hst]
              have := row_putInt (k := k) hS1.rO (xN : Int)
              rw [List.set_set] at this
              exact ⟨hS1.r3.other hd3 _, hS1.r4.other hd4 _, this, by simpa using hS1.lO, fun j hj => by rw [List.getD_eq_getElem?_getD, List.getElem?_set_ne (by omega), ← List.getD_eq_getElem?_getD]; exact HS.out.at' j hj, hS1.kp.setCell (by show W1.heap.size ≤ W1.heap.size + 1; omega) _⟩
            have HXo : KeepsOthers W (X.setCell ⟨W1.heap.size + 1, k, none⟩ (.int .i64 (xN : Int))) := KeepsOthers.trans ⟨hX.size, fun b o hb _ => (hX.block b (Array.getElem?_eq_some_iff.1 hb).1).trans hb⟩ (KeepsOthers.setCell _ _ _)
            have HXb := ((KeepsBut.of_below hgdW hn0W hX).1).trans (KeepsBut.putInt (k := k) (by omega : W1.heap.size ≤ W1.heap.size + 1) hS1.rO (xN : Int))
            have hRX := hid_of (hR1.other (a := ⟨W1.heap.size + 1, k, none⟩) (by show c ≠ W1.heap.size + 1; omega) (.int .i64 (xN : Int)))
            have hMX := hid_of (hM1.keep (W' := X.setCell ⟨W1.heap.size + 1, k, none⟩ (.int .i64 (xN : Int))) (fun M hM' => Below.heap_setCell _ _ _ _ (by have := (hM1.at' M hM').1; show M ≠ W1.heap.size + 1; omega)))
            clear hS1 hR1 hM1
            gi_wp2
            exact ⟨HXo, HXb, hSX, hRX, hMX⟩
          · have hd : decide (cv < 0) = false := by simpa using hc0
            have hcm : cv ∈ orderS L := hcv.resolve_left (by omega)
            obtain ⟨c0, c1, -⟩ := order_range hcm
            obtain ⟨cN, rfl⟩ : ∃ cN : Nat, cv = cN := ⟨cv.toNat, by omega⟩
            have hcn : cN < n := by rw [HNL.out]; omega
            have hcz0 : (0 : Int) ≤ (cN : Int) := by omega
            have hczn : (cN : Int) < (n : Int) := by omega
            obtain ⟨xa, xn, xc, gx, gxw⟩ := HOV.out xN hxn
            obtain ⟨ya, yn, yc, gc, gcw⟩ := HOV.out cN hcn
            obtain ⟨lx, Hlx⟩ : ∃ lx, Hid (idC D (xN : Int) = lx) := ⟨_, (rfl : idC D (xN : Int) = _)⟩
            obtain ⟨lc, Hlc⟩ : ∃ lc, Hid (idC D (cN : Int) = lc) := ⟨_, (rfl : idC D (cN : Int) = _)⟩
            have hLx : ∀ X, BkS W X → ∀ {m : Nat}, CallsIn (Fence.wide.inRound lp) m Try.prog 89 #[.agg #[.slice xa xn xc]] X fun e X' => e = .returned (.int .i64 (lx : Int)) ∧ BkS W X' := fun X hX m => by
              have hg := good_getD HT.out.ov.good xN
              refine (CallsIn.inRound lp (callsIn_wide.2 (len_c X (gxw.keep (p' := (· < X.heap.size)) (fun b hb hlt => ⟨by have := hX.size; have := hS.out.kp.size; omega, (hX.block b (by have := hS.out.kp.size; omega)).trans (hS.out.kp.block b hlt)⟩)) (by have := hg.2; omega) hg.1.1))).mono ?_
              rintro e X' ⟨rfl, hb⟩
              rw [← Hlx.out]
              exact ⟨rfl, bel_call hX hb⟩
            have hLc : ∀ X, BkS W X → ∀ {m : Nat}, CallsIn (Fence.wide.inRound lp) m Try.prog 89 #[.agg #[.slice ya yn yc]] X fun e X' => e = .returned (.int .i64 (lc : Int)) ∧ BkS W X' := fun X hX m => by
              have hg := good_getD HT.out.ov.good cN
              refine (CallsIn.inRound lp (callsIn_wide.2 (len_c X (gcw.keep (p' := (· < X.heap.size)) (fun b hb hlt => ⟨by have := hX.size; have := hS.out.kp.size; omega, (hX.block b (by have := hS.out.kp.size; omega)).trans (hS.out.kp.block b hlt)⟩)) (by have := hg.2; omega) hg.1.1))).mono ?_
              rintro e X' ⟨rfl, hb⟩
              rw [← Hlc.out]
              exact ⟨rfl, bel_call hX hb⟩
            have HC : Hid (∀ X, BkS W X → X.cell? ⟨c, 0, none⟩ = some (.int .i64 (k : Int)) ∧ X.cell? ⟨W1.heap.size + 1 + 1, 0, none⟩ = some (.slice (some ⟨W1.heap.size + 1, 0, none⟩) n n) ∧ X.cell? ⟨W1.heap.size + 1, k, none⟩ = some (.int .i64 (cN : Int)) ∧ X.cell? ⟨W1.heap.size, 0, none⟩ = some (.pointer (some ⟨tr, 0, none⟩)) ∧ X.cell? ⟨tr, 2, none⟩ = some (.slice (some ⟨ob, oo, none⟩) n oc) ∧ X.cell? ⟨ob, oo + xN, none⟩ = some (.slice xa xn xc) ∧ X.cell? ⟨ob, oo + cN, none⟩ = some (.slice ya yn yc)) := fun X hX => ⟨((hR.out.keep (hX.block _ hR.out.lt)).cell (k := 0) rfl), ((hS.out.r4.keep (hX.block _ hS.out.r4.lt)).cell (k := 0) rfl), ((hS.out.rO.keep (hX.block _ hS.out.rO.lt)).cell (k := k) hcell), ((hS.out.r3.keep (hX.block _ hS.out.r3.lt)).cell (k := 0) rfl), ((TR1.out.keep ((hS.out.kp.block tr ht0))).keep (hX.block tr (by have := hS.out.kp.size; omega))).cell (k := 2) rfl, (World.cell?_of_block (a := ⟨ob, oo + xN, none⟩) ((hX.block ob (by have := hS.out.kp.size; omega)).trans (hS.out.kp.block ob ho0))).trans gx, (World.cell?_of_block (a := ⟨ob, oo + cN, none⟩) ((hX.block ob (by have := hS.out.kp.size; omega)).trans (hS.out.kp.block ob ho0))).trans gc⟩
            by_cases hl : lc < lx
            · have hdl : decide ((lx : Int) > (lc : Int)) = true := by simpa using hl
              have hdl' : decide (lc < lx) = true := by simpa using hl
              have hst : idStep D k cN xN = xN := by unfold idStep; rw [if_pos ⟨by omega, .inr (by rw [Hlx.out, Hlc.out]; exact hl)⟩]
              clear hcv hc0 hcm
              gi_wp2
              refine wpIn_region_class (C := BkS W) (by kernel_rfl) (by kernel_rfl) (by kernel_rfl) ((bel_refl W).drew) ?_
              repeat (first
                | gi_big_quiet_skip
                | (gi_big_quiet_want; gi_big_quiet_op; first | go_big_quiet_on | (apply Exists.intro; refine ⟨fun X hX => ?_, ?_⟩; (first | rfl | (obtain ⟨m1, m2, m3, m4, m5, m6, m7⟩ := HC.out X hX; go_simp; first | done | rfl) | with_reducible exact hLx X hX | exact ⟨trivial, hLx X hX⟩ | with_reducible exact hLc X hX | exact ⟨trivial, hLc X hX⟩); go_big_quiet_on)))
              refine wpQuietIn_nil ?_
              intro X hX
              have hS1 := hS.out.below hX
              have hR1 := hR.out.keep (hX.block _ hR.out.lt)
              have hM1 := hM.out.keep (fun M hM' => hX.block M (hM.out.lt M hM'))
              have x4 := hS1.r4.cell (k := 0) (v := .slice (some ⟨W1.heap.size + 1, 0, none⟩) n n) rfl
              have xb := hR1.cell (k := 0) (v := .int .i64 (k : Int)) rfl
              have xO := hS1.rO.cell (k := k) (v := .int .i64 (cN : Int)) hcell
              have xF := hS1.rO.frozen k
              have hSX : Hid (IdSt n tr D W1 k (O.set k (idF D k (pre ++ [⟨(xN : Int), hx⟩]))) (X.setCell ⟨W1.heap.size + 1, k, none⟩ (.int .i64 (xN : Int)))) := by
                rw [hsn, hst]
                have := row_putInt (k := k) hS1.rO (xN : Int)
                rw [List.set_set] at this
                exact ⟨hS1.r3.other hd3 _, hS1.r4.other hd4 _, this, by simpa using hS1.lO, fun j hj => by rw [List.getD_eq_getElem?_getD, List.getElem?_set_ne (by omega), ← List.getD_eq_getElem?_getD]; exact HS.out.at' j hj, hS1.kp.setCell (by show W1.heap.size ≤ W1.heap.size + 1; omega) _⟩
              have HXo : KeepsOthers W (X.setCell ⟨W1.heap.size + 1, k, none⟩ (.int .i64 (xN : Int))) := KeepsOthers.trans ⟨hX.size, fun b o hb _ => (hX.block b (Array.getElem?_eq_some_iff.1 hb).1).trans hb⟩ (KeepsOthers.setCell _ _ _)
              have HXb := ((KeepsBut.of_below hgdW hn0W hX).1).trans (KeepsBut.putInt (k := k) (by omega : W1.heap.size ≤ W1.heap.size + 1) hS1.rO (xN : Int))
              have hRX := hid_of (hR1.other (a := ⟨W1.heap.size + 1, k, none⟩) (by show c ≠ W1.heap.size + 1; omega) (.int .i64 (xN : Int)))
              have hMX := hid_of (hM1.keep (W' := X.setCell ⟨W1.heap.size + 1, k, none⟩ (.int .i64 (xN : Int))) (fun M hM' => Below.heap_setCell _ _ _ _ (by have := (hM1.at' M hM').1; show M ≠ W1.heap.size + 1; omega)))
              clear hS1 hR1 hM1
              gi_wp2
              exact ⟨HXo, HXb, hSX, hRX, hMX⟩
            · have hdl : decide ((lx : Int) > (lc : Int)) = false := by simpa using hl
              have hdl' : decide (lc < lx) = false := by simpa using hl
              have hst : idStep D k cN xN = cN := by unfold idStep; rw [if_neg (fun h => h.2.elim (by omega) (by rw [Hlx.out, Hlc.out]; exact hl))]
              clear hcv hc0 hcm
              gi_wp2
              refine wpIn_region_class (C := BkS W) (by kernel_rfl) (by kernel_rfl) (by kernel_rfl) ((bel_refl W).drew) ?_
              repeat (first
                | gi_big_quiet_skip
                | (gi_big_quiet_want; gi_big_quiet_op; first | go_big_quiet_on | (apply Exists.intro; refine ⟨fun X hX => ?_, ?_⟩; (first | rfl | (obtain ⟨m1, m2, m3, m4, m5, m6, m7⟩ := HC.out X hX; go_simp; first | done | rfl) | with_reducible exact hLx X hX | exact ⟨trivial, hLx X hX⟩ | with_reducible exact hLc X hX | exact ⟨trivial, hLc X hX⟩); go_big_quiet_on)))
              refine wpQuietIn_nil ?_
              intro X hX
              have hSX : Hid (IdSt n tr D W1 k (O.set k (idF D k (pre ++ [⟨(xN : Int), hx⟩]))) X) := by
                rw [hsn, hst]; exact hS.out.below hX
              have HXo : KeepsOthers W X := ⟨hX.size, fun b o hb _ => (hX.block b (Array.getElem?_eq_some_iff.1 hb).1).trans hb⟩
              have HXb := (KeepsBut.of_below hgdW hn0W hX).1
              have hRX := hid_of (hR.out.keep (hX.block _ hR.out.lt))
              have hMX := hid_of (hM.out.keep (fun M hM' => hX.block M (hM.out.lt M hM')))
              gi_wp2
              exact ⟨HXo, HXb, hSX, hRX, hMX⟩
      case done =>
        rintro M ys W hMl hys ⟨hS, hR, hM⟩ hK2
        have hid : idF D k ys = idAt D k := by unfold idF idAt; rw [hys]
        rw [hid] at hS
        have HS3 : Hid (IdSt n tr D W1 (k + 1) (O.set k (idAt D k)) W) := by
          refine ⟨hS.out.r3, hS.out.r4, hS.out.rO, hS.out.lO, fun j hj => ?_, hS.out.kp⟩
          by_cases e : j = k
          · subst e
            have := HS.out.lO
            simp [List.getD, show j < O.length by omega]
          · rw [List.getD_eq_getElem?_getD, List.getElem?_set_ne (by omega), ← List.getD_eq_getElem?_getD]
            exact HS.out.at' j (by omega)
        have HM3 : Hid (Marks (W1.heap.size + 3) (M :: Ds) W) := hM.out.cons (by omega) hK2 (fun hh => by have := hDs M hh; omega)
        clear hys hS hR hid
        gi_wp2
        refine Handed.intro (n - (k + 1)) (by omega) (HJ.out _ _ _ ⟨k + 1, (k : Int) + 1, M :: Ds, O.set k (idAt D k), _, _, _, _, _, _, _, _, _, _, _, _, _, _, _, _, _, _, _, _, _, _, _, _, _, _, _, _, _, _, _, _, _, _, _, _, _, _, _, _, _, _, _, _, _, _, _, _, _, _, _, _, _, _, rfl, by omega, by omega, rfl, HS3, HM3⟩)
      case stop =>
        rintro M c pre W _ _ h _
        exact h.elim
    · obtain rfl : k = n := by omega
      have q4 := HS.out.r4.cell (k := 0) (v := .slice (some ⟨W1.heap.size + 1, 0, none⟩) k k) rfl
      gi_wp2
      refine (leaves_marks Ds wr HM.out ?_ : LeavesInM _ _ _ _ _ _ _ _ _)
      intro W' hb hs ho
      have hO : O = (List.range k).map (idAt D) := List.ext_getElem (by simp [HS.out.lO]) fun j h1 h2 => by
        have := HS.out.at' j (by simpa [HS.out.lO] using h1)
        simp [List.getD, h1] at this
        simp [this]
      refine ⟨_, results_tmp rfl _ _ _, _, rfl, D, HT.out.ov, ?_, (bel_call HB1.out HS.out.kp).trans (hb.mono (by have := HB1.out.size; omega))⟩
      have r := HS.out.rO.keep (ho (W1.heap.size + 1) (fun hm => by have := (HM.out.at' _ hm).1; omega))
      have hsz := HB1.out.size
      rw [hO] at r
      exact ⟨by simp, .inr ⟨W1.heap.size + 1, k, (ints ((List.range k).map (idAt D))).toArray, rfl, by omega, r, Nat.le_refl _, by unfold maxLen; omega, by simp, by rw [List.take_of_length_le (by simp)]; simp [ints]⟩⟩
end Go.Proofs.Ytcihobmjohpnkaa
