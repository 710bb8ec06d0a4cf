/- Rows of ints that are appended to where they lie (dom's preds); and 'slices.Sort' of a row of the call's own. -/
import Derived.Test.YtcihobmjohpnkaaLvF
import Derived.Test.YtcihobmjohpnkaaDomP
namespace Go.Proofs.Ytcihobmjohpnkaa
open Go.RowKit Go.Sort

/-- Rows each in a block of its own, of which q holds; the row of rows lies in block G. -/
structure PRow (B : Nat) (G : Nat) (q : Nat → Prop) (R : List (List Int)) (W : World) : Prop where
  ex : ∃ vs : List Value, Row W G 25 vs ∧ vs.length = R.length ∧
    (∀ j (h : j < vs.length), W.ownsRow B 3 1 vs[j] (R.getD j []).length (ints (R.getD j []))) ∧
    (∀ j (h : j < vs.length) b, vs[j].ownBlock = some b → (b ≠ G ∧ q b) ∧ ∀ i (hi : i < vs.length), vs[i].ownBlock = some b → i = j)

section
variable {B G : Nat} {q : Nat → Prop} {R : List (List Int)} {W W' W1 w' : World}
theorem PRow.lt (h : PRow B G q R W) : G < W.heap.size := let ⟨_, h1, _⟩ := h.ex; h1.lt
theorem PRow.frozen (h : PRow B G q R W) (k : Nat) : W.frozen? ⟨G, k, none⟩ = false := let ⟨_, h1, _⟩ := h.ex; h1.frozen k
theorem PRow.below (h : PRow B G q R W) (hb : Below W.heap.size W W') : PRow B G q R W' :=
  let ⟨vs, h1, h2, h3, h4⟩ := h.ex; ⟨vs, h1.keep (hb.block G h1.lt), h2, fun j hj => owns_below (h3 j hj) hb, h4⟩
/-- A store into a block that is none of these. -/
theorem PRow.other (h : PRow B G q R W) {a : Addr} (hG : G ≠ a.block) (ha : a.block < B ∨ ¬ q a.block) (u : Value) : PRow B G q R (W.setCell a u) := by
  obtain ⟨vs, h1, h2, h3, h4⟩ := h.ex
  refine ⟨vs, h1.other hG u, h2, fun j hj => (h3 j hj).kept (World.ownsRow.kept_set a u) ?_, h4⟩
  cases hob : vs[j].ownBlock with
  | none => exact .inl rfl
  | some b =>
    refine .inr fun e => ?_
    have h5 := ((h3 j hj).lt b hob).1
    have h6 := (h4 j hj b hob).1.2
    simp only [Option.some.injEq] at e
    rcases ha with ha | ha
    · omega
    · exact ha (e ▸ h6)
theorem PRow.bound (h : PRow B G q R W) : PRow B G (fun b => B ≤ b ∧ b < W.heap.size) R W :=
  let ⟨vs, h1, h2, h3, h4⟩ := h.ex
  ⟨vs, h1, h2, h3, fun j hj b hb => ⟨⟨(h4 j hj b hb).1.1, (h3 j hj).lt b hb⟩, (h4 j hj b hb).2⟩⟩
theorem PRow.start {n : Nat} (h : Row W G 25 (List.replicate n (.slice none 0 0))) : PRow B G q (List.replicate n []) W := by
  refine ⟨_, h, by simp, fun j hj => ?_, fun j hj b hb => ?_⟩
  · have e : (List.replicate n ([] : List Int)).getD j [] = [] := by rw [List.getD_eq_getElem?_getD, List.getElem?_replicate]; split <;> rfl
    rw [List.getElem_replicate, e]
    exact World.ownsRow_nil _ _ _ _
  · rw [List.getElem_replicate] at hb; simp [Value.ownBlock] at hb
theorem PRow.get (h : PRow B G q R W) {j : Nat} (hj : j < R.length) : ∃ a c, W.cell? ⟨G, j, none⟩ = some (.slice a (R.getD j []).length c) ∧ W.ownsRow B 3 1 (.slice a (R.getD j []).length c) (R.getD j []).length (ints (R.getD j [])) ∧
    ∀ b, (Value.slice a (R.getD j []).length c).ownBlock = some b → b ≠ G ∧ q b := by
  obtain ⟨vs, h1, h2, h3, h4⟩ := h.ex
  have hj' : j < vs.length := by omega
  have hw := h3 j hj'
  have hc := h1.cell (k := j) (v := vs[j]) (by simp [hj'])
  have hG := fun b hb => (h4 j hj' b hb).1
  obtain ⟨a, c, e, -⟩ := owns_slice hw
  rw [e] at hc hw hG
  exact ⟨a, c, hc, hw, hG⟩
/-- 'p[j] = append(p[j], ..)': the row's new value, its ints, and what has turned. -/
theorem PRow.put (h : PRow B G q R W) {j : Nat} {v v' : Value} {xs : List Int} (hj : j < R.length) (hc : W.cell? ⟨G, j, none⟩ = some v) (hb : Below W.heap.size W W1)
    (ho : w'.ownsRow B 3 1 v' xs.length (ints xs)) (hgr : W1.grownBy w' v.ownBlock) (hv : v'.ownBlock = v.ownBlock ∨ v'.ownBlock = some W1.heap.size) (hq : q W1.heap.size) :
    PRow B G q (R.set j xs) (w'.setCell ⟨G, j, none⟩ v') := by
  obtain ⟨vs, h1, h2, h3, h4⟩ := h.ex
  have hj' : j < vs.length := by omega
  have hvj : vs[j] = v := by
    have := h1.cell (k := j) (v := vs[j]) (by simp [hj'])
    rw [hc] at this; exact (Option.some.inj this).symm
  have hsz := hb.size
  have hGl := h1.lt
  have hGv : v.ownBlock ≠ some G := fun e => (h4 j hj' G (by rw [hvj]; exact e)).1.1 rfl
  have r1 : Row w' G 25 vs := (h1.keep (hb.block G h1.lt)).keep (hgr.block G (by omega) (fun e => hGv e.symm))
  have hv2 : ∀ b, v'.ownBlock = some b → v.ownBlock = some b ∨ b = W1.heap.size := fun b hb' => by
    rcases hv with e | e
    · exact .inl (e ▸ hb')
    · rw [e] at hb'; simp at hb'; exact .inr hb'.symm
  refine ⟨vs.set j v', r1.set j v', by simp [h2], fun i hi => ?_, fun i hi b hib => ?_⟩
  · have hi' : i < vs.length := by simpa using hi
    have eD : (R.set j xs).getD i [] = if j = i then xs else R.getD i [] := by
      rw [List.getD_eq_getElem?_getD, List.getElem?_set, List.getD_eq_getElem?_getD]
      by_cases e : j = i
      · subst e; simp [hj]
      · simp [e]
    rw [List.getElem_set, eD]
    by_cases e : j = i
    · rw [if_pos e, if_pos e]
      refine ho.kept (World.ownsRow.kept_set _ _) ?_
      cases hob : v'.ownBlock with
      | none => exact .inl rfl
      | some b =>
        refine .inr fun e2 => ?_
        simp at e2
        rcases hv2 b hob with e3 | e3
        · exact hGv (by rw [e3, ← e2])
        · omega
    · rw [if_neg e, if_neg e]
      refine ((owns_below (h3 i hi') hb).kept hgr ?_).kept (World.ownsRow.kept_set _ _) ?_
      · cases hob : vs[i].ownBlock with
        | none => exact .inl rfl
        | some b => exact .inr fun e2 => e ((h4 i hi' b hob).2 j hj' (by rw [hvj]; exact e2.symm))
      · cases hob : vs[i].ownBlock with
        | none => exact .inl rfl
        | some b => exact .inr fun e2 => by simp at e2; exact (h4 i hi' b hob).1.1 e2
  · have hi' : i < vs.length := by simpa using hi
    have lt_i : ∀ i (hi : i < vs.length) b, vs[i].ownBlock = some b → b < W1.heap.size := fun i hi b hh => by have := ((h3 i hi).lt b hh).2; omega
    rw [List.getElem_set] at hib
    have hother : ∀ k (hk : k < vs.length), k ≠ j → vs[k].ownBlock = some b → v'.ownBlock = some b → False := fun k hk hne h5 h6 => by
      rcases hv2 b h6 with e3 | e3
      · exact hne ((h4 j hj' b (by rw [hvj]; exact e3)).2 k hk h5)
      · have := lt_i k hk b h5; omega
    constructor
    · split at hib
      · rcases hv2 b hib with e3 | e3
        · exact ⟨fun e4 => hGv (by rw [e3, e4]), (h4 j hj' b (by rw [hvj]; exact e3)).1.2⟩
        · exact ⟨by omega, by rw [e3]; exact hq⟩
      · exact (h4 i hi' b hib).1
    · intro k hk hkb
      have hk' : k < vs.length := by simpa using hk
      rw [List.getElem_set] at hkb
      by_cases e1 : j = i
      · by_cases e2 : j = k
        · omega
        · rw [if_pos e1] at hib
          rw [if_neg e2] at hkb
          exact (hother k hk' (fun e => e2 e.symm) hkb hib).elim
      · rw [if_neg e1] at hib
        by_cases e2 : j = k
        · rw [if_pos e2] at hkb
          exact (hother i hi' (fun e => e1 e.symm) hib hkb).elim
        · rw [if_neg e2] at hkb
          exact (h4 i hi' b hib).2 k hk' hkb
/-- A row's ints are turned where they lie. -/
theorem PRow.turn (h : PRow B G q R W) {j : Nat} {v : Value} {xs : List Int} (hj : j < R.length) (hc : W.cell? ⟨G, j, none⟩ = some v)
    (ho : w'.ownsRow B 3 1 v xs.length (ints xs)) (hgr : W.grownBy w' v.ownBlock) : PRow B G q (R.set j xs) w' := by
  obtain ⟨vs, h1, h2, h3, h4⟩ := h.ex
  have hj' : j < vs.length := by omega
  have hvj : vs[j] = v := by
    have := h1.cell (k := j) (v := vs[j]) (by simp [hj'])
    rw [hc] at this; exact (Option.some.inj this).symm
  have hGv : v.ownBlock ≠ some G := fun e => (h4 j hj' G (by rw [hvj]; exact e)).1.1 rfl
  refine ⟨vs, h1.keep (hgr.block G h1.lt (fun e => hGv e.symm)), by simp [h2], fun i hi => ?_, h4⟩
  have eD : (R.set j xs).getD i [] = if j = i then xs else R.getD i [] := by
    rw [List.getD_eq_getElem?_getD, List.getElem?_set, List.getD_eq_getElem?_getD]
    by_cases e : j = i
    · subst e; simp [hj]
    · simp [e]
  rw [eD]
  by_cases e : j = i
  · subst e; rw [if_pos rfl, hvj]; exact ho
  · rw [if_neg e]
    refine (h3 i hi).kept hgr ?_
    cases hob : vs[i].ownBlock with
    | none => exact .inl rfl
    | some b => exact .inr fun e2 => e ((h4 i hi b hob).2 j hj' (by rw [hvj]; exact e2.symm))
theorem PRow.rows {p : Nat → Prop} (h : PRow B G q R W) (hp : ∀ b, B ≤ b → p b) (hG : p G) (hl : R.length ≤ 100000) (hx : ∀ xs ∈ R, xs.length ≤ 140737488351232) : IsRows p W (.slice (some ⟨G, 0, none⟩) R.length R.length) R := by
  obtain ⟨vs, h1, h2, h3, h4⟩ := h.ex
  refine ⟨_, _, rfl, ⟨Nat.le_refl _, by omega⟩, .inr ⟨G, 0, rfl, hG, fun j hj => ⟨vs[j], h1.cell (by simp [h2, hj]), ?_⟩⟩⟩
  have := h3 j (by omega)
  have e : R.getD j [] = R[j] := by simp [List.getD, hj]
  rw [e] at this
  exact ints_of_owns this (hx _ (List.getElem_mem hj)) fun _ _ hb _ => hp _ hb
end

theorem insertionSort_nil (p : Option Addr) (cap : Nat) (w : World) :
    Calls Try.prog 133 #[.slice p 0 cap, .int .i64 0, .int .i64 0] w fun e w' => e = .returned (.tuple #[]) ∧ w' = w := by
  go_enter Try.func133, Try.ntmps133
  go_wp2
  refine wp_loop_rounds 1 ?_
  rw [rounds_succ]
  go_wp2
  go_end0
  exact ⟨rfl, rfl⟩
set_option maxRecDepth 100000 in
theorem pdqsort_nil (p : Option Addr) (cap : Nat) (w : World) :
    Calls Try.prog 127 #[.slice p 0 cap, .int .i64 0, .int .i64 0, .int .i64 0] w fun e w' => e = .returned (.tuple #[]) ∧ w' = w := by
  go_enter Try.func127, Try.ntmps127
  go_wp2
  refine wp_loop_rounds 1 ?_
  rw [rounds_succ]
  go_wp2_with (first | (go_at_call 133; refine (insertionSort_nil p cap _).mono ?_; rintro e w' ⟨rfl, rfl⟩))
  refine bodyPost_ret (results_none rfl _ _ _) rfl ?_
  exact ⟨rfl, rfl⟩
set_option maxRecDepth 100000 in
theorem sort_nil (p : Option Addr) (cap : Nat) (w : World) :
    Calls Try.prog 114 #[.slice p 0 cap] w fun e w' => e = .returned (.tuple #[]) ∧ w' = w := by
  have hLen : ∀ w, Calls Try.prog 128 #[.int .u64 0] w fun e w' => e = .returned (.int .i64 0) ∧ w' = w := fun w => Try.bits_Len 0 w (by omega) (by omega)
  go_enter Try.func114, Try.ntmps114
  go_wp2_with (first
    | (go_at_call 128; refine (hLen _).mono ?_; rintro e w' ⟨rfl, rfl⟩)
    | (go_at_call 127; refine (pdqsort_nil p cap _).mono ?_; rintro e w' ⟨rfl, rfl⟩))
  go_end0
  exact ⟨rfl, rfl⟩

/-- 'slices.Sort' of a row of the call's own: the same ints in some order. -/
theorem sort_c {base : Nat} {e : TypeId} {v : Value} {zs : List Int} (w : World) (h : w.ownsRow base e 1 v zs.length (ints zs)) (hs : zs.length ≤ 140737488351232) :
    Calls Try.prog 114 #[v] w fun e' w' => e' = .returned (.tuple #[]) ∧ ∃ ys : List Int, ys.Perm zs ∧ w'.ownsRow base e 1 v ys.length (ints ys) ∧ w.grownBy w' v.ownBlock := by
  rcases owns_nilcase h with ⟨rfl, h0, hx⟩ | ⟨g, cap, rfl⟩
  · have hz : zs = [] := List.length_eq_zero_iff.1 h0
    subst hz
    refine (sort_nil none 0 w).mono ?_
    rintro e' w' ⟨rfl, rfl⟩
    exact ⟨rfl, [], .refl _, by simpa using h, World.grownBy.refl _ _⟩
  · have hg := (h.lt g rfl).2
    refine (Try.slices_Sort_int g 0 cap zs w (owns_holds h) hg (by omega)).mono ?_
    rintro e' w' ⟨rfl, q, os, rfl⟩
    have hlen : (zs.mergeSort fun x y => decide (x ≤ y)).length = zs.length := List.length_mergeSort _
    obtain ⟨o, hgr⟩ := owns_put (ys := zs.mergeSort fun x y => decide (x ≤ y)) h hlen q
    have hb : Below (putRow (Value.int .i64) (Sort.ahead w q) g 0 (zs.mergeSort fun x y => decide (x ≤ y)).toArray).heap.size (putRow (Value.int .i64) (Sort.ahead w q) g 0 (zs.mergeSort fun x y => decide (x ≤ y)).toArray) (grow (putRow (Value.int .i64) (Sort.ahead w q) g 0 (zs.mergeSort fun x y => decide (x ≤ y)).toArray) os) :=
      ⟨rfl, rfl, rfl, by simp, fun k hk => heap_grow_old _ _ hk⟩
    have o2 := owns_below o hb
    exact ⟨rfl, _, List.mergeSort_perm _ _, by simpa [hlen] using o2, grown_trans hgr ⟨rfl, rfl, rfl, by simp, fun k hk _ => heap_grow_old _ _ hk⟩⟩

section
/- What 'dom.Of' has in memory while it runs. -/
open Go.RowKit

/-- The four blocks are different ones, older than the rows. -/
structure Spc (B M sv gP gO gA : Nat) : Prop where
  lo : B ≤ sv ∧ B ≤ gP ∧ B ≤ gO ∧ B ≤ gA
  hi : sv < M ∧ gP < M ∧ gO < M ∧ gA < M
  ne : sv ≠ gP ∧ sv ≠ gO ∧ sv ≠ gA ∧ gP ≠ gO ∧ gP ≠ gA ∧ gO ≠ gA
/-- None of the four. -/
def NoS (sv gP gO gA b : Nat) : Prop := b ≠ sv ∧ b ≠ gP ∧ b ≠ gO ∧ b ≠ gA

structure DoSt (w : World) (n M sv gP gO gA : Nat) (ord za : Value) (os : List Int) (al : List Nat) (p q : Nat → Prop) (R : List (List Int)) (D : List (List Nat)) (W : World) : Prop where
  tb : Row W sv 102 [ord, .slice (some ⟨gP, 0, none⟩) n n, .slice (some ⟨gO, 0, none⟩) n n]
  ab : Row W gA 96 [za]
  rP : PRow M gP q R W
  rO : SetRow p gO D W
  oi : IsInts p W ord os
  ai : IsWords p W za al
  bel : Below w.heap.size w W
  sz : M ≤ W.heap.size
  sp : Spc w.heap.size M sv gP gO gA
  np : ∀ b, p b → NoS sv gP gO gA b
  pq : ∀ b, p b → ¬ q b

section
variable {w : World} {n M sv gP gO gA : Nat} {ord za : Value} {os : List Int} {al : List Nat} {p p' q : Nat → Prop} {R : List (List Int)} {D : List (List Nat)} {W W' W1 w' : World}
theorem DoSt.below (h : DoSt w n M sv gP gO gA ord za os al p q R D W) (hb : Below W.heap.size W W') : DoSt w n M sv gP gO gA ord za os al p q R D W' :=
  ⟨h.tb.keep (hb.block _ h.tb.lt), h.ab.keep (hb.block _ h.ab.lt), h.rP.below hb, h.rO.below hb, h.oi.keep (Keep.below hb), h.ai.keep (Keep.below hb), bel_call h.bel hb, Nat.le_trans h.sz hb.size, h.sp, h.np, h.pq⟩
theorem DoSt.re (h : DoSt w n M sv gP gO gA ord za os al p q R D W) (hp : ∀ b, p b → b < W.heap.size → p' b) (np : ∀ b, p' b → NoS sv gP gO gA b) (pq : ∀ b, p' b → ¬ q b) : DoSt w n M sv gP gO gA ord za os al p' q R D W :=
  ⟨h.tb, h.ab, h.rP, h.rO.keep rfl (Keep.refl W hp) (fun hh => (np _ hh).2.2.1 rfl), h.oi.keep (Keep.refl W hp), h.ai.keep (Keep.refl W hp), h.bel, h.sz, h.sp, np, pq⟩
/-- The rows lie in blocks below what is made from now on. -/
theorem DoSt.top (h : DoSt w n M sv gP gO gA ord za os al p q R D W) (hp : ∀ b, p b → b < M ∧ w.heap.size ≤ b) : DoSt w n M sv gP gO gA ord za os al (fun b => NoS sv gP gO gA b ∧ (b < M ∨ W.heap.size ≤ b) ∧ w.heap.size ≤ b) (fun b => M ≤ b ∧ b < W.heap.size) R D W :=
  have hk : ∀ b, p b → b < W.heap.size → NoS sv gP gO gA b ∧ (b < M ∨ W.heap.size ≤ b) ∧ w.heap.size ≤ b := fun b hb _ => ⟨h.np b hb, .inl (hp b hb).1, (hp b hb).2⟩
  ⟨h.tb, h.ab, h.rP.bound, h.rO.keep rfl (Keep.refl W hk) (fun hh => hh.1.2.2.1 rfl), h.oi.keep (Keep.refl W hk), h.ai.keep (Keep.refl W hk), h.bel, h.sz, h.sp, fun b hb => hb.1, fun b hb hh => by have := hb.2; omega⟩
theorem DoSt.setO (h : DoSt w n M sv gP gO gA ord za os al p q R D W) {z : Value} {ws : List Nat} (hz : IsWords p W z ws) (j : Nat) : DoSt w n M sv gP gO gA ord za os al p q R (D.set j ws) (W.setCell ⟨gO, j, none⟩ z) := by
  have s := h.sp.ne
  have s2 := h.sp.hi
  have s3 := h.sp.lo
  have hk : Keep p p W (W.setCell ⟨gO, j, none⟩ z) := Keep.setCell fun b hb _ => ⟨hb, (h.np b hb).2.2.1⟩
  exact ⟨h.tb.other (by show sv ≠ gO; omega) z, h.ab.other (by show gA ≠ gO; omega) z, h.rP.other (by show gP ≠ gO; omega) (.inl (by show gO < M; omega)) z, h.rO.set hz j, h.oi.keep hk, h.ai.keep hk, h.bel.setCell (by show w.heap.size ≤ gO; omega) z, by simpa using h.sz, h.sp, h.np, h.pq⟩
/-- A store into a block that is none of these. -/
theorem DoSt.cell (h : DoSt w n M sv gP gO gA ord za os al p q R D W) {a : Addr} (ha : M ≤ a.block) (hp : ¬ p a.block) (hq : ¬ q a.block) (u : Value) : DoSt w n M sv gP gO gA ord za os al p q R D (W.setCell a u) := by
  have s2 := h.sp.hi
  have s3 := h.sp.lo
  have hk : Keep p p W (W.setCell a u) := Keep.setCell fun b hb _ => ⟨hb, fun e => hp (e ▸ hb)⟩
  exact ⟨h.tb.other (by omega) u, h.ab.other (by omega) u, h.rP.other (by omega) (.inr hq) u, h.rO.other (by omega) hp u, h.oi.keep hk, h.ai.keep hk, h.bel.setCell (by omega) u, by simpa using h.sz, h.sp, h.np, h.pq⟩
/-- 'preds[j] = append(preds[j], ..)'. -/
theorem DoSt.put (h : DoSt w n M sv gP gO gA ord za os al p q R D W) {j : Nat} {v v' : Value} {xs : List Int} (hj : j < R.length) (hc : W.cell? ⟨gP, j, none⟩ = some v) (hv0 : ∀ b, v.ownBlock = some b → M ≤ b ∧ q b) (hb : Below W.heap.size W W1)
    (ho : w'.ownsRow M 3 1 v' xs.length (ints xs)) (hgr : W1.grownBy w' v.ownBlock) (hv : v'.ownBlock = v.ownBlock ∨ v'.ownBlock = some W1.heap.size) (hq : q W1.heap.size) :
    DoSt w n M sv gP gO gA ord za os al p q (R.set j xs) D (w'.setCell ⟨gP, j, none⟩ v') := by
  have s := h.sp.ne
  have s2 := h.sp.hi
  have s3 := h.sp.lo
  have h1 := h.below hb
  have hs1 := h1.sz
  have hm : ∀ b, b < M → w'.heap[b]? = W1.heap[b]? := fun b hlt => hgr.block b (by omega) (fun e => by have := (hv0 b e.symm).1; omega)
  have hk : Keep p p W1 w' := Keep.grown hgr fun b hb _ => ⟨hb, fun e => h.pq b hb (hv0 b e.symm).2⟩
  have hk2 : Keep p p w' (w'.setCell ⟨gP, j, none⟩ v') := Keep.setCell fun b hb _ => ⟨hb, (h.np b hb).2.1⟩
  refine ⟨(h1.tb.keep (hm _ s2.1)).other (by show sv ≠ gP; omega) v', (h1.ab.keep (hm _ s2.2.2.2)).other (by show gA ≠ gP; omega) v', h.rP.put hj hc hb ho hgr hv hq, (h1.rO.keep (hm _ s2.2.2.1) hk h.rO.np).other (by show gO ≠ gP; omega) (fun hh => (h.np _ hh).2.1 rfl) v', (h1.oi.keep hk).keep hk2, (h1.ai.keep hk).keep hk2, ?_, ?_, h.sp, h.np, h.pq⟩
  · exact (bel_grown h1.bel hgr (fun b e => by have := (hv0 b e).1; omega)).setCell (by show w.heap.size ≤ gP; omega) v'
  · have := hgr.size; simp; omega
/-- A row's ints are turned where they lie. -/
theorem DoSt.turn (h : DoSt w n M sv gP gO gA ord za os al p q R D W) {j : Nat} {v : Value} {xs : List Int} (hj : j < R.length) (hc : W.cell? ⟨gP, j, none⟩ = some v) (hv0 : ∀ b, v.ownBlock = some b → M ≤ b ∧ q b)
    (ho : w'.ownsRow M 3 1 v xs.length (ints xs)) (hgr : W.grownBy w' v.ownBlock) : DoSt w n M sv gP gO gA ord za os al p q (R.set j xs) D w' := by
  have s2 := h.sp.hi
  have s3 := h.sp.lo
  have hs1 := h.sz
  have hm : ∀ b, b < M → w'.heap[b]? = W.heap[b]? := fun b hlt => hgr.block b (by omega) (fun e => by have := (hv0 b e.symm).1; omega)
  have hk : Keep p p W w' := Keep.grown hgr fun b hb _ => ⟨hb, fun e => h.pq b hb (hv0 b e.symm).2⟩
  exact ⟨h.tb.keep (hm _ s2.1), h.ab.keep (hm _ s2.2.2.2), h.rP.turn hj hc ho hgr, h.rO.keep (hm _ s2.2.2.1) hk h.rO.np, h.oi.keep hk, h.ai.keep hk, bel_grown h.bel hgr (fun b e => by have := (hv0 b e).1; omega), by have := hgr.size; omega, h.sp, h.np, h.pq⟩
theorem DoSt.getP (h : DoSt w n M sv gP gO gA ord za os al p q R D W) {j : Nat} (hj : j < R.length) : ∃ a c, W.cell? ⟨gP, j, none⟩ = some (.slice a (R.getD j []).length c) ∧ W.ownsRow M 3 1 (.slice a (R.getD j []).length c) (R.getD j []).length (ints (R.getD j [])) ∧
    ∀ b, (Value.slice a (R.getD j []).length c).ownBlock = some b → M ≤ b ∧ q b := by
  obtain ⟨a, c, h1, h2, h3⟩ := h.rP.get hj
  exact ⟨a, c, h1, h2, fun b hb => ⟨(h2.lt b hb).1, (h3 b hb).2⟩⟩
/-- What it is in the end. -/
theorem DoSt.out (h : DoSt w n M sv gP gO gA ord za os al p q R D W) (hp : ∀ b, p b → w.heap.size ≤ b) (hR : R.length = n) (hD : D.length = n) (hn : n ≤ 100000) (hx : ∀ s, (R.getD s []).length ≤ 3000) :
    w.heap.size ≤ sv ∧ Row W sv 102 [ord, .slice (some ⟨gP, 0, none⟩) n n, .slice (some ⟨gO, 0, none⟩) n n] ∧ IsRows (w.heap.size ≤ ·) W (.slice (some ⟨gP, 0, none⟩) n n) R ∧ IsSets (w.heap.size ≤ ·) W (.slice (some ⟨gO, 0, none⟩) n n) D ∧ Below w.heap.size w W := by
  have s3 := h.sp.lo
  have s2 := h.sp.hi
  have h1 := h.rP.rows (p := (w.heap.size ≤ ·)) (fun b hb => by omega) (by omega) (by omega) (fun xs hxs => by
    obtain ⟨j, hj, rfl⟩ := List.getElem_of_mem hxs
    have := hx j
    simp [List.getD, hj] at this
    omega)
  have h2 := h.rO.sets (p' := (w.heap.size ≤ ·)) (by omega) hp (by omega)
  rw [hR] at h1
  rw [hD] at h2
  exact ⟨s3.1, h.tb, h1, h2, h.bel⟩
theorem DoSt.requ {q' : Nat → Prop} (h : DoSt w n M sv gP gO gA ord za os al p q R D W) (hq : ∀ b, q b → M ≤ b → b < W.heap.size → q' b) (pq : ∀ b, p b → ¬ q' b) : DoSt w n M sv gP gO gA ord za os al p q' R D W :=
  let ⟨vs, h1, h2, h3, h4⟩ := h.rP.ex
  ⟨h.tb, h.ab, ⟨vs, h1, h2, h3, fun j hj b hb => ⟨⟨(h4 j hj b hb).1.1, hq b (h4 j hj b hb).1.2 ((h3 j hj).lt b hb).1 ((h3 j hj).lt b hb).2⟩, (h4 j hj b hb).2⟩⟩, h.rO, h.oi, h.ai, h.bel, h.sz, h.sp, h.np, pq⟩
/-- What an append to one of the rows leaves alone. -/
theorem DoSt.put_keep (h : DoSt w n M sv gP gO gA ord za os al p q R D W) {v v' : Value} {r : Nat → Prop} (j : Nat) (hv0 : ∀ b, v.ownBlock = some b → M ≤ b ∧ q b) (hb : Below W.heap.size W W1) (hgr : W1.grownBy w' v.ownBlock) (hr : ∀ b, r b → ¬ q b ∧ M ≤ b) : Keep r r W (w'.setCell ⟨gP, j, none⟩ v') := by
  have s2 := h.sp.hi
  have hk1 : Keep r r W W1 := Keep.below hb
  have hk : Keep r r W1 w' := Keep.grown hgr fun b hh _ => ⟨hh, fun e => (hr b hh).1 (hv0 b e.symm).2⟩
  have hk2 : Keep r r w' (w'.setCell ⟨gP, j, none⟩ v') := Keep.setCell fun b hh _ => ⟨hh, by have := (hr b hh).2; show b ≠ gP; omega⟩
  exact (hk1.trans hk hb.size).trans hk2 (Nat.le_trans hb.size hgr.size)
/-- Behind the append, ahead of the store. -/
theorem DoSt.mid (h : DoSt w n M sv gP gO gA ord za os al p q R D W) {j : Nat} {v : Value} (hc : W.cell? ⟨gP, j, none⟩ = some v) (hv0 : ∀ b, v.ownBlock = some b → M ≤ b ∧ q b) (hb : Below W.heap.size W W1) (hgr : W1.grownBy w' v.ownBlock) :
    Row w' sv 102 [ord, .slice (some ⟨gP, 0, none⟩) n n, .slice (some ⟨gO, 0, none⟩) n n] ∧ w'.cell? ⟨gP, j, none⟩ = some v ∧ w'.frozen? ⟨gP, j, none⟩ = false := by
  have s2 := h.sp.hi
  have h1 := h.below hb
  have hs1 := h1.sz
  have hm : ∀ b, b < M → w'.heap[b]? = W1.heap[b]? := fun b hlt => hgr.block b (by omega) (fun e => by have := (hv0 b e.symm).1; omega)
  have e1 := (hm _ s2.2.1).trans (hb.block gP h.rP.lt)
  exact ⟨h1.tb.keep (hm _ s2.1), (World.cell?_of_block (a := ⟨gP, j, none⟩) e1).trans hc, (World.frozen?_of_block (a := ⟨gP, j, none⟩) e1).trans (h.rP.frozen j)⟩
end
end
end Go.Proofs.Ytcihobmjohpnkaa
