/- What the program's functions compute, in plain Lean: flow. Nothing here names the program. -/
import Derived.ProofKit
import Derived.WalkKit
import Derived.Deep.Draws
namespace Go.Proofs.Ytdomnbgjafdnjaa

section
/-- An instruction. -/
structure InsD where
  (k d a b n : Int) (name : ByteArray) (args : List Int) (t f : Int)
instance : Inhabited InsD := ⟨⟨0, 0, 0, 0, 0, ⟨#[]⟩, [], 0, 0⟩⟩

/-- Are two lists one? -/
def sameS (xs ys : List Int) : Bool := decide (xs = ys)
/-- Does a list have a number? -/
def inS (xs : List Int) (n : Int) : Bool := decide (n ∈ xs)
theorem inS_nil (n : Int) : inS [] n = false := by simp [inS]
theorem inS_snoc (xs : List Int) (x n : Int) : inS (xs ++ [x]) n = (inS xs n || (x == n)) := by
  unfold inS; rw [Bool.eq_iff_iff]; simp [Eq.comm (a := n)]
theorem inS_of_get {xs : List Int} {n : Int} {k : Nat} (h : k < xs.length) (he : xs[k] = n) : inS xs n = true := by
  unfold inS; rw [← he]; simp [List.getElem_mem]

/-- Is a number a block's? -/
def inR (n : Nat) (x : Int) : Bool := decide (0 ≤ x) && decide (x < n)
/-- Where an instruction goes on, whether or not the block is there. -/
def rawS (i : InsD) : List Int := if i.k = 7 then (if i.t = i.f then [i.t] else [i.t, i.f]) else if i.k = 8 then [i.t] else []
/-- Where a block goes on. -/
def succN (l : List (List InsD)) (b : Nat) : List Int :=
  match (l.getD b []).getLast? with
  | none => []
  | some i => (rawS i).filter (inR l.length)
def succS (l : List (List InsD)) (b : Int) : List Int := if 0 ≤ b then succN l b.toNat else []

theorem take_succ_eq {α : Type} {xs ys : List α} {k : Nat} (h1 : k < xs.length) (h2 : k < ys.length) (ht : xs.take k = ys.take k) (he : xs[k] = ys[k]) : xs.take (k + 1) = ys.take (k + 1) := by
  rw [List.take_succ_eq_append_getElem h1, List.take_succ_eq_append_getElem h2, ht, he]
end

section
/- How the program's data lie in memory: lists of ints, of lists, of instructions; and that they stay where nothing writes. -/
open Go.RowKit

theorem ret_bool {a b : Bool} (h : a = b) : Ending.returned (.bool a) = .returned (.bool b) := by rw [h]
theorem ret_int {a b : Int} (h : a = b) : Ending.returned (.int .i64 a) = .returned (.int .i64 b) := by rw [h]

/-- The walk stands still here. -/
def Stop (p : Prop) : Prop := p
theorem stop_here {p : Prop} (h : Stop p) : p := h
theorem stop_go {p : Prop} (h : p) : Stop p := h

/-- The world of a call under one name, with what is known of it. -/
theorem calls_at {P : Program} {f : FuncId} {args : Array Value} {W : World} {R : Ending → World → Prop} (Q : World → Prop) (hQ : Q W) (h : ∀ W', Q W' → Calls P f args W' R) : Calls P f args W R := h W hQ
theorem k_at {K : Act → World → Prop} {a : Act} {W : World} (Q : World → Prop) (hQ : Q W) (h : ∀ W', Q W' → K a W') : K a W := h W hQ
theorem wp_at {P : Program} {c : Code} {R : Exit → Act → World → Prop} {a : Act} {W : World} (Q : World → Prop) (hQ : Q W) (h : ∀ W', Q W' → c.wp P R a W') : c.wp P R a W := h W hQ

section
variable {w X Y : World}
theorem bel_refl (w : World) : Below w.heap.size w w := Below.refl _ _
theorem bel_alloc (h : Below w.heap.size w X) (o : Obj) : Below w.heap.size w (X.alloc o) := h.alloc h.size o
theorem bel_drewN (h : Below w.heap.size w X) (n : Nat) : Below w.heap.size w (X.drewN n) := ⟨h.os, h.tape, h.output, h.size, h.block⟩
theorem bel_call (h : Below w.heap.size w X) (k : Below X.heap.size X Y) : Below w.heap.size w Y := h.trans (k.mono h.size)
theorem bel_grown {row : Option Nat} (h : Below w.heap.size w X) (hg : X.grownBy Y row) (hr : ∀ k, row = some k → w.heap.size ≤ k) : Below w.heap.size w Y := h.grown hg h.size hr
theorem bel_setCell {a : Addr} {u : Value} (h : Below w.heap.size w X) (ha : w.heap.size ≤ a.block) : Below w.heap.size w (X.setCell a u) := h.setCell ha u
theorem heap_alloc_eq (X : World) (o : Obj) (k : Nat) (h : k = X.heap.size) : (X.alloc o).heap[k]? = some o := by subst h; show (X.heap.push o)[X.heap.size]? = some o; simp
theorem heap_alloc_ne (X : World) (o o' : Obj) (k : Nat) (h : X.heap[k]? = some o') : (X.alloc o).heap[k]? = some o' := by
  rw [Below.heap_alloc]; exact h
  by_cases hk : k < X.heap.size
  · exact hk
  · rw [Array.getElem?_eq_none (by omega)] at h; simp at h
end

/-- A slice value over elements of k cells, each of which R tells of; it lies in a block with p. -/
def IsSl {α : Type} (k : Nat) (R : World → Nat → Nat → α → Prop) (p : Nat → Prop) (w : World) (v : Value) (xs : List α) : Prop :=
  ∃ a cap, v = .slice a xs.length cap ∧ (xs.length ≤ cap ∧ xs.length ≤ 140737488351232) ∧
    (xs = [] ∨ ∃ b off, a = some ⟨b, off, none⟩ ∧ p b ∧ ∀ j (h : j < xs.length), R w b (off + j * k) xs[j])

/-- What lies in blocks with p lies on there, and they have p'. -/
def Keep (p p' : Nat → Prop) (w w' : World) : Prop := ∀ b, p b → b < w.heap.size → p' b ∧ w'.heap[b]? = w.heap[b]?
theorem Keep.below {p : Nat → Prop} {w w' : World} (h : Below w.heap.size w w') : Keep p p w w' := fun b hp hb => ⟨hp, h.block b hb⟩
theorem Keep.belowB {B : Nat} {w w' : World} (h : Below B w w') : Keep (· < B) (· < B) w w' := fun b hp _ => ⟨hp, h.block b hp⟩
theorem Keep.refl {p p' : Nat → Prop} (w : World) (h : ∀ b, p b → b < w.heap.size → p' b) : Keep p p' w w := fun b hp hb => ⟨h b hp hb, rfl⟩
theorem Keep.trans {p q r : Nat → Prop} {a b c : World} (h : Keep p q a b) (k : Keep q r b c) (hs : a.heap.size ≤ b.heap.size) : Keep p r a c := fun i hp hi =>
  let ⟨h1, h2⟩ := h i hp hi; let ⟨h3, h4⟩ := k i h1 (by omega); ⟨h3, h4.trans h2⟩
theorem Keep.grown {p p' : Nat → Prop} {w w' : World} {row : Option Nat} (hg : w.grownBy w' row) (h : ∀ b, p b → b < w.heap.size → p' b ∧ some b ≠ row) : Keep p p' w w' :=
  fun b hp hb => ⟨(h b hp hb).1, hg.block b hb (h b hp hb).2⟩
theorem Keep.setCell {p p' : Nat → Prop} {w : World} {a : Addr} {u : Value} (h : ∀ b, p b → b < w.heap.size → p' b ∧ b ≠ a.block) : Keep p p' w (w.setCell a u) :=
  fun b hp hb => ⟨(h b hp hb).1, Below.heap_setCell _ _ _ _ (h b hp hb).2⟩

/-- A cell that is there lies below the heap's end. -/
theorem lt_of_cell {w : World} {a : Addr} {x : Value} (h : w.cell? a = some x) : a.block < w.heap.size := by
  unfold World.cell? at h
  by_cases hl : a.block < w.heap.size
  · exact hl
  · rw [Array.getElem?_eq_none (by omega)] at h; simp at h
theorem Keep.cell {p p' : Nat → Prop} {w w' : World} (hk : Keep p p' w w') {b o : Nat} (hp : p b) {x : Value} (h : w.cell? ⟨b, o, none⟩ = some x) : w'.cell? ⟨b, o, none⟩ = some x :=
  (World.cell?_of_block (w := w) (a := ⟨b, o, none⟩) (hk b hp (lt_of_cell h)).2).trans h

def CInt (w : World) (b o : Nat) (x : Int) : Prop := w.cell? ⟨b, o, none⟩ = some (.int .i64 x)
def CBool (w : World) (b o : Nat) (x : Bool) : Prop := w.cell? ⟨b, o, none⟩ = some (.bool x)
def IsInts (p : Nat → Prop) (w : World) (v : Value) (xs : List Int) : Prop := IsSl 1 CInt p w v xs
def IsBools (p : Nat → Prop) (w : World) (v : Value) (xs : List Bool) : Prop := IsSl 1 CBool p w v xs
def CInts (p : Nat → Prop) (w : World) (b o : Nat) (xs : List Int) : Prop := ∃ v, w.cell? ⟨b, o, none⟩ = some v ∧ IsInts p w v xs
def IsRows (p : Nat → Prop) (w : World) (v : Value) (xs : List (List Int)) : Prop := IsSl 1 (CInts p) p w v xs
def CIns (p : Nat → Prop) (w : World) (b o : Nat) (i : InsD) : Prop :=
  w.cell? ⟨b, o, none⟩ = some (.int .i64 i.k) ∧ w.cell? ⟨b, o + 1, none⟩ = some (.int .i64 i.d) ∧ w.cell? ⟨b, o + 2, none⟩ = some (.int .i64 i.a) ∧
  w.cell? ⟨b, o + 3, none⟩ = some (.int .i64 i.b) ∧ w.cell? ⟨b, o + 4, none⟩ = some (.int .i64 i.n) ∧ w.cell? ⟨b, o + 5, none⟩ = some (.string i.name) ∧
  (∃ v, w.cell? ⟨b, o + 6, none⟩ = some v ∧ IsInts p w v i.args) ∧ w.cell? ⟨b, o + 7, none⟩ = some (.int .i64 i.t) ∧ w.cell? ⟨b, o + 8, none⟩ = some (.int .i64 i.f)
def IsInsL (p : Nat → Prop) (w : World) (v : Value) (xs : List InsD) : Prop := IsSl 9 (CIns p) p w v xs
def CInsL (p : Nat → Prop) (w : World) (b o : Nat) (xs : List InsD) : Prop := ∃ v, w.cell? ⟨b, o, none⟩ = some v ∧ IsInsL p w v xs
def IsBlocks (p : Nat → Prop) (w : World) (v : Value) (xs : List (List InsD)) : Prop := IsSl 1 (CInsL p) p w v xs

theorem IsSl.keep {α : Type} {k : Nat} {R R' : World → Nat → Nat → α → Prop} {p p' : Nat → Prop} {w w' : World} {v : Value} {xs : List α}
    (h : IsSl k R p w v xs) (hlt : ∀ b o x, R w b o x → b < w.heap.size) (hk : Keep p p' w w') (hR : ∀ b o x, p b → x ∈ xs → R w b o x → R' w' b o x) : IsSl k R' p' w' v xs := by
  obtain ⟨a, cap, hv, hl, hx⟩ := h
  refine ⟨a, cap, hv, hl, ?_⟩
  rcases hx with hx | ⟨b, off, ha, hb, hc⟩
  · exact .inl hx
  · by_cases h0 : xs = []
    · exact .inl h0
    · exact .inr ⟨b, off, ha, (hk b hb (hlt _ _ _ (hc 0 (List.length_pos_iff.2 h0)))).1, fun j hj => hR _ _ _ hb (List.getElem_mem hj) (hc j hj)⟩

section
variable {p p' : Nat → Prop} {w w' : World} {v : Value}
theorem IsInts.keep {xs : List Int} (h : IsInts p w v xs) (hk : Keep p p' w w') : IsInts p' w' v xs :=
  IsSl.keep h (fun _ _ _ h => lt_of_cell h) hk fun _ _ _ hp _ hc => hk.cell hp hc
theorem IsBools.keep {xs : List Bool} (h : IsBools p w v xs) (hk : Keep p p' w w') : IsBools p' w' v xs :=
  IsSl.keep h (fun _ _ _ h => lt_of_cell h) hk fun _ _ _ hp _ hc => hk.cell hp hc
theorem CInts.keep {b o : Nat} {xs : List Int} (hp : p b) (h : CInts p w b o xs) (hk : Keep p p' w w') : CInts p' w' b o xs :=
  let ⟨v, h1, h2⟩ := h; ⟨v, hk.cell hp h1, h2.keep hk⟩
theorem IsRows.keep {xs : List (List Int)} (h : IsRows p w v xs) (hk : Keep p p' w w') : IsRows p' w' v xs :=
  IsSl.keep h (fun _ _ _ ⟨_, h, _⟩ => lt_of_cell h) hk fun _ _ _ hp _ hc => CInts.keep hp hc hk
theorem CIns.keep {b o : Nat} {i : InsD} (hp : p b) (h : CIns p w b o i) (hk : Keep p p' w w') : CIns p' w' b o i := by
  obtain ⟨h0, h1, h2, h3, h4, h5, ⟨v, h6, h6'⟩, h7, h8⟩ := h
  exact ⟨hk.cell hp h0, hk.cell hp h1, hk.cell hp h2, hk.cell hp h3, hk.cell hp h4, hk.cell hp h5, ⟨v, hk.cell hp h6, h6'.keep hk⟩, hk.cell hp h7, hk.cell hp h8⟩
theorem IsInsL.keep {xs : List InsD} (h : IsInsL p w v xs) (hk : Keep p p' w w') : IsInsL p' w' v xs :=
  IsSl.keep h (fun _ _ _ h => lt_of_cell h.1) hk fun _ _ _ hp _ hc => CIns.keep hp hc hk
theorem CInsL.keep {b o : Nat} {xs : List InsD} (hp : p b) (h : CInsL p w b o xs) (hk : Keep p p' w w') : CInsL p' w' b o xs :=
  let ⟨v, h1, h2⟩ := h; ⟨v, hk.cell hp h1, h2.keep hk⟩
theorem IsBlocks.keep {xs : List (List InsD)} (h : IsBlocks p w v xs) (hk : Keep p p' w w') : IsBlocks p' w' v xs :=
  IsSl.keep h (fun _ _ _ ⟨_, h, _⟩ => lt_of_cell h) hk fun _ _ _ hp _ hc => CInsL.keep hp hc hk

/-- What the call owns reads as a list. -/
theorem ints_of_owns {base : Nat} {e : TypeId} {xs : List Int} (h : w.ownsRow base e 1 v xs.length (xs.map (Value.int .i64))) (hs : xs.length ≤ 140737488351232)
    (hp : ∀ b, v.ownBlock = some b → base ≤ b → b < w.heap.size → p b) : IsInts p w v xs := by
  have hlt := h.lt
  obtain ⟨h1, h2⟩ := h
  rcases h2 with ⟨rfl, h0⟩ | ⟨g, cap, cur, rfl, hg, hh, hn, hm, hc, ht⟩
  · exact ⟨none, 0, by rw [h0], ⟨by omega, hs⟩, .inl (List.length_eq_zero_iff.1 h0)⟩
  · refine ⟨_, cap, rfl, ⟨hn, hs⟩, .inr ⟨g, 0, rfl, hp g rfl hg (hlt g rfl).2, fun j hj => ?_⟩⟩
    have := World.ownsRow.cellAt (w := w) (base := base) (e := e) (size := 1) (g := g) (n := xs.length) (cap := cap) (xs := xs.map (Value.int .i64)) ⟨h1, .inr ⟨g, cap, cur, rfl, hg, hh, hn, hm, hc, ht⟩⟩ j (by omega)
    unfold CInt
    rw [Nat.zero_add, Nat.mul_one, this]
    simp [hj]
end

/-- Block b is a row of cells. -/
def Row (W : World) (b : Nat) (e : TypeId) (vs : List Value) : Prop := W.heap[b]? = some (.cells vs.toArray e (0, 0))
theorem Row.lt {W : World} {b : Nat} {e : TypeId} {vs : List Value} (h : Row W b e vs) : b < W.heap.size := lt_of_block h
theorem Row.cell {W : World} {b : Nat} {e : TypeId} {vs : List Value} (h : Row W b e vs) {k : Nat} {v : Value} (hk : vs[k]? = some v) : W.cell? ⟨b, k, none⟩ = some v := by
  unfold Row at h; simp [World.cell?, h, hk]
theorem Row.frozen {W : World} {b : Nat} {e : TypeId} {vs : List Value} (h : Row W b e vs) (k : Nat) : W.frozen? ⟨b, k, none⟩ = false := by
  unfold Row at h; simp [World.frozen?, h]
theorem Row.set {W : World} {b : Nat} {e : TypeId} {vs : List Value} (h : Row W b e vs) (k : Nat) (v : Value) : Row (W.setCell ⟨b, k, none⟩ v) b e (vs.set k v) := by
  unfold Row at *
  simp only [World.setCell, Array.getElem?_modify, if_pos, h, Option.map_some]
  simp
theorem Row.keep {W W' : World} {b : Nat} {e : TypeId} {vs : List Value} (h : Row W b e vs) (hk : W'.heap[b]? = W.heap[b]?) : Row W' b e vs := by unfold Row at *; rw [hk]; exact h
theorem Row.other {W : World} {b : Nat} {e : TypeId} {vs : List Value} (h : Row W b e vs) {a : Addr} (hne : b ≠ a.block) (v : Value) : Row (W.setCell a v) b e vs := h.keep (Below.heap_setCell _ _ _ _ hne)

abbrev bools (l : List Bool) : List Value := l.map Value.bool
theorem bools_get {l : List Bool} {k : Nat} (h : k < l.length) : (bools l)[k]? = some (.bool (l.getD k true)) := by simp [h, List.getD]
theorem bools_set (l : List Bool) (k : Nat) (b : Bool) : (bools l).set k (.bool b) = bools (l.set k b) := by simp [bools, List.map_set]
end

section
/- 'append' to a row of the call's own: where it lies afterwards is told, too. -/
open Go.RowKit

section
variable {P : Program} (w : World)

theorem run_app (base : Nat) (t ty e : TypeId) (i : TypeInfo) (z : Value) (size bytes : Nat) (ht : P.underlying t = some (.slice e)) (hi : P.info? e = some i) (hz : i.zero = some z)
    (hsize : i.size = size) (hby : i.bytes = bytes) (hzs : z.cells.size = size) (hsz : 0 < size)
    (v : Value) (n : Nat) (xs : List Value) (hown : w.ownsRow base e size v n xs)
    (a : Addr) (m c : Nat) (news : List Value) (hl : news.length = m * size) (hnews : ∀ j u, news[j]? = some u → w.cell? (a.add j) = some u) (h1 : ∀ u ∈ news, u.oneCell' = true)
    (h63 : n + m ≤ maxLen) (hbytes : (n + m) * bytes ≤ 140737488355328) (hbase : base ≤ w.heap.size) :
    ∃ v' w', (Builtin.append_ #[t, t] ty #[v, .slice (some a) m c]).run P w = .ok v' w' ∧ w'.ownsRow base e size v' (n + m) (xs ++ news) ∧ w.grownBy w' v.ownBlock ∧
      (v'.ownBlock = v.ownBlock ∨ v'.ownBlock = some w.heap.size) := by
  obtain ⟨v', w', hr, ho, hg, _⟩ := run_append_own (P := P) w base t ty e i z size bytes ht hi hz hsize hby hzs hsz v n xs hown a m c news hl hnews h1 h63 hbytes hbase
  refine ⟨v', w', hr, ho, hg, ?_⟩
  have hown' := hown
  subst hsize hby
  rcases hown.2 with ⟨rfl, rfl⟩ | ⟨g, cap, cur, rfl, hbg, hgg, hnc, hcm, hcs, htake⟩
  · have hx : xs = [] := List.eq_nil_of_length_eq_zero (by simpa using hown.1)
    subst hx
    by_cases hm : m = 0
    · subst hm
      rcases ho.2 with ⟨rfl, _⟩ | ⟨g', cap', cur', rfl, hb', hh', _⟩
      · exact .inl rfl
      · exfalso
        have := hr
        simp [Builtin.append_, run_underlying ht, sizeOf, typeInfo, hi, Builtin.lenOf, Builtin.firstCells, loadCells, loadCellsFrom] at this
    · have hr' := run_append_nil (P := P) w t ty e i z ht hi hz a m c news hl hnews (by omega) (by simp only [maxLen] at h63; omega) (by rw [Nat.zero_add] at hbytes; omega)
      rw [hr'] at hr
      simp only [Result.ok.injEq] at hr
      rw [← hr.1]
      exact .inr rfl
  · by_cases hroom : n + m ≤ cap
    · have hfit : n * i.size + news.length ≤ cur.size := by rw [hl, hcs, ← Nat.add_mul]; exact Nat.mul_le_mul_right _ hroom
      have hr' := run_append_room (P := P) w t ty e i ht hi g n cap cur hgg a m c news hl hnews h1 hroom hfit
      rw [hr'] at hr
      simp only [Result.ok.injEq] at hr
      rw [← hr.1]
      exact .inl rfl
    · have holds : ∀ j u, xs[j]? = some u → w.cell? ((⟨g, 0, none⟩ : Addr).add j) = some u := hown'.cells (g := g) rfl
      have hr' := run_append_grow (P := P) w t ty e i z ht hi hz ⟨g, 0, none⟩ n cap xs hown.1 holds a m c news hl hnews (by omega) (by simp only [maxLen] at h63; omega) (growslice_fits (by omega) hbytes)
      rw [hr'] at hr
      simp only [Result.ok.injEq] at hr
      rw [← hr.1]
      exact .inr rfl

theorem wp_app {ops : Array Oper} {rest : List Oper} {o : Oper} {a : Act} {Q : Exit → Act → World → Prop} (hgd : o.guard = none) (s x : Operand) (t : TypeId)
    (hop : o.op = .call { callee := .builtin .append, args := #[s, x], argTypes := #[t, t] })
    (base : Nat) (e : TypeId) (i : TypeInfo) (z : Value) (size bytes : Nat) (ht : P.underlying t = some (.slice e)) (hi : P.info? e = some i) (hz : i.zero = some z)
    (hsize : i.size = size) (hby : i.bytes = bytes) (hzs : z.cells.size = size) (hsz : 0 < size)
    (v : Value) (n : Nat) (xs : List Value) (hs : a.eval s = v) (hown : w.ownsRow base e size v n xs)
    (ad : Addr) (m c : Nat) (news : List Value) (hx : a.eval x = .slice (some ad) m c) (hl : news.length = m * size) (hnews : ∀ j u, news[j]? = some u → w.cell? (ad.add j) = some u) (h1 : ∀ u ∈ news, u.oneCell' = true)
    (h63 : n + m ≤ maxLen) (hbytes : (n + m) * bytes ≤ 140737488355328) (hbase : base ≤ w.heap.size)
    (h : ∀ v' w', w'.ownsRow base e size v' (n + m) (xs ++ news) → w.grownBy w' v.ownBlock → (v'.ownBlock = v.ownBlock ∨ v'.ownBlock = some w.heap.size) → wpList P ops Q rest (a.put o.dst v') w') : wpList P ops Q (o :: rest) a w := by
  refine wpList_plain hgd fun K hK => ?_
  obtain ⟨v', w', hr, h2, h3, h4⟩ := run_app (P := P) w base t o.type e i z size bytes ht hi hz hsize hby hzs hsz v n xs hown ad m c news hl hnews h1 h63 hbytes hbase
  unfold Oper.wp execOp
  simp only [hop, resolve, invoke, builtin, Sem.run_bind, Sem.run_pure, Result.andThen_ok, List.map_toArray, List.map_cons, List.map_nil, hs, hx, hr]
  exact hK _ _ (h v' w' h2 h3 h4)

/-- 'make([]T, n)' of elements of one cell: the world is told. -/
theorem wp_make1 {ops : Array Oper} {rest : List Oper} {o : Oper} {a : Act} {Q : Exit → Act → World → Prop}
    (hg : o.guard = none) (l c : Operand) (t : TypeId) (hop : o.op = Op.makeSlice t l c)
    (e : TypeId) (i : TypeInfo) (z z1 : Value) (bytes : Nat) (h1 : P.underlying t = some (.slice e)) (h2 : P.info? e = some i) (h3 : i.zero = some z) (h4 : i.size = 1) (hby : i.bytes = bytes) (hz : z.cells = #[z1])
    (n : Nat) (hl : a.eval l = .int .i64 n) (hc : a.eval c = .int .i64 n) (hn : bytes * n ≤ 281474976710656) (hm : n ≤ 9223372036854775807)
    (hK : wpList P ops Q rest (a.put o.dst (.slice (some ⟨w.heap.size, 0, none⟩) n n)) (w.alloc (.cells (List.replicate n z1).toArray e))) :
    wpList P ops Q (o :: rest) a w := by
  refine wpList_plain hg fun K hK' => ?_
  subst hby
  have hb' : (i.bytes : Int) * (n : Int) ≤ 281474976710656 := by
    have h : ((i.bytes * n : Nat) : Int) ≤ 281474976710656 := by omega
    rwa [Int.natCast_mul] at h
  have hrun := run_make (P := P) w t e i z h1 h2 h3 .i64 .i64 n n (by omega) (Int.le_refl _) hb' (by omega)
  have hmade : madeCells z.cells (n * i.size) = (List.replicate n z1).toArray := by
    rw [h4, Nat.mul_one, hz]
    exact Array.toList_inj.1 (by rw [toList_madeCells_one])
  simp only [Int.toNat_natCast, hmade] at hrun
  unfold Oper.wp
  simp [execOp, hop, hl, hc, hrun, Result.andThen]
  exact hK' _ _ hK
end
end
end Go.Proofs.Ytdomnbgjafdnjaa
