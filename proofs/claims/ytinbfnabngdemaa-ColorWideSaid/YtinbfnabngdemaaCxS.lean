/- The graph that is taken away node by node, in memory: where its parts lie, what they hold, what a call leaves alone. -/
import Derived.Test.YtinbfnabngdemaaCmC
import Derived.Test.YtinbfnabngdemaaCoO
import Derived.Test.YtinbfnabngdemaaCoQ
import Derived.Test.YtinbfnabngdemaaKBitL
namespace Go.Proofs.Ytinbfnabngdemaa
open Go.RowKit Go.Maps Go.Sort Go.Shelf Go.WideMaps Go.ChangeMaps Go.WideElems

/-! ### Rows of sets -/
def CSet (p : Nat → Prop) (w : World) (b o : Nat) (ws : List Nat) : Prop := ∃ v, w.cell? ⟨b, o, none⟩ = some v ∧ IsWords p w v ws
def IsSets (p : Nat → Prop) (w : World) (v : Value) (l : List (List Nat)) : Prop := IsSl 1 (CSet p) p w v l
theorem CSet.keep {p p' : Nat → Prop} {w w' : World} {b o : Nat} {ws : List Nat} (hp : p b) (h : CSet p w b o ws) (hk : Keep p p' w w') : CSet p' w' b o ws :=
  let ⟨v, h1, h2⟩ := h; ⟨v, hk.cell hp h1, h2.keep hk⟩
theorem IsSets.keep {p p' : Nat → Prop} {w w' : World} {v : Value} {l : List (List Nat)} (h : IsSets p w v l) (hk : Keep p p' w w') : IsSets p' w' v l :=
  IsSl.keep h (fun _ _ _ ⟨_, h, _⟩ => lt_of_cell h) hk fun _ _ _ hp _ hc => CSet.keep hp hc hk

/-! ### How many of a list's numbers a set has -/
theorem len_of_mem {l m : List Int} (hl : l.Pairwise (· < ·)) (hm : m.Pairwise (· < ·)) (h : ∀ x, x ∈ l ↔ x ∈ m) : l = m := by
  refine List.Perm.eq_of_pairwise (le := (· < ·)) (fun a b _ _ h1 h2 => by omega) hl hm ?_
  exact (List.perm_ext_iff_of_nodup (hl.imp fun h => by omega) (hm.imp fun h => by omega)).2 h
theorem listI_rising (ws : List Nat) : (listI ws).Pairwise (· < ·) := by
  have h := Bit.list_rising ws
  unfold listI uptoI
  rw [List.pairwise_map]
  exact h.imp fun h => by omega
theorem mem_listI {ws : List Nat} {x : Int} : x ∈ listI ws ↔ 0 ≤ x ∧ Bit.has ws x.toNat = true := by
  unfold listI uptoI
  rw [List.mem_map]
  constructor
  · rintro ⟨m, hm, rfl⟩
    exact ⟨by omega, by rw [Int.toNat_natCast]; exact Bit.mem_list.1 hm⟩
  · rintro ⟨h0, h1⟩
    exact ⟨x.toNat, Bit.mem_list.2 h1, by omega⟩
theorem mem_list_of {l : List Int} {k : Nat} (hl : RisP l k) (hk : k ≤ 60) {x : Int} : x ∈ listI (Bit.ofW l) ↔ x ∈ l := by
  rw [mem_listI, Bit.has_of]
  constructor
  · rintro ⟨h0, h1, -⟩
    rw [Int.toNat_of_nonneg h0] at h1
    exact h1
  · intro h
    have := hl.2 x h
    exact ⟨this.1, by rw [Int.toNat_of_nonneg this.1]; exact h, by omega⟩
theorem list_of {l : List Int} {k : Nat} (hl : RisP l k) (hk : k ≤ 60) : listI (Bit.ofW l) = l := len_of_mem (listI_rising _) hl.1 fun _ => mem_list_of hl hk
theorem list_and {l m : List Int} {k : Nat} (hl : RisP l k) (hm : RisP m k) (hk : k ≤ 60) : listI (Bit.andW (Bit.ofW l) (Bit.ofW m)) = l.filter fun d => decide (d ∈ m) := by
  refine len_of_mem (listI_rising _) (hl.1.filter _) fun x => ?_
  rw [mem_listI, Bit.has_and, List.mem_filter, decide_eq_true_iff, Bool.and_eq_true, ← mem_list_of hl hk, ← mem_list_of hm hk, mem_listI, mem_listI]
  constructor
  · rintro ⟨h0, h1, h2⟩; exact ⟨⟨h0, h1⟩, h0, h2⟩
  · rintro ⟨⟨h0, h1⟩, -, h2⟩; exact ⟨h0, h1, h2⟩
theorem OkG.lp_ris {G : GD} (hG : OkG G) {c : Int} (hc : 0 ≤ c ∧ c < (G.Lp.length : Int)) : RisP (lpS G c) G.Lp.length := by
  obtain ⟨k, rfl⟩ : ∃ k : Nat, c = (k : Int) := ⟨c.toNat, by omega⟩
  have hk : k < G.Lp.length := by omega
  rw [lpS_nat G hk]
  exact (hG.l k hk).1
theorem OkG.alw_ris {G : GD} (hG : OkG G) (v : Nat) : RisP (alw G v) G.Lp.length := by
  unfold alw List.getD
  cases e : G.A[v]? with
  | none => exact ⟨List.Pairwise.nil, fun x h => by simp at h⟩
  | some l => exact hG.a l (List.mem_of_getElem? e)
theorem alw_len {G : GD} (hG : OkG G) (hF : Few G) (v : Nat) : (alw G v).length ≤ 60 := by
  have h := hG.alw_ris v
  have hn : (alw G v).Nodup := h.1.imp fun h => by omega
  suffices H : ∀ (n : Nat) (l : List Int), l.Nodup → (∀ y ∈ l, 0 ≤ y ∧ y < (n : Int)) → l.length ≤ n from Nat.le_trans (H _ _ hn h.2) hF.k
  intro n
  induction n with
  | zero =>
    intro l _ h
    cases l with
    | nil => exact Nat.le_refl _
    | cons a l => have := h a (by simp); omega
  | succ n ih =>
    intro l hl h
    have h2 := ih (l.filter fun y => decide (y ≠ (n : Int))) (hl.filter _) (fun y hy => by
      have h1 := List.mem_filter.1 hy
      have := h y h1.1
      have h3 : y ≠ (n : Int) := by simpa using h1.2
      omega)
    have h3 : l.length ≤ (l.filter fun y => decide (y ≠ (n : Int))).length + 1 := by
      have h4 : (l.filter fun y => decide (y ≠ (n : Int))) = l.erase (n : Int) := by rw [hl.erase_eq_filter]; congr 1; funext y; simp [bne, Bool.beq_eq_decide_eq]
      rw [h4]
      have := List.length_erase_of_mem (a := (n : Int)) (l := l)
      by_cases hm : (n : Int) ∈ l
      · rw [this hm]; omega
      · rw [List.erase_of_not_mem hm]; omega
    omega

/-! ### Where the parts lie -/
structure Gl where
  (gb nb mb cb ub ob B : Nat) (nm mm : Nat → Nat) (V : GV) (K : Nat → Int) (kv lv : Value)
/-- The blocks that stay. -/
def Gl.St (L : Gl) (b : Nat) : Prop := b < L.B ∧ b ≠ L.gb ∧ b ≠ L.cb ∧ b ≠ L.ub ∧ b ≠ L.ob
def Gl.cs (L : Gl) (n : Nat) (o s : Value) : List Value :=
  [.slice L.V.ea L.V.en L.V.ec, .slice L.V.ma L.V.mn L.V.mc, .slice L.V.aa L.V.an L.V.ac, .slice L.V.la L.V.ln L.V.lc, .slice (some ⟨L.nb, 0, none⟩) n n, .slice (some ⟨L.mb, 0, none⟩) n n, L.kv, .map (some L.cb), L.lv,
   .slice (some ⟨L.ub, 0, none⟩) n n, .slice (some ⟨L.ob, 0, none⟩) n n, o, s]
/-- The blocks stand apart; the kinds tell nodes apart by what they may be. -/
structure GlOk (L : Gl) (G : GD) : Prop where
  lt : L.gb < L.B ∧ L.cb < L.B ∧ L.ub < L.B ∧ L.ob < L.B
  ap : L.gb ≠ L.cb ∧ L.gb ≠ L.ub ∧ L.gb ≠ L.ob ∧ L.cb ≠ L.ub ∧ L.cb ≠ L.ob ∧ L.ub ≠ L.ob
  rg : ∀ i, i < G.A.length → 0 ≤ L.K i ∧ L.K i < (G.A.length : Int)
  kd : ∀ i j, i < G.A.length → j < G.A.length → L.K i = L.K j → alw G i = alw G j
structure StG (L : Gl) (G : GD) (W : World) : Prop where
  hB : L.B ≤ W.heap.size
  gr : IsGr L.St W L.V G
  nb : L.St L.nb
  near : Row W L.nb 71 ((List.range G.A.length).map fun i => Value.map (some (L.nm i)))
  nm : ∀ i, i < G.A.length → L.St (L.nm i) ∧ ∃ k, IsIs W (L.nm i) k (fun m => adjS G.E i m)
  mb : L.St L.mb
  moves : Row W L.mb 71 ((List.range G.A.length).map fun i => Value.map (some (L.mm i)))
  mm : ∀ i, i < G.A.length → L.St (L.mm i) ∧ ∃ k, IsIs W (L.mm i) k (fun m => adjS G.M i m)
  kv : IsInts L.St W L.kv ((List.range G.A.length).map L.K)
  lv : IsSets L.St W L.lv (G.Lp.map Bit.ofW)
theorem StG.keep {L : Gl} {G : GD} {W W' : World} (h : StG L G W) (hs : W.heap.size ≤ W'.heap.size) (hk : ∀ b, L.St b → W'.heap[b]? = W.heap[b]?) : StG L G W' := by
  have hK : Keep L.St L.St W W' := fun b hb _ => ⟨hb, hk b hb⟩
  exact ⟨Nat.le_trans h.hB hs, h.gr.keep hK, h.nb, h.near.keep (hk _ h.nb), fun i hi => ⟨(h.nm i hi).1, let ⟨k, h2⟩ := (h.nm i hi).2; ⟨k, h2.keep (hk _ (h.nm i hi).1)⟩⟩,
    h.mb, h.moves.keep (hk _ h.mb), fun i hi => ⟨(h.mm i hi).1, let ⟨k, h2⟩ := (h.mm i hi).2; ⟨k, h2.keep (hk _ (h.mm i hi).1)⟩⟩, h.kv.keep hK, h.lv.keep hK⟩

/-! ### How many keys there can be -/
def pairsN (n : Nat) : List (Nat × Nat) := (List.range n).flatMap fun a => (List.range n).map fun b => (a, b)
theorem mem_pairsN {n : Nat} {p : Nat × Nat} : p ∈ pairsN n ↔ p.1 < n ∧ p.2 < n := by
  unfold pairsN
  rw [List.mem_flatMap]
  constructor
  · rintro ⟨a, ha, h⟩
    obtain ⟨b, hb, rfl⟩ := List.mem_map.1 h
    exact ⟨List.mem_range.1 ha, List.mem_range.1 hb⟩
  · rintro ⟨h1, h2⟩
    exact ⟨p.1, List.mem_range.2 h1, List.mem_map.2 ⟨p.2, List.mem_range.2 h2, rfl⟩⟩
theorem sum_const (n : Nat) : ∀ l : List Nat, (l.map fun _ => n).sum = l.length * n
  | [] => by simp
  | _ :: l => by rw [List.map_cons, List.sum_cons, sum_const n l, List.length_cons, Nat.succ_mul]; omega
theorem pairsN_len (n : Nat) : (pairsN n).length = n * n := by
  unfold pairsN
  rw [List.length_flatMap]
  simp only [List.length_map, List.length_range]
  rw [sum_const, List.length_range]
theorem pairsN_nodup (n : Nat) : (pairsN n).Nodup := by
  unfold pairsN
  show List.Pairwise (· ≠ ·) _
  rw [List.pairwise_flatMap]
  refine ⟨fun a _ => ?_, ?_⟩
  · rw [List.pairwise_map]
    exact List.pairwise_lt_range.imp fun h e => by simp at e; omega
  · exact List.pairwise_lt_range.imp fun h x hx y hy e => by
      obtain ⟨b, -, rfl⟩ := List.mem_map.1 hx
      obtain ⟨c, -, rfl⟩ := List.mem_map.1 hy
      simp at e; omega
theorem filter_one {α : Type} [DecidableEq α] {l : List α} {a : α} (hn : l.Nodup) (ha : a ∈ l) {p q : α → Bool} (hp : p a = false) (hq : ∀ x, q x = (p x || decide (x = a))) : (l.filter q).length = (l.filter p).length + 1 := by
  induction l with
  | nil => simp at ha
  | cons x l ih =>
    obtain ⟨h1, h2⟩ := List.nodup_cons.1 hn
    by_cases e : x = a
    · subst e
      have : l.filter q = l.filter p := List.filter_congr fun u hu => by
        rw [hq]
        have : u ≠ x := fun e => h1 (e ▸ hu)
        simp [this]
      simp [hq, hp, this]
    · have hal : a ∈ l := by rcases List.mem_cons.1 ha with h | h; exact absurd h.symm e; exact h
      have ih := ih h2 hal
      simp only [List.filter_cons, hq x]
      cases p x <;> simp [e, ih]
open Classical in
noncomputable def cntF (f : Lit → Option Int) (n : Nat) : Nat := ((pairsN n).filter fun p => (f (kp (p.1 : Int) (p.2 : Int))).isSome).length
theorem cntF_le (f : Lit → Option Int) (n : Nat) : cntF f n ≤ n * n := by
  unfold cntF
  exact Nat.le_trans (List.length_filter_le _ _) (by rw [pairsN_len]; exact Nat.le_refl _)
theorem cntF_none (n : Nat) : cntF (fun _ => none) n = 0 := by unfold cntF; simp
theorem in64N {n a : Nat} (h : a < n) (hn : n ≤ 1000000) : In64 (a : Int) := In64.of (by omega) (by omega)
theorem cntF_put {f : Lit → Option Int} {n a b : Nat} (ha : a < n) (hb : b < n) (hn : n ≤ 1000000) (hf : f (kp (a : Int) (b : Int)) = none) (c : Int) : cntF (updL f (kp (a : Int) (b : Int)) c) n = cntF f n + 1 := by
  unfold cntF
  have hinj : ∀ p ∈ pairsN n, (kp (p.1 : Int) (p.2 : Int) = kp (a : Int) (b : Int)) ↔ p = (a, b) := fun p hp => by
    have hp := mem_pairsN.1 hp
    constructor
    · intro h
      obtain ⟨h1, h2⟩ := kp_inj (in64N hp.1 hn) (in64N hp.2 hn) (in64N ha hn) (in64N hb hn) h
      exact Prod.ext (by omega) (by omega)
    · rintro rfl; rfl
  have e : ((pairsN n).filter fun p => (updL f (kp (a : Int) (b : Int)) c (kp (p.1 : Int) (p.2 : Int))).isSome) = (pairsN n).filter fun p => ((f (kp (p.1 : Int) (p.2 : Int))).isSome || decide (p = (a, b))) := by
    refine List.filter_congr fun p hp => ?_
    unfold updL
    by_cases h : p = (a, b)
    · rw [if_pos ((hinj p hp).2 h)]; simp [h]
    · rw [if_neg (fun e => h ((hinj p hp).1 e))]; simp [h]
  rw [e]
  exact filter_one (pairsN_nodup n) (a := (a, b)) (mem_pairsN.2 ⟨ha, hb⟩) (p := fun p => (f (kp (p.1 : Int) (p.2 : Int))).isSome) (by dsimp only; rw [hf]; rfl) (fun _ => rfl)

/-! ### What is known of the parts that turn -/
abbrev nts (l : List Nat) : List Value := l.map fun (m : Nat) => Value.int .i64 (m : Int)
structure DyV (L : Gl) (G : GD) (S : CS) (ov sv : Value) (W : World) : Prop where
  row : Row W L.gb 62 (L.cs G.A.length ov sv)
  cost : ∃ s f, IsFm 37 W L.cb s s f ∧ s = cntF f G.A.length ∧ ∀ i j c, i < G.A.length → j < G.A.length → f (kp (L.K i) (L.K j)) = some c → c = (mostS G i j : Int)
  sums : Row W L.ub 3 (ints ((List.range G.A.length).map S.sums))
  gone : Row W L.ob 4 (bools ((List.range G.A.length).map S.gone))
  ord : W.ownsRow L.B 3 1 ov S.order.length (nts S.order)
  sf : W.ownsRow L.B 3 1 sv S.safe.length (nts S.safe)
  ap : ov.ownBlock = none ∨ ov.ownBlock ≠ sv.ownBlock

/-! ### What a call leaves alone: at level 0 the costs alone turn; at 1 also the sums and what is safe; at 2 also what is gone and the order -/
def Gl.F (L : Gl) (l : Nat) (b : Nat) : Prop := b = L.cb ∨ (1 ≤ l ∧ b = L.ub) ∨ (2 ≤ l ∧ b = L.ob)
def Ofs (l : Nat) (o : Nat) : Prop := (1 ≤ l ∧ o = 12) ∨ (2 ≤ l ∧ o = 11)
def Dn (L : Gl) (l : Nat) (W : World) (b : Nat) : Prop := L.F l b ∨ ∃ o, Ofs l o ∧ ∃ v, W.cell? ⟨L.gb, o, none⟩ = some v ∧ v.ownBlock = some b
structure KZ (L : Gl) (l : Nat) (W W' : World) : Prop where
  os : W'.os = W.os
  tape : W'.tape = W.tape
  output : W'.output = W.output
  size : W.heap.size ≤ W'.heap.size
  cell : ∀ o, ¬ Ofs l o → W'.cell? ⟨L.gb, o, none⟩ = W.cell? ⟨L.gb, o, none⟩
  block : ∀ b, b < W.heap.size → b ≠ L.gb → ¬ Dn L l W b → W'.heap[b]? = W.heap[b]?
  dyn : ∀ b, b < W.heap.size → Dn L l W' b → Dn L l W b
section
variable {L : Gl} {G : GD} {S : CS} {l : Nat} {A B C W W' : World} {ov sv : Value}
theorem KZ.refl (L : Gl) (l : Nat) (W : World) : KZ L l W W := ⟨rfl, rfl, rfl, Nat.le_refl _, fun _ _ => rfl, fun _ _ _ _ => rfl, fun _ _ h => h⟩
theorem KZ.trans (h : KZ L l A B) (k : KZ L l B C) : KZ L l A C :=
  ⟨k.os.trans h.os, k.tape.trans h.tape, k.output.trans h.output, Nat.le_trans h.size k.size, fun o ho => (k.cell o ho).trans (h.cell o ho),
    fun b hb hg hd => (k.block b (Nat.lt_of_lt_of_le hb h.size) hg (fun e => hd (h.dyn b hb e))).trans (h.block b hb hg hd), fun b hb hd => h.dyn b hb (k.dyn b (Nat.lt_of_lt_of_le hb h.size) hd)⟩
theorem Ofs.mono {l m o : Nat} (h : l ≤ m) (ho : Ofs l o) : Ofs m o := by unfold Ofs at *; omega
theorem Dn.mono {l m : Nat} (h : l ≤ m) {b : Nat} (hd : Dn L l W b) : Dn L m W b := by
  rcases hd with hd | ⟨o, ho, r⟩
  · left; unfold Gl.F at *; rcases hd with hd | hd | hd
    · exact .inl hd
    · exact .inr (.inl ⟨by omega, hd.2⟩)
    · exact .inr (.inr ⟨by omega, hd.2⟩)
  · exact .inr ⟨o, ho.mono h, r⟩
theorem KZ.mono {m : Nat} (hl : l ≤ m) (h : KZ L l A B) : KZ L m A B := by
  refine ⟨h.os, h.tape, h.output, h.size, fun o ho => h.cell o (fun e => ho (e.mono hl)), fun b hb hg hd => h.block b hb hg (fun e => hd (e.mono hl)), fun b hb hd => ?_⟩
  rcases hd with hd | ⟨o, ho, v, hv, e⟩
  · exact .inl hd
  · by_cases h2 : Ofs l o
    · exact (h.dyn b hb (.inr ⟨o, h2, v, hv, e⟩)).mono hl
    · exact .inr ⟨o, ho, v, by rw [← h.cell o h2]; exact hv, e⟩
theorem KZ.of_below (hg : L.gb < W.heap.size) (h : Below W.heap.size W W') : KZ L l W W' := by
  have hc : ∀ o, W'.cell? ⟨L.gb, o, none⟩ = W.cell? ⟨L.gb, o, none⟩ := fun o => cell_of_block (h.block _ hg) o
  refine ⟨h.os, h.tape, h.output, h.size, fun o _ => hc o, fun b hb _ _ => h.block b hb, fun b _ hd => ?_⟩
  rcases hd with hd | ⟨o, ho, v, hv, e⟩
  · exact .inl hd
  · exact .inr ⟨o, ho, v, by rw [← hc o]; exact hv, e⟩
theorem DyV.c11 (h : DyV L G S ov sv W) : W.cell? ⟨L.gb, 11, none⟩ = some ov := h.row.cell rfl
theorem DyV.c12 (h : DyV L G S ov sv W) : W.cell? ⟨L.gb, 12, none⟩ = some sv := h.row.cell rfl
/-- What turns: the named blocks and those of the two rows. -/
theorem DyV.dn (h : DyV L G S ov sv W) {b : Nat} : Dn L l W b ↔ L.F l b ∨ (1 ≤ l ∧ sv.ownBlock = some b) ∨ (2 ≤ l ∧ ov.ownBlock = some b) := by
  unfold Dn
  refine or_congr Iff.rfl ⟨?_, ?_⟩
  · rintro ⟨o, ho | ho, v, hv, e⟩
    · obtain ⟨h1, rfl⟩ := ho
      rw [h.c12] at hv; cases hv
      exact .inl ⟨h1, e⟩
    · obtain ⟨h1, rfl⟩ := ho
      rw [h.c11] at hv; cases hv
      exact .inr ⟨h1, e⟩
  · rintro (⟨h1, e⟩ | ⟨h1, e⟩)
    · exact ⟨12, .inl ⟨h1, rfl⟩, sv, h.c12, e⟩
    · exact ⟨11, .inr ⟨h1, rfl⟩, ov, h.c11, e⟩
/-- What stays is none of these. -/
theorem DyV.st (h : DyV L G S ov sv W) {b : Nat} (hb : L.St b) : ¬ Dn L l W b := by
  obtain ⟨h0, h1, h2, h3, h4⟩ := hb
  rw [h.dn]
  rintro ((e | e | e) | e | e)
  · exact h2 e
  · exact h3 e.2
  · exact h4 e.2
  · have := (h.sf.lt b e.2).1; omega
  · have := (h.ord.lt b e.2).1; omega
theorem StG.step (h : StG L G W) (hd : DyV L G S ov sv W) (k : KZ L l W W') : StG L G W' :=
  h.keep k.size fun b hb => k.block b (by have := hb.1; have := h.hB; omega) hb.2.1 (hd.st hb)
/-- What lies beneath and stays. -/
theorem KZ.below (k : KZ L l W W') (hd : DyV L G S ov sv W) {n : Nat} (hn : ∀ b, b < n → L.St b) (hs : n ≤ W.heap.size) : Below n W W' :=
  ⟨k.os, k.tape, k.output, k.size, fun b hb => k.block b (by omega) (hn b hb).2.1 (hd.st (hn b hb))⟩
/-- What is no row of cells stays, but for the costs. -/
theorem KZ.others (k : KZ L l W W') (hd : DyV L G S ov sv W) {b : Nat} {o : Obj} (hb : W.heap[b]? = some o) (ho : o.isCells = false) (hc : b ≠ L.cb) : W'.heap[b]? = some o := by
  have hlt : b < W.heap.size := lt_of_block hb
  have hcell : ∀ {vs : Array Value} {e : TypeId} {f : Nat × Nat}, W.heap[b]? = some (.cells vs e f) → False := fun h => by rw [hb] at h; cases h; simp [Obj.isCells] at ho
  have hrow : ∀ {g : Nat} {e : TypeId} {vs : List Value}, Row W g e vs → b ≠ g := fun h e => by subst e; unfold Row at h; exact hcell h
  have hown : ∀ {v : Value} {n : Nat} {xs : List Value} {e : TypeId}, W.ownsRow L.B e 1 v n xs → v.ownBlock ≠ some b := fun h e => by
    obtain ⟨-, h | ⟨g, cap, cur, rfl, -, hh, -⟩⟩ := h
    · rw [h.1] at e; cases e
    · cases e; exact hcell hh
  refine (k.block b hlt (hrow hd.row) ?_).trans hb
  rw [hd.dn]
  rintro ((e | e | e) | e | e)
  · exact hc e
  · exact hrow hd.sums e.2
  · exact hrow hd.gone e.2
  · exact hown hd.sf e.2
  · exact hown hd.ord e.2
theorem DyV.gb_lt (h : DyV L G S ov sv W) : L.gb < W.heap.size := h.row.lt
/-- Where only new blocks come. -/
theorem DyV.below (h : DyV L G S ov sv W) (hb : Below W.heap.size W W') : DyV L G S ov sv W' := by
  obtain ⟨s, f, hf, r⟩ := h.cost
  exact ⟨h.row.keep (hb.block _ h.row.lt), ⟨s, f, hf.keep (hb.block _ hf.lt), r⟩, h.sums.keep (hb.block _ h.sums.lt), h.gone.keep (hb.block _ h.gone.lt), owns_below h.ord hb, owns_below h.sf hb, h.ap⟩
end
end Go.Proofs.Ytinbfnabngdemaa
