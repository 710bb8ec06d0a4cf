/- Maps of numbers, by whatever keys: what each key holds. -/
import Derived.Test.YtinbfnabngdemaaCmM
namespace Go.Proofs.Ytinbfnabngdemaa
open Go.RowKit Go.Maps Go.Sort Go.Shelf Go.WideMaps Go.ChangeMaps Go.WideElems

set_option maxRecDepth 100000 in
theorem lawPair : Keyed Try.prog 37 := Keyed.of_law (deep_law (m := 2) (by decide) (by kernel_rfl) (by kernel_rfl) (by rw [Try.underlying37]))
theorem lawStr : Keyed Try.prog 9 := string_keyed Try.underlying9
/-- The key of two numbers. -/
noncomputable def kp (a b : Int) : Lit := (keyOf Try.prog 37 (.agg #[.int .i64 a, .int .i64 b])).getD (.bool true)
theorem lits_pair {a b : Int} (ha : In64 a) (hb : In64 b) (d : Nat) : Try.prog.keyLits (d + 2) 37 [.int .i64 a, .int .i64 b] = some [.int .i64 a, .int .i64 b] := by
  have h2 : Try.prog.cellsOf 37 = 2 := by kernel_rfl
  have h3 : Try.prog.cellsOf 3 = 1 := by kernel_rfl
  have ha' : (Lit.int .i64 a).wf = true := ha
  have hb' : (Lit.int .i64 b).wf = true := hb
  have hk : ∀ (x : Int), (Lit.int .i64 x).wf = true → Try.prog.keyLits (d + 1) 3 [.int .i64 x] = some [.int .i64 x] := fun x hx => by
    unfold Program.keyLits
    rw [Try.underlying3]
    simp [hx]
  have e0 := hk a ha'
  have e1 := hk b hb'
  unfold Program.keyLits
  rw [Try.underlying37]
  dsimp only
  rw [h2, h3]
  simp [List.range, List.range.loop, List.mapM_cons, List.mapM_nil, e0, e1]
set_option maxRecDepth 100000 in
theorem keyOf_pair {a b : Int} (ha : In64 a) (hb : In64 b) : ∃ s, keyOf Try.prog 37 (.agg #[.int .i64 a, .int .i64 b]) = some (.string s) := by
  have h1 : Try.prog.keyType 37 = true := by kernel_rfl
  have h2 : Try.prog.cellsOf 37 = 2 := by kernel_rfl
  have ht : Try.prog.types.size = (Try.prog.types.size - 1) + 1 := by kernel_rfl
  have hf : (Value.agg #[.int .i64 a, .int .i64 b]).formed Try.prog 37 = true := by
    unfold Value.formed
    rw [Try.underlying37, h2]
    rfl
  have hl := lits_pair ha hb (Try.prog.types.size - 1)
  unfold keyOf
  rw [Try.underlying37]
  dsimp only
  rw [h1, hf, ht]
  show ∃ s, (if (true && true) = true then Option.map _ (Try.prog.keyLits (Try.prog.types.size - 1 + 2) 37 [.int .i64 a, .int .i64 b]) else none) = _
  rw [hl]
  exact ⟨_, rfl⟩
theorem kp_key {a b : Int} (ha : In64 a) (hb : In64 b) : keyOf Try.prog 37 (.agg #[.int .i64 a, .int .i64 b]) = some (kp a b) := by
  obtain ⟨s, h⟩ := keyOf_pair ha hb
  unfold kp
  rw [h]; rfl
theorem kp_str {a b : Int} (ha : In64 a) (hb : In64 b) : ∃ s, kp a b = .string s := by
  obtain ⟨s, h⟩ := keyOf_pair ha hb
  unfold kp
  rw [h]
  exact ⟨s, rfl⟩
theorem isKey_str {l : Lit} {s : List UInt8} (h : l = .string s) : WideAt.IsKeyLit l := by rw [h]; exact True.intro
theorem kp_isKey {a b : Int} (ha : In64 a) (hb : In64 b) : WideAt.IsKeyLit (kp a b) := by
  have h := kp_str ha hb
  revert h
  generalize kp a b = l
  rintro ⟨s, h⟩
  exact isKey_str h
set_option maxRecDepth 100000 in
theorem kp_inj {a b a' b' : Int} (ha : In64 a) (hb : In64 b) (ha' : In64 a') (hb' : In64 b') (h : kp a b = kp a' b') : a = a' ∧ b = b' := by
  have h1 := kp_key ha hb
  have h2 := kp_key ha' hb'
  rw [← h] at h2
  have := keyOf_inj_deep (m := 2) (k := 37) (by kernel_rfl) (by rw [Try.underlying37]) h1 h2
  simpa using this

/-- A map of numbers that the call owns: f tells what each key holds; s: how many keys. -/
def IsFm (k : TypeId) (W : World) (b n s : Nat) (f : Lit → Option Int) : Prop := ∃ D : DataW Unit, W.ownsMap Try.prog k (plainElem Try.prog 3) b n D ∧ Maps.size D = s ∧
  ∀ l, WideAt.IsKeyLit l → (f l = none → Maps.has D l = false) ∧ ∀ c, f l = some c → Maps.has D l = true ∧ ∀ z, D.atKey l z = .lit (.int .i64 c)
noncomputable def updL (f : Lit → Option Int) (l : Lit) (c : Int) : Lit → Option Int := fun x => @ite _ (x = l) (Classical.propDecidable _) (some c) (f x)
section
variable {k : TypeId} {W W' : World} {b n s : Nat} {f : Lit → Option Int}
theorem zeroInt (w : World) : (zeroValue 3).run Try.prog w = .ok (.int .i64 0) w := by kernel_rfl
theorem IsFm.of_empty (h : W.heap[b]? = some (.map #[] 0)) : IsFm k W b 0 0 (fun _ => none) :=
  ⟨.map [], ⟨#[], 0, h, ⟨by simp, MapKept.stamped_empty 0, by simp⟩, Nat.le_refl _, rfl⟩, rfl, fun x _ => ⟨fun _ => rfl, fun c h => by simp at h⟩⟩
theorem IsFm.lt (h : IsFm k W b n s f) : b < W.heap.size := let ⟨_, h1, _⟩ := h; h1.lt
theorem IsFm.mono (h : IsFm k W b n s f) {n' : Nat} (hn : n ≤ n') : IsFm k W b n' s f := let ⟨D, h1, h2⟩ := h; ⟨D, h1.mono hn, h2⟩
theorem IsFm.keep (h : IsFm k W b n s f) (he : W'.heap[b]? = W.heap[b]?) : IsFm k W' b n s f := by
  obtain ⟨D, ⟨es, c, hb, r⟩, h2⟩ := h
  exact ⟨D, ⟨es, c, he.trans hb, r⟩, h2⟩
theorem IsFm.isMap (h : IsFm k W b n s f) : ∃ es c, W.heap[b]? = some (.map es c) := let ⟨_, ⟨es, c, hb, _⟩, _⟩ := h; ⟨es, c, hb⟩
theorem plainI (c : Int) (h : In64 c) : plainElem (H := Unit) Try.prog 3 (.int .i64 c) = some (.lit (.int .i64 c), []) := plainElem_int Try.underlying3 h
theorem plain_inj {v : Value} {c : Int} {ps : List MemPlace} (h : plainElem (H := Unit) Try.prog 3 v = some (.lit (.int .i64 c), ps)) : v = .int .i64 c := by
  obtain ⟨c', rfl, -, hw⟩ := plainElem_int_inv Try.underlying3 h
  rw [plainElem_int Try.underlying3 hw] at h
  simp at h
  rw [h.1]
theorem IsFm.look (h : IsFm k W b n s f) (K : Keyed Try.prog k) {t : TypeId} (ht : Try.prog.underlying t = some (.map k 3)) {key : Value} {kl : Lit} (hk : keyOf Try.prog k key = some kl) (hkl : WideAt.IsKeyLit kl) :
    (Instr.lookup t (.map (some b)) key true).run Try.prog W = .ok (.tuple #[.int .i64 ((f kl).getD 0), .bool (f kl).isSome]) W := by
  obtain ⟨D, h1, -, h2⟩ := h
  obtain ⟨u, ps, hr, hc⟩ := h1.look_ok K ht (zeroInt _) (zd := .lit (.int .i64 0)) (zp := []) (plainI 0 (In64.of (by omega) (by omega))) hk
  rw [hr]
  cases hf : f kl with
  | none => rw [(h2 kl hkl).1 hf]; rw [atKey_of_not_has ((h2 kl hkl).1 hf)] at hc; rw [plain_inj hc]; rfl
  | some y => rw [((h2 kl hkl).2 y hf).1]; rw [((h2 kl hkl).2 y hf).2] at hc; rw [plain_inj hc]; rfl
theorem size_put_new {D : DataW Unit} (hm : ∃ es, D = .map es) {l : Lit} (h : Maps.has D l = false) (d : DataW Unit) : Maps.size (D.put l d) = Maps.size D + 1 := by
  obtain ⟨es, rfl⟩ := hm
  rw [DataW.put_eq]
  unfold putKey
  show (DataW.insert _ _).length = es.length + 1
  rw [length_insert]
  congr 2
  refine List.filter_eq_self.2 fun q hq => ?_
  rw [has_eq, List.any_eq_false] at h
  have := h q hq
  unfold notKey
  simpa using this
theorem IsFm.put (h : IsFm k W b n s f) (K : Keyed Try.prog k) {t : TypeId} (ht : Try.prog.underlying t = some (.map k 3)) (hn : n ≤ 1000000) {key : Value} {kl : Lit} (hk : keyOf Try.prog k key = some kl) (hkl : WideAt.IsKeyLit kl) {c : Int} (hc : In64 c) :
    ∃ W' s', (Instr.mapUpdate t (.map (some b)) key (.int .i64 c)).run Try.prog W = .ok () W' ∧ IsFm k W' b (n + 1) s' (updL f kl c) ∧ (f kl = none → s' = s + 1) ∧ W.mapTurned W' b := by
  obtain ⟨D, h1, hs, h2⟩ := h
  obtain ⟨W', hr, ho, htn⟩ := h1.store K ht (by unfold maxLen; omega) hk (d := .lit (.int .i64 c)) (ps := []) (val := .int .i64 c) (plainI c hc)
  refine ⟨W', _, hr, ⟨_, ho, rfl, fun u hu => ?_⟩, fun hf => ?_, htn⟩
  · unfold updL
    by_cases e : u = kl
    · subst e
      rw [if_pos rfl]
      refine ⟨fun h => by simp at h, fun z hz => ?_⟩
      simp at hz; subst hz
      exact ⟨has_put_same h1.isMap hkl _, fun z => atKey_put_same h1.isMap hkl _ _⟩
    · rw [if_neg e]
      obtain ⟨g1, g2⟩ := h2 u hu
      exact ⟨fun hz => (has_put_other e _).trans (g1 hz), fun z hz => ⟨(has_put_other e _).trans (g2 z hz).1, fun zd => (atKey_put_other e _ _).trans ((g2 z hz).2 zd)⟩⟩
  · rw [size_put_new h1.isMap ((h2 kl hkl).1 hf), hs]
theorem IsFm.len (h : IsFm k W b n s f) {t : TypeId} (ht : Try.prog.underlying t = some (.map k 3)) (ty : TypeId) : (Builtin.len_ #[t] ty #[.map (some b)]).run Try.prog W = .ok (.int .i64 (s : Int)) W := by
  obtain ⟨D, h1, rfl, -⟩ := h
  exact h1.len ht ty
/-- 'm[key] = c' at the operation. -/
theorem wp_putF {ops : Array Oper} {rest : List Oper} {o : Oper} {a : Act} {Q : Exit → Act → World → Prop} (hg : o.guard = none) (m kk v : Operand) {t : TypeId} (ht : Try.prog.underlying t = some (.map k 3)) (hop : o.op = Op.mapUpdate t m kk v)
    (h : IsFm k W b n s f) (K : Keyed Try.prog k) (hn : n ≤ 1000000) {key : Value} {kl : Lit} {c : Int} (hm : a.eval m = .map (some b)) (hk : a.eval kk = key) (hv : a.eval v = .int .i64 c) (hkey : keyOf Try.prog k key = some kl) (hkl : WideAt.IsKeyLit kl) (hc : In64 c)
    (hK : ∀ W' s', IsFm k W' b (n + 1) s' (updL f kl c) → (f kl = none → s' = s + 1) → W.mapTurned W' b → wpList Try.prog ops Q rest (a.put o.dst undef) W') : wpList Try.prog ops Q (o :: rest) a W := by
  refine wpList_plain hg fun K' hK' => ?_
  obtain ⟨W', s', hr, h1, h2, h3⟩ := h.put K ht hn hkey hkl hc
  unfold Oper.wp
  simp [execOp, hop, hm, hk, hv, hr, Result.andThen]
  exact hK' _ _ (hK W' s' h1 h2 h3)
/-- 'm[x] = 1' at the operation. -/
theorem wp_putI {p : Nat → Bool} {ops : Array Oper} {rest : List Oper} {o : Oper} {a : Act} {Q : Exit → Act → World → Prop} (hg : o.guard = none) (m kk v : Operand) (hop : o.op = Op.mapUpdate 71 m kk v)
    (h : IsIs W b n p) (hn : n ≤ 1000000) {x : Nat} (hm : a.eval m = .map (some b)) (hk : a.eval kk = .int .i64 (x : Int)) (hv : a.eval v = .int .i64 1) (hx : x ≤ 1000000)
    (hK : ∀ W', IsIs W' b (n + 1) (fun j => p j || decide (j = x)) → W.mapTurned W' b → wpList Try.prog ops Q rest (a.put o.dst undef) W') : wpList Try.prog ops Q (o :: rest) a W := by
  refine wpList_plain hg fun K' hK' => ?_
  obtain ⟨W', hr, h1, h2⟩ := h.put hn hx
  unfold Oper.wp
  simp [execOp, hop, hm, hk, hv, hr, Result.andThen]
  exact hK' _ _ (hK W' h1 h2)
end
end Go.Proofs.Ytinbfnabngdemaa
