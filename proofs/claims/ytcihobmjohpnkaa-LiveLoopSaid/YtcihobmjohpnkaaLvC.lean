/- A chain of copies: what is wanted along it; and rows of instructions that a law makes. -/
import Derived.Test.YtcihobmjohpnkaaLv17
namespace Go.Proofs.Ytcihobmjohpnkaa
open Go.RowKit Go.Sort

theorem infoIns : (Try.prog.info? 36).map (fun i => (i.zero, i.size, i.bytes)) = some (some (.agg #[.int .i64 0, .int .i64 0, .int .i64 0, .int .i64 0, .int .i64 0, .string ⟨#[]⟩, .slice none 0 0, .int .i64 0, .int .i64 0]), 9, 96) := by kernel_rfl
/-- The cells of an instruction without arguments. -/
def insC (i : InsD) : List Value := [.int .i64 i.k, .int .i64 i.d, .int .i64 i.a, .int .i64 i.b, .int .i64 i.n, .string i.name, .slice none 0 0, .int .i64 i.t, .int .i64 i.f]
abbrev insCs (l : List InsD) : List Value := l.flatMap insC
theorem insCs_length (l : List InsD) : (insCs l).length = l.length * 9 := by
  induction l with
  | nil => rfl
  | cons e l ih => simp only [insCs, List.flatMap_cons, List.length_append, List.length_cons, insC, List.length_nil] at *; omega
theorem insCs_get (l : List InsD) : ∀ {j : Nat} (h : j < l.length) (c : Nat), c < 9 → (insCs l)[j * 9 + c]? = (insC l[j])[c]? := by
  induction l with
  | nil => intro j h; simp at h
  | cons e l ih =>
    intro j h c hc
    have hl : (insC e).length = 9 := rfl
    rw [insCs, List.flatMap_cons]
    cases j with
    | zero => rw [List.getElem?_append_left (by omega)]; simp
    | succ j =>
      rw [List.getElem?_append_right (by omega), hl, show (j + 1) * 9 + c - 9 = j * 9 + c by omega]
      exact ih (by simpa using h) c hc

/-- 'l = append(l, ins)'. -/
theorem app_ins {ops : Array Oper} {rest : List Oper} {o : Oper} {a : Act} {Q : Exit → Act → World → Prop} {W : World}
    (hgd : o.guard = none) (s x : Operand) (hop : o.op = .call { callee := .builtin .append, args := #[s, x], argTypes := #[40, 40] })
    (base : Nat) (v : Value) (l : List InsD) (hs : a.eval s = v) (hown : W.ownsRow base 36 9 v l.length (insCs l)) (g : Nat) (i : InsD) (hx : a.eval x = .slice (some ⟨g, 0, none⟩) 1 1)
    (hc : W.heap[g]? = some (.cells (insC i).toArray 36 (0, 0))) (hn : l.length + 1 ≤ 1000000000) (hb : base ≤ W.heap.size)
    (h : ∀ v' w', w'.ownsRow base 36 9 v' (l ++ [i]).length (insCs (l ++ [i])) → W.grownBy w' v.ownBlock → (v'.ownBlock = v.ownBlock ∨ v'.ownBlock = some W.heap.size) → wpList Try.prog ops Q rest (a.put o.dst v') w') :
    wpList Try.prog ops Q (o :: rest) a W := by
  obtain ⟨i0, hi, hz0, hz1, hz2⟩ := info_parts infoIns
  refine wp_app _ hgd s x 40 hop base 36 i0 _ 9 96 Try.underlying40 hi hz0 hz1 hz2 rfl (by decide) v l.length (insCs l) hs hown
    ⟨g, 0, none⟩ 1 1 (insC i) hx rfl ?_ ?_ ?_ ?_ hb ?_
  · intro j u hj
    have e : (⟨g, 0, none⟩ : Addr).add j = ⟨g, j, none⟩ := by cases j <;> simp [Addr.add]
    rw [e]
    exact Row.cell (W := W) (b := g) (e := 36) (vs := insC i) hc hj
  · intro u hu
    simp only [insC, List.mem_cons, List.not_mem_nil, or_false] at hu
    rcases hu with rfl | rfl | rfl | rfl | rfl | rfl | rfl | rfl | rfl <;> rfl
  · unfold maxLen; omega
  · omega
  · intro v' w' ho hg hv
    refine h v' w' ?_ hg hv
    simpa [insCs] using ho

theorem insL_of_owns {p : Nat → Prop} {w : World} {v : Value} {base : Nat} {l : List InsD} (h : w.ownsRow base 36 9 v l.length (insCs l)) (ha : ∀ i ∈ l, i.args = []) (hs : l.length ≤ 140737488351232)
    (hp : ∀ b, v.ownBlock = some b → base ≤ b → b < w.heap.size → p b) : IsInsL p w v l := by
  have hlt := h.lt
  rcases owns_nilcase h with ⟨rfl, h0, _⟩ | ⟨g, cap, rfl⟩
  · have : l = [] := List.length_eq_zero_iff.1 h0
    subst this
    exact ⟨none, 0, rfl, ⟨by simp, by simp⟩, .inl rfl⟩
  · obtain ⟨_, hg, _, hn, _⟩ := owns_block h
    refine ⟨_, cap, rfl, ⟨hn, hs⟩, .inr ⟨g, 0, rfl, hp g rfl hg (hlt g rfl).2, fun j hj => ?_⟩⟩
    have hc : ∀ c, c < 9 → w.cell? ⟨g, 0 + j * 9 + c, none⟩ = (insC l[j])[c]? := fun c hc => by
      rw [Nat.zero_add, h.cellAt (j * 9 + c) (by omega), insCs_get l hj c hc]
    have ha' := ha _ (List.getElem_mem hj)
    refine ⟨hc 0 (by omega), hc 1 (by omega), hc 2 (by omega), hc 3 (by omega), hc 4 (by omega), hc 5 (by omega), ⟨_, hc 6 (by omega), ?_⟩, hc 7 (by omega), hc 8 (by omega)⟩
    rw [ha']; exact ints_nil _ _

/-- The copies 0 to 1, 1 to 2, .. -/
def copies (k : Nat) : List InsD := (List.range k).map fun (i : Nat) => ⟨2, (i : Int) + 1, (i : Int), 0, 0, ⟨#[]⟩, [], 0, 0⟩
def chainL (n : Nat) : List InsD := copies n ++ [⟨9, 0, (n : Int), 0, 0, ⟨#[]⟩, [], 0, 0⟩]
theorem copies_succ (k : Nat) : copies (k + 1) = copies k ++ [⟨2, (k : Int) + 1, (k : Int), 0, 0, ⟨#[]⟩, [], 0, 0⟩] := by simp [copies, List.range_succ]
theorem copies_length (k : Nat) : (copies k).length = k := by simp [copies]
theorem chain_length (n : Nat) : (chainL n).length = n + 1 := by simp [chainL, copies_length]
theorem chain_args (n : Nat) : ∀ i ∈ chainL n, i.args = [] := by
  intro i hi
  simp only [chainL, copies, List.mem_append, List.mem_map, List.mem_singleton] at hi
  rcases hi with ⟨j, -, rfl⟩ | rfl <;> rfl
theorem chain_get {n j : Nat} (h : j < n) : (chainL n)[j]'(by rw [chain_length]; omega) = ⟨2, (j : Int) + 1, (j : Int), 0, 0, ⟨#[]⟩, [], 0, 0⟩ := by
  unfold chainL
  rw [List.getElem_append_left (by rw [copies_length]; exact h)]
  simp [copies]
theorem chain_last (n : Nat) : (chainL n)[n]'(by rw [chain_length]; omega) = ⟨9, 0, (n : Int), 0, 0, ⟨#[]⟩, [], 0, 0⟩ := by
  unfold chainL
  rw [List.getElem_append_right (by rw [copies_length]; omega)]
  simp [copies_length]
/-- From instruction j on just j is wanted. -/
theorem chain_back (n : Nat) (hn : n ≤ 1000) : ∀ d j, j + d = n → backD (chainL n) j [] = Bit.ofW [(j : Int)] := by
  intro d
  induction d with
  | zero =>
    intro j hj
    obtain rfl : j = n := by omega
    have e : backD (chainL j) (j + 1) [] = [] := by
      have := backD_all (chainL j) []
      rwa [chain_length] at this
    rw [backD_succ (by rw [chain_length]; omega), e, chain_last]
    refine Bit.can_ext (back_can Bit.can_nil.1 _) (Bit.of_can _) fun m => ?_
    rw [Bool.eq_iff_iff, has_back, Bit.has_of, has_nil]
    simp [usesS]
  | succ d ih =>
    intro j hj
    rw [backD_succ (by rw [chain_length]; omega), ih (j + 1) (by omega), chain_get (by omega)]
    refine Bit.can_ext (back_can (Bit.of_can _).1 _) (Bit.of_can _) fun m => ?_
    rw [Bool.eq_iff_iff, has_back, Bit.has_of, Bit.has_of]
    simp [usesS, defS]
    intro h1 h2 h3
    have := h3 h1
    omega
theorem list_of_one (j : Nat) (h : j ≤ 65535) : listI (Bit.ofW [(j : Int)]) = [(j : Int)] := by
  refine rising_ext (listI_rising _) (by simp) fun x => ?_
  rw [mem_listI, Bit.has_of]
  simp
  omega
theorem chain_after {n i : Nat} (hn : n ≤ 1000) (hi : i < n) : listI (aftW (chainL n) i []) = [(i : Int) + 1] := by
  unfold aftW
  rw [chain_back n hn (n - (i + 1)) (i + 1) (by omega), list_of_one (i + 1) (by omega)]
  simp
theorem chain_end (n : Nat) : listI (aftW (chainL n) n []) = [] := by
  unfold aftW
  have := backD_all (chainL n) []
  rw [chain_length] at this
  rw [this]; rfl
theorem chain_gen {n : Nat} (hn : n ≤ 1000) : listI (genW (chainL n)) = [0] := by
  have := chain_back n hn n 0 (by omega)
  have e : backD (chainL n) 0 [] = genW (chainL n) := rfl
  rw [← e, this]
  exact list_of_one 0 (by omega)
theorem chain_succ (n : Nat) : succS [chainL n] 0 = [] := by
  unfold succS succN
  rw [if_pos (by omega)]
  have : ([chainL n].getD (0 : Int).toNat []).getLast? = some ⟨9, 0, (n : Int), 0, 0, ⟨#[]⟩, [], 0, 0⟩ := by
    show (chainL n).getLast? = _
    unfold chainL; simp
  rw [this]
  simp [rawS]
end Go.Proofs.Ytcihobmjohpnkaa
