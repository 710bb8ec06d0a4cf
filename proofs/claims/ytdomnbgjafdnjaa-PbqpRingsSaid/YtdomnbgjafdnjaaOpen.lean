/- A law's arguments, opened: what lies in memory reads as plain lists. -/
import Derived.Test.YtdomnbgjafdnjaaLift
import Derived.Test.YtdomnbgjafdnjaaBase
import Derived.Test.YtdomnbgjafdnjaaProg
import Derived.Deep.Slices
namespace Go.Proofs.Ytdomnbgjafdnjaa
open Go.RowKit Go.ChangeShapes Go.WideShapes

section
variable {H : Type} {enc : TypeId × Value → H} {P : Program} {W : World}

theorem weights_all {e : TypeId} {d : DataW H} : ∀ {l : List (DataW H)}, d ∈ l → ∀ n ∈ d.weights P e, n ∈ DataW.weightsAll P e l
  | x :: l, hd, n, hn => by
    simp only [DataW.weightsAll, List.mem_append]
    rcases List.mem_cons.1 hd with rfl | hd
    · exact .inl hn
    · exact .inr (weights_all hd n hn)

/-- 'the cells of an element from (b, off) on, read as a datum, are an x'. -/
def Opens (enc : TypeId × Value → H) (P : Program) (W : World) {α : Type} (e : TypeId) (R : World → Nat → Nat → α → Prop) : Prop :=
  ∀ (b off fuel : Nat) (cs : List Value) (D : DataW H) (Pl : List MemPlace), cs.length = P.cellsOf e → (∀ i u, cs[i]? = some u → W.cell? ⟨b, off + i, none⟩ = some u) →
    DataW.trod enc P W 0 (fun _ => true) true fuel e cs = some (D, Pl) → (∀ n ∈ D.weights P e, n ≤ reachBytes) → ∃ x, R W b off x

/-- A slice's value, opened by its elements. -/
theorem open_slv {α : Type} [Inhabited α] {R : World → Nat → Nat → α → Prop} {t e : TypeId} {k : Nat} (ht : P.underlying t = some (.slice e)) (hk : P.cellsOf e = k) (hk0 : 0 < k) (hby : (P.bytesOf e == 0) = false)
    (hR : ∀ b o x, R W b o x → b < W.heap.size) (hel : Opens enc P W e R) {fuel : Nat} {v : Value} {D : DataW H} {Pl : List MemPlace}
    (h : DataW.trod enc P W 0 (fun _ => true) true fuel t [v] = some (D, Pl)) (hw : ∀ n ∈ D.weights P t, n ≤ reachBytes) : ∃ xs, IsSl k R (· < W.heap.size) W v xs := by
  rcases Go.Deep.open_slice ht h with ⟨hv, _⟩ | ⟨a, len, cap, m, n, Df, Pf, hv, _, hlc, hcm, hm, hx, hc⟩
  · simp only [List.cons.injEq, and_true] at hv
    subst hv
    exact ⟨[], none, 0, rfl, ⟨by simp, by simp⟩, .inl rfl⟩
  · simp only [List.cons.injEq, and_true] at hv
    subst hv
    simp only [if_true] at hm
    subst hm
    simp only [Prod.mk.injEq] at hx
    obtain ⟨rfl, _⟩ := hx
    have hlen : len ≤ 140737488351232 := by
      have h1 := hw (((List.range len).map Df).length + ((List.range (m - len)).map fun j => Df (len + j)).length |> (· * P.bytesOf e)) (by simp [DataW.weights, ht])
      simp only [List.length_map, List.length_range] at h1
      have hby1 : 1 ≤ P.bytesOf e := by have := ne_of_beq_false hby; omega
      have h2 : (len + (m - len)) * 1 ≤ (len + (m - len)) * P.bytesOf e := Nat.mul_le_mul_left _ hby1
      unfold reachBytes at h1
      omega
    by_cases h0 : len = 0
    · subst h0
      exact ⟨[], some a, m, rfl, ⟨by simp, by simp⟩, .inl rfl⟩
    · obtain ⟨cs0, hcs0, _⟩ := hc 0 (by omega)
      obtain ⟨_, hl0, hcell0⟩ := World.cells?_some hcs0
      have hc0 : ∃ u, W.cell? a = some u := by
        have h1 := hcell0 0 (by omega)
        have : cs0[0]? = some cs0[0] := List.getElem?_eq_getElem (by omega)
        rw [this] at h1
        refine ⟨cs0[0], ?_⟩
        simpa [Addr.add] using h1
      obtain ⟨u0, hu0⟩ := hc0
      have hsp := World.cell?_spot hu0
      obtain ⟨b, off, spot⟩ := a
      dsimp only at hsp
      subst hsp
      have hel' : ∀ i, i < len → ∃ x, R W b (off + i * k) x := by
        intro i hi
        obtain ⟨cs, hcs, hd⟩ := hc i (by omega)
        obtain ⟨_, hl1, hcell⟩ := World.cells?_some hcs
        rw [hk] at hcs hcell hl1
        refine hel b (off + i * k) n cs (Df i) (Pf i) (by rw [hk]; exact hl1) (fun j u hj => ?_) hd (fun q hq => ?_)
        · have hjk : j < k := by
            rw [← hl1]
            apply Classical.byContradiction
            intro hjj
            rw [List.getElem?_eq_none (by omega)] at hj
            simp at hj
          have := hcell j hjk
          rw [add_plain, add_plain, hj] at this
          exact this
        · refine hw q ?_
          simp only [DataW.weights, ht, List.mem_cons, List.mem_append]
          exact .inr (.inl (weights_all (List.mem_map.2 ⟨i, List.mem_range.2 hi, rfl⟩) q hq))
      obtain ⟨f, hf⟩ := Go.Deep.choose_lt hel'
      have hlenf : ((List.range len).map f).length = len := by simp
      refine ⟨(List.range len).map f, some ⟨b, off, none⟩, m, by rw [hlenf], ⟨by omega, by omega⟩, .inr ⟨b, off, rfl, hR _ _ _ (hf 0 (by omega)), fun j hj => ?_⟩⟩
      rw [hlenf] at hj
      simpa using hf j hj

theorem opens_int {t : TypeId} (ht : P.underlying t = some (.int .i64)) : Opens enc P W t CInt := by
  intro b off fuel cs D Pl _ hc h _
  obtain ⟨n, rfl, _, _⟩ := DataW.trod_int ht h
  exact ⟨n, hc 0 _ rfl⟩

/-- A slice as an element of another. -/
theorem opens_sl {α : Type} [Inhabited α] {R : World → Nat → Nat → α → Prop} {t e : TypeId} {k : Nat} (ht : P.underlying t = some (.slice e)) (hk : P.cellsOf e = k) (hk0 : 0 < k) (hby : (P.bytesOf e == 0) = false) (hct : P.cellsOf t = 1)
    (hR : ∀ b o x, R W b o x → b < W.heap.size) (hel : Opens enc P W e R) : Opens enc P W t (fun W b o xs => ∃ v, W.cell? ⟨b, o, none⟩ = some v ∧ IsSl k R (· < W.heap.size) W v xs) := by
  intro b off fuel cs D Pl hl hc h hw
  rw [hct] at hl
  match cs, hl with
  | [v], _ =>
    obtain ⟨xs, hx⟩ := open_slv ht hk hk0 hby hR hel h hw
    exact ⟨xs, v, hc 0 v rfl, hx⟩
end

theorem at_field {H : Type} {enc : TypeId × Value → H} {P : Program} {W : World} {fs : Array Field} {cs : List Value} {xs : List (DataW H × List MemPlace)} {n : Nat}
    (hf : ∀ (i : Nat) (f : Field), fs[i]? = some f → DataW.trod enc P W 0 (fun _ => true) true n f.type ((cs.drop f.offset).take (P.cellsOf f.type)) = xs[i]?)
    (i : Nat) {t off : Nat} {c : Value} {x : DataW H × List MemPlace} (f : Field) (h : fs[i]? = some f) (ht : f.type = t) (ho : f.offset = off) (hc : P.cellsOf t = 1) (h1 : (cs.drop off).take 1 = [c]) (h2 : xs[i]? = some x) :
    DataW.trod enc P W 0 (fun _ => true) true n t [c] = some (x.1, x.2) := by
  have := hf i f h
  rw [ht, hc, ho, h1, h2] at this
  exact this

theorem weights_parts {H : Type} {P : Program} : ∀ {ts : List TypeId} {ds : List (DataW H)} {j : Nat} {t : TypeId} {d : DataW H}, ts[j]? = some t → ds[j]? = some d → ∀ n ∈ d.weights P t, n ∈ DataW.weightsEach P ts ds := DataW.weights_mem_each

section
variable {H : Type} {enc : TypeId × Value → H} {W : World}
theorem opens_ints : Opens enc Try.prog W 26 (CInts (· < W.heap.size)) :=
  opens_sl (k := 1) Try.underlying26 (by kernel_rfl) (by decide) (by kernel_rfl) (by kernel_rfl) (fun _ _ _ h => lt_of_cell h) (opens_int Try.underlying3)
theorem open_ints {fuel : Nat} {v : Value} {D : DataW H} {Pl : List MemPlace} (h : DataW.trod enc Try.prog W 0 (fun _ => true) true fuel 26 [v] = some (D, Pl)) (hw : ∀ n ∈ D.weights Try.prog 26, n ≤ reachBytes) :
    ∃ xs, IsInts (· < W.heap.size) W v xs :=
  open_slv (k := 1) Try.underlying26 (by kernel_rfl) (by decide) (by kernel_rfl) (fun _ _ _ h => lt_of_cell h) (opens_int Try.underlying3) h hw
theorem open_rows {fuel : Nat} {v : Value} {D : DataW H} {Pl : List MemPlace} (h : DataW.trod enc Try.prog W 0 (fun _ => true) true fuel 22 [v] = some (D, Pl)) (hw : ∀ n ∈ D.weights Try.prog 22, n ≤ reachBytes) :
   ∃ xs, IsRows (· < W.heap.size) W v xs :=
 open_slv (k := 1) Try.underlying22 (by kernel_rfl) (by decide) (by kernel_rfl) (fun _ _ _ ⟨_, h, _⟩ => lt_of_cell h) opens_ints h hw
end
end Go.Proofs.Ytdomnbgjafdnjaa
