/- The general solver is begun: what lies in memory while nodes are laid, and edges. -/
import Derived.Test.YtdomnbgjafdnjaaPgTk
import Derived.Test.YtdomnbgjafdnjaaPqV
namespace Go.Proofs.Ytdomnbgjafdnjaa
open Go.RowKit Go.Maps Go.ChangeMaps

/-- k nodes, m maps have been begun; ow: whose each block is. -/
structure BgG (w : World) (sb lb gb X0 n : Nat) (N : List (List Int)) (k m : Nat) (nv mv : Value) (vn vm : List Value) (ow : Nat → Tg) (W : World) : Prop where
  st : BgSt w sb lb gb X0 n N k m nv mv vn vm W
  vb : ∀ j (_ : j < vn.length), ∃ b c, vn[j] = .slice (some ⟨b, 0, none⟩) (N.getD j []).length c ∧ (N.getD j []).length ≤ c ∧ RowP W b 3 (ints (N.getD j [])) ∧ ow b = .vec j ∧ X0 ≤ b
  pb : ∀ j (_ : j < vm.length), ∃ b, vm[j] = .map (some b) ∧ W.heap[b]? = some (.map #[] 0) ∧ ow b = .map j ∧ X0 ≤ b
  ts : ow sb = .sol ∧ ow lb = .lb ∧ ow gb = .gb
  tn : ∀ b, nv.ownBlock = some b → ow b = .xb
  tm : ∀ b, mv.ownBlock = some b → ow b = .mb
  nw : ∀ b, W.heap.size ≤ b → ow b = .old
  nm : ∀ b k j, ow b ≠ .mat k j
section
variable {w W Y w1 : World} {sb lb gb X0 n k m : Nat} {N : List (List Int)} {nv mv nv' mv' u : Value} {vn vm : List Value} {ow : Nat → Tg}
theorem BgG.node (h : BgG w sb lb gb X0 n N k m nv mv vn vm ow W) (hY : Below W.heap.size W Y) {g uc gg cap : Nat} (hu : u = .slice (some ⟨g, 0, none⟩) (N.getD k []).length uc) (huc : (N.getD k []).length ≤ uc) (hr : RowP Y g 3 (ints (N.getD k []))) (hg0 : W.heap.size ≤ g)
    (hi : IsInts (fun b => W.heap.size ≤ b ∧ b < Y.heap.size) Y u (N.getD k [])) (hv : nv' = .slice (some ⟨gg, 0, none⟩) (k + 1) cap)
    (ho : w1.ownsRow X0 71 1 nv' (k + 1) (vn ++ [u])) (hg : Y.grownBy w1 nv.ownBlock) (hat : nv.ownBlock = some gg ∨ Y.heap.size ≤ gg) :
    w1.cell? ⟨sb, 0, none⟩ = some nv ∧ w1.frozen? ⟨sb, 0, none⟩ = false ∧ (∃ ow', BgG w sb lb gb X0 n N (k + 1) m nv' mv (vn ++ [u]) vm ow' (w1.setCell ⟨sb, 0, none⟩ nv')) ∧ ∀ b, b < X0 → b ≠ sb → (w1.setCell ⟨sb, 0, none⟩ nv').heap[b]? = W.heap[b]? := by
  obtain ⟨u1, u2, u3, u4⟩ := h.st.node hY hu hi hv ho hg hat
  refine ⟨u1, u2, ⟨fun b => if b = gg then .xb else if b = g then .vec k else ow b, u3, fun j hj => ?_, fun j hj => ?_, ?_, fun b hb => ?_, fun b hb => ?_, fun b hb => ?_, fun b i j => by
    show (if b = gg then Tg.xb else if b = g then Tg.vec k else ow b) ≠ _
    split
    · simp
    · split
      · simp
      · exact h.nm b i j⟩, u4⟩
  all_goals have hgl := hr.lt
  all_goals have hys := hY.size
  all_goals have hub : ∀ b, nv.ownBlock = some b → X0 ≤ b ∧ b < W.heap.size := fun b hb => h.st.on.lt b hb
  all_goals have hgo : ∀ b, b < W.heap.size → ow b ≠ .xb → b ≠ gg := fun b hb hne e => by
              rcases hat with e2 | e2
              · exact hne (h.tn b (by rw [e2, e]))
              · omega
  all_goals have hkp : ∀ b, b < W.heap.size → ow b ≠ .xb → ow b ≠ .sol → (if b = gg then Tg.xb else if b = g then Tg.vec k else ow b) = ow b ∧ (w1.setCell ⟨sb, 0, none⟩ nv').heap[b]? = W.heap[b]? := fun b hb h1 h2 => by
              refine ⟨by rw [if_neg (hgo b hb h1), if_neg (by omega)], (Below.heap_setCell _ _ _ _ (fun e => h2 (by rw [e]; exact h.ts.1))).trans ((hg.block b (by omega) (fun e => h1 (h.tn b e.symm))).trans (hY.block b hb))⟩
  · by_cases hjl : j < vn.length
    · rw [List.getElem_append_left hjl]
      obtain ⟨b, c, e1, e2, e3, e4, e5⟩ := h.vb j hjl
      obtain ⟨q1, q2⟩ := hkp b e3.lt (by rw [e4]; simp) (by rw [e4]; simp)
      exact ⟨b, c, e1, e2, e3.keep q2, q1.trans e4, e5⟩
    · have hje : j = vn.length := by simp at hj; omega
      subst hje
      rw [List.getElem_append_right (Nat.le_refl _)]
      simp only [Nat.sub_self, List.getElem_cons_zero]
      rw [h.st.ln]
      have hgg : g ≠ gg := fun e => by
        rcases hat with e2 | e2
        · have := (hub gg e2).2; omega
        · omega
      have hgs : g ≠ sb := by have := h.st.sv.lt; omega
      have hx0 := h.st.sz
      refine ⟨g, uc, hu, huc, hr.keep ((Below.heap_setCell _ _ _ _ hgs).trans (hg.block g hgl (fun e => by have := (hub g e.symm).2; omega))), ?_, by omega⟩
      show (if g = gg then Tg.xb else if g = g then Tg.vec k else ow g) = _
      rw [if_neg hgg, if_pos rfl]
  · obtain ⟨b, e1, e2, e3, e4⟩ := h.pb j hj
    obtain ⟨q1, q2⟩ := hkp b (lt_of_block e2) (by rw [e3]; simp) (by rw [e3]; simp)
    exact ⟨b, e1, q2.trans e2, q1.trans e3, e4⟩
  · obtain ⟨a1, a2, a3⟩ := h.ts
    have f : ∀ b, b < W.heap.size → ow b ≠ .xb → (if b = gg then Tg.xb else if b = g then Tg.vec k else ow b) = ow b := fun b hb h1 => by rw [if_neg (hgo b hb h1), if_neg (by omega)]
    exact ⟨(f sb h.st.sv.lt (by rw [a1]; simp)).trans a1, (f lb h.st.lr.lt (by rw [a2]; simp)).trans a2, (f gb h.st.gr.lt (by rw [a3]; simp)).trans a3⟩
  · rw [hv] at hb
    have : gg = b := by simpa [Value.ownBlock] using hb
    exact if_pos this.symm
  · have hbl := h.st.om.lt b hb
    have hbt := h.tm b hb
    exact (hkp b hbl.2 (by rw [hbt]; simp) (by rw [hbt]; simp)).1.trans hbt
  · have h1 : w1.heap.size ≤ b := by simpa using hb
    have h2 := hg.size
    have h3 := (ho.lt gg (by rw [hv]; rfl)).2
    show (if b = gg then Tg.xb else if b = g then Tg.vec k else ow b) = _
    rw [if_neg (by omega), if_neg (by omega)]
    exact h.nw b (by omega)
theorem BgG.more (h : BgG w sb lb gb X0 n N k m nv mv vn vm ow W) (hY : Below W.heap.size W Y) {b0 gg cap : Nat} (hi : Y.heap[b0]? = some (.map #[] 0)) (hb0 : W.heap.size ≤ b0) (hv : mv' = .slice (some ⟨gg, 0, none⟩) (m + 1) cap)
    (ho : w1.ownsRow X0 67 1 mv' (m + 1) (vm ++ [.map (some b0)])) (hg : Y.grownBy w1 mv.ownBlock) (hat : mv.ownBlock = some gg ∨ Y.heap.size ≤ gg) :
    w1.cell? ⟨sb, 1, none⟩ = some mv ∧ w1.frozen? ⟨sb, 1, none⟩ = false ∧ (∃ ow', BgG w sb lb gb X0 n N k (m + 1) nv mv' vn (vm ++ [.map (some b0)]) ow' (w1.setCell ⟨sb, 1, none⟩ mv')) ∧ ∀ b, b < X0 → b ≠ sb → (w1.setCell ⟨sb, 1, none⟩ mv').heap[b]? = W.heap[b]? := by
  obtain ⟨u1, u2, u3, u4⟩ := h.st.more hY hi hb0 hv ho hg hat
  refine ⟨u1, u2, ⟨fun b => if b = gg then .mb else if b = b0 then .map m else ow b, u3, fun j hj => ?_, fun j hj => ?_, ?_, fun b hb => ?_, fun b hb => ?_, fun b hb => ?_, fun b i j => by
    show (if b = gg then Tg.mb else if b = b0 then Tg.map m else ow b) ≠ _
    split
    · simp
    · split
      · simp
      · exact h.nm b i j⟩, u4⟩
  all_goals have hgl := lt_of_block hi
  all_goals have hys := hY.size
  all_goals have hub : ∀ b, mv.ownBlock = some b → X0 ≤ b ∧ b < W.heap.size := fun b hb => h.st.om.lt b hb
  all_goals have hgo : ∀ b, b < W.heap.size → ow b ≠ .mb → b ≠ gg := fun b hb hne e => by
              rcases hat with e2 | e2
              · exact hne (h.tm b (by rw [e2, e]))
              · omega
  all_goals have hkp : ∀ b, b < W.heap.size → ow b ≠ .mb → ow b ≠ .sol → (if b = gg then Tg.mb else if b = b0 then Tg.map m else ow b) = ow b ∧ (w1.setCell ⟨sb, 1, none⟩ mv').heap[b]? = W.heap[b]? := fun b hb h1 h2 => by
              refine ⟨by rw [if_neg (hgo b hb h1), if_neg (by omega)], (Below.heap_setCell _ _ _ _ (fun e => h2 (by rw [e]; exact h.ts.1))).trans ((hg.block b (by omega) (fun e => h1 (h.tm b e.symm))).trans (hY.block b hb))⟩
  · obtain ⟨b, c, e1, e2, e3, e4, e5⟩ := h.vb j hj
    obtain ⟨q1, q2⟩ := hkp b e3.lt (by rw [e4]; simp) (by rw [e4]; simp)
    exact ⟨b, c, e1, e2, e3.keep q2, q1.trans e4, e5⟩
  · by_cases hjl : j < vm.length
    · rw [List.getElem_append_left hjl]
      obtain ⟨b, e1, e2, e3, e4⟩ := h.pb j hjl
      obtain ⟨q1, q2⟩ := hkp b (lt_of_block e2) (by rw [e3]; simp) (by rw [e3]; simp)
      exact ⟨b, e1, q2.trans e2, q1.trans e3, e4⟩
    · have hje : j = vm.length := by simp at hj; omega
      subst hje
      rw [List.getElem_append_right (Nat.le_refl _)]
      simp only [Nat.sub_self, List.getElem_cons_zero]
      have hgg : b0 ≠ gg := fun e => by
        rcases hat with e2 | e2
        · have := (hub gg e2).2; omega
        · omega
      have hgs : b0 ≠ sb := by have := h.st.sv.lt; omega
      have hx0 := h.st.sz
      refine ⟨b0, rfl, ((Below.heap_setCell _ _ _ _ hgs).trans (hg.block b0 hgl (fun e => by have := (hub b0 e.symm).2; omega))).trans hi, ?_, by omega⟩
      show (if b0 = gg then Tg.mb else if b0 = b0 then Tg.map m else ow b0) = _
      rw [if_neg hgg, if_pos rfl, h.st.lm]
  · obtain ⟨a1, a2, a3⟩ := h.ts
    have f : ∀ b, b < W.heap.size → ow b ≠ .mb → (if b = gg then Tg.mb else if b = b0 then Tg.map m else ow b) = ow b := fun b hb h1 => by rw [if_neg (hgo b hb h1), if_neg (by omega)]
    exact ⟨(f sb h.st.sv.lt (by rw [a1]; simp)).trans a1, (f lb h.st.lr.lt (by rw [a2]; simp)).trans a2, (f gb h.st.gr.lt (by rw [a3]; simp)).trans a3⟩
  · have hbl := h.st.on.lt b hb
    have hbt := h.tn b hb
    exact (hkp b hbl.2 (by rw [hbt]; simp) (by rw [hbt]; simp)).1.trans hbt
  · rw [hv] at hb
    have : gg = b := by simpa [Value.ownBlock] using hb
    exact if_pos this.symm
  · have h1 : w1.heap.size ≤ b := by simpa using hb
    have h2 := hg.size
    have h3 := (ho.lt gg (by rw [hv]; rfl)).2
    show (if b = gg then Tg.mb else if b = b0 then Tg.map m else ow b) = _
    rw [if_neg (by omega), if_neg (by omega)]
    exact h.nw b (by omega)
end
/-- Nothing has been taken away, no edge has been laid. -/
def initS (N : List (List Int)) : PS := { nodes := fun k => N.getD k [], near := fun _ _ => none, gone := fun _ => false, l := List.replicate N.length 0 }
def blkOf : Value → Nat
  | .slice (some a) _ _ => a.block
  | .map (some b) => b
  | _ => 0
def capOf : Value → Nat
  | .slice _ _ c => c
  | _ => 0
theorem BgG.toSS {w W : World} {sb lb gb X0 n : Nat} {N : List (List Int)} {nv mv : Value} {vn vm : List Value} {ow : Nat → Tg} (h : BgG w sb lb gb X0 n N n n nv mv vn vm ow W) (hn : n = N.length) (h0 : 0 < n) (hX : w.heap.size ≤ X0)
    (hN : ∀ k, k < n → 0 < (N.getD k []).length ∧ (N.getD k []).length ≤ 32 ∧ OkV (N.getD k [])) :
    ∃ L : Pl, L.sb = sb ∧ (∀ k, L.cs k = (N.getD k []).length) ∧ SS w L ow n (initS N) [] (.slice none 0 0) [] W := by
  obtain ⟨xa, xc, rfl, hx⟩ := owns_slice h.st.on
  obtain ⟨xb, rfl⟩ := hx h0
  obtain ⟨ya, yc, rfl, hy⟩ := owns_slice h.st.om
  obtain ⟨mb, rfl⟩ := hy h0
  obtain ⟨a1, a2, a3, a4, a5, a6, a7, a8, a9⟩ := h.st.lo
  have hm1 := (h.st.om.lt mb rfl).1
  have hvn : ∀ k, k < n → ∃ b c, vn[k]? = some (.slice (some ⟨b, 0, none⟩) (N.getD k []).length c) ∧ blkOf (vn.getD k .nilFunc) = b ∧ capOf (vn.getD k .nilFunc) = c ∧ (N.getD k []).length ≤ c ∧ RowP W b 3 (ints (N.getD k [])) ∧ ow b = .vec k ∧ X0 ≤ b := fun k hk => by
    have hk2 : k < vn.length := by rw [h.st.ln]; exact hk
    obtain ⟨b, c, e1, e2, e3, e4, e5⟩ := h.vb k hk2
    refine ⟨b, c, by rw [List.getElem?_eq_getElem hk2, e1], ?_, ?_, e2, e3, e4, e5⟩
    · simp [List.getD, hk2, e1, blkOf]
    · simp [List.getD, hk2, e1, capOf]
  have hvm : ∀ k, k < n → ∃ b, vm[k]? = some (.map (some b)) ∧ blkOf (vm.getD k .nilFunc) = b ∧ W.heap[b]? = some (.map #[] 0) ∧ ow b = .map k ∧ X0 ≤ b := fun k hk => by
    have hk2 : k < vm.length := by rw [h.st.lm]; exact hk
    obtain ⟨b, e1, e3, e4, e5⟩ := h.pb k hk2
    exact ⟨b, by rw [List.getElem?_eq_getElem hk2, e1], by simp [List.getD, hk2, e1, blkOf], e3, e4, e5⟩
  have hgone : goneS n 0 = (List.range n).map (initS N).gone := by
    refine List.ext_getElem (by simp [goneS]) fun j h1 h2 => by simp [goneS, initS]
  refine ⟨{ sb := sb, lb := lb, gb := gb, xb := xb, xc := xc, mb := mb, mc := yc, vb := fun k => blkOf (vn.getD k .nilFunc), vc := fun k => capOf (vn.getD k .nilFunc), pb := fun k => blkOf (vm.getD k .nilFunc), cs := fun k => (N.getD k []).length }, rfl, fun _ => rfl,
    ⟨h.st.sv, by show Row W lb _ (ints (List.replicate N.length 0)); rw [← hn]; exact h.st.lr, ⟨by simp [initS, hn], fun k hk => by
      show 0 ≤ (List.replicate N.length (0 : Int)).getD k 0 ∧ (List.replicate N.length (0 : Int)).getD k 0 < ((N.getD k []).length : Int)
      have e : (List.replicate N.length (0 : Int)).getD k 0 = 0 := by simp [List.getD, show k < N.length by omega]
      rw [e]
      have := (hN k hk).1
      omega⟩, by rw [← hgone]; exact h.st.gr, ⟨vn, RowP.of_owns h.st.on, fun k hk => ?_⟩, ⟨vm, RowP.of_owns h.st.om, by rw [h.st.lm]; exact Nat.le_refl _, fun k hk _ => ?_⟩, fun k hk => ?_, fun k hk => ?_, World.ownsRow_nil _ _ _ _, rfl, fun j hj => by simp at hj, ⟨h.ts.1, h.ts.2.1, h.ts.2.2, h.tn xb rfl, h.tm mb rfl⟩, fun k hk => ?_, fun b hb => by simp [Value.ownBlock] at hb, h.nw, fun b k j hb => absurd hb (h.nm b k j), ⟨a1, a3, a5, by show w.heap.size ≤ mb; omega, fun k hk => ?_⟩, h.st.bel⟩⟩
  · obtain ⟨b, c, e1, rfl, rfl, -⟩ := hvn k hk
    exact e1
  · obtain ⟨b, e1, rfl, -⟩ := hvm k hk
    exact e1
  · obtain ⟨b, c, -, rfl, rfl, e2, e3, -⟩ := hvn k hk
    obtain ⟨n1, n2, n3⟩ := hN k hk
    exact ⟨e3, rfl, ⟨e2, n1, n2⟩, n3⟩
  · obtain ⟨b, -, rfl, e3, -⟩ := hvm k hk
    exact ⟨fun _ => none, (IsMv.of_empty e3).mono (Nat.zero_le _), fun x hx => absurd rfl hx, fun _ _ _ => rfl, fun j hj M hM => by simp [initS] at hM⟩
  · obtain ⟨b, c, -, rfl, -, -, -, e4, -⟩ := hvn k hk
    obtain ⟨b2, -, rfl, -, e5, -⟩ := hvm k hk
    exact ⟨e4, e5⟩
  · obtain ⟨b, c, -, rfl, -, -, -, -, e4⟩ := hvn k hk
    obtain ⟨b2, -, rfl, -, -, e5⟩ := hvm k hk
    exact ⟨Nat.le_trans hX e4, Nat.le_trans hX e5⟩
end Go.Proofs.Ytdomnbgjafdnjaa
