/- The general solver in plain Lean: at the beginning its problem is the one that is handed in; what a least choice costs. -/
import Derived.Test.YtdomnbgjafdnjaaPgS
namespace Go.Proofs.Ytdomnbgjafdnjaa
open Go.RowKit Go.Maps

def csN (N : List (List Int)) (k : Nat) : Nat := (N.getD k []).length
theorem getD_lt {α : Type} {l : List α} {k : Nat} {d : α} (h : k < l.length) : l.getD k d ∈ l := by
  rw [List.getD_eq_getElem?_getD, List.getElem?_eq_getElem h]; exact List.getElem_mem h
section
variable {N : List (List Int)} {Es : List EdgeD} {l : List Int}
theorem OkS.edge {cs : Nat → Nat} {n a b : Nat} {S : PS} {M : List (List Int)} (h : OkS cs n S) (hM : OkM M (cs a) (cs b)) : OkS cs n (S.edge a b (cs b) M) := by
  refine ⟨h.nd, fun x y O hx hy hO => ?_, h.ps⟩
  simp only [PS.edge] at hO
  by_cases e1 : x = a ∧ y = b
  · rw [if_pos e1] at hO
    obtain ⟨rfl, rfl⟩ := e1
    cases hO
    exact hM
  · rw [if_neg e1] at hO
    by_cases e2 : x = b ∧ y = a
    · rw [if_pos e2] at hO
      obtain ⟨rfl, rfl⟩ := e2
      cases hO
      exact hM.turn
    · rw [if_neg e2] at hO
      exact h.ed x y O hx hy hO
theorem begin_ok (hc : chkS N Es = 0) : ∀ i, i ≤ Es.length → OkS (csN N) N.length (beginS N (Es.take i)) ∧ WfS N.length (beginS N (Es.take i))
  | 0, _ => by
    obtain ⟨-, -, hn, -⟩ := chk_ok hc
    have e : beginS N (Es.take 0) = initS N := rfl
    rw [e]
    refine ⟨⟨fun k hk => ⟨rfl, fun q => ?_⟩, fun a b M _ _ hM => by simp [initS] at hM, fun k hk => ?_⟩, fun a b _ hne => by simp [initS] at hne, fun a b _ hne => by simp [initS] at hne, fun a b _ _ _ => rfl, fun a b i j _ _ => rfl⟩
    · show 0 ≤ (N.getD k []).getD q 0 ∧ (N.getD k []).getD q 0 ≤ _
      by_cases hq : q < (N.getD k []).length
      · exact (hn _ (getD_lt (d := []) hk)).2.2 _ (getD_lt hq)
      · rw [List.getD_eq_getElem?_getD, List.getElem?_eq_none (by omega)]; simp
    · have := (hn _ (getD_lt (d := []) hk)).2.1
      show 0 < (N.getD k []).length
      omega
  | i + 1, h => by
    obtain ⟨h1, h2⟩ := begin_ok hc i (by omega)
    rw [beginS_take (by omega)]
    obtain ⟨-, -, -, hE⟩ := chk_ok hc
    obtain ⟨⟨a0, a1⟩, ⟨b0, b1⟩, hab, hM⟩ := edge_ok (hE _ (List.getElem_mem (show i < Es.length by omega)))
    have hJ : OkM (sumJ (beginS N (Es.take i)) Es[i].a.toNat Es[i].b.toNat (csN N Es[i].a.toNat) Es[i].cost) (csN N Es[i].a.toNat) (csN N Es[i].b.toNat) := sumJ_ok (fun O hO => h1.ed _ _ O (by omega) (by omega) hO) hM
    exact ⟨h1.edge hJ, h2.edge (by omega) (by omega) (by omega) (begin_gone N _ _) (begin_gone N _ _) hJ⟩
theorem alS_begin (i : Nat) : alS (beginS N (Es.take i)) N.length = List.range N.length := by
  unfold alS
  rw [List.filter_eq_self]
  intro a _
  rw [begin_gone]; rfl
theorem cost_init (hc : chkS N Es = 0) : ∀ m, m ≤ N.length → (apS (beginS N (Es.take 0)) (csN N) N.length).cost (chF l) (List.range m) = nSum N l m
  | 0, _ => rfl
  | m + 1, h => by
    obtain ⟨h1, h2⟩ := begin_ok hc 0 (by omega)
    rw [cost_perm (apS_ok h1 h2) (ws := m :: List.range m) (by rw [List.range_succ]; exact List.perm_append_comm)]
    unfold AP.cost nSum
    rw [cost_init hc m (by omega), with_none (fun u _ i j => by
      simp only [apS]
      split <;> rfl)]
    have e : (apS (beginS N (Es.take 0)) (csN N) N.length).nv m (chF l m) = nT N l m := by
      simp only [apS]
      rw [if_pos (by omega)]
      rfl
    rw [e]
    omega
theorem cost_begin (hc : chkS N Es = 0) (hf : ∀ v, v < N.length → chF l v < csN N v) : ∀ i, i ≤ Es.length → capZ ((apS (beginS N (Es.take i)) (csN N) N.length).cost (chF l) (List.range N.length)) = capZ (nSum N l N.length + eSum Es l i)
  | 0, _ => by
    rw [cost_init hc _ (Nat.le_refl _)]
    simp [eSum]
  | i + 1, h => by
    have ih := cost_begin hc hf i (by omega)
    have hi : i < Es.length := by omega
    obtain ⟨o1, w1⟩ := begin_ok hc i (by omega)
    obtain ⟨o2, w2⟩ := begin_ok hc (i + 1) h
    obtain ⟨-, -, -, hE⟩ := chk_ok hc
    obtain ⟨⟨a0, a1⟩, ⟨b0, b1⟩, hab, hM⟩ := edge_ok (hE _ (List.getElem_mem hi))
    have hgd : Es.getD i default = Es[i] := by simp [List.getD, hi]
    have hbt := beginS_take (N := N) hi
    have he : eSum Es l (i + 1) = eSum Es l i + eT l Es[i] := by show eSum Es l i + eT l (Es.getD i default) = _; rw [hgd]
    rw [he]
    obtain ⟨e, He⟩ : ∃ e, Es[i] = e := ⟨_, rfl⟩
    rw [He] at hbt a0 a1 b0 b1 hab hM ⊢
    obtain ⟨S, HS⟩ : ∃ S, beginS N (Es.take i) = S := ⟨_, rfl⟩
    have hgn : ∀ q, S.gone q = false := fun q => by rw [← HS]; exact begin_gone N _ q
    have hgn2 : ∀ q, (beginS N (Es.take (i + 1))).gone q = false := fun q => begin_gone N _ q
    rw [HS] at ih o1 w1 hbt
    obtain ⟨S', HS'⟩ : ∃ S', beginS N (Es.take (i + 1)) = S' := ⟨_, rfl⟩
    rw [HS'] at o2 w2 hbt hgn2 ⊢
    have hne : ∀ x y, S'.near x y = if x = e.a.toNat ∧ y = e.b.toNat then some (sumJ S e.a.toNat e.b.toNat (csN N e.a.toNat) e.cost) else if x = e.b.toNat ∧ y = e.a.toNat then some (turnS (sumJ S e.a.toNat e.b.toNat (csN N e.a.toNat) e.cost) (csN N e.b.toNat)) else S.near x y := fun x y => by rw [hbt]; rfl
    have hnd : S'.nodes = S.nodes := by rw [hbt]; rfl
    clear hbt
    obtain ⟨a, Ha⟩ : ∃ a, e.a.toNat = a := ⟨_, rfl⟩
    obtain ⟨b, Hb⟩ : ∃ b, e.b.toNat = b := ⟨_, rfl⟩
    have hET : eT l e = (e.cost.getD (chF l a) []).getD (chF l b) 0 := by unfold eT chF; rw [Ha, Hb]
    rw [Ha, Hb] at hne hM
    have han : a < N.length := by omega
    have hbn : b < N.length := by omega
    have hab2 : a ≠ b := by omega
    have k1 := apS_ok o1 w1
    have hce := cost_edge (f := chF l) k1 (apS_ok o2 w2) List.nodup_range (List.mem_range.2 han) (List.mem_range.2 hbn) hab2 (fun u _ q => by simp only [apS]; rw [hnd]) (fun x _ y _ e1 e2 p q => by
      simp only [apS]
      rw [if_pos ⟨hgn2 x, hgn2 y⟩, if_pos ⟨hgn x, hgn y⟩]
      unfold mget
      rw [hne, if_neg e1, if_neg e2])
    have hge := cost_ge_edge (f := chF l) k1 (List.mem_range.2 han) (List.mem_range.2 hbn) hab2
    have e3 : (apS S' (csN N) N.length).ne a b (chF l a) (chF l b) = ((sumJ S a b (csN N a) e.cost).getD (chF l a) []).getD (chF l b) 0 := by
      simp only [apS]
      rw [if_pos ⟨hgn2 a, hgn2 b⟩]
      unfold mget
      rw [hne, if_pos ⟨rfl, rfl⟩]; rfl
    have e4 : (apS S (csN N) N.length).ne a b (chF l a) (chF l b) = mget S a b (chF l a) (chF l b) := by
      simp only [apS]
      rw [if_pos ⟨hgn a, hgn b⟩]
    rw [e3] at hce
    rw [e4] at hce hge
    have hnn := cost_nn k1 (chF l) (List.range N.length)
    have hM2 : OkM e.cost (csN N a) (csN N b) := hM
    have hen := (hM2.ok (chF l a)) (chF l b)
    rw [← hET] at hen
    have key : capZ ((apS S' (csN N) N.length).cost (chF l) (List.range N.length)) = capZ ((apS S (csN N) N.length).cost (chF l) (List.range N.length) + eT l e) := by
      unfold sumJ at hce
      cases hO : S.near a b with
      | none =>
        rw [hO] at hce
        have e5 : mget S a b (chF l a) (chF l b) = 0 := by unfold mget; rw [hO]; simp
        simp only [e5, ← hET] at hce
        congr 1
        omega
      | some O =>
        rw [hO] at hce
        have hOO := o1.ed a b O han hbn hO
        have e5 : mget S a b (chF l a) (chF l b) = (O.getD (chF l a) []).getD (chF l b) 0 := by unfold mget; rw [hO]; rfl
        have e6 : ((addMS O e.cost (csN N a)).getD (chF l a) []).getD (chF l b) 0 = capZ ((O.getD (chF l a) []).getD (chF l b) 0 + eT l e) := by
          unfold addMS
          rw [addMK_get (hf a han), if_pos (hf a han), addS_at (by rw [hOO.cols _ (hf a han)]; exact hf b hbn) (by rw [hM2.cols _ (hf a han)]; exact hf b hbn), hET]
        simp only [e6] at hce
        rw [e5] at hce hge
        obtain ⟨o, Ho⟩ : ∃ o, (O.getD (chF l a) []).getD (chF l b) 0 = o := ⟨_, rfl⟩
        rw [Ho] at hce hge
        obtain ⟨c, Hc⟩ : ∃ c, (apS S (csN N) N.length).cost (chF l) (List.range N.length) = c := ⟨_, rfl⟩
        rw [Hc] at hce hge ⊢
        rw [show (apS S' (csN N) N.length).cost (chF l) (List.range N.length) = (c - o) + capZ (o + eT l e) by omega, capZ_add (by omega)]
        congr 1
        omega
    rw [key, Int.add_comm, ← capZ_add hen.1, ih, capZ_add hen.1]
    congr 1
    omega
theorem costP_capZ (hc : chkS N Es = 0) (hl : l.length = N.length) (hf : allIn N l l.length = true) : costP N Es l = capZ (nSum N l N.length + eSum Es l Es.length) := by
  unfold costP
  rw [if_neg (by simp [hc, hl]), if_pos hf, hl]; rfl
theorem allIn_fit (h : allIn N l N.length = true) : ∀ v, v < N.length → chF l v < csN N v := fun v hv => by
  have := allIn_get h hv
  unfold inB at this
  simp only [Bool.and_eq_true, decide_eq_true_eq] at this
  unfold chF csN
  omega
/-- What the solver chooses costs the least that there is. -/
theorem opt_best (hc : chkS N Es = 0) (hl : l.length = N.length) (hi : allIn N l l.length = true) (h : OptS (beginS N Es) (csN N) N.length l) {g : List Int} (hg : g.length = N.length) (hgi : allIn N g g.length = true) : costP N Es l ≤ costP N Es g := by
  have e : beginS N Es = beginS N (Es.take Es.length) := by rw [List.take_length]
  rw [hl] at hi
  rw [hg] at hgi
  rw [costP_capZ hc hl (by rw [hl]; exact hi), costP_capZ hc hg (by rw [hg]; exact hgi), ← cost_begin hc (allIn_fit hi) _ (Nat.le_refl _), ← cost_begin hc (allIn_fit hgi) _ (Nat.le_refl _)]
  unfold OptS at h
  rw [e, alS_begin] at h
  exact h.2 (chF g) (fun v hv => allIn_fit hgi v (List.mem_range.1 hv))
end
end Go.Proofs.Ytdomnbgjafdnjaa
