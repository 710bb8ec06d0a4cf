/- Rings: their nodes and edges; all can be taken away. Plain Lean. -/
import Derived.Test.YtdomnbgjafdnjaaPeP
namespace Go.Proofs.Ytdomnbgjafdnjaa

/-- What the list tells at a place, around. -/
def atR (C : List Int) (i : Nat) : Int := C.getD (i % C.length) 0
def rgN (n : Nat) (C : List Int) : List (List Int) := (List.range n).map fun i => [atR C i, atR C (3 * i + 1)]
def rgM (C : List Int) (i : Nat) : List (List Int) := [[atR C (5 * i), atR C (7 * i + 2)], [atR C (2 * i + 1), atR C (i + 3)]]
def rgX (n : Nat) (C : List Int) (i : Nat) : EdgeD := ⟨(i : Int), (((i + 1) % n : Nat) : Int), rgM C i⟩
def rgE (n : Nat) (C : List Int) : List EdgeD := (List.range n).map (rgX n C)
theorem rgN_length (n : Nat) (C : List Int) : (rgN n C).length = n := by simp [rgN]
theorem rgE_length (n : Nat) (C : List Int) : (rgE n C).length = n := by simp [rgE]
theorem rgN_get {n i : Nat} (C : List Int) (h : i < n) : (rgN n C).getD i [] = [atR C i, atR C (3 * i + 1)] := by simp [rgN, List.getD, h]
theorem rgE_take {n i : Nat} (C : List Int) (h : i < n) : (rgE n C).take (i + 1) = (rgE n C).take i ++ [rgX n C i] := by
  rw [List.take_succ_eq_append_getElem (by rw [rgE_length]; exact h)]
  simp [rgE]
/-- Where each has at most two neighbours all can be taken away. -/
theorem red_two {n : Nat} : ∀ (c : Nat) {E : Nat → Nat → Bool} {g : Nat → Bool}, cntE n g = c → WfE n E g → (∀ v, v < n → g v = false → (nbE n E v).length ≤ 2) → RedP n E g
  | 0, _, _, hc, _, _ => .done (cnt_zero.1 hc)
  | c + 1, E, g, hc, hw, hd => by
    have : ∃ v, v < n ∧ g v = false := by
      refine Classical.byContradiction fun hn => ?_
      have : cntE n g = 0 := cnt_zero.2 fun v hv => by
        cases hg : g v with
        | true => rfl
        | false => exact absurd ⟨v, hv, hg⟩ hn
      omega
    obtain ⟨v, hv, hg⟩ := this
    have h1 := cnt_out hv hg
    refine .step hv hg (hd v hv hg) (red_two c (by omega) (hw.elim v) fun u hu hgu => ?_)
    unfold outE at hgu
    by_cases e : u = v
    · rw [if_pos e] at hgu; cases hgu
    · rw [if_neg e] at hgu
      exact Nat.le_trans (deg_elim hw (Ne.symm e) (hd v hv hg)) (hd u hu hgu)
theorem ring_red {n : Nat} {C : List Int} (hn : 3 ≤ n) (hc : chkS (rgN n C) (rgE n C) = 0) : RedP n (edE (rgE n C)) (fun _ => false) := by
  have hw := (ez_init hc).wf
  rw [rgN_length] at hw
  refine red_two _ rfl hw fun v hv _ => ?_
  refine sub_len (T := [(v + 1) % n, (v + n - 1) % n]) (nbE_nodup n _ v) fun y hy => ?_
  obtain ⟨hyn, he⟩ := mem_nbE.1 hy
  unfold edE at he
  rw [List.any_eq_true] at he
  obtain ⟨e, he, h2⟩ := he
  obtain ⟨i, hi, rfl⟩ := List.mem_map.1 he
  have hi := List.mem_range.1 hi
  simp only [rgX, Int.toNat_natCast, Bool.or_eq_true, Bool.and_eq_true] at h2
  rcases h2 with ⟨h3, h4⟩ | ⟨h3, h4⟩
  all_goals replace h3 := of_decide_eq_true h3
  all_goals replace h4 := of_decide_eq_true h4
  · subst h3 h4; simp
  · subst h4
    by_cases hlt : i + 1 < n
    · rw [Nat.mod_eq_of_lt hlt] at h3
      subst h3
      have : (i + 1 + n - 1) % n = i := by
        rw [show i + 1 + n - 1 = i + n by omega, Nat.add_mod_right, Nat.mod_eq_of_lt (by omega)]
      rw [this]; simp
    · have hin : i + 1 = n := by omega
      rw [hin, Nat.mod_self] at h3
      subst h3
      have : (0 + n - 1) % n = i := by
        rw [show 0 + n - 1 = i by omega, Nat.mod_eq_of_lt hi]
      rw [this]; simp
end Go.Proofs.Ytdomnbgjafdnjaa
