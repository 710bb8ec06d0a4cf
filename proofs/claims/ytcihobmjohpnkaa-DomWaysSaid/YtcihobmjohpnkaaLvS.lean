/- Lists of sets in memory. -/
import Derived.Test.YtcihobmjohpnkaaLvB
namespace Go.Proofs.Ytcihobmjohpnkaa
open Go.RowKit

/-- A cell that holds a set. -/
def CSet (p : Nat → Prop) (w : World) (b o : Nat) (ws : List Nat) : Prop := ∃ v, w.cell? ⟨b, o, none⟩ = some v ∧ IsWords p w v ws
def IsSets (p : Nat → Prop) (w : World) (v : Value) (l : List (List Nat)) : Prop := IsSl 1 (CSet p) p w v l
theorem CSet.keep {p p' : Nat → Prop} {w w' : World} {b o : Nat} {ws : List Nat} (hp : p b) (h : CSet p w b o ws) (hk : Keep p p' w w') : CSet p' w' b o ws :=
  let ⟨v, h1, h2⟩ := h; ⟨v, hk.cell hp h1, h2.keep hk⟩
theorem IsSets.keep {p p' : Nat → Prop} {w w' : World} {v : Value} {l : List (List Nat)} (h : IsSets p w v l) (hk : Keep p p' w w') : IsSets p' w' v l :=
  IsSl.keep h (fun _ _ _ ⟨_, h, _⟩ => lt_of_cell h) hk fun _ _ _ hp _ hc => CSet.keep hp hc hk
theorem words_nil (p : Nat → Prop) (W : World) : IsWords p W (.slice none 0 0) [] := ⟨none, 0, rfl, ⟨by simp, by simp⟩, .inl rfl⟩
/-- A row of set values reads as a list of sets. -/
theorem sets_of_row {W : World} {g : Nat} {e : TypeId} {vs : List Value} {l : List (List Nat)} {p : Nat → Prop} (h : Row W g e vs) (hp : p g) (hn : vs.length = l.length) (hl : l.length ≤ 140737488351232)
    (hel : ∀ j (h1 : j < vs.length) (h2 : j < l.length), IsWords p W vs[j] l[j]) : IsSets p W (.slice (some ⟨g, 0, none⟩) l.length l.length) l :=
  ⟨_, _, rfl, ⟨Nat.le_refl _, hl⟩, .inr ⟨g, 0, rfl, hp, fun j hj => ⟨vs[j]'(by omega), by rw [Nat.zero_add, Nat.mul_one]; exact h.cell (by simp [show j < vs.length by omega]), hel j (by omega) hj⟩⟩⟩
end Go.Proofs.Ytcihobmjohpnkaa
