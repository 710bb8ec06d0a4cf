/- Which blocks there is a way to, not through another one, in plain Lean. -/
import Derived.Test.YtcihobmjohpnkaaPost
namespace Go.Proofs.Ytcihobmjohpnkaa

/-- Where a block goes on, but for one. -/
def succX (l : List (List InsD)) (nt : Int) (x : Int) : List Int := (succS l x).filter fun y => decide (y ≠ nt)
/-- Is there a way: of each block. -/
def fromS (l : List (List InsD)) (b nt : Int) : List Bool :=
  if 0 ≤ b ∧ b < l.length ∧ b ≠ nt then (dfs (succX l nt) l.length b (List.replicate l.length false, [])).1 else List.replicate l.length false

theorem succX_range (l : List (List InsD)) (nt a : Int) : ∀ y ∈ succX l nt a, 0 ≤ y ∧ y < l.length := fun y hy => succS_range l a y (List.mem_filter.1 hy).1

theorem fromS_length (l : List (List InsD)) (b nt : Int) : (fromS l b nt).length = l.length := by
  unfold fromS
  split
  · rename_i h
    obtain ⟨new, hp⟩ := (dfs_post (n := l.length) (succX l nt) (succX_range l nt) l.length).1 b (List.replicate l.length false, []) ⟨h.1, h.2.1⟩ (by simp) (by simp [sn, List.getD, show b.toNat < l.length by omega]) (by simp)
    exact hp.len
  · simp

/-- What it holds. -/
theorem fromS_way (l : List (List InsD)) {b nt : Int} (h : 0 ≤ b ∧ b < l.length ∧ b ≠ nt) (x : Int) (hx : 0 ≤ x ∧ x < l.length) : sn (fromS l b nt) x = true ↔ Way (succX l nt) b x := by
  have hrep : ∀ y : Int, 0 ≤ y → y < l.length → sn (List.replicate l.length false) y = false := fun y hy hn => by simp [sn, List.getD, show y.toNat < l.length by omega]
  unfold fromS
  rw [if_pos h]
  obtain ⟨new, hp⟩ := (dfs_post (n := l.length) (succX l nt) (succX_range l nt) l.length).1 b (List.replicate l.length false, []) ⟨h.1, h.2.1⟩ (by simp) (hrep b h.1 h.2.1) (by simp)
  have hnew : ∀ y : Int, 0 ≤ y → y < l.length → (sn (dfs (succX l nt) l.length b (List.replicate l.length false, [])).1 y = true ↔ y ∈ new) := fun y h0 hn => by
    rw [hp.seen y h0 hn]
    dsimp only
    rw [hrep y h0 hn]
    simp
  rw [hnew x hx.1 hx.2]
  constructor
  · intro hm
    obtain ⟨a, ha, hw⟩ := hp.way x hm
    simp at ha
    subst ha
    exact hw
  · intro hw
    clear hx
    induction hw with
    | here => exact (hnew b h.1 h.2.1).1 (hp.all b (by simp))
    | on _ hc ih =>
      obtain ⟨r1, r2⟩ := succX_range l nt _ _ hc
      exact (hnew _ r1 r2).1 (hp.closed _ ih _ hc)

/-- A row of marks is known by what it says of each block. -/
theorem sn_ext {n : Nat} {p q : List Bool} (hp : p.length = n) (hq : q.length = n) (h : ∀ x : Int, 0 ≤ x → x < n → (sn p x = true ↔ sn q x = true)) : p = q := by
  apply List.ext_getElem (by omega)
  intro i h1 h2
  have h3 := h (i : Int) (by omega) (by omega)
  unfold sn at h3
  simp only [Int.toNat_natCast, List.getD, List.getElem?_eq_getElem h1, List.getElem?_eq_getElem h2, Option.getD_some] at h3
  exact Bool.eq_iff_iff.2 h3

/-- Between two rounds of the list of what is still to be gone into. -/
structure FrInv (l : List (List InsD)) (b nt : Int) (seen : List Bool) (todo : List Int) : Prop where
  len : seen.length = l.length
  tod : ∀ z ∈ todo, 0 ≤ z ∧ z < l.length ∧ sn seen z = true
  start : sn seen b = true
  way : ∀ x : Int, 0 ≤ x → x < l.length → sn seen x = true → Way (succX l nt) b x
  closed : ∀ x : Int, 0 ≤ x → x < l.length → sn seen x = true → x ∉ todo → ∀ y ∈ succX l nt x, sn seen y = true
/-- Within a round: block x is gone into, m of those where it goes on are done. -/
structure FrIn (l : List (List InsD)) (b nt x : Int) (ys : List Int) (m : Nat) (seen : List Bool) (todo : List Int) : Prop where
  len : seen.length = l.length
  tod : ∀ z ∈ todo, 0 ≤ z ∧ z < l.length ∧ sn seen z = true
  start : sn seen b = true
  way : ∀ x : Int, 0 ≤ x → x < l.length → sn seen x = true → Way (succX l nt) b x
  here : Way (succX l nt) b x
  closed : ∀ z : Int, 0 ≤ z → z < l.length → sn seen z = true → z ∉ todo → z ≠ x → ∀ y ∈ succX l nt z, sn seen y = true
  at_ : ys = succS l x
  part : ∀ y ∈ ys.take m, y ≠ nt → sn seen y = true

variable {l : List (List InsD)} {b nt x : Int} {seen : List Bool} {todo ys : List Int} {m : Nat}
theorem FrInv.first (h : 0 ≤ b ∧ b < l.length ∧ b ≠ nt) : FrInv l b nt ((List.replicate l.length false).set b.toNat true) [b] := by
  have hs : ∀ x : Int, 0 ≤ x → x < l.length → (sn ((List.replicate l.length false).set b.toNat true) x = true ↔ x = b) := fun x hx hn => by
    rw [sn_set h.1 (by simpa using h.2.1) hx]
    simp [sn, List.getD, show x.toNat < l.length by omega]
  refine ⟨by simp, fun x hx => ?_, (hs b h.1 h.2.1).2 rfl, fun x h0 hn hx => ?_, fun x h0 hn hx ht => ?_⟩
  · simp at hx; subst hx; exact ⟨h.1, h.2.1, (hs x h.1 h.2.1).2 rfl⟩
  · rw [(hs x h0 hn).1 hx]; exact .here b
  · simp at ht; exact (ht ((hs x h0 hn).1 hx)).elim
theorem FrInv.pop (h : FrInv l b nt seen (todo ++ [x])) : FrIn l b nt x (succS l x) 0 seen todo := by
  obtain ⟨h0, hn, hs⟩ := h.tod x (by simp)
  exact ⟨h.len, fun y hy => h.tod y (by simp [hy]), h.start, h.way, h.way x h0 hn hs, fun z hz0 hzn hz hzt hzx => h.closed z hz0 hzn hz (by simp [hzt, hzx]), rfl, by simp⟩
theorem FrIn.skip (h : FrIn l b nt x ys m seen todo) (hm : m < ys.length) (hy : ys[m] = nt ∨ sn seen ys[m] = true) : FrIn l b nt x ys (m + 1) seen todo :=
  ⟨h.len, h.tod, h.start, h.way, h.here, h.closed, h.at_, fun y hyt hne => by
    rw [List.take_succ_eq_append_getElem hm, List.mem_append] at hyt
    rcases hyt with hyt | hyt
    · exact h.part y hyt hne
    · simp at hyt; subst hyt
      rcases hy with hy | hy
      · exact (hne hy).elim
      · exact hy⟩
theorem FrIn.push (h : FrIn l b nt x ys m seen todo) (hm : m < ys.length) (hy : ys[m] ≠ nt) (_hs : sn seen ys[m] = false) : FrIn l b nt x ys (m + 1) (seen.set ys[m].toNat true) (todo ++ [ys[m]]) := by
  have hmem : ys[m] ∈ succS l x := by rw [← h.at_]; exact List.getElem_mem hm
  obtain ⟨r0, rn⟩ := succS_range l x _ hmem
  have hset : ∀ z : Int, 0 ≤ z → (sn (seen.set ys[m].toNat true) z = true ↔ sn seen z = true ∨ z = ys[m]) := fun z hz => sn_set r0 (by rw [h.len]; exact rn) hz
  have hmono : ∀ z : Int, 0 ≤ z → sn seen z = true → sn (seen.set ys[m].toNat true) z = true := fun z hz hs => (hset z hz).2 (.inl hs)
  have hb0 : sn (seen.set ys[m].toNat true) b = true := by
    have := h.start
    unfold sn at this ⊢
    rw [List.getD_eq_getElem?_getD] at this ⊢
    rw [List.getElem?_set]
    split
    · split <;> rfl
    · exact this
  refine ⟨by simpa using h.len, fun z hz => ?_, hb0, fun z h0 hn hz => ?_, h.here, fun z h0 hn hz hzt hzx y hy' => ?_, h.at_, fun y hyt hne => ?_⟩
  · rcases List.mem_append.1 hz with hz | hz
    · obtain ⟨a, c, d⟩ := h.tod z hz
      exact ⟨a, c, hmono z a d⟩
    · simp at hz; subst hz; exact ⟨r0, rn, (hset _ r0).2 (.inr rfl)⟩
  · rcases (hset z h0).1 hz with hz | hz
    · exact h.way z h0 hn hz
    · subst hz; exact .on h.here (List.mem_filter.2 ⟨hmem, by simpa using hy⟩)
  · have hzt' : z ∉ todo ∧ z ≠ ys[m] := by simpa using hzt
    rcases (hset z h0).1 hz with hz | hz
    · exact hmono y (succX_range l nt z y hy').1 (h.closed z h0 hn hz hzt'.1 hzx y hy')
    · exact (hzt'.2 hz).elim
  · rw [List.take_succ_eq_append_getElem hm, List.mem_append] at hyt
    rcases hyt with hyt | hyt
    · have hy0 := (succS_range l x y (by rw [← h.at_]; exact List.mem_of_mem_take hyt)).1
      exact hmono y hy0 (h.part y hyt hne)
    · simp at hyt; subst hyt; exact (hset _ r0).2 (.inr rfl)
theorem FrIn.close (h : FrIn l b nt x ys ys.length seen todo) : FrInv l b nt seen todo :=
  ⟨h.len, h.tod, h.start, h.way, fun z h0 hn hz hzt y hy => by
    by_cases hzx : z = x
    · subst hzx
      obtain ⟨h1, h2⟩ := List.mem_filter.1 hy
      exact h.part y (by rw [List.take_length, h.at_]; exact h1) (by simpa using h2)
    · exact h.closed z h0 hn hz hzt hzx y hy⟩
theorem FrInv.done (hb : 0 ≤ b ∧ b < l.length ∧ b ≠ nt) (h : FrInv l b nt seen []) : seen = fromS l b nt := by
  refine sn_ext h.len (fromS_length l b nt) fun x h0 hn => ?_
  rw [fromS_way l hb x ⟨h0, hn⟩]
  constructor
  · exact h.way x h0 hn
  · intro hw
    clear h0 hn
    induction hw with
    | here => exact h.start
    | on hw' hc ih =>
      have hr : ∀ z, Way (succX l nt) b z → 0 ≤ z ∧ z < l.length := fun z hz => by
        cases hz with
        | here => exact ⟨hb.1, hb.2.1⟩
        | on _ hc => exact succX_range l nt _ _ hc
      obtain ⟨r0, rn⟩ := hr _ hw'
      exact h.closed _ r0 rn ih (by simp) _ hc
end Go.Proofs.Ytcihobmjohpnkaa
