/- What going down comes to, in plain Lean: each block that there is a way to, once; those that go on to no earlier block in their order. -/
import Derived.Test.YtcihobmjohpnkaaDfs
namespace Go.Proofs.Ytcihobmjohpnkaa

/-- Is a block seen? -/
def sn (seen : List Bool) (x : Int) : Bool := seen.getD x.toNat true
theorem sn_set {seen : List Bool} {b x : Int} (hb : 0 ≤ b) (hbn : b < seen.length) (hx : 0 ≤ x) : sn (seen.set b.toNat true) x = true ↔ sn seen x = true ∨ x = b := by
  unfold sn
  by_cases h : x = b
  · subst h
    simp [List.getD, show x.toNat < seen.length by omega]
  · have : b.toNat ≠ x.toNat := by omega
    simp [List.getD, this, h]

section
variable (s : Int → List Int)
/-- There is a way from a block to another. -/
inductive Way : Int → Int → Prop
  | here (a : Int) : Way a a
  | on {a b c : Int} : Way a b → c ∈ s b → Way a c
variable {s}
theorem Way.trans {a b c : Int} (h : Way s a b) (k : Way s b c) : Way s a c := by
  induction k with
  | here => exact h
  | on _ hc ih => exact .on ih hc
theorem Way.first {a b c : Int} (h : b ∈ s a) (k : Way s b c) : Way s a c := (Way.on (.here a) h).trans k

variable (s) in
structure Post (n : Nat) (xs : List Int) (st r : List Bool × List Int) (new : List Int) : Prop where
  len : r.1.length = n
  out : r.2 = st.2 ++ new
  seen : ∀ x : Int, 0 ≤ x → x < n → (sn r.1 x = true ↔ sn st.1 x = true ∨ x ∈ new)
  fresh : ∀ x ∈ new, 0 ≤ x ∧ x < n ∧ sn st.1 x = false
  nodup : new.Nodup
  all : ∀ x ∈ xs, sn r.1 x = true
  closed : ∀ x ∈ new, ∀ y ∈ s x, sn r.1 y = true
  way : ∀ x ∈ new, ∃ a ∈ xs, Way s a x
  low : (∀ a, ∀ y ∈ s a, a < y) → ∀ c, (∀ x ∈ xs, c < x) → ∀ x ∈ new, c < x
  topo : (∀ a, ∀ y ∈ s a, a < y) → ∀ p x q, new = p ++ x :: q → ∀ y ∈ s x, y ∈ p ∨ sn st.1 y = true

variable {n : Nat}
theorem Post.nil (st : List Bool × List Int) (h : st.1.length = n) : Post s n [] st st [] :=
  ⟨h, by simp, by simp, by simp, by simp, by simp, by simp, by simp, by simp, fun _ p x q h => by simp at h⟩

theorem Post.skip {x : Int} {xs new : List Int} {st r : List Bool × List Int} (hx : 0 ≤ x ∧ x < n) (h : sn st.1 x = true) (hp : Post s n xs st r new) : Post s n (x :: xs) st r new :=
  ⟨hp.len, hp.out, hp.seen, hp.fresh, hp.nodup, fun y hy => by
    rcases List.mem_cons.1 hy with rfl | hy
    · exact (hp.seen y hx.1 hx.2).2 (.inl h)
    · exact hp.all y hy, hp.closed, fun y hy => let ⟨a, ha, hw⟩ := hp.way y hy; ⟨a, by simp [ha], hw⟩, fun hi c hc => hp.low hi c fun y hy => hc y (by simp [hy]), hp.topo⟩

theorem Post.cons {x : Int} {xs new1 new2 : List Int} {st r1 r2 : List Bool × List Int} (hr : ∀ a, ∀ y ∈ s a, 0 ≤ y ∧ y < (n : Int)) (hx : 0 ≤ x ∧ x < n) (h1 : Post s n [x] st r1 new1) (h2 : Post s n xs r1 r2 new2) : Post s n (x :: xs) st r2 (new1 ++ new2) where
  len := h2.len
  out := by rw [h2.out, h1.out, List.append_assoc]
  seen y h0 hn := by rw [h2.seen y h0 hn, h1.seen y h0 hn, List.mem_append, or_assoc]
  fresh y hy := by
    rcases List.mem_append.1 hy with hy | hy
    · exact h1.fresh y hy
    · obtain ⟨a, b, c⟩ := h2.fresh y hy
      refine ⟨a, b, ?_⟩
      cases hs : sn st.1 y with
      | false => rfl
      | true => rw [(h1.seen y a b).2 (.inl hs)] at c; cases c
  nodup := List.nodup_append.2 ⟨h1.nodup, h2.nodup, fun a ha b hb e => by
    subst e
    obtain ⟨h0, hn, hf⟩ := h2.fresh a hb
    rw [(h1.seen a h0 hn).2 (.inr ha)] at hf
    cases hf⟩
  all y hy := by
    rcases List.mem_cons.1 hy with rfl | hy
    · exact (h2.seen y hx.1 hx.2).2 (.inl (h1.all y (by simp)))
    · exact h2.all y hy
  closed y hy z hz := by
    rcases List.mem_append.1 hy with hy | hy
    · exact (h2.seen z (hr y z hz).1 (hr y z hz).2).2 (.inl (h1.closed y hy z hz))
    · exact h2.closed y hy z hz
  way y hy := by
    rcases List.mem_append.1 hy with hy | hy
    · obtain ⟨a, ha, hw⟩ := h1.way y hy
      exact ⟨a, by simp at ha; simp [ha], hw⟩
    · obtain ⟨a, ha, hw⟩ := h2.way y hy
      exact ⟨a, by simp [ha], hw⟩
  low hi c hc y hy := by
    rcases List.mem_append.1 hy with hy | hy
    · exact h1.low hi c (fun z hz => hc z (by simp at hz; simp [hz])) y hy
    · exact h2.low hi c (fun z hz => hc z (by simp [hz])) y hy
  topo hi p y q he z hz := by
    rcases List.append_eq_append_iff.1 he with ⟨t, e1, e2⟩ | ⟨t, e1, e2⟩
    · -- new1 ++ t = p, new2 = t ++ y :: q
      rcases h2.topo hi t y q e2 z hz with h | h
      · exact .inl (by rw [e1]; simp [h])
      · rcases (h1.seen z (hr y z hz).1 (hr y z hz).2).1 h with h | h
        · exact .inr h
        · exact .inl (by rw [e1]; simp [h])
    · -- new1 = p ++ t, y :: q = t ++ new2
      cases t with
      | nil =>
        simp only [List.append_nil] at e1
        simp only [List.nil_append] at e2
        rcases h2.topo hi [] y q e2.symm z hz with h | h
        · simp at h
        · rcases (h1.seen z (hr y z hz).1 (hr y z hz).2).1 h with h | h
          · exact .inr h
          · exact .inl (by rw [← e1]; exact h)
      | cons t0 t =>
        simp only [List.cons_append, List.cons.injEq] at e2
        obtain ⟨rfl, _⟩ := e2
        exact h1.topo hi p y t e1 z hz

theorem Post.node {b : Int} {new : List Int} {st r : List Bool × List Int} (hb : 0 ≤ b ∧ b < n) (hl : st.1.length = n) (hs : sn st.1 b = false) (hr : ∀ a, ∀ y ∈ s a, 0 ≤ y ∧ y < (n : Int))
    (h : Post s n (s b) (st.1.set b.toNat true, st.2) r new) : Post s n [b] st (r.1, r.2 ++ [b]) (new ++ [b]) := by
  have hset : ∀ x : Int, 0 ≤ x → (sn (st.1.set b.toNat true) x = true ↔ sn st.1 x = true ∨ x = b) := fun x hx => sn_set hb.1 (by omega) hx
  have hbn : b ∉ new := fun hbm => by
    have := (h.fresh b hbm).2.2
    rw [(hset b hb.1).2 (.inr rfl)] at this
    cases this
  have hseen : ∀ x : Int, 0 ≤ x → x < n → (sn r.1 x = true ↔ sn st.1 x = true ∨ x ∈ new ++ [b]) := fun x h0 hn => by
    rw [h.seen x h0 hn, hset x h0, List.mem_append, List.mem_singleton]
    rw [or_assoc, or_comm (a := x = b)]
  have hne : ∀ (hi : ∀ a, ∀ y ∈ s a, a < y), ∀ x ∈ new, b < x := fun hi x hx => h.low hi b (fun y hy => hi b y hy) x hx
  refine ⟨h.len, by rw [h.out, List.append_assoc], hseen, ?_, ?_, ?_, ?_, ?_, ?_, ?_⟩
  · intro x hx
    rcases List.mem_append.1 hx with hx | hx
    · obtain ⟨h0, hn, hf⟩ := h.fresh x hx
      refine ⟨h0, hn, ?_⟩
      cases hs' : sn st.1 x with
      | false => rfl
      | true => rw [(hset x h0).2 (.inl hs')] at hf; cases hf
    · simp at hx; subst hx; exact ⟨hb.1, hb.2, hs⟩
  · exact List.nodup_append.2 ⟨h.nodup, by simp, fun a ha c hc e => by simp at hc; subst e; subst hc; exact hbn ha⟩
  · intro x hx
    simp at hx; subst hx
    exact (hseen x hb.1 hb.2).2 (.inr (by simp))
  · intro x hx y hy
    rcases List.mem_append.1 hx with hx | hx
    · exact h.closed x hx y hy
    · simp at hx; subst hx; exact h.all y hy
  · intro x hx
    rcases List.mem_append.1 hx with hx | hx
    · obtain ⟨a, ha, hw⟩ := h.way x hx
      exact ⟨b, by simp, .first ha hw⟩
    · simp at hx; subst hx; exact ⟨x, by simp, .here x⟩
  · intro hi c hc x hx
    have hcb := hc b (by simp)
    rcases List.mem_append.1 hx with hx | hx
    · have := hne hi x hx; omega
    · simp at hx; subst hx; exact hcb
  · intro hi p x q he y hy
    rcases List.append_eq_append_iff.1 he with ⟨t, e1, e2⟩ | ⟨t, e1, e2⟩
    · -- new ++ t = p, [b] = t ++ x :: q
      cases t with
      | nil =>
        simp only [List.nil_append, List.cons.injEq] at e2
        obtain ⟨rfl, _⟩ := e2
        have h2 := h.all y hy
        rcases (h.seen y (hr b y hy).1 (hr b y hy).2).1 h2 with h3 | h3
        · rcases (hset y (hr b y hy).1).1 h3 with h3 | h3
          · exact .inr h3
          · have := hi b y hy; omega
        · exact .inl (by rw [e1]; simpa using h3)
      | cons t0 t => simp at e2
    · cases t with
      | nil =>
        simp only [List.nil_append, List.cons.injEq] at e2
        obtain ⟨e0, _⟩ := e2
        subst e0
        have h2 := h.all y hy
        rcases (h.seen y (hr x y hy).1 (hr x y hy).2).1 h2 with h3 | h3
        · rcases (hset y (hr x y hy).1).1 h3 with h3 | h3
          · exact .inr h3
          · have := hi x y hy; omega
        · exact .inl (by simp at e1; rw [← e1]; exact h3)
      | cons t0 t =>
        simp only [List.cons_append, List.cons.injEq] at e2
        obtain ⟨rfl, _⟩ := e2
        rcases h.topo hi p x t e1 y hy with h3 | h3
        · exact .inl h3
        · rcases (hset y (hr x y hy).1).1 h3 with h3 | h3
          · exact .inr h3
          · have h4 := hne hi x (by rw [e1]; simp)
            have h5 := hi x y hy
            omega

variable (s) in
theorem dfs_post (hr : ∀ a, ∀ y ∈ s a, 0 ≤ y ∧ y < (n : Int)) (f : Nat) :
    (∀ (b : Int) (st : List Bool × List Int), 0 ≤ b ∧ b < n → st.1.length = n → sn st.1 b = false → st.1.count false ≤ f → ∃ new, Post s n [b] st (dfs s f b st) new) ∧
    (∀ (xs : List Int) (st : List Bool × List Int), (∀ x ∈ xs, 0 ≤ x ∧ x < n) → st.1.length = n → st.1.count false ≤ f → ∃ new, Post s n xs st (dfsL s f xs st) new) := by
  have step : ∀ f, (∀ (b : Int) (st : List Bool × List Int), 0 ≤ b ∧ b < n → st.1.length = n → sn st.1 b = false → st.1.count false ≤ f → ∃ new, Post s n [b] st (dfs s f b st) new) →
      (∀ (xs : List Int) (st : List Bool × List Int), (∀ x ∈ xs, 0 ≤ x ∧ x < n) → st.1.length = n → st.1.count false ≤ f → ∃ new, Post s n xs st (dfsL s f xs st) new) := by
    intro f h1 xs
    induction xs with
    | nil => intro st _ hl _; exact ⟨[], .nil st hl⟩
    | cons x xs ih =>
      intro st hx hl hc
      rw [dfsL_cons]
      split
      · rename_i h
        obtain ⟨new, hp⟩ := ih st (fun y hy => hx y (by simp [hy])) hl hc
        exact ⟨new, .skip (hx x (by simp)) h hp⟩
      · rename_i h
        have h' : sn st.1 x = false := by simpa [sn] using h
        obtain ⟨new1, p1⟩ := h1 x st (hx x (by simp)) hl h' hc
        have hg := (goes_dfs s f).1 x st h' hc
        have hc2 : (dfs s f x st).1.count false ≤ f := by
          have := count_true_false st.1; have := count_true_false (dfs s f x st).1; have := hg.len; have := hg.le
          omega
        obtain ⟨new2, p2⟩ := ih (dfs s f x st) (fun y hy => hx y (by simp [hy])) p1.len hc2
        exact ⟨new1 ++ new2, .cons hr (hx x (by simp)) p1 p2⟩
  induction f with
  | zero =>
    have h1 : ∀ (b : Int) (st : List Bool × List Int), 0 ≤ b ∧ b < n → st.1.length = n → sn st.1 b = false → st.1.count false ≤ 0 → ∃ new, Post s n [b] st (dfs s 0 b st) new := by
      intro b st _ _ h hc
      have := (count_set (seen := st.1) (k := b.toNat) h).2
      omega
    exact ⟨h1, step 0 h1⟩
  | succ f ih =>
    have h1 : ∀ (b : Int) (st : List Bool × List Int), 0 ≤ b ∧ b < n → st.1.length = n → sn st.1 b = false → st.1.count false ≤ f + 1 → ∃ new, Post s n [b] st (dfs s (f + 1) b st) new := by
      intro b st hb hl h hc
      have hc2 := (count_set (seen := st.1) (k := b.toNat) h).2
      rw [dfs_succ]
      obtain ⟨new, hp⟩ := ih.2 (s b) (st.1.set b.toNat true, st.2) (fun x hx => hr b x hx) (by simpa using hl) (by show (st.1.set b.toNat true).count false ≤ f; omega)
      exact ⟨_, .node hb hl h hr hp⟩
    exact ⟨h1, step (f + 1) h1⟩
end

/-- What the order holds. -/
theorem orderS_post (l : List (List InsD)) (h : 0 < l.length) : ∃ new, orderS l = new.reverse ∧ new.Nodup ∧ (∀ x ∈ new, (0 : Int) ≤ x ∧ x < l.length) ∧ (∀ x, x ∈ new ↔ Way (succS l) 0 x) ∧
    ((∀ a, ∀ y ∈ succS l a, a < y) → ∀ p x q, new = p ++ x :: q → ∀ y ∈ succS l x, y ∈ p) := by
  have h0 : sn (List.replicate l.length false) 0 = false := by simp [sn, List.getD, h]
  have hrep : ∀ y : Int, 0 ≤ y → y < l.length → sn (List.replicate l.length false) y = false := fun y hy hn => by simp [sn, List.getD, show y.toNat < l.length by omega]
  obtain ⟨new, hp⟩ := (dfs_post (n := l.length) (succS l) (fun a y hy => succS_range l a y hy) l.length).1 0 (List.replicate l.length false, []) ⟨by omega, by omega⟩ (by simp) h0 (by simp)
  refine ⟨new, ?_, hp.nodup, fun x hx => ⟨(hp.fresh x hx).1, (hp.fresh x hx).2.1⟩, fun x => ⟨fun hx => ?_, fun hx => ?_⟩, fun hi p x q he y hy => ?_⟩
  · unfold orderS
    rw [if_neg (by omega), hp.out]
    rfl
  · obtain ⟨a, ha, hw⟩ := hp.way x hx
    simp at ha
    subst ha
    exact hw
  · induction hx with
    | here =>
      rcases (hp.seen 0 (by omega) (by omega)).1 (hp.all 0 (by simp)) with h1 | h1
      · rw [h0] at h1; cases h1
      · exact h1
    | on _ hc ih =>
      have h1 := hp.closed _ ih _ hc
      obtain ⟨r1, r2⟩ := succS_range l _ _ hc
      rcases (hp.seen _ r1 r2).1 h1 with h1 | h1
      · rw [hrep _ r1 r2] at h1; cases h1
      · exact h1
  · rcases hp.topo hi p x q he y hy with h1 | h1
    · exact h1
    · obtain ⟨r1, r2⟩ := succS_range l _ _ hy
      rw [hrep _ r1 r2] at h1; cases h1
end Go.Proofs.Ytcihobmjohpnkaa
