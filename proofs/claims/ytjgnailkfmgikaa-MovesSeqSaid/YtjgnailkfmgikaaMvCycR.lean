/- The reference's 'Cycles'. -/
import Derived.Test.YtjgnailkfmgikaaMvCyc
import Derived.Test.YtjgnailkfmgikaaMvRefP
import Derived.Deep.QuietTactic
import Derived.BigQuiet
import Derived.Deep.DeepCutAuto
import Derived.Deep.CutBlock
namespace Go.Proofs.Ytjgnailkfmgikaa
open Go.RowKit Go.Maps

theorem infoBool : (Try.prog.info? 4).map (fun i => (i.zero, i.size, i.bytes)) = some (some (.bool false), 1, 1) := by kernel_rfl
/-- 'make([]bool, n)'. -/
theorem mk_bools {ops : Array Oper} {rest : List Oper} {o : Oper} {a : Act} {Q : Exit → Act → World → Prop} {W : World}
    (hgd : o.guard = none) (l c : Operand) (hop : o.op = Op.makeSlice 46 l c) (n : Nat) (hl : a.eval l = .int .i64 n) (hc : a.eval c = .int .i64 n) (hn : n ≤ 17592186044416)
    (h : wpList Try.prog ops Q rest (a.put o.dst (.slice (some ⟨W.heap.size, 0, none⟩) n n)) (W.alloc (.cells (bools (List.replicate n false)).toArray 4))) :
    wpList Try.prog ops Q (o :: rest) a W := by
  obtain ⟨i0, hi, hz0, hz1, hz2⟩ := info_parts infoBool
  refine wp_make1 W hgd l c 46 hop 4 i0 _ (.bool false) 1 Try.underlying46 hi hz0 hz1 hz2 rfl n hl hc (by omega) (by omega) ?_
  rw [bools, List.map_replicate] at h
  exact h

/-- 'In': does a list have a number? -/
theorem in_c {p : Nat → Prop} {v : Value} {xs : List Int} {n : Int} (w : World) (h1 : IsInts p w v xs) :
    Calls Try.prog 20 #[v, .int .i64 n] w fun e w' => e = .returned (.bool (inS xs n)) ∧ w' = w := by
  obtain ⟨a, cap, rfl, hl, hx⟩ := h1
  go_enter Try.func20, Try.ntmps20
  go_wp2
  go_loop [5] (fun i => ∃ k : Nat, k ≤ xs.length ∧ i = .int .i64 k ∧ inS (xs.take k) n = false) (fun i => xs.length - (intOf i).toNat)
  case atStart => exact ⟨0, by omega, rfl, by simp [inS]⟩
  case round =>
    obtain ⟨k, hk, rfl, hn⟩ := hrel
    by_cases hlt : k < xs.length
    · rcases hx with rfl | ⟨b, off, rfl, _, hx⟩
      · simp at hlt
      have c1 := hx k hlt
      simp only [CInt, Nat.mul_one] at c1
      clear hx
      have HN : Hid (inS (xs.take k) n = false) := hn
      clear hn
      go_wp2
      · have he : (xs[k] == n) = true := by assumption
        go_ret
        exact ⟨ret_bool (inS_of_get hlt (by simpa using he)).symm, rfl⟩
      · have he : (xs[k] == n) = false := by assumption
        go_round
        case rel => exact ⟨k + 1, by omega, by go_num, by rw [List.take_succ_eq_append_getElem hlt, inS_snoc, HN.out, he]; rfl⟩
        case measure => simp [intOf]; omega
    · have HN : Hid (inS (xs.take k) n = false) := hn
      clear hn
      go_wp2
      go_ret
      have h2 := HN.out
      rw [List.take_of_length_le (by omega)] at h2
      exact ⟨ret_bool h2.symm, rfl⟩

theorem bel_drewB {B : Nat} {w X : World} (h : Below B w X) (n : Nat) : Below B w (X.drewN n) := ⟨h.os, h.tape, h.output, h.size, h.block⟩

/-- How many rings there are, of what is left. -/
def CycRP (l : List (Int × Int)) (G : Mv.PF) (w : World) (e : Ending) (w' : World) : Prop :=
  Below w.heap.size w w' ∧ ∃ n : Nat, e = .returned (.int .i64 n) ∧ (¬ Mv.Once l → n = 0) ∧ (Mv.Once l → Mv.Cnt G (Mv.ordS l) n)

/-- Where the ring's way stands. -/
def DI (l : List (Int × Int)) (G : Mv.PF) (x : Int) (rr : List Nat) (kk : Int) : Prop :=
  (∀ i ∈ rr, ∃ h : i < l.length, l[i].1 ≠ l[i].2) ∧ (Mv.dsts l rr).Nodup ∧
  ((kk = -1 ∧ G x = none) ∨ ∃ (j : Nat) (hj : j < l.length), kk = (j : Int) ∧ l[j].1 ≠ l[j].2 ∧ l[j].1 ∉ Mv.dsts l rr ∧ Mv.Path (Mv.fromS l) x (Mv.dsts l rr ++ [l[j].1]) l[j].2)
/-- Where it has ended. -/
def DE (l : List (Int × Int)) (G : Mv.PF) (x : Int) (rr : List Nat) (ok : Bool) : Prop :=
  (∀ i ∈ rr, ∃ h : i < l.length, l[i].1 ≠ l[i].2) ∧ (Mv.dsts l rr).Nodup ∧ (ok = true → Mv.Path (Mv.fromS l) x (Mv.dsts l rr) x) ∧ (ok = false → G x = none)

theorem dsts_snoc (l : List (Int × Int)) (rr : List Nat) {j : Nat} (h : j < l.length) : Mv.dsts l (rr ++ [j]) = Mv.dsts l rr ++ [l[j].1] := by
  simp [Mv.dsts, List.getD, h]
theorem dsts_length (l : List (Int × Int)) (rr : List Nat) : (Mv.dsts l rr).length = rr.length := by simp [Mv.dsts]
theorem dsts_mem {l : List (Int × Int)} {rr : List Nat} (hr : ∀ i ∈ rr, ∃ h : i < l.length, l[i].1 ≠ l[i].2) {z : Int} : z ∈ Mv.dsts l rr ↔ ∃ i, ∃ h : i < l.length, i ∈ rr ∧ l[i].1 = z := by
  unfold Mv.dsts
  rw [List.mem_map]
  constructor
  · rintro ⟨i, hi, e⟩
    obtain ⟨h, _⟩ := hr i hi
    exact ⟨i, h, hi, by rw [← e]; simp [List.getD, h]⟩
  · rintro ⟨i, h, hi, e⟩
    exact ⟨i, hi, by rw [← e]; simp [List.getD, h]⟩
theorem DI.rlen {l : List (Int × Int)} {G : Mv.PF} {x : Int} {rr : List Nat} {kk : Int} (h : DI l G x rr kk) : rr.length ≤ l.length := by
  have e0 : (l.map fun m : Int × Int => m.1).length = l.length := by simp
  rw [← dsts_length l rr, ← e0]
  refine nodup_len h.2.1 fun z hz => ?_
  obtain ⟨i, hi, _, e⟩ := (dsts_mem h.1).1 hz
  exact List.mem_map.2 ⟨_, List.getElem_mem hi, e⟩
/-- One more is in the ring. -/
theorem DI.push {l : List (Int × Int)} {G : Mv.PF} {x : Int} {rr : List Nat} {j : Nat} (h : DI l G x rr j) : ∃ hj : j < l.length, (∀ i ∈ rr ++ [j], ∃ h : i < l.length, l[i].1 ≠ l[i].2) ∧ (Mv.dsts l (rr ++ [j])).Nodup ∧ Mv.Path (Mv.fromS l) x (Mv.dsts l (rr ++ [j])) l[j].2 := by
  obtain ⟨h1, h2, h3⟩ := h
  rcases h3 with ⟨h3, _⟩ | ⟨j', hj, e, hn, hf, hp⟩
  · omega
  · have e : j = j' := by omega
    subst e
    refine ⟨hj, fun i hi => ?_, ?_, ?_⟩
    · rcases List.mem_append.1 hi with hi | hi
      · exact h1 i hi
      · simp at hi; subst hi; exact ⟨hj, hn⟩
    · rw [dsts_snoc l rr hj]; exact Mv.Path.nodup_snoc h2 hf
    · rw [dsts_snoc l rr hj]; exact hp

section
variable {l : List (Int × Int)} {G : Mv.PF} {out : List (Int × Int)} {x q : Int} {rr : List Nat} {k : Nat}
theorem next_is (ho : Mv.Once l) (hk : k < l.length) (hs : l[k].1 ≠ l[k].2) : Mv.nextS l q l.length = (k : Int) ↔ q = l[k].1 := by
  rcases Mv.nextS_spec (l := l) (q := q) (Nat.le_refl _) with ⟨h1, h2⟩ | ⟨j, hj, h1, _, h3, h4⟩
  · rw [h1]
    constructor
    · intro h; omega
    · intro h; exact absurd ⟨h.symm, hs⟩ (h2 k hk hk)
  · rw [h1]
    constructor
    · intro h
      have : j = k := by omega
      subst this; exact h3.symm
    · intro h
      have := Mv.once_inj ho hj hk (h3.trans h)
      omega
/-- The way goes on, or ends without coming back. -/
theorem DI.next (ho : Mv.Once l) (hd : Mv.FDone l G out) (h1 : ∀ i ∈ rr, ∃ h : i < l.length, l[i].1 ≠ l[i].2) (h2 : (Mv.dsts l rr).Nodup) (h3 : Mv.Path (Mv.fromS l) x (Mv.dsts l rr) q) (hq : q ≠ x) :
    (inS (rr.map fun i : Nat => (i : Int)) (Mv.nextS l q l.length) = true → DE l G x rr false) ∧
    (inS (rr.map fun i : Nat => (i : Int)) (Mv.nextS l q l.length) = false → DI l G x rr (Mv.nextS l q l.length)) := by
  constructor
  · intro hin
    unfold inS at hin
    simp only [decide_eq_true_eq] at hin
    obtain ⟨i, hi, e⟩ := List.mem_map.1 hin
    refine ⟨h1, h2, fun h => by simp at h, fun _ => Mv.path_open ho hd h3 h2 hq (.inl ?_)⟩
    rcases Mv.nextS_spec (l := l) (q := q) (Nat.le_refl _) with ⟨g1, g2⟩ | ⟨j, hj, g1, _, g3, g4⟩
    · omega
    · rw [g1] at e
      have : i = j := by omega
      subst this
      exact (dsts_mem h1).2 ⟨i, hj, hi, g3⟩
  · intro hin
    unfold inS at hin
    simp only [decide_eq_false_iff_not] at hin
    refine ⟨h1, h2, ?_⟩
    rcases Mv.nextS_spec (l := l) (q := q) (Nat.le_refl _) with ⟨g1, g2⟩ | ⟨j, hj, g1, _, g3, g4⟩
    · refine .inl ⟨g1, Mv.path_open ho hd h3 h2 hq (.inr ?_)⟩
      cases e : Mv.fromS l q with
      | none => rfl
      | some y =>
        obtain ⟨hm, hne⟩ := (Mv.fromS_iff ho).1 e
        obtain ⟨i, hi, ei⟩ := List.mem_iff_getElem.1 hm
        exact absurd ⟨by rw [ei], by rw [ei]; exact hne⟩ (g2 i hi hi)
    · refine .inr ⟨j, hj, g1, g4, fun hm => ?_, ?_⟩
      · obtain ⟨i, hi, hir, ei⟩ := (dsts_mem h1).1 hm
        have := Mv.once_inj ho hi hj ei
        subst this
        exact hin (by rw [g1]; exact List.mem_map.2 ⟨_, hir, rfl⟩)
      · rw [g3]
        have hf := Mv.from_at ho hj g4
        rw [g3] at hf
        exact h3.snoc hf
end

/-- The ring's marks, and whether nothing else reads of it, so far. -/
structure RF (l : List (Int × Int)) (used : List Bool) (rr : List Nat) (m : Nat) (al : Bool) (us : List Bool) : Prop where
  us : ∀ i (h : i < l.length), l[i].1 ≠ l[i].2 → (us.getD i false = true ↔ used.getD i false = true ∨ l[i].1 ∈ Mv.dsts l (rr.take m))
  al : al = true ↔ ∀ t (h : t < l.length), l[t].1 ≠ l[t].2 → l[t].2 ∈ Mv.dsts l (rr.take m) → l[t].1 ∈ Mv.dsts l rr
/-- .. in the midst of one of its places. -/
def RG (l : List (Int × Int)) (rr : List Nat) (x : Int) (al0 : Bool) (t : Nat) (al : Bool) : Prop :=
  al = true ↔ al0 = true ∧ ∀ i (h : i < l.length), i < t → l[i].1 ≠ l[i].2 → l[i].2 = x → l[i].1 ∈ Mv.dsts l rr
theorem RF.start {l : List (Int × Int)} {rr : List Nat} (_ : ∀ i ∈ rr, ∃ h : i < l.length, l[i].1 ≠ l[i].2) (used : List Bool) : RF l used rr 0 true used where
  us i h _ := by simp [Mv.dsts]
  al := by simp [Mv.dsts]
theorem RF.step {l : List (Int × Int)} {used : List Bool} {rr : List Nat} {m : Nat} {al al' : Bool} {us : List Bool} (ho : Mv.Once l) (h : RF l used rr m al us) (hm : m < rr.length) {j : Nat} (hj : j < l.length) (e : rr[m] = j) (hul : us.length = l.length) (hg : RG l rr l[j].1 al l.length al') :
    RF l used rr (m + 1) al' (us.set j true) := by
  have ht : Mv.dsts l (rr.take (m + 1)) = Mv.dsts l (rr.take m) ++ [l[j].1] := by
    rw [List.take_succ_eq_append_getElem hm, e, dsts_snoc _ _ hj]
  constructor
  · intro i hi hn
    rw [ht, List.mem_append, List.mem_singleton]
    have := h.us i hi hn
    by_cases hij : i = j
    · subst hij
      have : (us.set i true).getD i false = true := by simp [List.getD, hul, hi]
      rw [this]; simp
    · have e1 : (us.set j true).getD i false = us.getD i false := by simp only [List.getD, List.getElem?_set_ne (fun h => hij h.symm)]
      rw [e1, this]
      constructor
      · rintro (h1 | h1)
        · exact .inl h1
        · exact .inr (.inl h1)
      · rintro (h1 | h1 | h1)
        · exact .inl h1
        · exact .inr h1
        · exact absurd (Mv.once_inj ho hi hj h1) hij
  · unfold RG at hg
    rw [hg, h.al, ht]
    constructor
    · rintro ⟨h1, h2⟩ t ht hn hm
      rcases List.mem_append.1 hm with hm | hm
      · exact h1 t ht hn hm
      · simp at hm; exact h2 t ht ht hn hm
    · intro h1
      exact ⟨fun t ht hn hm => h1 t ht hn (List.mem_append.2 (.inl hm)), fun i hi _ hn hx => h1 i hi hn (List.mem_append.2 (.inr (by simp [hx])))⟩
theorem RG.start (l : List (Int × Int)) (rr : List Nat) (x : Int) (al : Bool) : RG l rr x al 0 al := by unfold RG; simp
theorem RG.step {l : List (Int × Int)} {rr : List Nat} {x : Int} {al0 al : Bool} {t : Nat} (h : RG l rr x al0 t al) (ht : t < l.length) : 
    ((l[t].1 ≠ l[t].2 → l[t].2 = x → l[t].1 ∈ Mv.dsts l rr) → RG l rr x al0 (t + 1) al) ∧ (¬ (l[t].1 ≠ l[t].2 → l[t].2 = x → l[t].1 ∈ Mv.dsts l rr) → RG l rr x al0 (t + 1) false) := by
  unfold RG at *
  constructor
  · intro hk
    rw [h]
    refine and_congr_right fun _ => ⟨fun h1 i hi hit hn hx => ?_, fun h1 i hi hit => h1 i hi (by omega)⟩
    by_cases e : i = t
    · subst e; exact hk hn hx
    · exact h1 i hi (by omega) hn hx
  · intro hk
    constructor
    · intro h; simp at h
    · rintro ⟨_, h1⟩; exact absurd (h1 t ht (by omega)) hk

set_option maxRecDepth 100000 in
set_option maxHeartbeats 8000000 in
theorem cyclesR_c {p : Nat → Prop} {v : Value} {l : List (Int × Int)} (w : World) (h0 : IsPairs p w v l) (hl : l.length ≤ 1000) {G : Mv.PF} {out : List (Int × Int)} (hd : Mv.Once l → Mv.FDone l G out) :
    Calls Try.prog 14 #[v] w (CycRP l G w) := by
  obtain ⟨a, cap, rfl, hlen, hx⟩ := id (h0.keep (p' := (· < w.heap.size)) (Keep.refl w fun _ _ hb => hb))
  rcases hx with rfl | ⟨b, off, rfl, hpb, hx⟩
  · go_enter Try.func14, Try.ntmps14
    go_wp2_with (at_make; refine stop_here ?_)
    refine stop_go (mk_bools rfl _ _ rfl 0 rfl rfl (by omega) ?_)
    have hB : Below w.heap.size w (w.alloc (.cells (bools (List.replicate 0 false)).toArray 4)) := bel_alloc (bel_refl w) _
    refine k_at (fun W => Below w.heap.size w W) hB ?_
    intro W0 hb0
    go_wp2_with fail
    go_loopg [5] 0 (fun g i wr => i = .int .i64 0 ∧ Below w.heap.size w wr)
    case atStart => exact ⟨rfl, hb0⟩
    case round =>
      obtain ⟨rfl, hb1⟩ := hrel
      go_wp2_with fail
      go_loopg [3, 7] 0 (fun g s3 i wr => s3 = .int .i64 0 ∧ i = .int .i64 0 ∧ Below w.heap.size w wr)
      case atStart => exact ⟨rfl, rfl, hb1⟩
      case round =>
        obtain ⟨rfl, rfl, hb2⟩ := hrel
        go_wp2_with fail
        go_ret
        exact ⟨hb2, 0, rfl, fun _ => rfl, fun _ => .nil⟩
  · have HX : Hid (∀ W, Below w.heap.size w W → ∀ j (hj : j < l.length), W.cell? ⟨b, off + j * 2, none⟩ = some (.int .i64 l[j].1) ∧ W.cell? ⟨b, off + j * 2 + 1, none⟩ = some (.int .i64 l[j].2)) := fun W hW j hj =>
      ⟨(hW.cell (p := ⟨b, off + j * 2, none⟩) hpb).trans (hx j hj).1, (hW.cell (p := ⟨b, off + j * 2 + 1, none⟩) hpb).trans (hx j hj).2⟩
    have HD : Hid (Mv.Once l → Mv.FDone l G out) := hd
    clear hx h0 hd
    go_enter Try.func14, Try.ntmps14
    go_wp2_with (at_make; refine stop_here ?_)
    refine stop_go (mk_bools rfl _ _ rfl l.length rfl rfl (by omega) ?_)
    obtain ⟨B, HB⟩ : ∃ B, Hid (w.heap.size = B) := ⟨w.heap.size, (rfl : w.heap.size = w.heap.size)⟩
    refine k_at (fun W => Row W B 4 (bools (List.replicate l.length false)) ∧ Below B w W) ⟨heap_alloc_eq _ _ _ HB.out.symm, by rw [← HB.out]; exact bel_alloc (bel_refl w) _⟩ ?_
    rintro W0 ⟨hr0, hb0⟩
    rw [HB.out] at HX hpb ⊢
    go_wp2_with fail
    go_loopg [5] l.length (fun g i wr => ∃ k : Nat, k + g = l.length ∧ i = .int .i64 k ∧ Hid (Mv.Once (l.take k)) ∧ Row wr B 4 (bools (List.replicate l.length false)) ∧ Below B w wr)
    case atStart => exact ⟨0, by omega, rfl, (by simp [Mv.Once] : Mv.Once (l.take 0)), hr0, hb0⟩
    case round =>
      obtain ⟨k, hk, rfl, hO, hR, hb⟩ := hrel
      clear hr0 hb0
      by_cases hlt : k < l.length
      · obtain ⟨⟨x, y⟩, HM⟩ : ∃ m, Hid (l[k] = m) := ⟨l[k], (rfl : l[k] = l[k])⟩
        have htk := List.take_succ_eq_append_getElem hlt
        rw [HM.out] at htk
        have HTK : Hid (l.take (k + 1) = l.take k ++ [(x, y)]) := htk
        clear htk
        go_wp2_with fail
        obtain ⟨go, hgo⟩ : ∃ go, go = gk := ⟨gk, rfl⟩
        go_loopg [6] k (fun g i wx => ∃ j : Nat, j + g = k ∧ i = .int .i64 j ∧ Hid (∀ i (hi : i < l.length), i < j → l[i].1 ≠ x) ∧ Row wx B 4 (bools (List.replicate l.length false)) ∧ Below B w wx)
        case atStart => exact ⟨0, by omega, rfl, (fun i _ hi => by omega), hR, hb⟩
        case round =>
          obtain ⟨j, hj, rfl, hP, hR2, hb2⟩ := hrel
          clear hR hb
          by_cases hjk : j < k
          · have t0 := (HX.out _ hb2 k hlt).1
            rw [HM.out] at t0
            dsimp only at t0
            have t1 := (HX.out _ hb2 j (by omega)).1
            obtain ⟨z, HZ⟩ : ∃ z, Hid ((l[j]'(by omega)).1 = z) := ⟨(l[j]'(by omega)).1, (rfl : (l[j]'(by omega)).1 = (l[j]'(by omega)).1)⟩
            rw [HZ.out] at t1
            by_cases he : z = x
            · have hd2 : (z == x) = true := by simpa using he
              have hno : ¬ Mv.Once l := fun ho => by
                have := Mv.once_inj ho (i := j) (j := k) (by omega) hlt (by rw [HZ.out, HM.out]; exact he)
                omega
              clear he
              go_wp2_with fail
              go_quiet (fail)
              go_wp2_with fail
              go_ret
              exact ⟨by rw [HB.out]; exact bel_drewB hb2 _, 0, rfl, fun _ => rfl, fun h => absurd h hno⟩
            · have hd2 : (z == x) = false := beq_eq_false_iff_ne.2 he
              have hP2 : Hid (∀ i (hi : i < l.length), i < j + 1 → l[i].1 ≠ x) := fun i hi hij => by
                by_cases e : i = j
                · subst e; rw [HZ.out]; exact he
                · exact hP.out i hi (by omega)
              clear he hP
              go_wp2_with fail
              go_quiet (fail)
              go_wp2_with fail
              go_roundg (gk - 1)
              case measure => omega
              case rel => exact ⟨j + 1, by omega, by go_num, hP2, hR2, bel_drewB hb2 _⟩
          · have hje : j = k := by omega
            have hO2 : Hid (Mv.Once (l.take (k + 1))) := by
              show Mv.Once _
              rw [HTK.out]
              refine hO.out.snoc fun hm => ?_
              obtain ⟨m, hm, e⟩ := List.mem_map.1 hm
              obtain ⟨i, hi, ei⟩ := List.mem_iff_getElem.1 hm
              rw [List.getElem_take] at ei
              have hil : i < k := by simp at hi; omega
              exact hP.out i (by omega) (by omega) (by rw [ei]; exact e)
            clear hP hO
            go_wp2_with fail
            go_roundg (go - 1)
            case measure => omega
            case rel => exact ⟨k + 1, by omega, by go_num, hO2, hR2, hb2⟩
      · have hke : k = l.length := by omega
        have hO2 := hO.out
        rw [hke, List.take_length] at hO2
        have HO : Hid (Mv.Once l) := hO2
        have HF : Hid (Mv.FDone l G out) := HD.out hO2
        have HR0 : Hid (Mv.RInv l G 0 (List.replicate l.length false) 0) := Mv.RInv.start l G
        clear hO hO2 hke HD
        go_wp2_with fail
        go_loopg [3, 7] l.length (fun g s3 i wr => ∃ (k n : Nat) (used : List Bool), k + g = l.length ∧ n ≤ k ∧ s3 = .int .i64 n ∧ i = .int .i64 k ∧ Row wr B 4 (bools used) ∧ Below B w wr ∧ used.length = l.length ∧ Hid (Mv.RInv l G k used n))
        case atStart => exact ⟨0, 0, _, by omega, by omega, rfl, rfl, hR, hb, by simp, HR0⟩
        case round =>
          obtain ⟨k, n, used, hk, hn, rfl, rfl, hR2, hb2, hul, hI⟩ := hrel
          clear hR hb HR0
          by_cases hlt : k < l.length
          · obtain ⟨⟨x, y⟩, HM⟩ : ∃ m, Hid (l[k] = m) := ⟨l[k], (rfl : l[k] = l[k])⟩
            obtain ⟨t0, t1⟩ := HX.out _ hb2 k hlt
            rw [HM.out] at t0 t1
            dsimp only at t0 t1
            obtain ⟨u, HU⟩ : ∃ u, Hid (used.getD k false = u) := ⟨_, (rfl : used.getD k false = used.getD k false)⟩
            have hku : k < used.length := by omega
            have c0 : wr.cell? ⟨B, k, none⟩ = some (.bool u) := hR2.cell (by rw [← HU.out]; simp [bools, List.getD, hku])
            have hlB := hR2.lt
            by_cases hxy : x = y
            · have hd2 : (x == y) = true := by simpa using hxy
              have hI2 : Hid (Mv.RInv l G (k + 1) used n) := hI.out.still hlt (by rw [HM.out]; exact hxy)
              clear hxy hI
              cases u with
              | true =>
                go_wp2_with fail
                go_quiet (fail)
                go_wp2_with fail
                go_roundg (gk - 1)
                case measure => omega
                case rel => exact ⟨k + 1, n, used, by omega, by omega, rfl, by go_num, hR2, bel_drewB hb2 _, hul, hI2⟩
              | false =>
                go_wp2_with fail
                go_quiet (fail)
                go_wp2_with fail
                go_roundg (gk - 1)
                case measure => omega
                case rel => exact ⟨k + 1, n, used, by omega, by omega, rfl, by go_num, hR2, bel_drewB hb2 _, hul, hI2⟩
            · have hd2 : (x == y) = false := beq_eq_false_iff_ne.2 hxy
              cases u with
              | true =>
                have hI2 : Hid (Mv.RInv l G (k + 1) used n) := hI.out.skipU hlt (by rw [HM.out]; exact hxy) HU.out
                clear hxy hI
                go_wp2_with fail
                go_quiet (fail)
                go_wp2_with fail
                go_roundg (gk - 1)
                case measure => omega
                case rel => exact ⟨k + 1, n, used, by omega, by omega, rfl, by go_num, hR2, bel_drewB hb2 _, hul, hI2⟩
              | false =>
                have HXY : Hid (l[k].1 ≠ l[k].2) := by rw [HM.out]; exact hxy
                have HUK : Hid (used.getD k false = false) := HU.out
                clear hxy HU
                go_wp2_with fail
                go_quiet (fail)
                have hR3 : Row (wr.drewN nq) B 4 (bools used) := hR2
                have hb3 : Below B w (wr.drewN nq) := bel_drewB hb2 _
                clear hR2 hb2 t0 t1 c0 hlB
                go_upto_block 6 with fail
                go_cut [8, 10] (fun s8 s10 wx => ∃ (rr : List Nat) (ok : Bool) (a8 : Option Addr) (c8 : Nat), s8 = .slice a8 rr.length c8 ∧ wx.ownsRow (B + 1) 3 1 (.slice a8 rr.length c8) rr.length (ints (rr.map fun i : Nat => (i : Int))) ∧ s10 = .bool ok ∧ Hid (DE l G x rr ok) ∧ Row wx B 4 (bools used) ∧ Below B w wx ∧ rr.length ≤ l.length)
                case first =>
                  generalize wr.drewN nq = W1 at hR3 hb3 ⊢
                  have hD0 : Hid (DI l G x [] (k : Int)) := ⟨fun i hi => by simp at hi, by simp [Mv.dsts], .inr ⟨k, hlt, rfl, HXY.out, by simp [Mv.dsts], by
                    have hf := Mv.from_at HO.out hlt HXY.out
                    rw [HM.out] at hf ⊢
                    exact .one hf⟩⟩
                  go_wp2_with fail
                  go_loopg [8, 9, 10] (l.length + 1) (fun g s8 s9 s10 wr => ∃ (rr : List Nat) (kk : Int) (a8 : Option Addr) (c8 : Nat), s8 = .slice a8 rr.length c8 ∧ s9 = .int .i64 kk ∧ s10 = .bool false ∧ wr.ownsRow (B + 1) 3 1 (.slice a8 rr.length c8) rr.length (ints (rr.map fun i : Nat => (i : Int))) ∧ Row wr B 4 (bools used) ∧ Below B w wr ∧ Hid (DI l G x rr kk) ∧ rr.length + g = l.length + 1)
                  case atStart => exact ⟨[], _, none, 0, rfl, rfl, rfl, World.ownsRow_nil _ _ _ _, hR3, hb3, hD0, by simp⟩
                  case round =>
                    obtain ⟨rr, kk, a8, c8, rfl, rfl, rfl, ho, hR4, hb4, hDI, hg⟩ := hrel
                    clear hR3 hb3 hD0
                    have hrl := hDI.out.rlen
                    have hRl := hR4.lt
                    rcases hDI.out.2.2 with ⟨rfl, hGx⟩ | ⟨j, hj, rfl, -⟩
                    · have hDE : Hid (DE l G x rr false) := ⟨hDI.out.1, hDI.out.2.1, fun h => by simp at h, fun _ => hGx⟩
                      clear hDI hGx
                      go_wp2_with fail
                      go_meet
                      exact ⟨rr, false, a8, c8, rfl, ho, rfl, hDE, hR4, hb4, hrl⟩
                    · obtain ⟨hj', h1, h2, h3⟩ := hDI.out.push
                      have hDP : Hid ((∀ i ∈ rr ++ [j], ∃ h : i < l.length, l[i].1 ≠ l[i].2) ∧ (Mv.dsts l (rr ++ [j])).Nodup) := ⟨h1, h2⟩
                      have hDL : Hid ((rr ++ [j]).length ≤ l.length) := (DI.rlen (x := x) (G := fun _ => none) (kk := -1) ⟨h1, h2, .inl ⟨rfl, rfl⟩⟩ : _ ≤ _)
                      obtain ⟨q, HQ⟩ : ∃ q, Hid (l[j].2 = q) := ⟨l[j].2, (rfl : l[j].2 = l[j].2)⟩
                      rw [HQ.out] at h3
                      have HP3 : Hid (Mv.Path (Mv.fromS l) x (Mv.dsts l (rr ++ [j])) q) := h3
                      have hjp : decide ((j : Int) ≥ 0) = true := by simp
                      have HRI : Hid (ints ((rr ++ [j]).map fun i : Nat => (i : Int)) = ints ((rr.map fun i : Nat => (i : Int)) ++ [(j : Int)])) := by show _ = _; simp
                      have ho' : wr.ownsRow (B + 1) 3 1 (.slice a8 rr.length c8) (rr.map fun i : Nat => (i : Int)).length (ints (rr.map fun i : Nat => (i : Int))) := by simpa using ho
                      clear h1 h2 h3 hDI ho
                      go_wp2_with (at_builtin; refine stop_here ?_)
                      refine stop_go (app_int rfl _ _ rfl (B + 1) _ (rr.map fun i : Nat => (i : Int)) rfl (owns_keep ho' fun b hb => Below.heap_alloc _ _ _ (ho'.lt b hb).2) _ (j : Int) rfl (heap_alloc_eq _ _ _ rfl) (by simp; omega) (by simp; omega) ?_)
                      intro v' w' ho5 hg5 _
                      have hk5 : w'.heap[B]? = wr.heap[B]? := (hg5.block B (by simp; omega) (fun e => by have := (ho'.lt B e.symm).1; omega)).trans (Below.heap_alloc _ _ _ hRl)
                      have hR5 := hR4.keep hk5
                      have hb5 : Below B w w' := (hb4.alloc (by omega) _).grown hg5 (by simp; omega) (fun k hk => by have := (ho'.lt k hk).1; omega)
                      rw [← HRI.out] at ho5
                      have hl5 : ((rr.map fun i : Nat => (i : Int)) ++ [(j : Int)]).length = (rr ++ [j]).length := by simp
                      rw [hl5] at ho5
                      obtain ⟨rr', HRR⟩ : ∃ rr', Hid (rr ++ [j] = rr') := ⟨_, (rfl : rr ++ [j] = rr ++ [j])⟩
                      have hl6 : (rr ++ [j]).length = rr.length + 1 := by simp
                      rw [HRR.out] at ho5 hDP hDL HP3 hl6
                      obtain ⟨a9, c9, rfl⟩ : ∃ a c, v' = .slice a rr'.length c := by
                        rcases owns_nilcase ho5 with ⟨_, h2, _⟩ | ⟨g, c, h2⟩
                        · omega
                        · exact ⟨_, c, h2⟩
                      have hrr : rr'.length + (gk - 1) = l.length + 1 ∧ 1 ≤ gk ∧ rr'.length ≤ l.length := by have := hDL.out; omega
                      have HJ2 : Hid (∀ W, Below B w W → W.cell? ⟨b, off + j * 2 + 1, none⟩ = some (.int .i64 q)) := fun W hW => by rw [← HQ.out]; exact (HX.out W hW j hj).2
                      clear hg5 hk5 hR4 hb4 ho' HRI hl5 hl6 HRR HQ hg hrl hj'
                      go_wp2_with fail
                      obtain ⟨go, hgo⟩ : ∃ go, go = gk := ⟨gk, rfl⟩
                      go_loopg [11, 12] l.length (fun g s11 s12 wr => ∃ m : Nat, m + g = l.length ∧ s12 = .int .i64 m ∧ s11 = .int .i64 (Mv.nextS l q m) ∧ wr.ownsRow (B + 1) 3 1 (.slice a9 rr'.length c9) rr'.length (ints (rr'.map fun i : Nat => (i : Int))) ∧ Row wr B 4 (bools used) ∧ Below B w wr)
                      case atStart => exact ⟨0, by omega, rfl, rfl, ho5, hR5, hb5⟩
                      case round =>
                        obtain ⟨m, hm, rfl, rfl, ho6, hR6, hb6⟩ := hrel
                        clear ho5 hR5 hb5
                        by_cases hmt : m < l.length
                        · obtain ⟨t0, t1⟩ := HX.out _ hb6 m hmt
                          have t2 := HJ2.out _ hb6
                          have hgm : l.getD m (0, 0) = l[m] := by simp [List.getD, hmt]
                          have hns : Mv.nextS l q (m + 1) = if l[m].1 = q ∧ l[m].1 ≠ l[m].2 then (m : Int) else Mv.nextS l q m := by rw [← hgm]; rfl
                          obtain ⟨⟨z, zz⟩, HZ⟩ : ∃ m', Hid (l[m] = m') := ⟨l[m], (rfl : l[m] = l[m])⟩
                          rw [HZ.out] at t0 t1 hns
                          dsimp only at t0 t1 hns
                          have HNS : Hid (Mv.nextS l q (m + 1) = if z = q ∧ z ≠ zz then (m : Int) else Mv.nextS l q m) := hns
                          obtain ⟨nx, HNX⟩ : ∃ nx, Hid (Mv.nextS l q m = nx) := ⟨_, (rfl : Mv.nextS l q m = Mv.nextS l q m)⟩
                          rw [HNX.out] at HNS ⊢
                          clear hns hgm
                          by_cases e1 : z = q
                          · have d1 : (z == q) = true := by simpa using e1
                            by_cases e2 : z = zz
                            · have d2 : (z != zz) = false := by simp [e2]
                              have HN2 : Hid (Mv.nextS l q (m + 1) = nx) := by have := HNS.out; rw [if_neg (fun h => h.2 e2)] at this; exact this
                              clear e1 e2 HNS
                              go_wp2_with fail
                              go_quiet (fail)
                              go_wp2_with fail
                              go_roundg (gk - 1)
                              case measure => omega
                              case rel => exact ⟨m + 1, by omega, by go_num, by rw [HN2.out], ho6, hR6, bel_drewB hb6 _⟩
                            · have d2 : (z != zz) = true := by simpa using e2
                              have HN2 : Hid (Mv.nextS l q (m + 1) = (m : Int)) := by have := HNS.out; rw [if_pos ⟨e1, e2⟩] at this; exact this
                              clear e1 e2 HNS
                              go_wp2_with fail
                              go_quiet (fail)
                              go_wp2_with fail
                              go_roundg (gk - 1)
                              case measure => omega
                              case rel => exact ⟨m + 1, by omega, by go_num, by rw [HN2.out], ho6, hR6, bel_drewB hb6 _⟩
                          · have d1 : (z == q) = false := beq_eq_false_iff_ne.2 e1
                            have HN2 : Hid (Mv.nextS l q (m + 1) = nx) := by have := HNS.out; rw [if_neg (fun h => e1 h.1)] at this; exact this
                            clear e1 HNS
                            go_wp2_with fail
                            go_quiet (fail)
                            go_wp2_with fail
                            go_roundg (gk - 1)
                            case measure => omega
                            case rel => exact ⟨m + 1, by omega, by go_num, by rw [HN2.out], ho6, hR6, bel_drewB hb6 _⟩
                        · have hme : m = l.length := by omega
                          rw [hme]
                          have hni := next_is (q := q) HO.out hlt HXY.out
                          rw [HM.out] at hni
                          dsimp only at hni
                          have hnx := DI.next HO.out HF.out hDP.out.1 hDP.out.2 HP3.out
                          have his : IsInts (fun _ => True) wr (.slice a9 rr'.length c9) (rr'.map fun i : Nat => (i : Int)) := by
                            have h9 := ints_of_owns (p := fun _ => True) (w := wr) (base := B + 1) (e := 3) (v := .slice a9 rr'.length c9) (xs := rr'.map fun i : Nat => (i : Int)) (by simpa using ho6) (by simp; omega) (fun _ _ _ _ => trivial)
                            exact h9
                          obtain ⟨nx, HNX⟩ : ∃ nx, Hid (Mv.nextS l q l.length = nx) := ⟨_, (rfl : Mv.nextS l q l.length = Mv.nextS l q l.length)⟩
                          rw [HNX.out] at hni hnx ⊢
                          have hdm : decide ((l.length : Int) < (l.length : Int)) = false := by simp
                          clear hme HNX
                          by_cases hq : q = x
                          · have hnk : nx = (k : Int) := hni.2 hq
                            have hDE : Hid (DE l G x rr' true) := ⟨hDP.out.1, hDP.out.2, fun _ => by have := HP3.out; rw [hq] at this; exact this, fun h => by simp at h⟩
                            subst hnk
                            clear hni hnx hq
                            go_wp2_with fail
                            go_meet
                            exact ⟨rr', true, a9, c9, rfl, ho6, rfl, hDE, hR6, hb6, by omega⟩
                          · have hnk : (nx == (k : Int)) = false := beq_eq_false_iff_ne.2 fun e => hq (hni.1 e)
                            have hnx := hnx hq
                            cases hin : inS (rr'.map fun i : Nat => (i : Int)) nx with
                            | true =>
                              have hDE : Hid (DE l G x rr' false) := hnx.1 hin
                              have HIN : Hid (inS (rr'.map fun i : Nat => (i : Int)) nx = true) := hin
                              clear hni hnx hq hin
                              go_wp2_with fail
                              refine (in_c wr (n := nx) his).mono ?_
                              rintro e w8 ⟨rfl, rfl⟩
                              rw [HIN.out]
                              go_wp2_with fail
                              go_meet
                              exact ⟨rr', false, a9, c9, rfl, ho6, rfl, hDE, hR6, hb6, by omega⟩
                            | false =>
                              have hDI2 : Hid (DI l G x rr' nx) := hnx.2 hin
                              have HIN : Hid (inS (rr'.map fun i : Nat => (i : Int)) nx = false) := hin
                              clear hni hnx hq hin
                              go_wp2_with fail
                              refine (in_c wr (n := nx) his).mono ?_
                              rintro e w8 ⟨rfl, rfl⟩
                              rw [HIN.out]
                              go_wp2_with fail
                              go_roundg (go - 1)
                              case measure => omega
                              case rel => exact ⟨rr', nx, a9, c9, rfl, rfl, rfl, ho6, hR6, hb6, hDI2, by omega⟩
                case rest =>
                  obtain ⟨rr, ok, a8, c8, rfl, ho, rfl, hDE, hR4, hb4, hrl⟩ := hcut
                  clear hR3 hb3
                  cases ok with
                  | false =>
                    have hI2 : Hid (Mv.RInv l G (k + 1) used n) := hI.out.none hlt HXY.out (by rw [HM.out]; exact hDE.out.2.2.2 rfl)
                    clear hI hDE
                    go_wp2_with fail
                    go_roundg (gk - 1)
                    case measure => omega
                    case rel => exact ⟨k + 1, n, used, by omega, by omega, rfl, by go_num, hR4, hb4, hul, hI2⟩
                  | true =>
                    go_wp2_with fail
                    obtain ⟨go, hgo⟩ : ∃ go, go = gk := ⟨gk, rfl⟩
                    go_loopg [14, 15] rr.length (fun g s14 s15 wr => ∃ (m : Nat) (al : Bool) (us : List Bool), m + g = rr.length ∧ s15 = .int .i64 m ∧ s14 = .bool al ∧ wr.ownsRow (B + 1) 3 1 (.slice a8 rr.length c8) rr.length (ints (rr.map fun i : Nat => (i : Int))) ∧ Row wr B 4 (bools us) ∧ Below B w wr ∧ us.length = l.length ∧ Hid (RF l used rr m al us))
                    case atStart => exact ⟨0, true, used, by omega, rfl, rfl, ho, hR4, hb4, hul, RF.start hDE.out.1 used⟩
                    case round =>
                      obtain ⟨m, al, us, hm, rfl, rfl, ho5, hR5, hb5, hus, hF⟩ := hrel
                      clear ho hR4 hb4
                      have hRl := hR5.lt
                      by_cases hmt : m < rr.length
                      · obtain ⟨g8, rfl⟩ : ∃ g8, a8 = some ⟨g8, 0, none⟩ := by
                          rcases owns_nilcase ho5 with ⟨_, h2, _⟩ | ⟨g, c, h2⟩
                          · omega
                          · simp at h2; exact ⟨g, h2.1⟩
                        obtain ⟨hj, hjn⟩ := hDE.out.1 rr[m] (List.getElem_mem hmt)
                        obtain ⟨j, HJ⟩ : ∃ j, Hid (rr[m] = j) := ⟨rr[m], (rfl : rr[m] = rr[m])⟩
                        have r0 : wr.cell? ⟨g8, m, none⟩ = some (.int .i64 (j : Int)) := by
                          have := ho5.cellAt m (by omega)
                          rw [this, ← HJ.out]; simp [ints, hmt]
                        have hjl : j < l.length := by rw [← HJ.out]; exact hj
                        have hju : j < us.length := by omega
                        have c1 := hR5.cell (k := j) (v := .bool us[j]) (by simp [bools, hju])
                        have f1 := hR5.frozen j
                        have hR6 := hR5.set j (.bool true)
                        rw [bools_set] at hR6
                        have hb6 := hb5.setCell (p := ⟨B, j, none⟩) (Nat.le_refl _) (.bool true)
                        have hg8 := (ho5.lt g8 rfl).1
                        have ho6 : (wr.setCell ⟨B, j, none⟩ (.bool true)).ownsRow (B + 1) 3 1 (.slice (some ⟨g8, 0, none⟩) rr.length c8) rr.length (ints (rr.map fun i : Nat => (i : Int))) := owns_keep ho5 fun b hb => Below.heap_setCell _ _ _ _ (by have := (ho5.lt b hb).1; show b ≠ B; omega)
                        have hsz6 : B < (wr.setCell ⟨B, j, none⟩ (.bool true)).heap.size := hR6.lt
                        clear hj hjn ho5
                        go_wp2_with fail
                        refine wp_at (fun W => Row W B 4 (bools (us.set j true)) ∧ Below B w W ∧ W.ownsRow (B + 1) 3 1 (.slice (some ⟨g8, 0, none⟩) rr.length c8) rr.length (ints (rr.map fun i : Nat => (i : Int)))) ⟨hR6, hb6, ho6⟩ ?_
                        rintro W7 ⟨hR7, hb7, ho7⟩
                        clear hR5 hR6 hb5 hb6 ho6 hsz6 c1 f1 r0
                        obtain ⟨xj, HXJ⟩ : ∃ xj, Hid ((l[j]'hjl).1 = xj) := ⟨(l[j]'hjl).1, (rfl : (l[j]'hjl).1 = (l[j]'hjl).1)⟩
                        have HG0 : Hid (RG l rr xj al 0 al) := RG.start l rr xj al
                        obtain ⟨gf, hgf⟩ : ∃ gf, gf = gk := ⟨gk, rfl⟩
                        go_wp2_with fail
                        go_loopg [14, 16] l.length (fun g s14 s16 wr => ∃ (t : Nat) (al' : Bool), t + g = l.length ∧ s16 = .int .i64 t ∧ s14 = .bool al' ∧ Hid (RG l rr xj al t al') ∧ Row wr B 4 (bools (us.set j true)) ∧ Below B w wr ∧ wr.ownsRow (B + 1) 3 1 (.slice (some ⟨g8, 0, none⟩) rr.length c8) rr.length (ints (rr.map fun i : Nat => (i : Int))))
                        case atStart => exact ⟨0, al, by omega, rfl, rfl, HG0, hR7, hb7, ho7⟩
                        case round =>
                          obtain ⟨t, al', ht, rfl, rfl, hG, hR8, hb8, ho8⟩ := hrel
                          clear hR7 hb7 ho7 HG0
                          by_cases htl : t < l.length
                          · have his : IsInts (fun _ => True) wr (.slice (some ⟨g8, 0, none⟩) rr.length c8) (rr.map fun i : Nat => (i : Int)) := by
                              have h9 := ints_of_owns (p := fun _ => True) (w := wr) (base := B + 1) (e := 3) (v := .slice (some ⟨g8, 0, none⟩) rr.length c8) (xs := rr.map fun i : Nat => (i : Int)) (by simpa using ho8) (by simp; omega) (fun _ _ _ _ => trivial)
                              exact h9
                            obtain ⟨t0, t1⟩ := HX.out _ hb8 t htl
                            have t2 := (HX.out _ hb8 j hjl).1
                            rw [HXJ.out] at t2
                            have r0 : wr.cell? ⟨g8, m, none⟩ = some (.int .i64 (j : Int)) := by
                              have := ho8.cellAt m (by omega)
                              rw [this, ← HJ.out]; simp [ints, hmt]
                            have hst := hG.out.step htl
                            have hmem : l[t].1 ≠ l[t].2 → (inS (rr.map fun i : Nat => (i : Int)) (t : Int) = true ↔ l[t].1 ∈ Mv.dsts l rr) := fun hn => by
                              rw [dsts_mem hDE.out.1]
                              unfold inS
                              simp only [decide_eq_true_eq, List.mem_map]
                              constructor
                              · rintro ⟨i, hi, e⟩
                                have : i = t := by omega
                                subst this; exact ⟨i, htl, hi, rfl⟩
                              · rintro ⟨i, hil, hi, e⟩
                                have := Mv.once_inj HO.out hil htl e
                                subst this; exact ⟨i, hi, rfl⟩
                            obtain ⟨⟨z, zz⟩, HZ⟩ : ∃ m', Hid (l[t] = m') := ⟨l[t], (rfl : l[t] = l[t])⟩
                            rw [HZ.out] at t0 t1 hst hmem
                            dsimp only at t0 t1 hst hmem
                            cases hin : inS (rr.map fun i : Nat => (i : Int)) (t : Int) with
                            | true =>
                              have hG2 : Hid (RG l rr xj al (t + 1) al') := hst.1 fun hn _ => (hmem hn).1 hin
                              have HIN : Hid (inS (rr.map fun i : Nat => (i : Int)) (t : Int) = true) := hin
                              clear hst hmem hin hG
                              go_wp2_with fail
                              refine (in_c wr (n := (t : Int)) his).mono ?_
                              rintro e w8 ⟨rfl, rfl⟩
                              rw [HIN.out]
                              go_wp2_with fail
                              go_quiet (fail)
                              go_wp2_with fail
                              go_roundg (gk - 1)
                              case measure => omega
                              case rel => exact ⟨t + 1, al', by omega, by go_num, rfl, hG2, hR8, bel_drewB hb8 _, ho8⟩
                            | false =>
                              have HIN : Hid (inS (rr.map fun i : Nat => (i : Int)) (t : Int) = false) := hin
                              by_cases hzz : z = zz
                              · have d1 : (z != zz) = false := by simp [hzz]
                                have hG2 : Hid (RG l rr xj al (t + 1) al') := hst.1 fun hn _ => absurd hzz hn
                                clear hst hmem hin hG hzz
                                go_wp2_with fail
                                refine (in_c wr (n := (t : Int)) his).mono ?_
                                rintro e w8 ⟨rfl, rfl⟩
                                rw [HIN.out]
                                go_wp2_with fail
                                go_quiet (fail)
                                go_wp2_with fail
                                go_roundg (gk - 1)
                                case measure => omega
                                case rel => exact ⟨t + 1, al', by omega, by go_num, rfl, hG2, hR8, bel_drewB hb8 _, ho8⟩
                              · have d1 : (z != zz) = true := by simpa using hzz
                                have hnm : z ∉ Mv.dsts l rr := fun h => by rw [(hmem hzz).2 h] at hin; simp at hin
                                by_cases hzx : zz = xj
                                · have d2 : (zz == xj) = true := by simpa using hzx
                                  have hG2 : Hid (RG l rr xj al (t + 1) false) := hst.2 fun h => hnm (h hzz hzx)
                                  clear hst hmem hin hG hzz hzx hnm
                                  go_wp2_with fail
                                  refine (in_c wr (n := (t : Int)) his).mono ?_
                                  rintro e w8 ⟨rfl, rfl⟩
                                  rw [HIN.out]
                                  go_wp2_with fail
                                  go_quiet (fail)
                                  go_wp2_with fail
                                  go_roundg (gk - 1)
                                  case measure => omega
                                  case rel => exact ⟨t + 1, false, by omega, by go_num, rfl, hG2, hR8, bel_drewB hb8 _, ho8⟩
                                · have d2 : (zz == xj) = false := beq_eq_false_iff_ne.2 hzx
                                  have hG2 : Hid (RG l rr xj al (t + 1) al') := hst.1 fun _ h => absurd h hzx
                                  clear hst hmem hin hG hzz hzx hnm
                                  go_wp2_with fail
                                  refine (in_c wr (n := (t : Int)) his).mono ?_
                                  rintro e w8 ⟨rfl, rfl⟩
                                  rw [HIN.out]
                                  go_wp2_with fail
                                  go_quiet (fail)
                                  go_wp2_with fail
                                  go_roundg (gk - 1)
                                  case measure => omega
                                  case rel => exact ⟨t + 1, al', by omega, by go_num, rfl, hG2, hR8, bel_drewB hb8 _, ho8⟩
                          · have hte : t = l.length := by omega
                            have hG1 := hG.out
                            rw [hte, ← HXJ.out] at hG1
                            have hF2 : Hid (RF l used rr (m + 1) al' (us.set j true)) := hF.out.step HO.out hmt hjl HJ.out hus hG1
                            clear hG hG1 hte hF
                            go_wp2_with fail
                            go_roundg (gf - 1)
                            case measure => omega
                            case rel => exact ⟨m + 1, al', us.set j true, by omega, by go_num, rfl, ho8, hR8, hb8, by simpa using hus, hF2⟩
                      · have hme : m = rr.length := by omega
                        have hF2 := hF.out
                        rw [hme] at hF2
                        have h1 := hF2.us
                        have h2 := hF2.al
                        rw [List.take_length] at h1 h2
                        have hPx := hDE.out.2.2.1 rfl
                        have hxk : l[k].1 = x := by rw [HM.out]
                        have hI2 := hI.out.ring HO.out HF.out hlt HXY.out HUK.out (by rw [hxk]; exact hPx) hus h1 h2
                        cases al with
                        | true =>
                          have HI2 : Hid (Mv.RInv l G (k + 1) us (n + 1)) := hI2
                          clear hI hI2 hF hF2 h1 h2 hPx hxk hme
                          go_wp2_with fail
                          go_roundg (go - 1)
                          case measure => omega
                          case rel => exact ⟨k + 1, n + 1, us, by omega, by omega, by go_num, by go_num, hR5, hb5, hus, HI2⟩
                        | false =>
                          have HI2 : Hid (Mv.RInv l G (k + 1) us n) := hI2
                          clear hI hI2 hF hF2 h1 h2 hPx hxk hme
                          go_wp2_with fail
                          go_roundg (go - 1)
                          case measure => omega
                          case rel => exact ⟨k + 1, n, us, by omega, by omega, rfl, by go_num, hR5, hb5, hus, HI2⟩
          · have hke : k = l.length := by omega
            have hc := hI.out.cnt
            rw [hke, List.take_length] at hc
            have HC : Hid (Mv.Cnt G (Mv.ordS l) n) := hc
            clear hc hI hke
            go_wp2_with fail
            go_ret
            exact ⟨by rw [HB.out]; exact hb2, n, rfl, fun h => absurd HO.out h, fun _ => HC.out⟩
end Go.Proofs.Ytjgnailkfmgikaa
