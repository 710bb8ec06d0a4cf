/- 'LiveLoop': the walk. -/
import Derived.Test.YtcihobmjohpnkaaLoopP
import Derived.Test.YtcihobmjohpnkaaLiveUses
namespace Go.Proofs.Ytcihobmjohpnkaa
open Go.RowKit Go.Sort

theorem BlkOwn.other {B : Nat} {Ls : List (List InsD)} {vo : Value} {vals : List Value} {W : World} (h : BlkOwn B Ls vo vals W) {a : Addr} (ha : a.block < B) (u : Value) : BlkOwn B Ls vo vals (W.setCell a u) := by
  refine ⟨h.own.kept (World.ownsRow.kept_set a u) ?_, h.len, fun j hj => (h.el j hj).keep (Keep.setCell fun b hb _ => ⟨hb, fun e => by have := hb.1; omega⟩)⟩
  cases hob : vo.ownBlock with
  | none => exact .inl rfl
  | some b => exact .inr fun e => by have := (h.own.lt b hob).1; simp at e; omega
theorem insL_one {W : World} {g : Nat} {p : Nat → Prop} {i : InsD} (h : Row W g 36 (insC i)) (ha : i.args = []) (hp : p g) : IsInsL p W (.slice (some ⟨g, 0, none⟩) 1 1) [i] := by
  have h6 : IsInts p W (.slice none 0 0) i.args := by rw [ha]; exact ints_nil _ _
  refine ⟨_, 1, rfl, ⟨by simp, by simp⟩, .inr ⟨g, 0, rfl, hp, fun j hj => ?_⟩⟩
  have : j = 0 := by simpa using hj
  subst this
  exact ⟨h.cell (k := 0) rfl, h.cell (k := 1) rfl, h.cell (k := 2) rfl, h.cell (k := 3) rfl, h.cell (k := 4) rfl, h.cell (k := 5) rfl, ⟨_, h.cell (k := 6) rfl, h6⟩, h.cell (k := 7) rfl, h.cell (k := 8) rfl⟩

/-- What a round has in memory: the function's box, and the blocks made so far. -/
structure LpSt (w : World) (g : Nat) (Ls : List (List InsD)) (vo : Value) (vals : List Value) (W : World) : Prop where
  hg : w.heap.size ≤ g
  fb : Row W g 44 [.string ⟨#[]⟩, .slice none 0 0, .slice none 0 0, .string ⟨#[]⟩, vo]
  bl : BlkOwn (g + 1) Ls vo vals W
  bel : Below w.heap.size w W
theorem LpSt.step {w : World} {g : Nat} {Ls : List (List InsD)} {vo v' u : Value} {vals : List Value} {W W1 w' : World} {l : List InsD} (h : LpSt w g Ls vo vals W) (hb : Below W.heap.size W W1)
    (hr : IsInsL (fun b => W.heap.size ≤ b ∧ b < W1.heap.size) W1 u l)
    (ho : w'.ownsRow (g + 1) 40 1 v' (vals ++ [u]).length (vals ++ [u])) (hgr : W1.grownBy w' vo.ownBlock) (hv : v'.ownBlock = vo.ownBlock ∨ v'.ownBlock = some W1.heap.size) :
    LpSt w g (Ls ++ [l]) v' (vals ++ [u]) (w'.setCell ⟨g, 4, none⟩ v') := by
  have hg := h.hg
  have hgl := h.fb.lt
  have hsz := hb.size
  have hb1 := bel_grown (bel_call h.bel hb) hgr (fun b e => by have := (h.bl.own.lt b e).1; omega)
  refine ⟨hg, ?_, (h.bl.snoc (by omega) hb hr ho hgr hv).other (by show g < g + 1; omega) v', hb1.setCell (by show w.heap.size ≤ g; omega) v'⟩
  exact ((h.fb.keep (hb.block g hgl)).keep (hgr.block g (by omega) (fun e => by have := (h.bl.own.lt g e.symm).1; omega))).set 4 v'

set_option maxRecDepth 100000 in
set_option maxHeartbeats 20000000 in
theorem liveLoop_c (w : World) (n at' : Int) : Calls Try.prog 8 #[.int .i64 n, .int .i64 at'] w fun e w' => e = .returned (.bool true) ∧ Below w.heap.size w w' := by
  have HAL := hid_of (alive17_c w)
  by_cases h1 : n < 2
  · have d1 : decide (n < 2) = true := by simpa using h1
    go_enter Try.func8, Try.ntmps8
    go_wp2_with fail
    refine HAL.out.mono ?_
    rintro e W ⟨rfl, hb⟩
    go_wp2_with fail
    go_ret
    exact ⟨rfl, hb⟩
  have d1 : decide (n < 2) = false := by simpa using h1
  by_cases h2 : n > 40
  · have d2 : decide (n > 40) = true := by simpa using h2
    have d2' : decide (40 < n) = true := by simpa using h2
    go_enter Try.func8, Try.ntmps8
    go_wp2_with fail
    refine HAL.out.mono ?_
    rintro e W ⟨rfl, hb⟩
    go_wp2_with fail
    go_ret
    exact ⟨rfl, hb⟩
  have d2 : decide (n > 40) = false := by simpa using h2
  have d2' : decide (40 < n) = false := by simpa using h2
  by_cases h3 : at' < 0
  · have d3 : decide (at' < 0) = true := by simpa using h3
    go_enter Try.func8, Try.ntmps8
    go_wp2_with fail
    refine HAL.out.mono ?_
    rintro e W ⟨rfl, hb⟩
    go_wp2_with fail
    go_ret
    exact ⟨rfl, hb⟩
  have d3 : decide (at' < 0) = false := by simpa using h3
  by_cases h4 : n ≤ at'
  · have d4 : decide (at' ≥ n) = true := by simpa using h4
    have d4' : decide (n ≤ at') = true := by simpa using h4
    go_enter Try.func8, Try.ntmps8
    go_wp2_with fail
    refine HAL.out.mono ?_
    rintro e W ⟨rfl, hb⟩
    go_wp2_with fail
    go_ret
    exact ⟨rfl, hb⟩
  obtain ⟨nn, rfl⟩ : ∃ nn : Nat, n = nn := ⟨n.toNat, by omega⟩
  obtain ⟨aa, rfl⟩ : ∃ aa : Nat, at' = aa := ⟨at'.toNat, by omega⟩
  have e1 : decide (nn < 2) = false := by simp; omega
  have e2 : decide ((nn : Int) > 40) = false := by simp; omega
  have e2' : decide (40 < nn) = false := by simp; omega
  have e4 : decide ((aa : Int) ≥ (nn : Int)) = false := by simp; omega
  have e4' : decide ((nn : Int) ≤ (aa : Int)) = false := by simp; omega
  have e4'' : decide (nn ≤ aa) = false := by simp; omega
  have hn2 : 2 ≤ nn := by omega
  have hn40 : nn ≤ 40 := by omega
  have haa : aa < nn := by omega
  have hz : ((nn : Int) == 0) = false := beq_eq_false_iff_ne.2 (by omega)
  clear h1 h2 h3 h4
  go_enter Try.func8, Try.ntmps8
  go_wp2_with fail
  refine HAL.out.mono ?_
  rintro e W0 ⟨rfl, hb0⟩
  have hS0 : LpSt w W0.heap.size [] (.slice none 0 0) [] (W0.alloc (.cells #[.string ⟨#[]⟩, .slice none 0 0, .slice none 0 0, .string ⟨#[]⟩, .slice none 0 0] 44)) := ⟨hb0.size, heap_alloc_eq _ _ _ rfl, BlkOwn.nil _ _, bel_alloc hb0 _⟩
  have HS0 := hid_of hS0
  clear HAL hS0 d1 d2 d2' d3
  obtain ⟨g, Hg⟩ : ∃ g, Hid (W0.heap.size = g) := ⟨_, (rfl : W0.heap.size = _)⟩
  go_wp2_with fail
  go_loopw [7] (fun s7 wx => ∃ (k : Nat) (vo : Value) (vals : List Value), k ≤ nn ∧ s7 = .int .i64 k ∧ vals.length = k ∧ LpSt w W0.heap.size (ringP nn aa k) vo vals wx) (fun s7 _ => nn - (intOf s7).toNat)
  case atStart => exact ⟨0, _, [], by omega, rfl, rfl, HS0.out⟩
  case round =>
    obtain ⟨k, vo, vals, hk, rfl, hvl, hI⟩ := hrel
    clear HS0
    have HI := hid_of hI
    have HV := hid_of hvl
    have hg0 := hI.hg
    have hgl := hI.fb.lt
    obtain ⟨oa, oc, rfl, -⟩ := owns_slice hI.bl.own
    rw [hvl] at HI hI
    have c4 := hI.fb.cell (k := 4) (v := .slice oa k oc) rfl
    have f4 := hI.fb.frozen 4
    by_cases hlt : k < nn
    · have hap : (vals.length + 1) * 24 ≤ 140737488355328 := by omega
      have ham : vals.length + 1 ≤ maxLen := by unfold maxLen; omega
      have HAP := hid_of (And.intro hap ham)
      have hmod : ((k : Int) + 1).tmod (nn : Int) = (((k + 1) % nn : Nat) : Int) := by rw [Int.tmod_eq_emod_of_nonneg (by omega)]; push_cast; rfl
      have hmw : IntKind.i64.wrap (((k : Int) + 1).tmod (nn : Int)) = (((k + 1) % nn : Nat) : Int) := by
        have : (k + 1) % nn < nn := Nat.mod_lt _ (by omega)
        rw [hmod, IntKind.wrap_i64]; omega
      have hE0 : (wr.alloc (.cells #[] 36)).ownsRow wr.heap.size 36 9 (.slice (some ⟨wr.heap.size, 0, none⟩) 0 0) ([] : List InsD).length (insCs []) := owns_new rfl (Nat.le_refl _) (by unfold maxLen; omega) rfl rfl rfl
      have HE0 := hid_of hE0
      have hbE := hid_of (bel_alloc (bel_refl wr) (.cells #[] 36))
      clear hI hap ham hvl hE0 hmod
      by_cases hka : k = aa
      · have hbk : ((k : Int) == (aa : Int)) = true := by simp [hka]
        have hbk' : (k == aa) = true := by simp [hka]
        have HKA := hid_of hka
        clear hka
        by_cases hk0 : k = 0
        · have hb0 : ((k : Int) == 0) = true := by simp [hk0]
          have HK0 := hid_of hk0
          clear hk0
          go_wp2_with (at_builtin; refine stop_here ?_)
          refine stop_go (app_ins rfl _ _ rfl wr.heap.size _ [] rfl (HE0.out.alloc _) _ ⟨5, 0, 5, 5, 0, ⟨#[]⟩, [], 0, 0⟩ rfl (heap_alloc_eq _ _ _ (by simp)) (by simp) (by simp; omega) ?_)
          intro v1 w1 ho1 hg1 hv1
          have HO1 := hid_of ho1
          have HB1 := hid_of (bel_grown (bel_alloc hbE.out _) hg1 (fun b e => (HE0.out.lt b e).1))
          have c41 := (World.cell?_of_block (a := ⟨W0.heap.size, 4, none⟩) (HB1.out.block W0.heap.size hgl)).trans c4
          obtain ⟨xa, xc, rfl, -⟩ := owns_slice ho1
          clear ho1 hg1 hv1 HE0 hbE
          go_wp2_with (at_builtin; refine stop_here ?_)
          refine stop_go (app_ins rfl _ _ rfl wr.heap.size _ ([] ++ [⟨5, 0, 5, 5, 0, ⟨#[]⟩, [], 0, 0⟩]) rfl (HO1.out.alloc _) _ ⟨7, 0, 1, 0, 0, ⟨#[]⟩, [], 1, (nn : Int)⟩ rfl (heap_alloc_eq _ _ _ (by simp)) (by simp) (by have := HB1.out.size; simp; omega) ?_)
          intro v2 w2 ho2 hg2 hv2
          have hb2 := bel_grown (bel_alloc HB1.out _) hg2 (fun b e => (HO1.out.lt b e).1)
          have hrow : [] ++ [⟨5, 0, 5, 5, 0, ⟨#[]⟩, [], 0, 0⟩] ++ [⟨7, 0, 1, 0, 0, ⟨#[]⟩, [], 1, (nn : Int)⟩] = ringB nn aa k := by unfold ringB ringA ringE; rw [if_pos HKA.out, if_pos HK0.out] <;> rfl
          rw [hrow] at ho2
          have hl2 : IsInsL (fun b => wr.heap.size ≤ b ∧ b < w2.heap.size) w2 v2 (ringB nn aa k) := insL_of_owns ho2 (ringB_args nn aa k) (by have := ringA_length aa k; simp [ringB]; omega) (fun b e h1 h2 => ⟨h1, h2⟩)
          have HL2 := hid_of hl2
          have HB2 := hid_of hb2
          try clear c41
          obtain ⟨ba, bn, bc, rfl⟩ : ∃ a n c, v2 = .slice a n c := by obtain ⟨_, _, h, -⟩ := hl2; exact ⟨_, _, _, h⟩
          have c42 := (World.cell?_of_block (a := ⟨W0.heap.size, 4, none⟩) (hb2.block W0.heap.size hgl)).trans c4
          clear ho2 hg2 hv2 hl2 hb2 hrow HO1 HB1 c4 f4
          go_wp2_with (at_builtin; refine stop_here ?_)
          refine stop_go (app_cell 22 40 (.slice none 0 0) 24 Try.underlying22 infoInsL rfl rfl _ _ rfl (W0.heap.size + 1) (.slice oa k oc) vals rfl (owns_below HI.out.bl.own (bel_alloc HB2.out _)) _ (.slice ba bn bc) rfl rfl (heap_alloc_eq _ _ _ rfl) HAP.out.1 HAP.out.2 (by have := HB2.out.size; simp; omega) ?_)
          intro v3 w3 ho3 hg3 hv3
          have hS3 := HI.out.step (bel_alloc HB2.out _) (HL2.out.keep (fun b hb hlt => ⟨⟨hb.1, by simp; omega⟩, (bel_alloc (bel_refl w2) _).block b hlt⟩)) ho3 hg3 hv3
          rw [← ringP_succ] at hS3
          have hvl3 : (vals ++ [Value.slice ba bn bc]).length = k + 1 := by rw [List.length_append, HV.out]; rfl
          have ho4 := ho3
          rw [hvl3] at ho4
          obtain ⟨va3, vc3, rfl, -⟩ := owns_slice ho4
          have HS3 := hid_of hS3
          have hg3l : W0.heap.size < w3.heap.size := by have := hS3.fb.lt; simpa using this
          have r3 := (HI.out.fb.keep ((bel_alloc HB2.out (.cells #[.slice ba bn bc] 40)).block W0.heap.size hgl)).keep (hg3.block W0.heap.size (by have := HB2.out.size; simp; omega) (fun e => by have := (HI.out.bl.own.lt _ e.symm).1; omega))
          have f43 : w3.frozen? ⟨W0.heap.size, 4, none⟩ = false := r3.frozen 4
          have c43 : w3.cell? ⟨W0.heap.size, 4, none⟩ = some (.slice oa k oc) := r3.cell (k := 4) rfl
          clear hS3 ho3 ho4 hvl3 hg3 hv3 c42 HI HB2 HL2 r3
          go_wp2_with fail
          go_roundw
          case rel => exact ⟨k + 1, _, _, by omega, by go_num, by rw [List.length_append, HV.out]; rfl, HS3.out⟩
          case measure => simp [intOf]; omega
        · have hb0 : ((k : Int) == 0) = false := beq_eq_false_iff_ne.2 (by omega)
          have HK0 := hid_of hk0
          clear hk0
          go_wp2_with (at_builtin; refine stop_here ?_)
          refine stop_go (app_ins rfl _ _ rfl wr.heap.size _ [] rfl (HE0.out.alloc _) _ ⟨5, 0, 5, 5, 0, ⟨#[]⟩, [], 0, 0⟩ rfl (heap_alloc_eq _ _ _ (by simp)) (by simp) (by simp; omega) ?_)
          intro v1 w1 ho1 hg1 hv1
          have HO1 := hid_of ho1
          have HB1 := hid_of (bel_grown (bel_alloc hbE.out _) hg1 (fun b e => (HE0.out.lt b e).1))
          have c41 := (World.cell?_of_block (a := ⟨W0.heap.size, 4, none⟩) (HB1.out.block W0.heap.size hgl)).trans c4
          obtain ⟨xa, xc, rfl, -⟩ := owns_slice ho1
          clear ho1 hg1 hv1 HE0 hbE
          go_wp2_with (at_builtin; refine stop_here ?_)
          refine stop_go (app_ins rfl _ _ rfl wr.heap.size _ ([] ++ [⟨5, 0, 5, 5, 0, ⟨#[]⟩, [], 0, 0⟩]) rfl (HO1.out.alloc _) _ ⟨8, 0, 0, 0, 0, ⟨#[]⟩, [], (((k + 1) % nn : Nat) : Int), 0⟩ rfl (heap_alloc_eq _ _ _ (by simp)) (by simp) (by have := HB1.out.size; simp; omega) ?_)
          intro v2 w2 ho2 hg2 hv2
          have hb2 := bel_grown (bel_alloc HB1.out _) hg2 (fun b e => (HO1.out.lt b e).1)
          have hrow : [] ++ [⟨5, 0, 5, 5, 0, ⟨#[]⟩, [], 0, 0⟩] ++ [⟨8, 0, 0, 0, 0, ⟨#[]⟩, [], (((k + 1) % nn : Nat) : Int), 0⟩] = ringB nn aa k := by unfold ringB ringA ringE; rw [if_pos HKA.out, if_neg HK0.out] <;> rfl
          rw [hrow] at ho2
          have hl2 : IsInsL (fun b => wr.heap.size ≤ b ∧ b < w2.heap.size) w2 v2 (ringB nn aa k) := insL_of_owns ho2 (ringB_args nn aa k) (by have := ringA_length aa k; simp [ringB]; omega) (fun b e h1 h2 => ⟨h1, h2⟩)
          have HL2 := hid_of hl2
          have HB2 := hid_of hb2
          try clear c41
          obtain ⟨ba, bn, bc, rfl⟩ : ∃ a n c, v2 = .slice a n c := by obtain ⟨_, _, h, -⟩ := hl2; exact ⟨_, _, _, h⟩
          have c42 := (World.cell?_of_block (a := ⟨W0.heap.size, 4, none⟩) (hb2.block W0.heap.size hgl)).trans c4
          clear ho2 hg2 hv2 hl2 hb2 hrow HO1 HB1 c4 f4
          go_wp2_with (at_builtin; refine stop_here ?_)
          refine stop_go (app_cell 22 40 (.slice none 0 0) 24 Try.underlying22 infoInsL rfl rfl _ _ rfl (W0.heap.size + 1) (.slice oa k oc) vals rfl (owns_below HI.out.bl.own (bel_alloc HB2.out _)) _ (.slice ba bn bc) rfl rfl (heap_alloc_eq _ _ _ rfl) HAP.out.1 HAP.out.2 (by have := HB2.out.size; simp; omega) ?_)
          intro v3 w3 ho3 hg3 hv3
          have hS3 := HI.out.step (bel_alloc HB2.out _) (HL2.out.keep (fun b hb hlt => ⟨⟨hb.1, by simp; omega⟩, (bel_alloc (bel_refl w2) _).block b hlt⟩)) ho3 hg3 hv3
          rw [← ringP_succ] at hS3
          have hvl3 : (vals ++ [Value.slice ba bn bc]).length = k + 1 := by rw [List.length_append, HV.out]; rfl
          have ho4 := ho3
          rw [hvl3] at ho4
          obtain ⟨va3, vc3, rfl, -⟩ := owns_slice ho4
          have HS3 := hid_of hS3
          have hg3l : W0.heap.size < w3.heap.size := by have := hS3.fb.lt; simpa using this
          have r3 := (HI.out.fb.keep ((bel_alloc HB2.out (.cells #[.slice ba bn bc] 40)).block W0.heap.size hgl)).keep (hg3.block W0.heap.size (by have := HB2.out.size; simp; omega) (fun e => by have := (HI.out.bl.own.lt _ e.symm).1; omega))
          have f43 : w3.frozen? ⟨W0.heap.size, 4, none⟩ = false := r3.frozen 4
          have c43 : w3.cell? ⟨W0.heap.size, 4, none⟩ = some (.slice oa k oc) := r3.cell (k := 4) rfl
          clear hS3 ho3 ho4 hvl3 hg3 hv3 c42 HI HB2 HL2 r3
          go_wp2_with fail
          go_roundw
          case rel => exact ⟨k + 1, _, _, by omega, by go_num, by rw [List.length_append, HV.out]; rfl, HS3.out⟩
          case measure => simp [intOf]; omega
      · have hbk : ((k : Int) == (aa : Int)) = false := beq_eq_false_iff_ne.2 (by omega)
        have hbk' : (k == aa) = false := beq_eq_false_iff_ne.2 hka
        have HKA := hid_of hka
        clear hka
        by_cases hk0 : k = 0
        · have hb0 : ((k : Int) == 0) = true := by simp [hk0]
          have HK0 := hid_of hk0
          clear hk0
          go_wp2_with (at_builtin; refine stop_here ?_)
          refine stop_go (app_ins rfl _ _ rfl wr.heap.size _ (([] : List InsD)) rfl (HE0.out.alloc _) _ ⟨7, 0, 1, 0, 0, ⟨#[]⟩, [], 1, (nn : Int)⟩ rfl (heap_alloc_eq _ _ _ (by simp)) (by simp) (by have := hbE.out.size; simp; omega) ?_)
          intro v2 w2 ho2 hg2 hv2
          have hb2 := bel_grown (bel_alloc hbE.out _) hg2 (fun b e => (HE0.out.lt b e).1)
          have hrow : ([] : List InsD) ++ [⟨7, 0, 1, 0, 0, ⟨#[]⟩, [], 1, (nn : Int)⟩] = ringB nn aa k := by unfold ringB ringA ringE; rw [if_neg HKA.out, if_pos HK0.out] <;> rfl
          rw [hrow] at ho2
          have hl2 : IsInsL (fun b => wr.heap.size ≤ b ∧ b < w2.heap.size) w2 v2 (ringB nn aa k) := insL_of_owns ho2 (ringB_args nn aa k) (by have := ringA_length aa k; simp [ringB]; omega) (fun b e h1 h2 => ⟨h1, h2⟩)
          have HL2 := hid_of hl2
          have HB2 := hid_of hb2
          try clear c41
          obtain ⟨ba, bn, bc, rfl⟩ : ∃ a n c, v2 = .slice a n c := by obtain ⟨_, _, h, -⟩ := hl2; exact ⟨_, _, _, h⟩
          have c42 := (World.cell?_of_block (a := ⟨W0.heap.size, 4, none⟩) (hb2.block W0.heap.size hgl)).trans c4
          clear ho2 hg2 hv2 hl2 hb2 hrow HE0 hbE c4 f4
          go_wp2_with (at_builtin; refine stop_here ?_)
          refine stop_go (app_cell 22 40 (.slice none 0 0) 24 Try.underlying22 infoInsL rfl rfl _ _ rfl (W0.heap.size + 1) (.slice oa k oc) vals rfl (owns_below HI.out.bl.own (bel_alloc HB2.out _)) _ (.slice ba bn bc) rfl rfl (heap_alloc_eq _ _ _ rfl) HAP.out.1 HAP.out.2 (by have := HB2.out.size; simp; omega) ?_)
          intro v3 w3 ho3 hg3 hv3
          have hS3 := HI.out.step (bel_alloc HB2.out _) (HL2.out.keep (fun b hb hlt => ⟨⟨hb.1, by simp; omega⟩, (bel_alloc (bel_refl w2) _).block b hlt⟩)) ho3 hg3 hv3
          rw [← ringP_succ] at hS3
          have hvl3 : (vals ++ [Value.slice ba bn bc]).length = k + 1 := by rw [List.length_append, HV.out]; rfl
          have ho4 := ho3
          rw [hvl3] at ho4
          obtain ⟨va3, vc3, rfl, -⟩ := owns_slice ho4
          have HS3 := hid_of hS3
          have hg3l : W0.heap.size < w3.heap.size := by have := hS3.fb.lt; simpa using this
          have r3 := (HI.out.fb.keep ((bel_alloc HB2.out (.cells #[.slice ba bn bc] 40)).block W0.heap.size hgl)).keep (hg3.block W0.heap.size (by have := HB2.out.size; simp; omega) (fun e => by have := (HI.out.bl.own.lt _ e.symm).1; omega))
          have f43 : w3.frozen? ⟨W0.heap.size, 4, none⟩ = false := r3.frozen 4
          have c43 : w3.cell? ⟨W0.heap.size, 4, none⟩ = some (.slice oa k oc) := r3.cell (k := 4) rfl
          clear hS3 ho3 ho4 hvl3 hg3 hv3 c42 HI HB2 HL2 r3
          go_wp2_with fail
          go_roundw
          case rel => exact ⟨k + 1, _, _, by omega, by go_num, by rw [List.length_append, HV.out]; rfl, HS3.out⟩
          case measure => simp [intOf]; omega
        · have hb0 : ((k : Int) == 0) = false := beq_eq_false_iff_ne.2 (by omega)
          have HK0 := hid_of hk0
          clear hk0
          go_wp2_with (at_builtin; refine stop_here ?_)
          refine stop_go (app_ins rfl _ _ rfl wr.heap.size _ (([] : List InsD)) rfl (HE0.out.alloc _) _ ⟨8, 0, 0, 0, 0, ⟨#[]⟩, [], (((k + 1) % nn : Nat) : Int), 0⟩ rfl (heap_alloc_eq _ _ _ (by simp)) (by simp) (by have := hbE.out.size; simp; omega) ?_)
          intro v2 w2 ho2 hg2 hv2
          have hb2 := bel_grown (bel_alloc hbE.out _) hg2 (fun b e => (HE0.out.lt b e).1)
          have hrow : ([] : List InsD) ++ [⟨8, 0, 0, 0, 0, ⟨#[]⟩, [], (((k + 1) % nn : Nat) : Int), 0⟩] = ringB nn aa k := by unfold ringB ringA ringE; rw [if_neg HKA.out, if_neg HK0.out] <;> rfl
          rw [hrow] at ho2
          have hl2 : IsInsL (fun b => wr.heap.size ≤ b ∧ b < w2.heap.size) w2 v2 (ringB nn aa k) := insL_of_owns ho2 (ringB_args nn aa k) (by have := ringA_length aa k; simp [ringB]; omega) (fun b e h1 h2 => ⟨h1, h2⟩)
          have HL2 := hid_of hl2
          have HB2 := hid_of hb2
          try clear c41
          obtain ⟨ba, bn, bc, rfl⟩ : ∃ a n c, v2 = .slice a n c := by obtain ⟨_, _, h, -⟩ := hl2; exact ⟨_, _, _, h⟩
          have c42 := (World.cell?_of_block (a := ⟨W0.heap.size, 4, none⟩) (hb2.block W0.heap.size hgl)).trans c4
          clear ho2 hg2 hv2 hl2 hb2 hrow HE0 hbE c4 f4
          go_wp2_with (at_builtin; refine stop_here ?_)
          refine stop_go (app_cell 22 40 (.slice none 0 0) 24 Try.underlying22 infoInsL rfl rfl _ _ rfl (W0.heap.size + 1) (.slice oa k oc) vals rfl (owns_below HI.out.bl.own (bel_alloc HB2.out _)) _ (.slice ba bn bc) rfl rfl (heap_alloc_eq _ _ _ rfl) HAP.out.1 HAP.out.2 (by have := HB2.out.size; simp; omega) ?_)
          intro v3 w3 ho3 hg3 hv3
          have hS3 := HI.out.step (bel_alloc HB2.out _) (HL2.out.keep (fun b hb hlt => ⟨⟨hb.1, by simp; omega⟩, (bel_alloc (bel_refl w2) _).block b hlt⟩)) ho3 hg3 hv3
          rw [← ringP_succ] at hS3
          have hvl3 : (vals ++ [Value.slice ba bn bc]).length = k + 1 := by rw [List.length_append, HV.out]; rfl
          have ho4 := ho3
          rw [hvl3] at ho4
          obtain ⟨va3, vc3, rfl, -⟩ := owns_slice ho4
          have HS3 := hid_of hS3
          have hg3l : W0.heap.size < w3.heap.size := by have := hS3.fb.lt; simpa using this
          have r3 := (HI.out.fb.keep ((bel_alloc HB2.out (.cells #[.slice ba bn bc] 40)).block W0.heap.size hgl)).keep (hg3.block W0.heap.size (by have := HB2.out.size; simp; omega) (fun e => by have := (HI.out.bl.own.lt _ e.symm).1; omega))
          have f43 : w3.frozen? ⟨W0.heap.size, 4, none⟩ = false := r3.frozen 4
          have c43 : w3.cell? ⟨W0.heap.size, 4, none⟩ = some (.slice oa k oc) := r3.cell (k := 4) rfl
          clear hS3 ho3 ho4 hvl3 hg3 hv3 c42 HI HB2 HL2 r3
          go_wp2_with fail
          go_roundw
          case rel => exact ⟨k + 1, _, _, by omega, by go_num, by rw [List.length_append, HV.out]; rfl, HS3.out⟩
          case measure => simp [intOf]; omega
    · obtain rfl : k = nn := by omega
      have HAP : Hid ((vals.length + 1) * 24 ≤ 140737488355328 ∧ vals.length + 1 ≤ maxLen) := ⟨by omega, by unfold maxLen; omega⟩
      clear hI hvl
      go_wp2_with (at_builtin; refine stop_here ?_)
      refine stop_go (app_cell 22 40 (.slice none 0 0) 24 Try.underlying22 infoInsL rfl rfl _ _ rfl (W0.heap.size + 1) (.slice oa k oc) vals rfl (owns_below HI.out.bl.own (bel_alloc (bel_alloc (bel_refl wr) _) _)) _ (.slice (some ⟨wr.heap.size, 0, none⟩) 1 1) rfl rfl (heap_alloc_eq _ _ _ (by simp)) HAP.out.1 HAP.out.2 (by simp; omega) ?_)
      intro v3 w3 ho3 hg3 hv3
      have hS3 : LpSt w W0.heap.size (ringL k aa) v3 _ _ := HI.out.step (bel_alloc (bel_alloc (bel_refl wr) (.cells #[.int .i64 9, .int .i64 0, .int .i64 2, .int .i64 0, .int .i64 0, .string ⟨#[]⟩, .slice none 0 0, .int .i64 0, .int .i64 0] 36)) _) (insL_one (i := ⟨9, 0, 2, 0, 0, ⟨#[]⟩, [], 0, 0⟩) (heap_alloc_ne _ _ _ _ (heap_alloc_eq _ _ _ rfl)) rfl ⟨Nat.le_refl _, by simp; omega⟩) ho3 hg3 hv3
      have r3 := (HI.out.fb.keep ((bel_alloc (bel_alloc (bel_refl wr) (.cells #[.int .i64 9, .int .i64 0, .int .i64 2, .int .i64 0, .int .i64 0, .string ⟨#[]⟩, .slice none 0 0, .int .i64 0, .int .i64 0] 36)) (.cells #[.slice (some ⟨wr.heap.size, 0, none⟩) 1 1] 40)).block W0.heap.size hgl)).keep (hg3.block W0.heap.size (by simp; omega) (fun e => by have := (HI.out.bl.own.lt _ e.symm).1; omega))
      have f43 : w3.frozen? ⟨W0.heap.size, 4, none⟩ = false := r3.frozen 4
      have c43 : w3.cell? ⟨W0.heap.size, 4, none⟩ = some (.slice oa k oc) := r3.cell (k := 4) rfl
      have hg3l : W0.heap.size < w3.heap.size := by have := hS3.fb.lt; simpa using this
      have hvl3 : (vals ++ [Value.slice (some ⟨wr.heap.size, 0, none⟩) 1 1]).length = k + 1 := by rw [List.length_append, HV.out]; rfl
      have hsm := ring_small k aa
      have HSM : Hid (∀ l ∈ ringL k aa, l.length ≤ 100000 ∧ ∀ i ∈ l, i.args.length ≤ 1000000) := fun l hl => ⟨by have := (hsm l hl).1; omega, fun i hi => by rw [(hsm l hl).2 i hi]; simp⟩
      rw [hvl3] at ho3
      obtain ⟨m, Hm⟩ : ∃ m, Hid (k + 1 = m) := ⟨_, (rfl : k + 1 = _)⟩
      rw [Hm.out] at ho3
      obtain ⟨va, vc, rfl, -⟩ := owns_slice ho3
      have hbl := (hS3.bl.blocks (by rw [ring_length]; omega)).keep (p' := (· < (w3.setCell ⟨W0.heap.size, 4, none⟩ (.slice va m vc)).heap.size)) (Keep.refl _ fun b _ hlt => hlt)
      have HIn := hid_of (liveIn_c _ ⟨#[]⟩ none 0 0 none 0 0 ⟨#[]⟩ va m vc hbl (by have := Hm.out; omega) HSM.out)
      unfold funcV at HIn
      have q0 := hS3.fb.cell (k := 0) (v := .string ⟨#[]⟩) rfl
      have q1 := hS3.fb.cell (k := 1) (v := .slice none 0 0) rfl
      have q2 := hS3.fb.cell (k := 2) (v := .slice none 0 0) rfl
      have q3 := hS3.fb.cell (k := 3) (v := .string ⟨#[]⟩) rfl
      have q4 := hS3.fb.cell (k := 4) (v := .slice va m vc) rfl
      have HB3 := hid_of hS3.bel
      clear hS3 ho3 hg3 hv3 hbl hsm HSM HAP HI c4 f4 hvl3 r3
      go_wp2_with fail
      refine HIn.out.mono ?_
      rintro e W5 ⟨u, own, vals5, I, O, rfl, hL, hr, hb5⟩
      obtain ⟨hl1, hl2⟩ := ring_live hn2 haa hL
      have hlI : (I.map listI).length = m := by rw [List.length_map, hL.lI, ring_length]; exact Hm.out
      have hgood : ∀ xs ∈ I.map listI, xs.length ≤ 140737488351232 := fun xs hx => by obtain ⟨ws, hw, rfl⟩ := List.mem_map.1 hx; have := listI_good (hL.gI ws hw); omega
      have hrows := hr.rows (by have := Hm.out; omega) hgood
      obtain ⟨_, uc, rfl, -, hx⟩ := hrows
      rw [hlI]
      have hmk := Hm.out
      rcases hx with hx | ⟨gu, ou, rfl, hpu, hx⟩
      · exfalso; rw [hx] at hlI; simp at hlI; omega
      have HR : Hid (∀ j xs, j < m → listI (I.getD j []) = xs → ∃ a c, W5.cell? ⟨gu, ou + j, none⟩ = some (.slice a xs.length c) ∧ gu < W5.heap.size ∧ IsInts (· < W5.heap.size) W5 (.slice a xs.length c) xs) := fun j xs hj he => by
        have hj' : j < (I.map listI).length := by omega
        obtain ⟨v, hc, hv⟩ := hx j hj'
        have e : (I.map listI)[j] = xs := by rw [← he]; have : j < I.length := by simpa using hj'
                                             simp [List.getD, this]
        rw [e] at hv
        rw [Nat.mul_one] at hc
        obtain ⟨a, c, rfl, -, -⟩ := id hv
        exact ⟨a, c, hc, lt_of_cell hc, hv.keep (Keep.refl _ fun _ _ h => h)⟩
      have HB5 := hid_of (bel_call HB3.out hb5)
      have HL1 := hid_of hl1
      clear HIn hx hgood hr hL hb5 HB3 q0 q1 q2 q3 q4 hl1 hpu
      obtain ⟨za, zc, c5, hgu, hz⟩ := HR.out k [2] (by omega) hl2
      have hne : ((m : Int) != (k : Int) + 1) = false := by rw [← Hm.out]; simp
      have hkm : (k : Int) < (m : Int) := by omega
      have hk0 : (0 : Int) ≤ (k : Int) := by omega
      have hz2 : IsInts (· < W5.heap.size) W5 (.slice za 1 zc) [2] := hz
      have c5' : W5.cell? ⟨gu, ou + k, none⟩ = some (.slice za 1 zc) := c5
      clear c5 hz hl2
      go_wp2_with fail
      refine (sameInts_c _ (hz2.keep (p' := (· < W5.heap.size)) (Keep.below (bel_alloc (bel_refl W5) _))) (ints_of_row (xs := [2]) (p := fun _ => True) (e := 3) (heap_alloc_eq _ _ _ rfl) trivial (by simp))).mono ?_
      rintro e W6 ⟨rfl, nd, rfl⟩
      rw [sameS_self]
      have hB6 : Below W5.heap.size W5 ((W5.alloc (.cells #[.int .i64 2] 3)).drewN nd) := bel_drewN (bel_alloc (bel_refl W5) (.cells #[.int .i64 2] 3)) nd
      have HB6 := hid_of hB6
      clear hz2 c5' hB6 hne
      go_wp2_with fail
      go_loopw [10] (fun s10 wx => ∃ i : Nat, i ≤ k ∧ s10 = .int .i64 i ∧ Below W5.heap.size W5 wx) (fun s10 _ => k - (intOf s10).toNat)
      case atStart => exact ⟨0, by omega, rfl, HB6.out⟩
      case round =>
        obtain ⟨i, hi, rfl, hB7⟩ := hrel
        by_cases hit : i < k
        · obtain ⟨ya, yc, c7, -, hy⟩ := HR.out i [1, 2, 5] (by omega) (HL1.out i hit)
          have c8 := (World.cell?_of_block (a := ⟨gu, ou + i, none⟩) (hB7.block gu hgu)).trans c7
          have hy2 : IsInts (· < wr.heap.size) wr (.slice ya 3 yc) [1, 2, 5] := hy.keep (fun b hb hlt => ⟨Nat.lt_of_lt_of_le hlt hB7.size, hB7.block b hlt⟩)
          have him : (i : Int) < (m : Int) := by omega
          have hik : (i : Int) < (k : Int) := by omega
          have hi0 : (0 : Int) ≤ (i : Int) := by omega
          have c8' : wr.cell? ⟨gu, ou + i, none⟩ = some (.slice ya 3 yc) := c8
          have HB7 := hid_of hB7
          clear c7 hy c8 hB7
          go_wp2_with fail
          refine (sameInts_c _ (hy2.keep (p' := (· < wr.heap.size)) (Keep.below (bel_alloc (bel_refl wr) _))) (ints_of_row (xs := [1, 2, 5]) (p := fun _ => True) (e := 3) (heap_alloc_eq _ _ _ rfl) trivial (by simp))).mono ?_
          rintro e W8 ⟨rfl, nd2, rfl⟩
          rw [sameS_self]
          have HB8 := hid_of (bel_drewN (bel_alloc HB7.out (.cells #[.int .i64 1, .int .i64 2, .int .i64 5] 3)) nd2)
          clear hy2 c8' HB7
          go_wp2_with fail
          go_roundw
          case rel => exact ⟨i + 1, by omega, by go_num, HB8.out⟩
          case measure => simp [intOf]; omega
        · obtain rfl : i = k := by omega
          have HB7 := hid_of (bel_call HB5.out hB7)
          clear hB7
          go_wp2_with fail
          go_ret
          exact ⟨rfl, HB7.out⟩
end Go.Proofs.Ytcihobmjohpnkaa
