/- 'Plain' walked. -/
import Derived.Test.YtinbfnabngdemaaCwP
import Derived.Deep.RegionLaw
namespace Go.Proofs.Ytinbfnabngdemaa
open Go.RowKit

theorem res_graph {fn : Func} {p : Tmp} {tmps : Array Value} {w : World} {b : Nat} {x0 x1 x2 x3 : Value} (h : fn.results = #[.cell p 25]) (hp : tmps.getD p undef = .pointer (some ⟨b, 0, none⟩)) (hr : Row w b 25 [x0, x1, x2, x3]) : (results fn tmps).run Try.prog w = .ok (.agg #[x0, x1, x2, x3]) w := by
  have hp' : tmps[p]?.getD undef = .pointer (some ⟨b, 0, none⟩) := by simpa using hp
  have h0 := hr.cell (k := 0) rfl
  have h1 := hr.cell (k := 1) rfl
  have h2 := hr.cell (k := 2) rfl
  have h3 := hr.cell (k := 3) rfl
  simp only [results, h]
  simp [Sem.run_bind, Result.andThen, hp', asAddr, go_sem, h0, h1, h2, h3]
set_option maxRecDepth 100000 in
set_option maxHeartbeats 8000000 in
theorem plain_c2 (w : World) (n k : Nat) (hn : n ≤ 1000) (hk : k ≤ 1000) {ea : Option Addr} {en ec : Nat} :
    Calls Try.prog 21 #[.int .i64 (n : Int), .int .i64 (k : Int), .slice ea en ec] w fun e w' => ∃ aa ac la lc, e = .returned (.agg #[.slice ea en ec, .slice none 0 0, .slice aa n ac, .slice la k lc]) ∧ Below w.heap.size w w' ∧
      ∃ B2 Z1 Z2 vs1 vs2, RwO (w.heap.size + 2) Z1 (.slice la k lc) vs1 ((List.range k).map fun (c : Nat) => [(c : Int)]) w' ∧ (∀ b, Z1 b → w.heap.size + 2 ≤ b ∧ b < B2) ∧ RwO B2 Z2 (.slice aa n ac) vs2 (List.replicate n (upI k)) w' ∧ (∀ b, Z2 b → B2 ≤ b ∧ b < w'.heap.size) ∧ w.heap.size + 2 ≤ B2 ∧ B2 ≤ w'.heap.size := by
  go_enter Try.func21, Try.ntmps21
  go_upto_region 4 with fail
  have hWz : ((w.alloc (.cells #[.slice none 0 0, .slice none 0 0, .slice none 0 0, .slice none 0 0] 25)).alloc (.cells #[.slice ea en ec, .slice none 0 0, .slice none 0 0, .slice none 0 0] 25)).heap.size = w.heap.size + 2 := by simp
  have H0 : Hid (Pl1 w (.slice ea en ec) 0 0 (.slice none 0 0) (.slice none 0 0) ((w.alloc (.cells #[.slice none 0 0, .slice none 0 0, .slice none 0 0, .slice none 0 0] 25)).alloc (.cells #[.slice ea en ec, .slice none 0 0, .slice none 0 0, .slice none 0 0] 25))) := by
    refine ⟨?_, heap_alloc_eq _ _ _ (by simp), World.ownsRow_nil _ _ _ _, ⟨fun _ => False, [], RwO.nil _ _ _, fun b hb => hb.elim⟩, bel_alloc (bel_alloc (bel_refl w) _) _⟩
    have h1 : Row (w.alloc (.cells #[.slice none 0 0, .slice none 0 0, .slice none 0 0, .slice none 0 0] 25)) w.heap.size 25 [.slice none 0 0, .slice none 0 0, .slice none 0 0, .slice none 0 0] := heap_alloc_eq _ _ _ rfl
    exact h1.keep (Below.heap_alloc _ _ _ (by simp))
  generalize (w.alloc (.cells #[.slice none 0 0, .slice none 0 0, .slice none 0 0, .slice none 0 0] 25)).alloc (.cells #[.slice ea en ec, .slice none 0 0, .slice none 0 0, .slice none 0 0] 25) = W0 at *
  clear hWz
  obtain ⟨i0, hi0, hz0, hz1, hz2⟩ := info_parts infoR
  go_loopw [8, 9] (fun s8 s9 wx => ∃ (c : Nat) (xa : Option Addr) (xc : Nat) (la : Option Addr) (lc : Nat), c ≤ k ∧ s9 = .int .i64 c ∧ s8 = .slice xa c xc ∧ Hid (Pl1 w (.slice ea en ec) c c (.slice xa c xc) (.slice la c lc) wx)) (fun _ s9 _ => k - (intOf s9).toNat)
  case atStart => exact ⟨0, none, 0, none, 0, by omega, rfl, rfl, H0⟩
  case round =>
    obtain ⟨c, xa, xc, la, lc, hc, rfl, rfl, HK⟩ := hrel
    clear H0
    by_cases hlt : c < k
    · have hcz : (c : Int) < (k : Int) := by omega
      have hall : wr.ownsRow (w.heap.size + 2) 3 1 (.slice xa c xc) (upI c).length (ints (upI c)) := by rw [upI_len]; exact HK.out.all
      have hrl := HK.out.row.lt
      have hba : BkS wr (wr.alloc (.cells #[.int .i64 (c : Int)] 3)) := bk_alloc (bk_refl wr) _
      have hul := upI_len c
      go_wp2_with (at_builtin; refine stop_here ?_)
      refine stop_go (app_int rfl _ _ rfl (w.heap.size + 2) (.slice xa c xc) (upI c) rfl (owns_below hall hba) _ (c : Int) rfl (heap_alloc_eq _ _ _ rfl) (by omega) (by have := hba.size; omega) ?_)
      intro v1 w1 ho1 hg1 hv1
      rw [← upI_succ, upI_len] at ho1
      have hP1 := HK.out.all' hba ho1 hg1 hv1
      obtain ⟨ya, yc, rfl, -⟩ := owns_slice ho1
      obtain ⟨Z, vs, hl1, hl2⟩ := hP1.lp
      have c3 : w1.cell? ⟨w.heap.size + 1, 3, none⟩ = some (.slice la c lc) := hP1.row.cell rfl
      have hr1 := hP1.row.lt
      have HP1 := hid_of hP1
      have HL1 := hid_of hl1
      have HL2 := hid_of hl2
      clear hall hba ho1 hg1 hv1 hP1 hl1 hl2 HK hrl hul
      have hlo : w1.ownsRow (w.heap.size + 2) 31 1 (.slice la c lc) c vs := by
        have := HL1.out.ow
        rwa [List.length_map, List.length_range] at this
      have hbb : BkS w1 ((w1.alloc (.cells #[.int .i64 (c : Int)] 3)).alloc (.cells #[.slice (some ⟨w1.heap.size, 0, none⟩) 1 1] 31)) := bk_alloc (bk_alloc (bk_refl w1) _) _
      have hfin : ∀ v2 w2, w2.ownsRow (w.heap.size + 2) 31 1 v2 (c + 1) (vs ++ [.slice (some ⟨w1.heap.size, 0, none⟩) 1 1]) → ((w1.alloc (.cells #[.int .i64 (c : Int)] 3)).alloc (.cells #[.slice (some ⟨w1.heap.size, 0, none⟩) 1 1] 31)).grownBy w2 (Value.slice la c lc).ownBlock → (v2.ownBlock = (Value.slice la c lc).ownBlock ∨ v2.ownBlock = some ((w1.alloc (.cells #[.int .i64 (c : Int)] 3)).alloc (.cells #[.slice (some ⟨w1.heap.size, 0, none⟩) 1 1] 31)).heap.size) →
          ∃ za zc, v2 = .slice za (c + 1) zc ∧ w2.frozen? ⟨w.heap.size + 1, 3, none⟩ = false ∧ w2.cell? ⟨w.heap.size + 1, 3, none⟩ = some (.slice la c lc) ∧ Hid (Pl1 w (.slice ea en ec) (c + 1) (c + 1) (.slice ya (c + 1) yc) (.slice za (c + 1) zc) (w2.setCell ⟨w.heap.size + 1, 3, none⟩ (.slice za (c + 1) zc))) := fun v2 w2 h1 h2 h3 => by
        obtain ⟨za, zc, rfl, -⟩ := owns_slice h1
        have hi : IsInts (fun b => w1.heap.size ≤ b ∧ b < ((w1.alloc (.cells #[.int .i64 (c : Int)] 3)).alloc (.cells #[.slice (some ⟨w1.heap.size, 0, none⟩) 1 1] 31)).heap.size) ((w1.alloc (.cells #[.int .i64 (c : Int)] 3)).alloc (.cells #[.slice (some ⟨w1.heap.size, 0, none⟩) 1 1] 31)) (.slice (some ⟨w1.heap.size, 0, none⟩) 1 1) [(c : Int)] := by
          refine ints_of_row (xs := [(c : Int)]) (e := 3) ?_ ⟨Nat.le_refl _, by simp; omega⟩ (by simp)
          have h4 : Row (w1.alloc (.cells #[.int .i64 (c : Int)] 3)) w1.heap.size 3 [.int .i64 (c : Int)] := heap_alloc_eq _ _ _ rfl
          exact h4.keep (Below.heap_alloc _ _ _ (by simp))
        obtain ⟨f1, f2, f3⟩ := HP1.out.lap HL1.out HL2.out hbb hi h1 h2 (h3.imp id fun e => ⟨_, e, Nat.le_refl _⟩)
        exact ⟨za, zc, rfl, f1, f2, f3⟩
      have hsz2 : w.heap.size + 2 ≤ ((w1.alloc (.cells #[.int .i64 (c : Int)] 3)).alloc (.cells #[.slice (some ⟨w1.heap.size, 0, none⟩) 1 1] 31)).heap.size := by simp; omega
      have hlo2 := owns_below hlo hbb
      go_wp2_with (at_builtin; refine stop_here ?_)
      refine stop_go (wp_app _ rfl _ _ 23 rfl (w.heap.size + 2) 31 i0 _ 1 24 Try.underlying23 hi0 hz0 hz1 hz2 rfl (by decide) (.slice la c lc) c vs rfl hlo2 ⟨w1.heap.size + 1, 0, none⟩ 1 1 [.slice (some ⟨w1.heap.size, 0, none⟩) 1 1] rfl rfl ?_ ?_ ?_ ?_ hsz2 ?_)
      · intro j u hj
        match j, hj with
        | 0, hj => simp at hj; subst hj; exact cell_of_one (heap_alloc_eq _ _ _ (by simp))
      · intro u hu; simp at hu; subst hu; rfl
      · unfold maxLen; omega
      · omega
      intro v2 w2 ho2 hg2 hv2
      obtain ⟨za, zc, rfl, f1, f2, HP2⟩ := hfin v2 w2 ho2 hg2 hv2
      clear hfin hlo hlo2 hbb hsz2 ho2 hg2 hv2 c3 HP1 HL1 HL2 hr1
      go_wp2_with fail
      go_roundw
      case rel => exact ⟨c + 1, ya, yc, za, zc, by omega, by go_num, rfl, HP2⟩
      case measure => simp [intOf]; omega
    · obtain rfl : k = c := by omega
      have HQ0 : Hid (Pl2 w (.slice ea en ec) k (.slice xa k xc) (.slice la k lc) wr.heap.size 0 (.slice none 0 0) wr) := HK.out.two
      obtain ⟨B2, HB2⟩ : ∃ B, Hid (wr.heap.size = B) := ⟨_, (rfl : wr.heap.size = _)⟩
      rw [HB2.out] at HQ0
      clear HK
      go_wp2_with fail
      go_loopw [10] (fun s10 wx => ∃ (i : Nat) (oa : Option Addr) (oc : Nat), i ≤ n ∧ s10 = .int .i64 i ∧ Hid (Pl2 w (.slice ea en ec) k (.slice xa k xc) (.slice la k lc) B2 i (.slice oa i oc) wx)) (fun s10 _ => n - (intOf s10).toNat)
      case atStart => exact ⟨0, none, 0, by omega, rfl, HQ0⟩
      case round =>
        obtain ⟨i, oa, oc, hi, rfl, HK⟩ := hrel
        clear HQ0
        by_cases hlt : i < n
        · have hiz : (i : Int) < (n : Int) := by omega
          obtain ⟨Z, vs, hn1, hn2⟩ := HK.out.nd
          have c2 : wr.cell? ⟨w.heap.size + 1, 2, none⟩ = some (.slice oa i oc) := HK.out.row.cell rfl
          have hrl := HK.out.row.lt
          have hB2 := HK.out.ge
          have hpA : IsInts (fun _ => True) wr.drew (.slice xa k xc) (upI k) := by
            have h1 : wr.ownsRow (w.heap.size + 2) 3 1 (.slice xa k xc) (upI k).length (ints (upI k)) := by rw [upI_len]; exact HK.out.all
            exact (ints_of_owns h1 (by rw [upI_len]; omega) (fun _ _ _ _ => trivial)).keep (fun b _ _ => ⟨trivial, rfl⟩)
          have hle1 : ([] : List Int).length + (upI k).length ≤ 1000000 := by rw [upI_len]; simp; omega
          have hvo : wr.ownsRow B2 31 1 (.slice oa i oc) i vs := by
            have := hn1.ow
            rwa [List.length_replicate] at this
          have hS : ∀ v1 w1, w1.ownsRow wr.drew.heap.size 3 1 v1 ([] ++ upI k).length (ints ([] ++ upI k)) → wr.drew.grownBy w1 (Value.slice none 0 0).ownBlock →
              ∃ ua uc, v1 = .slice ua k uc ∧ IsInts (fun b => wr.heap.size ≤ b ∧ b < w1.heap.size) w1 (.slice ua k uc) (upI k) ∧ BkS wr w1 ∧ w1.cell? ⟨w.heap.size + 1, 2, none⟩ = some (.slice oa i oc) ∧ w.heap.size + 1 < w1.heap.size ∧ w1.ownsRow B2 31 1 (.slice oa i oc) i vs := fun v1 w1 h1 h2 => by
            rw [List.nil_append] at h1
            have hb : BkS wr w1 := bel_call (bk_drew (bk_refl wr)) ⟨h2.os, h2.tape, h2.output, h2.size, fun b hb => h2.block b hb (by simp [Value.ownBlock])⟩
            have h3 := ints_of_owns (p := fun b => wr.heap.size ≤ b ∧ b < w1.heap.size) h1 (by rw [upI_len]; omega) (fun b _ h4 h5 => ⟨h4, h5⟩)
            rw [upI_len] at h1
            obtain ⟨ua, uc, rfl, -⟩ := owns_slice h1
            exact ⟨ua, uc, rfl, h3, hb, (cell_of_block (hb.block _ hrl) 2).trans c2, by have := hb.size; omega, owns_below hvo hb⟩
          have hT : ∀ w1 ua uc gg cap w2, IsInts (fun b => wr.heap.size ≤ b ∧ b < w1.heap.size) w1 (.slice ua k uc) (upI k) → BkS wr w1 → w2.ownsRow B2 31 1 (.slice (some ⟨gg, 0, none⟩) (i + 1) cap) (i + 1) (vs ++ [.slice ua k uc]) → (w1.alloc (.cells #[.slice ua k uc] 31)).grownBy w2 (Value.slice oa i oc).ownBlock → ((Value.slice oa i oc).ownBlock = some gg ∨ gg = (w1.alloc (.cells #[.slice ua k uc] 31)).heap.size) →
              w2.frozen? ⟨w.heap.size + 1, 2, none⟩ = false ∧ w2.cell? ⟨w.heap.size + 1, 2, none⟩ = some (.slice oa i oc) ∧ Hid (Pl2 w (.slice ea en ec) k (.slice xa k xc) (.slice la k lc) B2 (i + 1) (.slice (some ⟨gg, 0, none⟩) (i + 1) cap) (w2.setCell ⟨w.heap.size + 1, 2, none⟩ (.slice (some ⟨gg, 0, none⟩) (i + 1) cap))) := fun w1 ua uc gg cap w2 hi hb ho hg hat =>
            HK.out.node hn1 hn2 (bk_alloc hb _) (hi.keep (fun b hb hlt => ⟨⟨hb.1, by simp; omega⟩, Below.heap_alloc _ _ _ hlt⟩)) ho hg (hat.imp (fun e => e.symm) (fun e => ⟨gg, rfl, by omega⟩))
          go_upto_region 11 with fail
          go_region_law (first
            | (refine step_appI (by rfl) _ _ (by rfl) wr.drew.heap.size (.slice none 0 0) [] (by rfl) (World.ownsRow_nil _ _ _ _) (upI k) (upI_len k).symm (by rfl) hpA hle1 (Nat.le_refl _) ?_; intro v1 w1 ho1 hg1; obtain ⟨ua, uc, rfl, hi1, hb1, c2', hl1, hvo1⟩ := hS v1 w1 ho1 hg1)
            | (refine step_append_lies _ (by rfl) _ _ _ (by rfl) B2 31 i0 _ 1 24 Try.underlying23 hi0 hz0 hz1 hz2 rfl (by omega) (.slice oa i oc) i vs (by rfl) (owns_below hvo1 (bk_alloc (bk_refl w1) _)) ⟨w1.heap.size, 0, none⟩ 1 1 [.slice ua k uc] (by rfl) (by rfl) (World.news_of_block (cs := #[.slice ua k uc]) (t := 31) (fr := (0, 0)) (heap_alloc_new w1 _)) (by simp [Value.oneCell']) (by omega) (by unfold maxLen; omega) (by omega) (by have := hb1.size; simp; omega) _ rfl ?_; intro gg cap w2 ho2 hg2 hat2 hlt2; obtain ⟨f1, f2, HP3⟩ := hT w1 ua uc gg cap w2 hi1 hb1 ho2 hg2 hat2))
          all_goals (clear hS hT hvo hle1 hpA hn1 hn2 HK)
          all_goals go_wp2_with fail
          all_goals go_roundw
          all_goals first | exact ⟨i + 1, _, _, by omega, by go_num, HP3⟩ | (simp [intOf]; omega)
        · obtain rfl : n = i := by omega
          have q0 := HK.out.row.cell (k := 0) rfl
          have q1 := HK.out.row.cell (k := 1) rfl
          have q2 := HK.out.row.cell (k := 2) rfl
          have q3 := HK.out.row.cell (k := 3) rfl
          have r0 := HK.out.res.cell (k := 0) rfl
          have r1 := HK.out.res.cell (k := 1) rfl
          have r2 := HK.out.res.cell (k := 2) rfl
          have r3 := HK.out.res.cell (k := 3) rfl
          have f0 := HK.out.res.frozen 0
          have f1 := HK.out.res.frozen 1
          have f2 := HK.out.res.frozen 2
          have f3 := HK.out.res.frozen 3
          go_wp2_with fail
          obtain ⟨Z1, vs1, l1, l2⟩ := HK.out.lp
          obtain ⟨Z2, vs2, n1, n2⟩ := HK.out.nd
          have hge := HK.out.ge
          have hk : ∀ b, b ≠ w.heap.size → ((((wr.setCell ⟨w.heap.size, 0, none⟩ (.slice ea en ec)).setCell ⟨w.heap.size, 1, none⟩ (.slice none 0 0)).setCell ⟨w.heap.size, 2, none⟩ (.slice oa n oc)).setCell ⟨w.heap.size, 3, none⟩ (.slice la k lc)).heap[b]? = wr.heap[b]? := fun b hb =>
            (((Below.heap_setCell _ _ _ _ hb).trans (Below.heap_setCell _ _ _ _ hb)).trans (Below.heap_setCell _ _ _ _ hb)).trans (Below.heap_setCell _ _ _ _ hb)
          refine ⟨rfl, _, res_graph (b := w.heap.size) rfl rfl ((((HK.out.res.set 0 (.slice ea en ec)).set 1 (.slice none 0 0)).set 2 (.slice oa n oc)).set 3 (.slice la k lc)), oa, oc, la, lc, rfl, ?_, B2, Z1, Z2, vs1, vs2, ?_, l2, ?_, fun b hb => ?_, hge.1, ?_⟩
          · exact (((HK.out.bl.setCell (Nat.le_refl _) _).setCell (Nat.le_refl _) _).setCell (Nat.le_refl _) _).setCell (Nat.le_refl _) _
          · exact l1.keep (fun b hb _ => hk b (by have := (l2 b hb).1; omega))
          · exact n1.keep (fun b hb _ => hk b (by have := (n2 b hb).1; omega))
          · have := n2 b hb
            simp
            omega
          · simp
            exact hge.2
theorem plain_c (w : World) (n k : Nat) (hn : n ≤ 1000) (hk : k ≤ 1000) {ea : Option Addr} {en ec : Nat} :
    Calls Try.prog 21 #[.int .i64 (n : Int), .int .i64 (k : Int), .slice ea en ec] w fun e w' => ∃ aa ac la lc, e = .returned (.agg #[.slice ea en ec, .slice none 0 0, .slice aa n ac, .slice la k lc]) ∧ Below w.heap.size w w' ∧
      ∃ B2 Z1 Z2 vs1 vs2, RwO (w.heap.size + 2) Z1 (.slice la k lc) vs1 ((List.range k).map fun (c : Nat) => [(c : Int)]) w' ∧ (∀ b, Z1 b → w.heap.size + 2 ≤ b ∧ b < B2) ∧ RwO B2 Z2 (.slice aa n ac) vs2 (List.replicate n (upI k)) w' ∧ (∀ b, Z2 b → B2 ≤ b ∧ b < w'.heap.size) ∧ B2 ≤ w'.heap.size :=
  (plain_c2 w n k hn hk).mono (by
    rintro e w' ⟨aa, ac, la, lc, h1, h2, B2, Z1, Z2, vs1, vs2, h3, h4, h5, h6, -, h7⟩
    exact ⟨aa, ac, la, lc, h1, h2, B2, Z1, Z2, vs1, vs2, h3, h4, h5, h6, h7⟩)
end Go.Proofs.Ytinbfnabngdemaa
