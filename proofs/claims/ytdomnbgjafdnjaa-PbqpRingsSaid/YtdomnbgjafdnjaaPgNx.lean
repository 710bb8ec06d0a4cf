/- The general solver: the next node. -/
import Derived.Test.YtdomnbgjafdnjaaPgTk
namespace Go.Proofs.Ytdomnbgjafdnjaa
open Go.RowKit Go.Maps

theorem getD_gone {g : Nat → Bool} {n m : Nat} (hm : m < n) : ((List.range n).map g).getD m true = g m := by simp [List.getD, hm]
/-- What 'next' may tell. -/
def NxR (S : PS) (n : Nat) (z : Int) (y : Bool) : Prop :=
  (∃ m : Nat, m < n ∧ z = m ∧ y = true ∧ S.gone m = false ∧ (nsS S n m).length ≤ 2) ∨ (∃ m : Nat, m < n ∧ z = m ∧ y = false ∧ S.gone m = false ∧ ∀ j, j < n → S.gone j = false → 2 < (nsS S n j).length) ∨ (z = -1 ∧ y = false ∧ ∀ j, j < n → S.gone j = true)
/-- What is known behind m nodes. -/
def NxI (S : PS) (n m : Nat) (z : Int) : Prop :=
  (z = -1 ∧ ∀ j, j < m → S.gone j = true) ∨ (∃ q : Nat, q < m ∧ z = q ∧ S.gone q = false ∧ ∀ j, j < m → S.gone j = false → 2 < (nsS S n j).length)
theorem NxI.gone {S : PS} {n m : Nat} {z : Int} (h : NxI S n m z) (hg : S.gone m = true) : NxI S n (m + 1) z := by
  rcases h with ⟨h1, h2⟩ | ⟨q, h1, h2, h3, h4⟩
  · refine .inl ⟨h1, fun j hj => ?_⟩
    by_cases e : j = m
    · rw [e]; exact hg
    · exact h2 j (by omega)
  · refine .inr ⟨q, by omega, h2, h3, fun j hj hgj => ?_⟩
    by_cases e : j = m
    · rw [e, hg] at hgj; cases hgj
    · exact h4 j (by omega) hgj
theorem NxI.big {S : PS} {n m : Nat} {z : Int} (h : NxI S n m z) (hg : S.gone m = false) (hd : 2 < (nsS S n m).length) : NxI S n (m + 1) m ∧ (0 ≤ z → NxI S n (m + 1) z) := by
  have hall : ∀ j, j < m + 1 → S.gone j = false → 2 < (nsS S n j).length := fun j hj hgj => by
    by_cases e : j = m
    · rw [e]; exact hd
    · rcases h with ⟨h1, h2⟩ | ⟨q, h1, h2, h3, h4⟩
      · rw [h2 j (by omega)] at hgj; cases hgj
      · exact h4 j (by omega) hgj
  refine ⟨.inr ⟨m, by omega, rfl, hg, hall⟩, fun hz => ?_⟩
  rcases h with ⟨h1, h2⟩ | ⟨q, h1, h2, h3, h4⟩
  · omega
  · exact .inr ⟨q, by omega, h2, h3, hall⟩
theorem NxI.done {S : PS} {n : Nat} {z : Int} (h : NxI S n n z) : NxR S n z false := by
  rcases h with ⟨h1, h2⟩ | ⟨q, h1, h2, h3, h4⟩
  · exact .inr (.inr ⟨h1, rfl, h2⟩)
  · exact .inr (.inl ⟨q, h1, h2, rfl, h3, h4⟩)

set_option maxRecDepth 100000 in
set_option maxHeartbeats 4000000 in
theorem next_g {w W : World} {L : Pl} {ow : Nat → Tg} {n : Nat} {S : PS} {us : List (Nat × List Int)} {uv : Value} {uvs : List Value} (hS : SS w L ow n S us uv uvs W) (hn : n ≤ 300) :
    Calls Try.prog 25 #[.pointer (some ⟨L.sb, 0, none⟩)] W fun e w' => ∃ z y, e = .returned (.tuple #[.int .i64 z, .bool y]) ∧ Hid (NxR S n z y) ∧ BkS W w' := by
  have HF : Hid (∀ Y, BkS W Y → Row Y L.sb 56 [.slice (some ⟨L.xb, 0, none⟩) n L.xc, .slice (some ⟨L.mb, 0, none⟩) n L.mc, uv, .slice (some ⟨L.lb, 0, none⟩) n n, .slice (some ⟨L.gb, 0, none⟩) n n] ∧ Row Y L.gb 4 (bools ((List.range n).map S.gone))) := fun Y hY => ⟨(hS.below hY).sv, (hS.below hY).gr⟩
  have HM : Hid (∀ Y, BkS W Y → ∀ k, k < n → S.gone k = false → Y.cell? ⟨L.mb, k, none⟩ = some (.map (some (L.pb k))) ∧ ∃ (es : Array MapEntry) (c : Nat), Y.heap[L.pb k]? = some (.map es c) ∧ es.size = (nsS S n k).length ∧ es.size ≤ 300) := fun Y hY k hk hg => by
    obtain ⟨ms, hms, -, hmp⟩ := (hS.below hY).mr
    obtain ⟨f, hf⟩ := (hS.below hY).pr k hk
    obtain ⟨es, c, hb, hs⟩ := hf.mv.size (m := n) (by omega) hf.dom
    rw [hf.keys] at hs
    exact ⟨hms.cell (hmp k hk hg), es, c, hb, hs, by have := nsS_length S n k; omega⟩
  have q1 := hS.sv.cell (k := 1) rfl
  have q4 := hS.sv.cell (k := 4) rfl
  obtain ⟨sb, Hsb⟩ : ∃ v, Hid (L.sb = v) := ⟨_, (rfl : L.sb = _)⟩
  obtain ⟨gb, Hgb⟩ : ∃ v, Hid (L.gb = v) := ⟨_, (rfl : L.gb = _)⟩
  obtain ⟨mb, Hmb⟩ : ∃ v, Hid (L.mb = v) := ⟨_, (rfl : L.mb = _)⟩
  obtain ⟨mc, Hmc⟩ : ∃ v, Hid (L.mc = v) := ⟨_, (rfl : L.mc = _)⟩
  rw [Hsb.out] at q1 q4 ⊢
  rw [Hmb.out, Hmc.out] at q1
  rw [Hgb.out] at q4
  rw [Hsb.out, Hgb.out, Hmb.out, Hmc.out] at HF
  rw [Hmb.out] at HM
  clear hS q1
  go_enter Try.func25, Try.ntmps25
  go_wp2_with fail
  clear q4
  go_loopw [2, 10] (fun s2 s10 wx => ∃ (m : Nat) (z : Int), m ≤ n ∧ s10 = .int .i64 m ∧ s2 = .int .i64 z ∧ Hid (NxI S n m z) ∧ BkS W wx) (fun _ s10 _ => n - (intOf s10).toNat)
  case atStart => exact ⟨0, -1, by omega, rfl, rfl, .inl ⟨rfl, fun j hj => by omega⟩, bel_refl W⟩
  case round =>
    obtain ⟨m, z, hmk, rfl, rfl, HI, hB⟩ := hrel
    have HB := hid_of hB
    clear hB
    by_cases hlt : m < n
    · obtain ⟨hsv, hgr⟩ := HF.out wr HB.out
      have q1 := hsv.cell (k := 1) rfl
      have q4 := hsv.cell (k := 4) rfl
      have g0 := hgr.cell (k := m) (v := .bool (S.gone m)) (by rw [bools_get (by simpa using hlt), getD_gone hlt])
      have hmz : (m : Int) < (n : Int) := by omega
      clear hsv hgr
      rcases hgm : S.gone m with _ | _
      · rw [hgm] at g0
        obtain ⟨c1, es, c, c2, c3, c4⟩ := HM.out wr HB.out m hlt hgm
        have HGM := hid_of hgm
        obtain ⟨pbm, Hpb⟩ : ∃ v, Hid (L.pb m = v) := ⟨_, (rfl : L.pb m = _)⟩
        rw [Hpb.out] at c1 c2
        have hln := run_len_map (P := Try.prog) (w := wr) 67 3 pbm es c (by kernel_rfl) c2
        obtain ⟨ez, Hez⟩ : ∃ v, Hid (es.size = v) := ⟨_, (rfl : es.size = _)⟩
        rw [Hez.out] at hln c3 c4
        have HLN : Hid (∀ d, (Builtin.len_ #[67] 3 #[.map (some pbm)]).run Try.prog (wr.drewN d) = .ok (.int .i64 ez) (wr.drewN d)) := fun d => by rw [← Hez.out]; exact run_len_map (P := Try.prog) (w := wr.drewN d) 67 3 pbm es c (by kernel_rfl) c2
        have HC3 := hid_of c3
        clear c2 c3 hgm
        by_cases h2 : ez ≤ 2
        · have hezz : (ez : Int) ≤ 2 := by omega
          clear h2
          go_wp2_with fail
          go_ret2
          exact ⟨m, true, rfl, .inl ⟨m, hlt, rfl, rfl, HGM.out, by rw [← HC3.out]; omega⟩, HB.out⟩
        · have hezz : ¬ ((ez : Int) ≤ 2) := by omega
          clear h2
          have HN2 : Hid (NxI S n (m + 1) m ∧ (0 ≤ z → NxI S n (m + 1) z)) := HI.out.big HGM.out (by rw [← HC3.out]; omega)
          by_cases hz : z < 0
          · have hdz : decide (z < 0) = true := by simpa using hz
            go_wp2_with fail
            go_quiet (fail)
            go_wp2_with fail
            go_roundw
            case rel => exact ⟨m + 1, m, by omega, by go_num, rfl, HN2.out.1, (by first | exact HB.out | exact bk_drew HB.out | exact bel_drewN HB.out _)⟩
            case measure => simp [intOf]; omega
          · have hdz : decide (z < 0) = false := by simpa using hz
            obtain ⟨zN, rfl⟩ : ∃ zN : Nat, z = (zN : Int) := ⟨z.toNat, by omega⟩
            obtain ⟨hzn, hzg⟩ : zN < n ∧ S.gone zN = false := by
              rcases HI.out with ⟨h1, -⟩ | ⟨q, h1, h2, h3, -⟩
              · omega
              · obtain rfl : q = zN := by omega
                exact ⟨by omega, h3⟩
            obtain ⟨d1, es2, cz, d2, d3, d4⟩ := HM.out wr HB.out zN hzn hzg
            obtain ⟨pbz, Hpz⟩ : ∃ v, Hid (L.pb zN = v) := ⟨_, (rfl : L.pb zN = _)⟩
            rw [Hpz.out] at d1 d2
            have hln2 := run_len_map (P := Try.prog) (w := wr) 67 3 pbz es2 cz (by kernel_rfl) d2
            obtain ⟨ey, Hey⟩ : ∃ v, Hid (es2.size = v) := ⟨_, (rfl : es2.size = _)⟩
            rw [Hey.out] at hln2 d4
            have HLM : Hid (∀ d, (Builtin.len_ #[67] 3 #[.map (some pbz)]).run Try.prog (wr.drewN d) = .ok (.int .i64 ey) (wr.drewN d)) := fun d => by rw [← Hey.out]; exact run_len_map (P := Try.prog) (w := wr.drewN d) 67 3 pbz es2 cz (by kernel_rfl) d2
            have hzz : (zN : Int) < (n : Int) := by omega
            clear d2 d3 hz hzg
            by_cases hgt : (ey : Int) < (ez : Int)
            · go_wp2_with fail
              have hS0 : ∀ d, (wr.drewN d).cell? ⟨sb, 1, none⟩ = some (.slice (some ⟨mb, 0, none⟩) n mc) ∧ (wr.drewN d).cell? ⟨mb, m, none⟩ = some (.map (some pbm)) ∧ (wr.drewN d).cell? ⟨mb, zN, none⟩ = some (.map (some pbz)) ∧ (Builtin.len_ #[67] 3 #[.map (some pbm)]).run Try.prog (wr.drewN d) = .ok (.int .i64 ez) (wr.drewN d) ∧ (Builtin.len_ #[67] 3 #[.map (some pbz)]).run Try.prog (wr.drewN d) = .ok (.int .i64 ey) (wr.drewN d) := fun d => ⟨q1, c1, d1, HLN.out d, HLM.out d⟩
              go_region_held3 (fun Y => Y.cell? ⟨sb, 1, none⟩ = some (.slice (some ⟨mb, 0, none⟩) n mc) ∧ Y.cell? ⟨mb, m, none⟩ = some (.map (some pbm)) ∧ Y.cell? ⟨mb, zN, none⟩ = some (.map (some pbz)) ∧ (Builtin.len_ #[67] 3 #[.map (some pbm)]).run Try.prog Y = .ok (.int .i64 ez) Y ∧ (Builtin.len_ #[67] 3 #[.map (some pbz)]).run Try.prog Y = .ok (.int .i64 ey) Y) (first | exact hS0 0 | exact hS0 1 | exact hS0 _) (fail)
              go_wp2_with fail
              go_roundw
              case rel => exact ⟨m + 1, m, by omega, by go_num, rfl, HN2.out.1, (by first | exact HB.out | exact bk_drew HB.out | exact bel_drewN HB.out _)⟩
              case measure => simp [intOf]; omega
            · go_wp2_with fail
              have hS0 : ∀ d, (wr.drewN d).cell? ⟨sb, 1, none⟩ = some (.slice (some ⟨mb, 0, none⟩) n mc) ∧ (wr.drewN d).cell? ⟨mb, m, none⟩ = some (.map (some pbm)) ∧ (wr.drewN d).cell? ⟨mb, zN, none⟩ = some (.map (some pbz)) ∧ (Builtin.len_ #[67] 3 #[.map (some pbm)]).run Try.prog (wr.drewN d) = .ok (.int .i64 ez) (wr.drewN d) ∧ (Builtin.len_ #[67] 3 #[.map (some pbz)]).run Try.prog (wr.drewN d) = .ok (.int .i64 ey) (wr.drewN d) := fun d => ⟨q1, c1, d1, HLN.out d, HLM.out d⟩
              go_region_held3 (fun Y => Y.cell? ⟨sb, 1, none⟩ = some (.slice (some ⟨mb, 0, none⟩) n mc) ∧ Y.cell? ⟨mb, m, none⟩ = some (.map (some pbm)) ∧ Y.cell? ⟨mb, zN, none⟩ = some (.map (some pbz)) ∧ (Builtin.len_ #[67] 3 #[.map (some pbm)]).run Try.prog Y = .ok (.int .i64 ez) Y ∧ (Builtin.len_ #[67] 3 #[.map (some pbz)]).run Try.prog Y = .ok (.int .i64 ey) Y) (first | exact hS0 0 | exact hS0 1 | exact hS0 _) (fail)
              go_wp2_with fail
              go_roundw
              case rel => exact ⟨m + 1, zN, by omega, by go_num, rfl, HN2.out.2 (by omega), (by first | exact HB.out | exact bk_drew HB.out | exact bel_drewN HB.out _)⟩
              case measure => simp [intOf]; omega
      · rw [hgm] at g0
        have HN : Hid (NxI S n (m + 1) z) := HI.out.gone hgm
        clear hgm
        go_wp2_with fail
        go_roundw
        case rel => exact ⟨m + 1, z, by omega, by go_num, rfl, HN, HB.out⟩
        case measure => simp [intOf]; omega
    · obtain rfl : m = n := by omega
      go_wp2_with fail
      go_ret2
      exact ⟨z, false, rfl, HI.out.done, HB.out⟩
end Go.Proofs.Ytdomnbgjafdnjaa
