/- The general solver: a node with no or one neighbour is taken away. -/
import Derived.Test.YtdomnbgjafdnjaaPgK
import Derived.Test.YtdomnbgjafdnjaaPgTw
import Derived.Test.YtdomnbgjafdnjaaPqQ
import Derived.StillTailTactics
namespace Go.Proofs.Ytdomnbgjafdnjaa
open Go.RowKit Go.Maps Go.ChangeMaps

/-- The first i of a node's neighbours have forgotten it. -/
def dropS (S : PS) (k : Nat) (ns : List Int) : PS := ns.foldl (fun S m => S.drop m.toNat k) S
theorem dropS_take {S : PS} {k i : Nat} {ns : List Int} (h : i < ns.length) : dropS S k (ns.take (i + 1)) = (dropS S k (ns.take i)).drop ns[i].toNat k := by
  unfold dropS; rw [List.take_succ_eq_append_getElem h, List.foldl_append]; rfl
theorem dropS_same (k : Nat) (ns : List Int) : ∀ S : PS, (dropS S k ns).gone = S.gone ∧ (dropS S k ns).nodes = S.nodes ∧ ((∀ m ∈ ns, m.toNat ≠ k) → ∀ j, (dropS S k ns).near k j = S.near k j) := by
  unfold dropS
  induction ns with
  | nil => intro S; exact ⟨rfl, rfl, fun _ _ => rfl⟩
  | cons m ns ih =>
    intro S
    obtain ⟨h1, h2, h3⟩ := ih (S.drop m.toNat k)
    refine ⟨h1, h2, fun hm j => (h3 (fun m' hm' => hm m' (by simp [hm'])) j).trans ?_⟩
    have := hm m (by simp)
    simp only [PS.drop]
    rw [if_neg (fun e => this e.1.symm)]
theorem dropS_gone (k a b : Nat) (ns : List Int) : ∀ S : PS, b ≠ k → (dropS S k ns).near a b = S.near a b := by
  unfold dropS
  induction ns with
  | nil => intro S _; rfl
  | cons m ns ih =>
    intro S hb
    refine (ih (S.drop m.toNat k) hb).trans ?_
    simp only [PS.drop]
    rw [if_neg (fun e => hb e.2)]
theorem nsS_sorted (S : PS) (n k : Nat) : (nsS S n k).Pairwise (· < ·) := by
  unfold nsS
  refine List.Pairwise.filter _ (List.pairwise_map.2 ((List.pairwise_lt_range (n := n)).imp fun h => by omega))
theorem nsS_nodup (S : PS) (n k : Nat) : (nsS S n k).Nodup := (nsS_sorted S n k).imp fun h => by omega
theorem rowTw_ok {xs : List Int} {EA EB : List (List Int)} {n ca cb i : Nat} (hx : OkV xs) (hA : OkM EA n ca) (hB : OkM EB n cb) : OkV (rowTw xs EA EB cb i) := fun j => by
  have hv : ∀ j, OkV (vecTw xs EA EB i j) := fun j => fun q => addS_ok (fun q => addS_ok hx (hA.col i) q) (hB.col j) q
  unfold rowTw
  rw [List.getD_eq_getElem?_getD, List.getElem?_map]
  by_cases hj : j < cb
  · simp [hj]
    exact hv j _
  · simp [hj]
theorem twoM_ok {xs : List Int} {EA EB : List (List Int)} {n ca cb : Nat} (hx : OkV xs) (hA : OkM EA n ca) (hB : OkM EB n cb) : OkM (twoM xs EA EB ca cb) ca cb := by
  refine ⟨twoM_len .., fun r hr => by rw [twoM_get hr, rowTw_len], fun r => ?_⟩
  by_cases hr : r < ca
  · rw [twoM_get hr]; exact rowTw_ok hx hA hB
  · have : (twoM xs EA EB ca cb).getD r [] = [] := by
      rw [List.getD_eq_getElem?_getD, List.getElem?_eq_none (by rw [twoM_len]; omega)]; rfl
    rw [this]
    intro j; simp
/-- Node k is taken away: with two neighbours at most. -/
def takeS (S : PS) (cs : Nat → Nat) (n k : Nat) : PS :=
  let S1 := (dropS S k (nsS S n k)).out k
  match nsS S n k with
  | [m] => S1.vec m.toNat (oneS (S.nodes k) ((S.near k m.toNat).getD []) (S.nodes m.toNat))
  | [a, b] => S1.edge a.toNat b.toNat (cs b.toNat) (sumJ S1 a.toNat b.toNat (cs a.toNat) (twoM (S.nodes k) ((S.near k a.toNat).getD []) ((S.near k b.toNat).getD []) (cs a.toNat) (cs b.toNat)))
  | _ => S1

set_option maxRecDepth 100000 in
set_option maxHeartbeats 16000000 in
theorem take_k {w W : World} {L : Pl} {ow : Nat → Tg} {n k : Nat} {S : PS} {us : List (Nat × List Int)} {uv : Value} {uvs : List Value} (hS : SS w L ow n S us uv uvs W) (hk : k < n) (hn3 : n ≤ 300) (hg : S.gone k = false)
    (hns : ∀ m ∈ nsS S n k, S.gone m.toNat = false ∧ m.toNat ≠ k) (hsy : ∀ a b, S.gone a = false → S.gone b = false → S.near a b = none → S.near b a = none) (h1 : (nsS S n k).length ≤ 2) (hul : us.length ≤ 1000) :
    Calls Try.prog 26 #[.pointer (some ⟨L.sb, 0, none⟩), .int .i64 (k : Int)] W fun e w' => e = .returned (.tuple #[]) ∧ ∃ ow' uv' uvs', SS w L ow' n (takeS S L.cs n k) (us ++ [(k, nsS S n k)]) uv' uvs' w' := by
  obtain ⟨f, hf⟩ := hS.pr k hk
  have hkeys := hf.keys
  obtain ⟨ms, hms, hml, hmp⟩ := hS.mr
  obtain ⟨xs, hxs, hxp⟩ := hS.xr
  obtain ⟨oa, oc, rfl⟩ : ∃ oa oc, uv = .slice oa uvs.length oc := by
    obtain ⟨a, c, e, -⟩ := owns_slice hS.un
    exact ⟨a, c, e⟩
  obtain ⟨nk, Hnk⟩ : ∃ nk, Hid ((nsS S n k).length = nk) := ⟨_, (rfl : (nsS S n k).length = _)⟩
  have hbel2 : Below W.heap.size W ((W.alloc (.cells #[.pointer (some ⟨L.sb, 0, none⟩)] 46)).alloc (.cells #[.int .i64 (k : Int)] 3)) := bel_alloc (bel_alloc (bel_refl W) _) _
  have HAR : Hid (∀ X, Below W.heap.size W X → Calls Try.prog 36 #[.pointer (some ⟨L.sb, 0, none⟩), .int .i64 (k : Int)] X fun e w' => (∃ la lc, e = .returned (.slice la nk lc) ∧ IsInts (fun b => W.heap.size ≤ b) w' (.slice la nk lc) (nsS S n k)) ∧ Below X.heap.size X w') := fun X hX => by
    have r := hS.sv.keep (hX.block L.sb hS.sv.lt)
    have rm := hms.keep (hX.block L.mb hms.lt)
    refine (around_k (m := n) X (hf.mv.keep (hX.block _ hf.mv.lt)) (by omega) hf.dom L.sb L.mb 0 n L.mc k (r.cell (k := 1) rfl) hk (by rw [Nat.zero_add]; exact rm.cell (hmp k hk hg))).mono ?_
    rintro e w' ⟨v, rfl, hv, hb⟩
    rw [hkeys] at hv
    obtain ⟨la, lc, rfl, -⟩ := owns_slice hv
    have hz := hX.size
    have hi := ints_of_owns (p := fun b => W.heap.size ≤ b) hv (by have := nsS_length S n k; omega) (fun b e1 e2 e3 => by omega)
    rw [Hnk.out] at hi ⊢
    exact ⟨⟨la, lc, rfl, hi⟩, hb⟩
  have HS := hid_of hS
  have HMS := hid_of hms
  have HMP := hid_of (hmp k hk hg)
  have HXS := hid_of hxs
  have HXP := hid_of (hxp k hk)
  have HF := hid_of hf
  have hkz : (k : Int) < (n : Int) := by omega
  have HA := hid_of (HAR.out _ hbel2)
  have HB2 := hid_of hbel2
  have HNS := hid_of hns
  have HG := hid_of hg
  have HSY := hid_of hsy
  have HN1 : Hid (nk ≤ 2) := by show _ ≤ _; rw [← Hnk.out]; exact h1
  have HUL : Hid (uvs.length ≤ 1000) := by show _ ≤ _; rw [hS.ul]; exact hul
  clear hS hms hmp hxs hxp hf hkeys hbel2 HAR hns h1 hg hul hsy
  go_enter Try.func26, Try.ntmps26
  go_wp2_with fail
  refine HA.out.mono ?_
  rintro e W1 ⟨⟨la, lc, rfl, hni⟩, hb1⟩
  have hbA := bel_call HB2.out hb1
  have hs1 := hb1.size
  have s0 : Row W1 W.heap.size 46 [.pointer (some ⟨L.sb, 0, none⟩)] := Row.keep (W := ((W.alloc (.cells #[.pointer (some ⟨L.sb, 0, none⟩)] 46)).alloc (.cells #[.int .i64 (k : Int)] 3))) (heap_alloc_ne _ _ _ _ (heap_alloc_eq _ _ _ rfl)) (hb1.block _ (by simp; omega))
  have s1 : Row W1 (W.heap.size + 1) 3 [.int .i64 (k : Int)] := Row.keep (W := ((W.alloc (.cells #[.pointer (some ⟨L.sb, 0, none⟩)] 46)).alloc (.cells #[.int .i64 (k : Int)] 3))) (heap_alloc_eq _ _ _ (by simp)) (hb1.block _ (by simp))
  simp at hs1
  go_upto_region 2 with fail
  refine wp_at (fun X => Row X W.heap.size 46 [.pointer (some ⟨L.sb, 0, none⟩)] ∧ Row X (W.heap.size + 1) 3 [.int .i64 (k : Int)] ∧ Row X W1.heap.size 26 [.slice la nk lc] ∧ IsInts (fun b => W.heap.size ≤ b) X (.slice la nk lc) (nsS S n k) ∧ Below W.heap.size W X)
    ⟨s0.keep ((bel_alloc (bel_refl W1) _).block _ s0.lt), s1.keep ((bel_alloc (bel_refl W1) _).block _ s1.lt), heap_alloc_eq _ _ _ rfl, hni.keep (Keep.below (bel_alloc (bel_refl W1) _)), bel_alloc hbA _⟩ ?_
  clear s0 s1 hb1 hbA hni
  rintro X ⟨s0, s1, s2, s3, hX⟩
  have c0 := s0.cell (k := 0) rfl
  have c1 := s1.cell (k := 0) rfl
  have hsv := HS.out.sv.keep (hX.block L.sb HS.out.sv.lt)
  have cn := hsv.cell (k := 0) rfl
  have cm := hsv.cell (k := 1) rfl
  have cx : X.cell? ⟨L.xb, k, none⟩ = some (.slice (some ⟨L.vb k, 0, none⟩) (L.cs k) (L.vc k)) := (HXS.out.keep (hX.block L.xb HXS.out.lt)).cell HXP.out
  have cb : X.cell? ⟨L.mb, k, none⟩ = some (.map (some (L.pb k))) := (HMS.out.keep (hX.block L.mb HMS.out.lt)).cell HMP.out
  have HQ := hid_of (And.intro s0 (And.intro s1 (And.intro s2 (And.intro s3 hX))))
  have HSL : Hid (W1.heap.size < X.heap.size) := s2.lt
  have l0 := s0.lt
  have l1 := s1.lt
  have l2 := s2.lt
  have l3 := lt_of_cell cn
  have l4 := lt_of_cell cx
  have l5 := lt_of_cell cb
  dsimp only at l3 l4 l5
  clear s0 s1 s2 s3 hX hsv
  obtain ⟨vbk, Hvbk⟩ : ∃ v, Hid (L.vb k = v) := ⟨_, (rfl : L.vb k = _)⟩
  obtain ⟨csk, Hcsk⟩ : ∃ v, Hid (L.cs k = v) := ⟨_, (rfl : L.cs k = _)⟩
  obtain ⟨vck, Hvck⟩ : ∃ v, Hid (L.vc k = v) := ⟨_, (rfl : L.vc k = _)⟩
  obtain ⟨pbk, Hpbk⟩ : ∃ v, Hid (L.pb k = v) := ⟨_, (rfl : L.pb k = _)⟩
  obtain ⟨xc, Hxc⟩ : ∃ v, Hid (L.xc = v) := ⟨_, (rfl : L.xc = _)⟩
  obtain ⟨mc, Hmc⟩ : ∃ v, Hid (L.mc = v) := ⟨_, (rfl : L.mc = _)⟩
  rw [Hvbk.out, Hcsk.out, Hvck.out] at cx
  rw [Hpbk.out] at cb
  rw [Hxc.out] at cn
  rw [Hmc.out] at cm
  go_cut [5, 6] (fun s5 s6 wx => ∃ o e : Nat, s5 = .pointer (some ⟨o, 0, none⟩) ∧ s6 = .pointer (some ⟨e, 0, none⟩) ∧ (X.heap.size ≤ o ∧ X.heap.size ≤ e) ∧ (Row wx o 71 [.slice (some ⟨vbk, 0, none⟩) csk vck] ∧ Row wx e 67 [.map (some pbk)]) ∧ Below X.heap.size X wx)
  case first =>
    have hE0 : BkS X X := bel_refl X
    obtain ⟨sb, Hsb⟩ : ∃ v, Hid (L.sb = v) := ⟨_, (rfl : L.sb = _)⟩
    obtain ⟨xb, Hxb⟩ : ∃ v, Hid (L.xb = v) := ⟨_, (rfl : L.xb = _)⟩
    obtain ⟨mb, Hmb⟩ : ∃ v, Hid (L.mb = v) := ⟨_, (rfl : L.mb = _)⟩
    rw [Hsb.out] at c0 cn cm l3
    rw [Hxb.out] at cn cx l4
    rw [Hmb.out] at cm cb l5
    have hKS : ∀ Y, BkS X Y → Y.cell? ⟨W.heap.size, 0, none⟩ = some (.pointer (some ⟨sb, 0, none⟩)) ∧ Y.cell? ⟨W.heap.size + 1, 0, none⟩ = some (.int .i64 (k : Int)) ∧ Y.cell? ⟨sb, 0, none⟩ = some (.slice (some ⟨xb, 0, none⟩) n xc) ∧ Y.cell? ⟨sb, 1, none⟩ = some (.slice (some ⟨mb, 0, none⟩) n mc) ∧ Y.cell? ⟨xb, k, none⟩ = some (.slice (some ⟨vbk, 0, none⟩) csk vck) ∧ Y.cell? ⟨mb, k, none⟩ = some (.map (some pbk)) := fun Y hY =>
      ⟨(World.cell?_of_block (a := ⟨W.heap.size, 0, none⟩) (hY.block _ l0)).trans c0, (World.cell?_of_block (a := ⟨W.heap.size + 1, 0, none⟩) (hY.block _ l1)).trans c1, (World.cell?_of_block (a := ⟨sb, 0, none⟩) (hY.block _ l3)).trans cn, (World.cell?_of_block (a := ⟨sb, 1, none⟩) (hY.block _ l3)).trans cm, (World.cell?_of_block (a := ⟨xb, k, none⟩) (hY.block _ l4)).trans cx, (World.cell?_of_block (a := ⟨mb, k, none⟩) (hY.block _ l5)).trans cb⟩
    clear c0 c1 cn cm cx cb HS HMS HMP HXS HXP HF HQ HNS
    go_region_held3 (fun Y => Y.cell? ⟨W.heap.size, 0, none⟩ = some (.pointer (some ⟨sb, 0, none⟩)) ∧ Y.cell? ⟨W.heap.size + 1, 0, none⟩ = some (.int .i64 (k : Int)) ∧ Y.cell? ⟨sb, 0, none⟩ = some (.slice (some ⟨xb, 0, none⟩) n xc) ∧ Y.cell? ⟨sb, 1, none⟩ = some (.slice (some ⟨mb, 0, none⟩) n mc) ∧ Y.cell? ⟨xb, k, none⟩ = some (.slice (some ⟨vbk, 0, none⟩) csk vck) ∧ Y.cell? ⟨mb, k, none⟩ = some (.map (some pbk)))
      ((refine hKS _ ?_; repeat (first | exact Nat.le_refl _ | exact hE0 | refine bk_drew ?_ | refine bk_alloc ?_ _ | refine bk_set ?_ ?_ _ | (simp; omega)))) (fail)
    all_goals (try go_wp2_with fail)
    all_goals go_meet
    all_goals refine ⟨_, _, rfl, rfl, ⟨by omega, by omega⟩, ⟨?_, ?_⟩, bk_drew (bk_alloc (bk_alloc hE0 _) _)⟩
    all_goals first | exact heap_alloc_eq _ _ _ (by simp) | exact heap_alloc_ne _ _ _ _ (heap_alloc_eq _ _ _ rfl)
  case rest =>
    obtain ⟨o, e, rfl, rfl, ⟨ho, he⟩, ⟨hoc, hec⟩, hX2⟩ := hcut
    clear c0 c1 cn cm cx cb l0 l1 l2 l3 l4 l5
    obtain ⟨s0, s1, s2, s3, hX⟩ := HQ.out
    have hXW : Below W.heap.size W wc := bel_call hX hX2
    have hTK : TkB L ow k W.heap.size W1.heap.size o e la lc (nsS S n k) wc := by
      have hx1 := hX.size
      refine ⟨s0.keep (hX2.block _ s0.lt), s1.keep (hX2.block _ s1.lt), ?_, ?_, ?_, ⟨HS.out.nw _ (Nat.le_refl _), HS.out.nw _ (by omega), HS.out.nw _ (by omega), HS.out.nw _ (by omega), HS.out.nw _ (by omega)⟩, ?_⟩
      · rw [Hnk.out]; exact s2.keep (hX2.block _ s2.lt)
      · rw [Hvbk.out, Hcsk.out, Hvck.out]; exact hoc
      · rw [Hpbk.out]; exact hec
      · rw [Hnk.out]; exact s3.keep (fun b hb hlt => ⟨HS.out.nw b hb, hX2.block b hlt⟩)
    have HUN := fun gg cap w1 ho hg hat => SS.undo (w1 := w1) (uv' := .slice (some ⟨gg, 0, none⟩) (uvs.length + 1) cap) (gg := gg) (cap := cap) HS.out hXW rfl ho hg hat hTK.clo
    have hsv := HS.out.sv.keep (hXW.block L.sb HS.out.sv.lt)
    have b0 := hTK.b0.cell (k := 0) rfl
    have b2 := hsv.cell (k := 2) rfl
    have hu := owns_below HS.out.un hXW
    obtain ⟨i0, hi0, hz0, hz1, hz2⟩ := info_parts infoFn
    have hsbl := hsv.lt
    have HTK := hid_of hTK
    have hl0 := hTK.b0.lt
    have HSZ : Hid (w.heap.size ≤ wc.heap.size) := by show _ ≤ _; have := HS.out.bel.size; have := hXW.size; omega
    have HB0 : Hid (ow W.heap.size = .old) := HS.out.nw _ (Nat.le_refl _)
    obtain ⟨vl, Hvl⟩ : ∃ vl, Hid (uvs.length = vl) := ⟨_, (rfl : uvs.length = _)⟩
    have hvm : vl ≤ 1000 := by rw [← Hvl.out]; exact HUL.out
    have HVM := hid_of hvm
    have HUV : Hid (w.heap.size ≤ wc.heap.size) := HSZ
    rw [Hvl.out] at b2 hu HUN
    clear s0 s1 s2 s3 hX hX2 hoc hec hsv hTK
    go_upto_region 3 with fail
    go_cut [] (fun wx => ∃ ow' uv' uvs', SS w L ow' n S (us ++ [(k, nsS S n k)]) uv' uvs' wx ∧ TkB L ow' k W.heap.size W1.heap.size o e la lc (nsS S n k) wx)
    case first =>
      have HUN := hid_of HUN
      clear hXW HMS HMP HXS HXP HF HQ HNS HS
      obtain ⟨sb, Hsb⟩ : ∃ v, Hid (L.sb = v) := ⟨_, (rfl : L.sb = _)⟩
      rw [Hsb.out] at b0 b2 HUN hsbl
      --[[
      go_region_law (first | refine step_append_lies _ (by rfl) _ _ _ (by rfl) w.heap.size 1 i0 _ 1 8 Try.underlying53 hi0 hz0 hz1 hz2 rfl (by omega) (.slice oa vl oc) vl uvs (by rfl) ((hu.alloc _).drew) ⟨wc.heap.size, 0, none⟩ 1 1 [.func (.func 37) #[] #[.pointer (some ⟨o, 0, none⟩), .pointer (some ⟨W1.heap.size, 0, none⟩), .pointer (some ⟨e, 0, none⟩), .pointer (some ⟨W.heap.size, 0, none⟩), .pointer (some ⟨W.heap.size + 1, 0, none⟩)]] (by rfl) (by rfl) (World.news_of_block (cs := #[.func (.func 37) #[] #[.pointer (some ⟨o, 0, none⟩), .pointer (some ⟨W1.heap.size, 0, none⟩), .pointer (some ⟨e, 0, none⟩), .pointer (some ⟨W.heap.size, 0, none⟩), .pointer (some ⟨W.heap.size + 1, 0, none⟩)]]) (t := 1) (fr := (0, 0)) (heap_alloc_new wc _)) (by simp [Value.oneCell']) (by omega) (by unfold maxLen; omega) (by omega) (by have := HSZ.out; simp; omega) (wc.heap.size + 1) (by simp) ?_; intro gg cap w1 hown1 hgrow hat hlt; obtain ⟨u1, u2, u3, u4, u5⟩ := HUN.out gg cap w1 hown1 hgrow hat; have u6 := (World.cell?_of_block (a := ⟨W.heap.size, 0, none⟩) (u5 W.heap.size hl0 HB0.out)).trans b0)
      all_goals (try go_wp2_with fail)
      all_goals go_meet
      all_goals obtain ⟨ow', u3, u7⟩ := u3
      all_goals exact ⟨ow', _, _, u3, HTK.out.keep fun b hb hbo => ⟨u7 b hb hbo, u4 b hb hbo⟩⟩
      --]]
    case rest =>
      obtain ⟨ow2, uv2, uvs2, hS2, hT2⟩ := hcut
      clear hu hXW b0 b2 hsbl HUN hl0
      have HST := hid_of (And.intro hS2 hT2)
      have b4 := hT2.b2.cell (k := 0) rfl
      rw [Hnk.out] at b4
      obtain ⟨S0, HS0⟩ : ∃ S0, Hid (S = S0) := ⟨_, (rfl : S = _)⟩
      have HL0 : Hid (SS w L ow2 n (dropS S k ((nsS S n k).take 0)) (us ++ [(k, nsS S n k)]) uv2 uvs2 wc ∧ TkB L ow2 k W.heap.size W1.heap.size o e la lc (nsS S n k) wc) := ⟨hS2, hT2⟩
      have hnk3 : nk ≤ 300 := by have := HN1.out; omega
      clear hS2 hT2 HST
      go_wp2_with fail
      clear b4
      go_loopw [38] (fun s38 wx => ∃ i : Nat, i ≤ nk ∧ s38 = .int .i64 i ∧ Hid (SS w L ow2 n (dropS S k ((nsS S n k).take i)) (us ++ [(k, nsS S n k)]) uv2 uvs2 wx ∧ TkB L ow2 k W.heap.size W1.heap.size o e la lc (nsS S n k) wx)) (fun s38 _ => nk - (intOf s38).toNat)
      case atStart => exact ⟨0, by omega, rfl, HL0⟩
      case round =>
        obtain ⟨i, hi, rfl, HI⟩ := hrel
        clear HL0
        by_cases hit : i < nk
        · obtain ⟨hSi, hTi⟩ := HI.out
          have hix : i < (nsS S n k).length := by rw [Hnk.out]; exact hit
          have hni := hTi.ni
          rw [Hnk.out] at hni
          obtain ⟨nb, no, rfl, -, cn⟩ := ints_at hni hix
          have hgk : (nsS S n k).getD i 0 = (nsS S n k)[i] := by simp [List.getD, hix]
          rw [hgk] at cn
          have hmem := List.getElem_mem hix
          obtain ⟨hm0, hm1⟩ := HNS.out _ hmem
          obtain ⟨⟨hr0, hr1⟩, -⟩ := mem_nsS.1 hmem
          have hdt := dropS_take (S := S) (k := k) hix
          obtain ⟨mN, HmN⟩ : ∃ mN : Nat, Hid ((nsS S n k)[i] = mN) := ⟨(nsS S n k)[i].toNat, by show _ = _; omega⟩
          rw [HmN.out] at cn hm0 hm1 hr0 hr1 hdt
          simp only [Int.toNat_natCast] at hm0 hm1 hdt
          have hmn : mN < n := by omega
          obtain ⟨ms2, hms2, -, hmp2⟩ := hSi.mr
          have hgd : (dropS S k ((nsS S n k).take i)).gone mN = false := by rw [(dropS_same k _ S).1]; exact hm0
          have cm := hms2.cell (hmp2 mN hmn hgd)
          obtain ⟨f2, hf2⟩ := hSi.pr mN hmn
          have b0 := hTi.b0.cell (k := 0) rfl
          have b1 := hTi.b1.cell (k := 0) rfl
          have c1 := hSi.sv.cell (k := 1) rfl
          have HM2 := hid_of hf2.mv
          have HF2 := hid_of hf2
          have HDT := hid_of hdt
          have HSI := hid_of hSi
          have HTI := hid_of hTi
          have hiz : (i : Int) < (nk : Int) := by omega
          have HPT : Hid (ow2 (L.pb mN) = .map mN) := (hSi.tv mN hmn).2
          clear hSi hTi hni hgk hmem hm0 hm1 hdt hms2 hmp2 hgd hf2 HI
          go_wp2_with fail
          go_still_tail 8, (by kernel_rfl)
          change wpList _ _ _ _ _ wr.drew
          refine wp_dele rfl _ _ rfl (HM2.out.keep (W' := wr.drew) rfl) (k : Int) rfl rfl (In64.of (by omega) (by omega)) ?_
          intro W3 hM3 ht3
          have hSd : SS w L ow2 n (dropS S k ((nsS S n k).take i)) (us ++ [(k, nsS S n k)]) uv2 uvs2 wr.drew := HSI.out.below (bk_drew (bel_refl wr))
          have hS3 := hSd.dele hmn hk (HF2.out.keep (t := fun _ => False) rfl (fun _ _ _ => rfl) (fun _ => id)) hM3 ht3
          rw [← HDT.out] at hS3
          have hT3 := (HTI.out.keep (ow' := ow2) (W' := wr.drew) (fun b _ hb => ⟨hb, rfl⟩)).kt (mapTurned_kt ht3 HPT.out) (by simp)
          have H3 : Hid (SS w L ow2 n (dropS S k ((nsS S n k).take (i + 1))) (us ++ [(k, nsS S n k)]) uv2 uvs2 W3 ∧ TkB L ow2 k W.heap.size W1.heap.size o e (some ⟨nb, no, none⟩) lc (nsS S n k) W3) := ⟨hS3, hT3⟩
          clear hSd hS3 hT3 hM3 ht3 b0 b1 c1 cm cn HSI HTI HM2 HF2
          go_wp2_with fail
          go_roundw
          case rel => exact ⟨i + 1, by omega, by go_num, H3⟩
          case measure => simp [intOf]; omega
        · obtain rfl : i = nk := by omega
          obtain ⟨hSi, hTi⟩ := HI.out
          rw [List.take_of_length_le (by rw [Hnk.out]; exact Nat.le_refl _)] at hSi
          obtain ⟨ms2, hms2, hml2, hmp2⟩ := hSi.mr
          have cm := hms2.cell (hmp2 k hk (by rw [(dropS_same k _ S).1]; exact HG.out))
          have fm := hms2.frozen k
          have b0 := hTi.b0.cell (k := 0) rfl
          have b1 := hTi.b1.cell (k := 0) rfl
          have c1 := hSi.sv.cell (k := 1) rfl
          have HH := hid_of (hSi.half hk)
          have HT2 := hid_of (hTi.kt (W' := wr.setCell ⟨L.mb, k, none⟩ (.map none)) (hSi.half hk).kt (by simp))
          clear hSi hTi hms2 hmp2 HI
          go_wp2_with fail
          go_region
          refine k_at (fun Y => Half w L ow2 n (dropS S k (nsS S n k)) (us ++ [(k, nsS S n k)]) uv2 uvs2 k wr Y ∧ TkB L ow2 k W.heap.size W1.heap.size o e la lc (nsS S n k) Y) ⟨HH.out.drew1, HT2.out.drewN 1⟩ ?_
          clear b0 b1 c1 cm fm HH HT2
          rintro Y ⟨hH, hTi⟩
          have b0 := hTi.b0.cell (k := 0) rfl
          have b1 := hTi.b1.cell (k := 0) rfl
          have hsv := hH.ss.sv.keep hH.sv
          have hgr := hH.ss.gr.keep hH.gr
          have c4 := hsv.cell (k := 4) rfl
          have cg := hgr.cell (k := k) (v := .bool ((dropS S k (nsS S n k)).gone k)) (by simp [Go.Proofs.Ytdomnbgjafdnjaa.bools, hk])
          have fg := hgr.frozen k
          have hD := hH.done hk
          have HD := hid_of hD
          have HT3 := hid_of (hTi.keep (ow' := ow2) (W' := Y.setCell ⟨L.gb, k, none⟩ (.bool true)) (fun b hlt hb => ⟨hb, Below.heap_setCell _ _ _ _ (by rintro rfl; rw [hH.ss.ts.2.2.1] at hb; simp at hb)⟩))
          clear hH hTi hsv hgr hD
          go_wp2_with fail
          go_region
          refine k_at (fun Z => SS w L ow2 n ((dropS S k (nsS S n k)).out k) (us ++ [(k, nsS S n k)]) uv2 uvs2 Z ∧ TkB L ow2 k W.heap.size W1.heap.size o e la lc (nsS S n k) Z) ⟨HD.out.below (bk_drew (bel_refl _)), HT3.out.drewN 1⟩ ?_
          clear b0 b1 c4 cg fg HD HT3
          rintro Z ⟨hS4, hT4⟩
          have b2 := hT4.b2.cell (k := 0) rfl
          rw [Hnk.out] at b2
          by_cases hn0 : i = 0
          · subst hn0
            have hnn : nsS S n k = [] := List.length_eq_zero_iff.1 Hnk.out
            have HT4 : Hid (SS w L ow2 n (takeS S L.cs n k) (us ++ [(k, nsS S n k)]) uv2 uvs2 Z) := by
              show SS _ _ _ _ _ _ _ _ _
              unfold takeS
              rw [hnn] at hS4 ⊢
              exact hS4
            clear hS4 hT4
            go_wp2_with fail
            go_end0
            exact ⟨rfl, _, _, _, HT4.out⟩
          · by_cases hn1 : i = 1
            · subst hn1
              obtain ⟨m0, hnn⟩ : ∃ m0, nsS S n k = [m0] := List.length_eq_one_iff.1 Hnk.out
              have hmem : m0 ∈ nsS S n k := by rw [hnn]; simp
              obtain ⟨hm0, hm1⟩ := HNS.out _ hmem
              obtain ⟨⟨hr0, hr1⟩, hsm⟩ := mem_nsS.1 hmem
              obtain ⟨M, hM⟩ : ∃ M, S.near k m0.toNat = some M := Option.isSome_iff_exists.1 hsm
              have hsame := dropS_same k (nsS S n k) S
              obtain ⟨mN, rfl⟩ : ∃ mN : Nat, m0 = (mN : Int) := ⟨m0.toNat, by omega⟩
              simp only [Int.toNat_natCast] at hm0 hm1 hM
              have hmn : mN < n := by omega
              have hnd : ((dropS S k (nsS S n k)).out k).nodes = S.nodes := hsame.2.1
              have hnr : ((dropS S k (nsS S n k)).out k).near k mN = some M := (hsame.2.2 (fun m hm => (HNS.out m hm).2) mN).trans hM
              obtain ⟨f2, hf2⟩ := hS4.pr k hk
              obtain ⟨oa, mcc, rbm, rcm, hfm, hMx, hOM⟩ := hf2.yes mN hmn M hnr
              have hMr := hMx.rows
              obtain ⟨xs2, hxs2, hxp2⟩ := hS4.xr
              have hvk := hS4.vr k hk
              have hvm := hS4.vr mN hmn
              have htk := hS4.tv k hk
              have htm := hS4.tv mN hmn
              have hne : ∀ b, ow2 b ≠ .vec mN → b ≠ L.vb mN := fun b hb e => hb (by rw [e]; exact htm.1)
              have hvbne : L.vb k ≠ L.vb mN := hne _ (by rw [htk.1]; simp; omega)
              have hvkl := hvk.row.lt
              have hxi : IsInts (fun b => b < Z.heap.size ∧ b ≠ L.vb mN) Z (.slice (some ⟨L.vb k, 0, none⟩) (L.cs k) (L.vc k)) (S.nodes k) := by
                have hl := hvk.len
                have := hvk.row.ints (p := fun b => b < Z.heap.size ∧ b ≠ L.vb mN) (c := L.vc k) ⟨hvkl, hvbne⟩ (by have := hvk.cap; omega) (by have := hvk.cap; omega)
                rw [hl] at this
                rw [hnd] at this
                exact this
              have hONE := fun q => one_c (p := fun b => b < Z.heap.size ∧ b ≠ L.vb mN) (Z.drewN q) (sb := L.sb) (xb := L.xb) (xc := L.xc) (n := n) (b := L.pb k) (mN := mN) (vc := L.vc mN) (fun b hb => hb) (hS4.sv.cell (k := 0) rfl) (hxs2.cell (hxp2 mN hmn)) (hne _ (by rw [hS4.ts.1]; simp)) (hne _ (by rw [hS4.ts.2.2.2.1]; simp)) hmn hn3
                hxi (by rw [← hnd]; exact hvk.ok) hvk.cap.2.1 (by have := hvk.cap; omega) (hf2.mv.keep rfl) hfm (hMr.keep (fun b hb hlt => ⟨⟨hlt, hne b (by rw [hb]; simp)⟩, rfl⟩)) hOM (by have := hvm.cap; omega) (by have := hvm.row; rw [hnd] at this; exact this) (by have := hvm.len; rw [hnd] at this; exact this) (by have := hvm.ok; rw [hnd] at this; exact this)
              have HFI : Hid (∀ q w', RowP w' (L.vb mN) 3 (ints (oneS (S.nodes k) M (S.nodes mN))) → Only2 (L.vb mN) (Z.drewN q) w' → SS w L ow2 n (takeS S L.cs n k) (us ++ [(k, nsS S n k)]) uv2 uvs2 w') := fun q w' h1 h2 => by
                have h3 := (hS4.drewN q).turn hmn h1 (by unfold oneS; rw [oneK_length, ← hnd]; exact hvm.len) (oneS_ok hOM (by rw [← hnd]; exact hvk.ok) (by rw [← hnd]; exact hvm.ok)) h2
                have e1 : takeS S L.cs n k = ((dropS S k (nsS S n k)).out k).vec mN (oneS (S.nodes k) M (S.nodes mN)) := by
                  unfold takeS
                  rw [hnn]
                  simp only [Int.toNat_natCast, hM, Option.getD_some]
                rw [e1]
                exact h3
              have hni := hT4.ni
              rw [Hnk.out] at hni
              obtain ⟨nb, no, rfl, -, cn⟩ := ints_at hni (show 0 < (nsS S n k).length by rw [Hnk.out]; exact Nat.one_pos)
              have hgk : (nsS S n k).getD 0 0 = (mN : Int) := by rw [hnn]; rfl
              rw [hgk, Nat.add_zero] at cn
              have b0 := hT4.b0.cell (k := 0) rfl
              have bo := hT4.bo.cell (k := 0) rfl
              have be := hT4.be.cell (k := 0) rfl
              clear hS4 hT4 hmem hm0 hm1 hr0 hr1 hsm hsame hnd hnr hf2 hfm hMr hMx hOM hxs2 hxp2 hvk hvm htk htm hne hvbne hvkl hxi hni hgk
              go_wp2_with fail
              go_still_tail 6, (by kernel_rfl)
              change wpList _ _ _ _ _ Z.drew
              go_wp2_with fail
              refine (hONE 1).mono ?_
              rintro e5 w5 ⟨rfl, h5, h6⟩
              have HT5 := hid_of (HFI.out 1 w5 h5 h6)
              clear h5 h6 hONE HFI b0 bo be cn b2
              go_wp2_with fail
              go_end0
              exact ⟨rfl, _, _, _, HT5.out⟩
            · obtain rfl : i = 2 := by have := HN1.out; omega
              obtain ⟨a0, b0', hnn⟩ : ∃ a0 b0', nsS S n k = [a0, b0'] := by
                have h2 := Hnk.out
                match hq : nsS S n k, h2 with
                | [x, y], _ => exact ⟨x, y, rfl⟩
              have hma : a0 ∈ nsS S n k := by rw [hnn]; simp
              have hmb : b0' ∈ nsS S n k := by rw [hnn]; simp
              obtain ⟨hga, hka⟩ := HNS.out _ hma
              obtain ⟨hgb, hkb⟩ := HNS.out _ hmb
              obtain ⟨⟨ha0, ha1⟩, hsa⟩ := mem_nsS.1 hma
              obtain ⟨⟨hb0, hb1⟩, hsb⟩ := mem_nsS.1 hmb
              obtain ⟨MA, hMA⟩ : ∃ M, S.near k a0.toNat = some M := Option.isSome_iff_exists.1 hsa
              obtain ⟨MB, hMB⟩ : ∃ M, S.near k b0'.toNat = some M := Option.isSome_iff_exists.1 hsb
              have hnd2 := nsS_nodup S n k
              rw [hnn] at hnd2
              have hab0 : a0 ≠ b0' := by simpa using hnd2
              have hsame := dropS_same k (nsS S n k) S
              obtain ⟨aN, rfl⟩ : ∃ aN : Nat, a0 = (aN : Int) := ⟨a0.toNat, by omega⟩
              obtain ⟨bN, rfl⟩ : ∃ bN : Nat, b0' = (bN : Int) := ⟨b0'.toNat, by omega⟩
              simp only [Int.toNat_natCast] at hga hgb hka hkb hMA hMB
              have han : aN < n := by omega
              have hbn : bN < n := by omega
              have hab : aN ≠ bN := by omega
              obtain ⟨S1, HS1⟩ : ∃ S1, Hid ((dropS S k (nsS S n k)).out k = S1) := ⟨_, (rfl : (dropS S k (nsS S n k)).out k = _)⟩
              have hnd : S1.nodes = S.nodes := by rw [← HS1.out]; exact hsame.2.1
              have hnr : ∀ j, S1.near k j = S.near k j := fun j => by rw [← HS1.out]; exact hsame.2.2 (fun m hm => (HNS.out m hm).2) j
              have hnr2 : ∀ x y, y ≠ k → S1.near x y = S.near x y := fun x y hy => by rw [← HS1.out]; exact dropS_gone k x y _ S hy
              have hgn : ∀ j, j ≠ k → S1.gone j = S.gone j := fun j hj => by rw [← HS1.out]; simp [PS.out, hj, hsame.1]
              rw [HS1.out] at hS4
              have e1 : takeS S L.cs n k = S1.edge aN bN (L.cs bN) (sumJ S1 aN bN (L.cs aN) (twoM (S.nodes k) MA MB (L.cs aN) (L.cs bN))) := by
                rw [← HS1.out]
                unfold takeS
                rw [hnn]
                simp only [Int.toNat_natCast, hMA, hMB, Option.getD_some]
              obtain ⟨f2, hf2⟩ := hS4.pr k hk
              obtain ⟨oa, mca, rba, rca, hfa, hMxa, hOa⟩ := hf2.yes aN han MA ((hnr _).trans hMA)
              obtain ⟨ob, mcb, rbb, rcb, hfb, hMxb, hOb⟩ := hf2.yes bN hbn MB ((hnr _).trans hMB)
              have hvk := hS4.vr k hk
              have hca := (hS4.vr aN han).cap
              have hcb := (hS4.vr bN hbn).cap
              have hck := hvk.cap
              have hvo := hvk.ok
              have hvl := hvk.len
              rw [hnd] at hvo hvl
              have hxi : IsInts (fun b => b < Z.heap.size) Z (.slice (some ⟨L.vb k, 0, none⟩) (L.cs k) (L.vc k)) (S.nodes k) := by
                have := hvk.row.ints (p := fun b => b < Z.heap.size) (c := L.vc k) hvk.row.lt (by have := hvk.len; omega) (by have := hvk.len; omega)
                rw [hvk.len, hnd] at this
                exact this
              have hTO := twoM_ok hvo hOa hOb
              have hTWO := fun q => two_c (p := fun b => b < Z.heap.size) (Z.drewN q) (sb := L.sb) (mb := L.pb k) (aN := aN) (bN := bN) (R := fun w' => ∃ ow', SS w L ow' n (takeS S L.cs n k) (us ++ [(k, nsS S n k)]) uv2 uvs2 w') (fun b hb => hb) hxi hvo hck.2.1 (by omega) (hf2.mv.keep rfl) (by omega) (by omega) hca.2.1 hcb.2.1
                hfa hfb (hMxa.rows.keep (fun b hb hlt => ⟨hlt, rfl⟩)) (hMxb.rows.keep (fun b hb hlt => ⟨hlt, rfl⟩)) hOa hOb (by omega) (by omega) (fun W' o5 oc5 rb5 rc5 h5 h6 =>
                  ((hS4.drewN q).join h5 han hbn hab hn3 (by rw [hgn _ hka]; exact hga) (by rw [hgn _ hkb]; exact hgb) (fun h7 => by rw [hnr2 _ _ hka]; rw [hnr2 _ _ hkb] at h7; exact HSY.out _ _ hga hgb h7) hTO h6).mono (by rintro e w' ⟨rfl, h8, -⟩; rw [e1]; exact ⟨rfl, h8⟩))
              have hni := hT4.ni
              rw [Hnk.out] at hni
              obtain ⟨nb, no, hla, -, cn⟩ := ints_at hni (show 0 < (nsS S n k).length by rw [Hnk.out]; exact Nat.two_pos)
              obtain ⟨nb', no', hla', -, cn2⟩ := ints_at hni (show 1 < (nsS S n k).length by rw [Hnk.out]; exact Nat.one_lt_two)
              rw [hla] at hla'
              simp only [Option.some.injEq, Addr.mk.injEq, and_true] at hla'
              obtain ⟨rfl, rfl⟩ := hla'
              subst hla
              have hgk : (nsS S n k).getD 0 0 = (aN : Int) := by rw [hnn]; rfl
              have hgk2 : (nsS S n k).getD 1 0 = (bN : Int) := by rw [hnn]; rfl
              rw [hgk, Nat.add_zero] at cn
              rw [hgk2] at cn2
              have b0 := hT4.b0.cell (k := 0) rfl
              have bo := hT4.bo.cell (k := 0) rfl
              have be := hT4.be.cell (k := 0) rfl
              have HTW := hid_of hTWO
              clear hS4 hT4 hma hmb hga hgb hka hkb ha0 ha1 hb0 hb1 hsa hsb hnd2 hab0 hsame hnd hnr hnr2 hgn e1 hf2 hfa hfb hMxa hMxb hOa hOb hvk hca hcb hck hvo hvl hxi hTO hTWO hni hgk hgk2
              go_wp2_with fail
              go_still_tail 9, (by kernel_rfl)
              change wpList _ _ _ _ _ Z.drew
              go_wp2_with fail
              refine (HTW.out 1).mono ?_
              rintro e5 w5 ⟨rfl, ow5, hT5⟩
              have HT5 := hid_of hT5
              clear hT5 b0 bo be cn cn2 b2 HTW
              go_wp2_with fail
              go_end0
              exact ⟨rfl, _, _, _, HT5.out⟩
end Go.Proofs.Ytdomnbgjafdnjaa
