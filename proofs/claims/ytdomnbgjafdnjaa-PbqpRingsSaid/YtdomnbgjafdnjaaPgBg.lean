/- The general solver: it is begun, with edges. -/
import Derived.Test.YtdomnbgjafdnjaaPgBs
namespace Go.Proofs.Ytdomnbgjafdnjaa
open Go.RowKit Go.Maps Go.ChangeMaps

def edgeS (N : List (List Int)) (S : PS) (e : EdgeD) : PS := S.edge e.a.toNat e.b.toNat (N.getD e.b.toNat []).length (sumJ S e.a.toNat e.b.toNat (N.getD e.a.toNat []).length e.cost)
/-- Nothing has been taken away. -/
def beginS (N : List (List Int)) (Es : List EdgeD) : PS := Es.foldl (edgeS N) (initS N)
theorem beginS_take {N : List (List Int)} {Es : List EdgeD} {i : Nat} (h : i < Es.length) : beginS N (Es.take (i + 1)) = edgeS N (beginS N (Es.take i)) Es[i] := by
  unfold beginS; rw [List.take_succ_eq_append_getElem h, List.foldl_append]; rfl
theorem begin_gone (N : List (List Int)) (Es : List EdgeD) (q : Nat) : (beginS N Es).gone q = false := by
  unfold beginS
  have : ∀ (Es : List EdgeD) (S : PS), (Es.foldl (edgeS N) S).gone = S.gone := fun Es => by
    induction Es with
    | nil => intro S; rfl
    | cons e Es ih => intro S; exact ih (edgeS N S e)
  rw [this]; rfl
theorem begin_l (N : List (List Int)) (Es : List EdgeD) : (beginS N Es).l = List.replicate N.length 0 ∧ (beginS N Es).nodes = fun k => N.getD k [] := by
  unfold beginS
  have : ∀ (Es : List EdgeD) (S : PS), (Es.foldl (edgeS N) S).l = S.l ∧ (Es.foldl (edgeS N) S).nodes = S.nodes := fun Es => by
    induction Es with
    | nil => intro S; exact ⟨rfl, rfl⟩
    | cons e Es ih => intro S; exact ih (edgeS N S e)
  rw [(this Es _).1, (this Es _).2]; exact ⟨rfl, rfl⟩
theorem begin_sym (N : List (List Int)) (Es : List EdgeD) (a b : Nat) : (beginS N Es).near a b = none → (beginS N Es).near b a = none := by
  unfold beginS
  have : ∀ (Es : List EdgeD) (S : PS), (∀ a b, S.near a b = none → S.near b a = none) → ∀ a b, (Es.foldl (edgeS N) S).near a b = none → (Es.foldl (edgeS N) S).near b a = none := fun Es => by
    induction Es with
    | nil => intro S h; exact h
    | cons e Es ih =>
      intro S h
      refine ih (edgeS N S e) fun a b => ?_
      unfold edgeS PS.edge
      dsimp only
      by_cases h1 : a = e.a.toNat ∧ b = e.b.toNat
      · rw [if_pos h1]; simp
      · rw [if_neg h1]
        by_cases h2 : a = e.b.toNat ∧ b = e.a.toNat
        · rw [if_pos h2]; simp
        · rw [if_neg h2, if_neg (fun h3 => h2 ⟨h3.2, h3.1⟩), if_neg (fun h3 => h1 ⟨h3.2, h3.1⟩)]
          exact h a b
  exact this Es _ (fun _ _ _ => rfl) a b
theorem SS.base {w X W : World} {L : Pl} {ow : Nat → Tg} {n : Nat} {S : PS} {us : List (Nat × List Int)} {uv : Value} {uvs : List Value} (h : SS X L ow n S us uv uvs W) (hX : Below w.heap.size w X) : SS w L ow n S us uv uvs W := by
  have hs := hX.size
  obtain ⟨l1, l2, l3, l4, l5⟩ := h.lo
  exact ⟨h.sv, h.lr, h.ll, h.gr, h.xr, h.mr, h.vr, h.pr, owns_mono h.un hs, h.ul, h.cl, h.ts, h.tv, h.tu, h.nw, fun b k j hb => Nat.le_trans hs (h.tl b k j hb), ⟨by omega, by omega, by omega, by omega, fun k hk => by have := l5 k hk; omega⟩, bel_call hX h.bel⟩
theorem edge_ok {N : List (List Int)} {e : EdgeD} (h : edgeB N e = true) : (0 ≤ e.a ∧ e.a < N.length) ∧ (0 ≤ e.b ∧ e.b < N.length) ∧ e.a ≠ e.b ∧ OkM e.cost (N.getD e.a.toNat []).length (N.getD e.b.toNat []).length := by
  unfold edgeB at h
  rw [Bool.and_eq_true, List.all_eq_true] at h
  obtain ⟨h1, h2⟩ := h
  obtain ⟨a0, b0, a1, b1, ne, hr⟩ := endsB_iff.1 h1
  have hrow : ∀ r, r < e.cost.length → (e.cost.getD r []).length = (N.getD e.b.toNat []).length ∧ ∀ x ∈ e.cost.getD r [], 0 ≤ x ∧ x ≤ infC := fun r hr => by
    have h3 := h2 _ (mem_getD (d := []) hr)
    unfold rowB costsB at h3
    rw [Bool.and_eq_true, decide_eq_true_eq, List.all_eq_true] at h3
    refine ⟨h3.1, fun x hx => ?_⟩
    have h5 := h3.2 x hx
    unfold okC at h5
    rw [Bool.and_eq_true, decide_eq_true_eq, decide_eq_true_eq] at h5
    exact h5
  refine ⟨⟨a0, a1⟩, ⟨b0, b1⟩, ne, hr, fun r hrr => (hrow r (by omega)).1, fun r k => ?_⟩
  by_cases hrr : r < e.cost.length
  · by_cases hk : k < (e.cost.getD r []).length
    · exact (hrow r hrr).2 _ (mem_getD hk)
    · rw [List.getD_eq_getElem?_getD, List.getElem?_eq_none (by omega)]; simp
  · have : e.cost.getD r [] = [] := by rw [List.getD_eq_getElem?_getD, List.getElem?_eq_none (by omega)]; rfl
    rw [this]; simp

set_option maxRecDepth 100000 in
set_option maxHeartbeats 16000000 in
theorem begin_g {p : Nat → Prop} (w : World) {na : Option Addr} {nl nc : Nat} {ea : Option Addr} {el ec : Nat} {N : List (List Int)} {Es : List EdgeD} (hp : ∀ b, p b → b < w.heap.size) (hPQ : IsPq p w na nl nc ea el ec N Es)
    (hck : chkS N Es = 0) (hl0 : 0 < nl) :
    Calls Try.prog 24 #[costsV na nl nc ea el ec] w fun e w' => ∃ (L : Pl) (ow : Nat → Tg), e = .returned (.pointer (some ⟨L.sb, 0, none⟩)) ∧ (∀ k, L.cs k = (N.getD k []).length) ∧ SS w L ow nl (beginS N Es) [] (.slice none 0 0) [] w' := by
  have hN := hPQ.nd
  obtain ⟨hl3, hle, hnn, hee⟩ := chk_ok hck
  have hne : ∀ n ∈ N, n.length ≠ 0 ∧ n.length ≤ 32 := fun n hn => ⟨(hnn n hn).2.1, (hnn n hn).1⟩
  have hl : nl ≤ 300 := by have := (sl_len hN).1; omega
  have HNL := hid_of (sl_len hN).1
  have HEL := hid_of (sl_len hPQ.ed).1
  have hel : el ≤ 2000 := by have := (sl_len hPQ.ed).1; omega
  have HNE := hid_of hne
  have HNN := hid_of hnn
  have HEE := hid_of hee
  have HED : Hid (∀ X, Below w.heap.size w X → IsEdges p X (.slice ea el ec) Es) := fun X hX => hPQ.ed.keep (fun b hb hlt => ⟨hb, hX.block b (hp b hb)⟩)
  have HN : Hid (∀ X, Below w.heap.size w X → IsRows p X (.slice na nl nc) N) := fun X hX => hN.keep (fun b hb hlt => ⟨hb, hX.block b (hp b hb)⟩)
  have hmi := fun W => run_mk_int W nl (by omega)
  have hmb := fun W => run_mk_bool W nl (by omega)
  clear hN hne hPQ hck hl3 hle hnn hee
  go_enter Try.func24, Try.ntmps24
  go_wp2_with fail
  refine wp_at (fun X => Row X w.heap.size 25 [.slice na nl nc, .slice ea el ec] ∧ Below w.heap.size w X) ⟨heap_alloc_eq _ _ _ rfl, bel_alloc (bel_refl w) _⟩ ?_
  rintro X ⟨r0, hX⟩
  have a0 := r0.cell (k := 0) rfl
  have hxl := r0.lt
  have HR0 := hid_of r0
  have HX := hid_of hX
  clear r0 hX
  go_cut [3] (fun s3 wx => ∃ sb lb gb : Nat, s3 = .pointer (some ⟨sb, 0, none⟩) ∧ Row wx sb 56 [.slice none 0 0, .slice none 0 0, .slice none 0 0, .slice (some ⟨lb, 0, none⟩) nl nl, .slice (some ⟨gb, 0, none⟩) nl nl] ∧
    Row wx lb 3 (ints (List.replicate nl 0)) ∧ Row wx gb 4 (bools (goneS nl 0)) ∧ (X.heap.size ≤ sb ∧ X.heap.size ≤ lb ∧ X.heap.size ≤ gb ∧ sb ≠ lb ∧ sb ≠ gb ∧ lb ≠ gb) ∧ Below X.heap.size X wx)
  case first =>
    have hE0 : BkS X X := bel_refl X
    have hKS : ∀ Y, BkS X Y → Y.cell? ⟨w.heap.size, 0, none⟩ = some (.slice na nl nc) := fun Y hY => (World.cell?_of_block (a := ⟨w.heap.size, 0, none⟩) (hY.block _ hxl)).trans a0
    clear a0
    go_region_held3 (fun Y => Y.cell? ⟨w.heap.size, 0, none⟩ = some (.slice na nl nc))
      ((refine hKS _ ?_; repeat (first | exact Nat.le_refl _ | exact hE0 | refine bk_drew ?_ | refine bk_alloc ?_ _ | refine bk_set ?_ ?_ _ | (simp; omega)))) (fail)
    all_goals (try go_wp2_with fail)
    all_goals go_meet
    all_goals refine ⟨_, _, _, rfl, heap_alloc_eq _ _ _ (by simp), ?_, ?_, ⟨by omega, by omega, by omega, by omega, by omega, by omega⟩, bk_drew (bk_alloc (bk_alloc (bk_alloc hE0 _) _) _)⟩
    all_goals unfold Row
    all_goals first | rw [show (ints (List.replicate nl 0)).toArray = Array.replicate nl (Value.int .i64 0) by simp [ints]] | rw [show (bools (goneS nl 0)).toArray = Array.replicate nl (Value.bool false) by simp [bools, goneS]]
    all_goals first | exact heap_alloc_ne _ _ _ _ (heap_alloc_ne _ _ _ _ (heap_alloc_eq _ _ _ rfl)) | exact heap_alloc_ne _ _ _ _ (heap_alloc_eq _ _ _ (by simp))
  case rest =>
    obtain ⟨sb, lb, gb, rfl, hsv, hlr, hgr, ⟨g1, g2, g3, g4, g5, g6⟩, hX2⟩ := hcut
    have hxw := HX.out.size
    have HB0 : Hid (∃ ow, BgG X sb lb gb wc.heap.size nl N 0 0 (.slice none 0 0) (.slice none 0 0) [] [] ow wc) :=
      ⟨fun b => if b = sb then .sol else if b = lb then .lb else if b = gb then .gb else .old, ⟨hsv, hlr, hgr, World.ownsRow_nil _ _ _ _, World.ownsRow_nil _ _ _ _, rfl, rfl, fun j hj => by simp at hj, fun j hj => by simp at hj, fun b hb => by simp [Value.ownBlock] at hb, hX2, Nat.le_refl _, ⟨by omega, hsv.lt, by omega, hlr.lt, by omega, hgr.lt, g4, g5, g6⟩⟩, fun j hj => by simp at hj, fun j hj => by simp at hj, ⟨by simp, by simp [Ne.symm g4], by simp [Ne.symm g5, Ne.symm g6]⟩, fun b hb => by simp [Value.ownBlock] at hb, fun b hb => by simp [Value.ownBlock] at hb, fun b hb => by
        have h1 := hsv.lt; have h2 := hlr.lt; have h3 := hgr.lt
        simp [show b ≠ sb by omega, show b ≠ lb by omega, show b ≠ gb by omega], fun b k j => by
        show (if b = sb then Tg.sol else if b = lb then .lb else if b = gb then .gb else .old) ≠ _
        split
        · simp
        · split
          · simp
          · split <;> simp⟩
    have HKR : Hid (∀ Y, Below X.heap.size X Y → Row Y w.heap.size 25 [.slice na nl nc, .slice ea el ec]) := fun Y hY => HR0.out.keep (hY.block _ hxl)
    have a0 := (HKR.out _ hX2).cell (k := 0) rfl
    have HX1 : Hid (X.heap.size ≤ wc.heap.size) := hX2.size
    clear hsv hlr hgr hX2 HR0 hxl hmi hmb g1 g2 g3 g4 g5 g6 hxw
    obtain ⟨X0, HX0⟩ : ∃ X0, Hid (wc.heap.size = X0) := ⟨_, (rfl : wc.heap.size = _)⟩
    rw [HX0.out] at HB0 HX1
    go_wp2_with fail
    clear a0
    go_loopw [24] (fun s24 wx => ∃ k : Nat, k ≤ nl ∧ s24 = .int .i64 k ∧ Hid (∃ nv mv vn vm ow, BgG X sb lb gb X0 nl N k k nv mv vn vm ow wx)) (fun s24 _ => nl - (intOf s24).toNat)
    case atStart => obtain ⟨ow, h⟩ := HB0.out; exact ⟨0, by omega, rfl, _, _, _, _, ow, h⟩
    case round =>
      obtain ⟨k, hk, rfl, HS⟩ := hrel
      clear HB0
      obtain ⟨nv, mv, vn, vm, ow, hG⟩ := HS.out
      have hS := hG.st
      have hr := HKR.out wr hS.bel
      have hbw := bel_call HX.out hS.bel
      clear HS
      by_cases hlt : k < nl
      · have hkx : k < N.length := by have := HNL.out; omega
        obtain ⟨b, off, a3, n3, c3, rfl, hpb, ck, hi, hn3, hn3m⟩ := rows_at2 (HN.out wr hbw) hkx
        have hne := HNE.out _ (mem_getD (d := []) hkx)
        obtain ⟨xa, xc, rfl⟩ : ∃ a c, nv = .slice a k c := by obtain ⟨a, c, e, -⟩ := owns_slice hS.on; exact ⟨a, c, e⟩
        obtain ⟨ya, yc, rfl⟩ : ∃ a c, mv = .slice a k c := by obtain ⟨a, c, e, -⟩ := owns_slice hS.om; exact ⟨a, c, e⟩
        have HSS := hid_of hG
        have s0 := hS.sv.cell (k := 0) rfl
        have hsl := hS.sv.lt
        have hon := hS.on
        have hX0 := hS.sz
        have hkz : (k : Int) < (nl : Int) := by omega
        obtain ⟨LL, HLL⟩ : ∃ LL, Hid (N.getD k [] = LL) := ⟨_, (rfl : N.getD k [] = _)⟩
        rw [HLL.out] at hi hn3 hne
        have HN3 := hid_of hn3
        have hn30 : 0 < n3 := by omega
        have hCl : ∀ Y, BkS wr Y → Calls Try.prog 34 #[.slice a3 n3 c3] Y fun e Y' => ∃ v', e = .returned v' ∧ Y'.ownsRow wr.heap.size 3 1 v' n3 (ints LL) ∧ BkS wr Y' := fun Y hY => by
          have := cloneI_c (p := p) Y (hi.keep (fun b hb hlt => ⟨hb, hY.block b hlt⟩)) (by omega) (by omega)
          rw [← HN3.out] at this
          exact this.mono (by rintro e Y' ⟨v', rfl, ho, hb⟩; exact ⟨v', rfl, owns_mono ho hY.size, bel_call hY hb⟩)
        have hE0 : BkS wr wr := bel_refl wr
        have hT : ∀ (Yu : World) (za : Option Addr) (zc gg cap : Nat) (w1 : World), BkS wr Yu → Yu.ownsRow wr.heap.size 3 1 (.slice za n3 zc) n3 (ints LL) → w1.ownsRow X0 71 1 (.slice (some ⟨gg, 0, none⟩) (k + 1) cap) (k + 1) (vn ++ [.slice za n3 zc]) →
            (Yu.alloc (.cells #[.slice za n3 zc] 71)).grownBy w1 (Value.slice xa k xc).ownBlock → ((Value.slice xa k xc).ownBlock = some gg ∨ gg = (Yu.alloc (.cells #[.slice za n3 zc] 71)).heap.size) →
            w1.cell? ⟨sb, 0, none⟩ = some (.slice xa k xc) ∧ w1.frozen? ⟨sb, 0, none⟩ = false ∧ (∃ ow', BgG X sb lb gb X0 nl N (k + 1) k (.slice (some ⟨gg, 0, none⟩) (k + 1) cap) (.slice ya k yc) (vn ++ [.slice za n3 zc]) vm ow' (w1.setCell ⟨sb, 0, none⟩ (.slice (some ⟨gg, 0, none⟩) (k + 1) cap))) ∧
              ∀ b, b < X0 → b ≠ sb → (w1.setCell ⟨sb, 0, none⟩ (.slice (some ⟨gg, 0, none⟩) (k + 1) cap)).heap[b]? = wr.heap[b]? := fun Yu za zc gg cap w1 hY hou ho hg hat => by
          have hii : IsInts (fun b => wr.heap.size ≤ b ∧ b < Yu.heap.size) Yu (.slice za n3 zc) LL := by
            rw [HN3.out] at hou ⊢
            exact ints_of_owns hou (by have := HN3.out; omega) (fun b e h1 h2 => ⟨h1, h2⟩)
          obtain ⟨za', zc', hze, hzo⟩ := owns_slice hou
          obtain ⟨zg, hzg⟩ := hzo hn30
          simp only [Value.slice.injEq] at hze
          obtain ⟨hze, -, -⟩ := hze
          rw [← hze] at hzg
          subst hzg
          obtain ⟨hg0, -⟩ := hou.lt zg rfl
          obtain ⟨_, -, -, hzc, -⟩ := owns_block hou
          refine BgG.node (u := .slice (some ⟨zg, 0, none⟩) n3 zc) (g := zg) (uc := zc) (cap := cap) HSS.out (bk_alloc hY (.cells #[.slice (some ⟨zg, 0, none⟩) n3 zc] 71)) (by rw [HLL.out, HN3.out]) (by rw [HLL.out, ← HN3.out]; exact hzc) (by rw [HLL.out]; exact (RowP.of_owns hou).keep (Below.heap_alloc _ _ _ (RowP.of_owns hou).lt)) hg0 ?_ rfl ho hg (hat.imp id fun e => by omega)
          rw [HLL.out]
          exact hii.keep (fun b hb hlt => ⟨⟨hb.1, by simp; omega⟩, Below.heap_alloc _ _ _ hlt⟩)
        obtain ⟨i0, hi0, hz0, hz1, hz2⟩ := info_parts infoVec
        clear hS hG hr hbw hi hn3 hne
        go_upto_region 5 with fail
        go_cut [] (fun wx => ∃ nv' vn' ow', BgG X sb lb gb X0 nl N (k + 1) k nv' (.slice ya k yc) vn' vm ow' wx)
        case first =>
          clear ck
          --[[
          go_region_law (first
            | (go_simp; go_at_call 34; refine (hCl _ ?_).mono ?_; (first | exact hE0 | exact bk_drew hE0); rintro e1 Yu ⟨zu, rfl, hou, hEu⟩; obtain ⟨za, zc, rfl, -⟩ := owns_slice hou; have y0 := (World.cell?_of_block (a := ⟨sb, 0, none⟩) (hEu.block sb hsl)).trans s0; have y1 : sb < Yu.heap.size := by have := Below.size hEu; omega)
            | (refine step_append_lies _ (by rfl) _ _ _ (by rfl) X0 71 i0 _ 1 24 Try.underlying51 hi0 hz0 hz1 hz2 rfl (by omega) (.slice xa k xc) k vn (by rfl) (owns_below hon (bk_alloc hEu _)) ⟨Yu.heap.size, 0, none⟩ 1 1 [.slice za n3 zc] (by rfl) (by rfl) (World.news_of_block (cs := #[.slice za n3 zc]) (t := 71) (fr := (0, 0)) (heap_alloc_new Yu _)) (by simp [Value.oneCell']) (by omega) (by unfold maxLen; omega) (by omega) (by have := hEu.size; simp; omega) _ rfl ?_; intro gg cap w1 hown1 hgrow hat hlt1; obtain ⟨u1, u2, u3, u4⟩ := hT Yu za zc gg cap w1 hEu hou hown1 hgrow hat))
          all_goals (try go_wp2_with fail)
          all_goals go_meet
          all_goals obtain ⟨ow', u3⟩ := u3
          all_goals exact ⟨_, _, ow', u3⟩
          --]]
        case rest =>
          obtain ⟨nv', vn', ow2, hG2⟩ := hcut
          have hS2 := hG2.st
          clear s0 hsl hon hX0 hCl hE0 hT HSS
          have s1 := hS2.sv.cell (k := 1) rfl
          have hsl := hS2.sv.lt
          have hX0 := hS2.sz
          have hom := hS2.om
          have hlm := hS2.lm
          rw [← hlm] at hom
          rw [hlm] at hom
          have hom2 : wc.ownsRow X0 67 1 (.slice ya k yc) vm.length vm := by rw [hlm]; exact hom
          have HOM := hid_of hom2
          have HLM := hid_of hlm
          have HS2 := hid_of hG2
          have hvb : (vm.length + 1) * 8 ≤ 140737488355328 := by omega
          have hvx : vm.length + 1 ≤ maxLen := by unfold maxLen; omega
          have HVB := hid_of (And.intro hvb hvx)
          clear hS2 hG2 hom hom2 hlm hvb hvx ck
          have hmm := @run_makeMap Try.prog
          go_wp2_with (at_builtin; refine stop_here ?_)
          clear hmm
          refine stop_go (app_cell 52 67 (.map none) 8 Try.underlying52 infoMapM rfl rfl _ _ rfl X0 (.slice ya k yc) vm rfl (owns_below HOM.out (bel_alloc (bel_alloc (bel_refl wc) _) _)) _ (.map (some wc.heap.size)) rfl rfl (heap_alloc_eq _ _ _ (by simp)) HVB.out.1 HVB.out.2 (by simp; omega) ?_)
          intro v' w' ho hgr hv
          have ho2 : w'.ownsRow X0 67 1 v' (k + 1) (vm ++ [.map (some wc.heap.size)]) := by
            rw [List.length_append, HLM.out] at ho
            exact ho
          obtain ⟨va, vc, rfl, hva⟩ := owns_slice ho2
          obtain ⟨gg, rfl⟩ := hva (by omega)
          obtain ⟨u1, u2, u3, u4⟩ := BgG.more (cap := vc) HS2.out (bel_alloc (bel_alloc (bel_refl wc) (.map #[] 0)) (.cells #[.map (some wc.heap.size)] 67)) (b0 := wc.heap.size) (heap_alloc_ne _ _ _ _ (heap_alloc_eq _ _ _ rfl)) (Nat.le_refl _) rfl ho2 hgr (hv.imp (fun e => e.symm.trans rfl) (fun e => by simp [Value.ownBlock] at e; simp; omega))
          obtain ⟨ow3, u3⟩ := u3
          have HU3 := hid_of u3
          clear ho ho2 hgr hv u3 u4 s1 HOM HS2
          go_wp2_with fail
          go_roundw
          case rel => exact ⟨k + 1, by omega, by go_num, _, _, _, _, ow3, HU3.out⟩
          case measure => simp [intOf]; omega
      · obtain rfl : k = nl := by omega
        obtain ⟨L, hLs, hLc, hSS⟩ := hG.toSS HNL.out hl0 HX1.out (fun j hj => by
          have h1 := HNN.out _ (mem_getD (d := []) (show j < N.length by have := HNL.out; omega))
          refine ⟨by omega, h1.1, fun q => ?_⟩
          by_cases hq : q < (N.getD j []).length
          · exact h1.2.2 _ (mem_getD hq)
          · rw [List.getD_eq_getElem?_getD, List.getElem?_eq_none (by omega)]; simp)
        have a1 := hr.cell (k := 1) rfl
        have HSS := hid_of hSS
        have HLC := hid_of hLc
        have HLS := hid_of hLs
        clear hG hS hr hbw hSS hLc hLs
        go_wp2_with fail
        clear a1
        have HE0 : Hid (∃ ow, SS X L ow k (beginS N (Es.take 0)) [] (.slice none 0 0) [] wr) := ⟨_, HSS.out⟩
        clear HSS
        go_loopw [53] (fun s53 wx => ∃ i : Nat, i ≤ el ∧ s53 = .int .i64 i ∧ Hid (∃ ow, SS X L ow k (beginS N (Es.take i)) [] (.slice none 0 0) [] wx)) (fun s53 _ => el - (intOf s53).toNat)
        case atStart => exact ⟨0, by omega, rfl, HE0⟩
        case round =>
          obtain ⟨i, hi, rfl, HI⟩ := hrel
          clear HE0
          obtain ⟨ow, hS⟩ := HI.out
          have hr := HKR.out wr hS.bel
          have hbw := bel_call HX.out hS.bel
          clear HI
          by_cases hit : i < el
          · have hix : i < Es.length := by have := HEL.out; omega
            obtain ⟨eb, eo, rfl, hpe, hc⟩ := sl_at (HED.out wr hbw) (by omega)
            have hci := hc i hix
            have hEe := HEE.out _ (List.getElem_mem hix)
            have hbt := beginS_take (N := N) hix
            obtain ⟨x, Hx⟩ : ∃ x, Hid (Es[i] = x) := ⟨_, (rfl : Es[i] = _)⟩
            rw [Hx.out] at hci hEe hbt
            obtain ⟨xa, xb, M⟩ := x
            obtain ⟨c0, c1, v2, c2, hM⟩ := hci
            obtain ⟨ma, mc, rfl, -, -⟩ := id hM
            obtain ⟨⟨i1, i2⟩, ⟨i3, i4⟩, i5, hOM⟩ := edge_ok hEe
            dsimp only at c0 c1 c2 hM i1 i2 i3 i4 i5 hOM
            obtain ⟨aN, rfl⟩ : ∃ aN : Nat, xa = aN := ⟨xa.toNat, by omega⟩
            obtain ⟨bN, rfl⟩ : ∃ bN : Nat, xb = bN := ⟨xb.toNat, by omega⟩
            unfold edgeS at hbt
            simp only [Int.toNat_natCast] at hOM hbt
            have hak : aN < k := by have := HNL.out; omega
            have hbk : bN < k := by have := HNL.out; omega
            have hab : aN ≠ bN := by omega
            have hca := (hS.vr aN hak).cap
            have hcb := (hS.vr bN hbk).cap
            rw [← HLC.out aN, ← HLC.out bN] at hOM
            rw [← HLC.out aN, ← HLC.out bN] at hbt
            have hml : M.length = L.cs aN := hOM.rows
            obtain ⟨mn, Hmn⟩ : ∃ mn, Hid (M.length = mn) := ⟨_, (rfl : M.length = _)⟩
            rw [Hmn.out] at c2 hM hml
            have hmn : 0 < mn ∧ mn ≤ 32 := by omega
            obtain ⟨W0, HW0⟩ : ∃ W0, Hid (wr = W0) := ⟨_, (rfl : wr = _)⟩
            have HM := hid_of hM
            have HSS : Hid (SS X L ow k (beginS N (Es.take i)) [] (.slice none 0 0) [] W0) := by show SS _ _ _ _ _ _ _ _ _; rw [← HW0.out]; exact hS
            have HM0 : Hid (∀ X, Below W0.heap.size W0 X → IsRows p X (.slice ma mn mc) M) := fun X hX => by
              have hM1 : IsRows p W0 (.slice ma mn mc) M := by rw [← HW0.out]; exact HM.out
              exact hM1.keep (fun b hb hlt => ⟨hb, hX.block b hlt⟩)
            have HBT := hid_of hbt
            have HOM := hid_of hOM
            have HML := hid_of hml
            have hiz : (i : Int) < (el : Int) := by omega
            clear hS hr hbw hc hEe hbt hM hOM hml HM Hx
            rw [HW0.out] at c0 c1 c2 ⊢
            go_upto_region 11 with fail
            refine wp_at (fun Z => Row Z W0.heap.size 32 [.int .i64 (aN : Int), .int .i64 (bN : Int), .slice ma mn mc] ∧ Below W0.heap.size W0 Z) ⟨heap_alloc_eq _ _ _ rfl, bel_alloc (bel_refl W0) _⟩ ?_
            clear c0 c1 c2
            rintro Z ⟨rb, hZ⟩
            have b2 := rb.cell (k := 2) rfl
            have HRB := hid_of rb
            have HZ := hid_of hZ
            have HM1 : Hid ((∃ rb rc, MtX Z.heap.size M (.slice none 0 0) [] rb rc Z) ∧ Below Z.heap.size Z Z) := ⟨⟨_, _, MtX.nil _ _ _⟩, bel_refl Z⟩
            clear rb hZ HW0
            go_wp2_with fail
            clear b2
            go_loopw [8, 60] (fun s8 s60 wx => ∃ (j : Nat) (ya : Option Addr) (yc : Nat), j ≤ mn ∧ s60 = .int .i64 j ∧ s8 = .slice ya j yc ∧ Hid (∃ vs : List Value, vs.length = j ∧ (∃ rb rc, MtX Z.heap.size M (.slice ya j yc) vs rb rc wx) ∧ Below Z.heap.size Z wx)) (fun _ s60 _ => mn - (intOf s60).toNat)
            case atStart => exact ⟨0, none, 0, by omega, rfl, rfl, [], rfl, HM1.out.1, HM1.out.2⟩
            case round =>
              obtain ⟨j, ya, yc, hj, rfl, rfl, HJ⟩ := hrel
              clear HM1
              obtain ⟨vs, hvl, ⟨rbj, rcj, hMt⟩, hbx⟩ := HJ.out
              clear HJ
              have hb0 : Below W0.heap.size W0 wr := bel_call HZ.out hbx
              by_cases hjt : j < mn
              · have hjx : j < M.length := by rw [Hmn.out]; exact hjt
                obtain ⟨rb, ro, a3, n3, c3, rfl, -, ck, hi3, hn3, hn3m⟩ := rows_at2 (HM0.out wr hb0) hjx
                have hn4 := HOM.out.cols j (by rw [← HML.out]; exact hjt)
                obtain ⟨LL, HLL⟩ : ∃ LL, Hid (M.getD j [] = LL) := ⟨_, (rfl : M.getD j [] = _)⟩
                rw [HLL.out] at hi3 hn3 hn4
                have hn5 : 0 < LL.length ∧ LL.length ≤ 32 := by omega
                have hCl := cloneI_c (p := p) wr hi3 (by omega) (by omega)
                rw [← hn3] at hCl
                have HCL := hid_of hCl
                have HN3 := hid_of hn3
                have HMT := hid_of hMt
                have HBX := hid_of hbx
                have HVL := hid_of hvl
                have hjz : (j : Int) < (mn : Int) := by omega
                clear hi3 hn3 hn4 hCl hMt hbx hb0 hvl
                go_wp2_with fail
                refine HCL.out.mono ?_
                rintro e1 Yu ⟨zu, rfl, hou, hEu⟩
                obtain ⟨za, zc, rfl, hza⟩ := owns_slice hou
                obtain ⟨zg, rfl⟩ := hza (by rw [HN3.out]; exact hn5.1)
                obtain ⟨hzg, -⟩ := hou.lt zg rfl
                obtain ⟨_, -, -, hzc, -⟩ := owns_block hou
                have HOU := hid_of hou
                have HEU := hid_of hEu
                clear ck hza HCL hou hEu
                go_wp2_with (at_builtin; refine stop_here ?_)
                refine stop_go (app_cell 68 71 (.slice none 0 0) 24 Try.underlying68 infoVec rfl rfl _ _ rfl Z.heap.size (.slice ya j yc) vs rfl (owns_below HMT.out.ow (bel_alloc HEU.out _)) _ (.slice (some ⟨zg, 0, none⟩) n3 zc) rfl rfl (heap_alloc_eq _ _ _ rfl) (by have := HVL.out; omega) (by have := HVL.out; unfold maxLen; omega) (by have h1 := HBX.out.size; have h2 := HEU.out.size; simp; omega) ?_)
                intro v' w' ho hgr hv
                have hrw := RowP.of_owns HOU.out
                have hps := HMT.out.push (g := zg) (uc := zc) (Y := Yu.alloc (.cells #[.slice (some ⟨zg, 0, none⟩) n3 zc] 71)) (u := .slice (some ⟨zg, 0, none⟩) n3 zc) (bel_alloc HEU.out _) HBX.out.size (by rw [HVL.out, HLL.out, HN3.out]) (by rw [HVL.out, HLL.out, ← HN3.out]; exact hzc) hzg (by rw [HVL.out, HLL.out]; exact hrw.keep (Below.heap_alloc _ _ _ hrw.lt)) ho hgr (hv.imp id (fun e => ⟨_, e, Nat.le_refl _⟩))
                obtain ⟨rbp, rcp, hps⟩ := hps
                have hb6 : Below Z.heap.size Z w' := bel_grown (bel_alloc (bel_call HBX.out HEU.out) _) hgr (fun b e => (HMT.out.ow.lt b e).1)
                obtain ⟨ya2, yc2, rfl, -⟩ := owns_slice hps.ow
                have hl2 : (vs ++ [Value.slice (some ⟨zg, 0, none⟩) n3 zc]).length = j + 1 := by rw [List.length_append, HVL.out]; rfl
                rw [hl2] at hps ⊢
                have HN : Hid (∃ vs : List Value, vs.length = j + 1 ∧ (∃ rb rc, MtX Z.heap.size M (.slice ya2 (j + 1) yc2) vs rb rc w') ∧ Below Z.heap.size Z w') := ⟨_, hl2, ⟨_, _, hps⟩, hb6⟩
                clear ho hgr hv hrw hps hb6 hl2 HMT HBX HOU HEU
                go_wp2_with fail
                go_roundw
                case rel => exact ⟨j + 1, ya2, yc2, by omega, by go_num, rfl, HN⟩
                case measure => simp [intOf]; omega
              · obtain rfl : j = mn := by omega
                obtain ⟨ob, mc2, hmv, hMx⟩ := hMt.mx (n := j) (by rw [hvl]; exact Hmn.out.symm) Hmn.out hmn.1 (by omega) (fun q hq => by have := HOM.out.cols q (by rw [← HML.out]; exact hq); omega)
                simp only [Value.slice.injEq] at hmv
                obtain ⟨rfl, -, rfl⟩ := hmv
                have hzs := HZ.out.size
                rw [HML.out] at hMx
                have HJN := hid_of (HSS.out.join hb0 hak hbk hab hl (begin_gone N _ _) (begin_gone N _ _) (begin_sym N _ _ _) HOM.out (hMx.keep (fun b hb _ => ⟨⟨by omega, hb.2⟩, rfl⟩)))
                have hRb := HRB.out.keep (hbx.block _ HRB.out.lt)
                have b0 := hRb.cell (k := 0) rfl
                have b1 := hRb.cell (k := 1) rfl
                rw [← HML.out, HLS.out] at HJN
                clear hMt hbx hvl hb0 hRb hMx hzs
                go_wp2_with fail
                refine HJN.out.mono ?_
                rintro e5 w5 ⟨rfl, hJ, -⟩
                rw [HML.out, show (beginS N (Es.take i)).edge aN bN (L.cs bN) (sumJ (beginS N (Es.take i)) aN bN (L.cs aN) M) = beginS N (Es.take (i + 1)) from HBT.out.symm] at hJ
                have HN := hid_of hJ
                clear hJ b0 b1 HJN
                go_wp2_with fail
                go_roundw
                case rel => exact ⟨i + 1, by omega, by go_num, HN⟩
                case measure => simp [intOf]; omega
          · obtain rfl : i = el := by omega
            rw [List.take_of_length_le (by rw [← HEL.out]; exact Nat.le_refl _)] at hS
            have HSF := hid_of (hS.base HX.out)
            clear hS hr hbw
            go_wp2_with fail
            go_ret
            exact ⟨L, ow, by rw [HLS.out]; rfl, HLC.out, HSF.out⟩
end Go.Proofs.Ytdomnbgjafdnjaa
