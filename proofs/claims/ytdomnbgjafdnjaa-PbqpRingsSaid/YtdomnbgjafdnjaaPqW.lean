/- Where no node has a neighbour: 'pbqp.Solve'. -/
import Derived.Test.YtdomnbgjafdnjaaPqV
import Derived.OwnWalk
namespace Go.Proofs.Ytdomnbgjafdnjaa
open Go.RowKit Go.Maps

/-- What has been begun is where nodes are taken away from. -/
theorem begun {w W : World} {sb lb gb X0 n : Nat} {N : List (List Int)} {nv mv : Value} {vn vm : List Value} (h : BgSt w sb lb gb X0 n N n n nv mv vn vm W) (hn : n = N.length) (h0 : 0 < n) :
    ∃ xb xc mb mc ms, SvB w W sb lb gb xb mb ms N ∧ TkSt w W sb lb gb xb xc mb mc n ms 0 0 0 (.slice none 0 0) [] W := by
  obtain ⟨a1, a2, a3, a4, a5, a6, a7, a8, a9⟩ := h.lo
  have hz := h.sz
  obtain ⟨xa, xc, rfl, hx⟩ := owns_slice h.on
  obtain ⟨xb, rfl⟩ := hx h0
  obtain ⟨ya, yc, rfl, hy⟩ := owns_slice h.om
  obtain ⟨mb, rfl⟩ := hy h0
  obtain ⟨g1, g2⟩ := h.on.lt xb rfl
  obtain ⟨g3, g4⟩ := h.om.lt mb rfl
  obtain ⟨cur, -, hcu, -, -, -, htk, -, -⟩ := owns_block h.om
  have hxm : xb ≠ mb := fun e => h.dd xb rfl (by rw [e]; rfl)
  have hrow : Row W mb 67 cur.toList := by unfold Row; rw [hcu]
  have hms : ∀ j, j < n → cur.toList[j]? = vm[j]? := fun j hj => by rw [← htk, List.getElem?_take]; simp [hj]
  refine ⟨xb, xc, mb, yc, cur.toList, ⟨⟨a7, a8, a9, by omega, by omega, by omega⟩, ⟨a1, a3, a5, by omega⟩, ⟨by omega, by omega, by omega, g4⟩, ⟨g2, by omega, by omega, by omega, hxm⟩, fun j hj => ?_, fun j hj => ?_⟩,
    ⟨h.sv, h.lr, h.gr, ⟨cur.toList, hrow, fun j _ => rfl⟩, World.ownsRow_nil _ _ _ _, rfl, fun j hj => by simp at hj, fun b _ => rfl, h.bel, Nat.le_refl _⟩⟩
  · have hj2 : j < vn.length := by rw [h.ln]; omega
    obtain ⟨a, c, e1, e2⟩ := h.en j hj2
    refine ⟨a, c, ?_, e2.keep (Keep.refl W fun b hb hlt => ⟨hlt, by have := hb.1; omega, by have := hb.1; omega, by have := hb.1; omega, fun e => hb.2.2 (by rw [e]; rfl)⟩)⟩
    have := h.on.cellAt j (by omega)
    rw [this, ← e1]
    simp [hj2]
  · have hj2 : j < vm.length := by rw [h.lm]; omega
    obtain ⟨b, e1, e2, e3⟩ := h.em j hj2
    refine ⟨b, ⟨lt_of_block e3, by have := e2.1; omega, by have := e2.1; omega, by have := e2.1; omega, fun e => e2.2.2 (by rw [e]; rfl)⟩, ?_, e3⟩
    rw [hms j (by omega), List.getElem?_eq_getElem hj2, e1]

/-- Of the nodes from m on what is chosen. -/
def ldone (N : List (List Int)) (m : Nat) : List Int := (List.range N.length).map fun j => if m ≤ j then ((leastS (N.getD j []) : Nat) : Int) else 0
theorem ldone_length (N : List (List Int)) (m : Nat) : (ldone N m).length = N.length := by simp [ldone]
theorem ldone_all (N : List (List Int)) : ldone N N.length = List.replicate N.length 0 := by
  refine List.ext_getElem (by simp [ldone]) fun j h1 h2 => ?_
  have : j < N.length := by simpa [ldone] using h1
  simp [ldone]; omega
theorem ldone_set (N : List (List Int)) {m : Nat} (_ : m < N.length) : (ldone N (m + 1)).set m (leastS (N.getD m []) : Nat) = ldone N m := by
  refine List.ext_getElem (by simp [ldone]) fun j h1 h2 => ?_
  rw [List.getElem_set]
  by_cases e : m = j
  · subst e; simp [ldone]
  · rw [if_neg e]
    simp only [ldone, List.getElem_map, List.getElem_range]
    by_cases h3 : m ≤ j
    · rw [if_pos (by omega), if_pos h3]
    · rw [if_neg (by omega), if_neg h3]
def chosen (N : List (List Int)) : List Int := ldone N 0

set_option maxRecDepth 100000 in
set_option maxHeartbeats 16000000 in
theorem solve_c {p : Nat → Prop} (w : World) {na : Option Addr} {nl nc : Nat} {ea : Option Addr} {ec : Nat} {N : List (List Int)} (hp : ∀ b, p b → b < w.heap.size) (h : IsPq p w na nl nc ea 0 ec N []) (hc : chkS N [] = 0) :
    Calls Try.prog 14 #[costsV na nl nc ea 0 ec] w fun e w' => ∃ lb, e = .returned (.tuple #[.slice (some ⟨lb, 0, none⟩) nl nl, .int .i64 (costP N [] (chosen N)), .int .i64 0]) ∧ w.heap.size ≤ lb ∧ Row w' lb 3 (ints (chosen N)) ∧ Below w.heap.size w w' := by
  obtain ⟨hn3, -, hne, -⟩ := chk_ok hc
  have hNL := (sl_len h.nd).1
  have HP : Hid (∀ X, Below w.heap.size w X → IsPq p X na nl nc ea 0 ec N []) := fun X hX => h.keep (fun b hb hlt => ⟨hb, hX.block b (hp b hb)⟩)
  have hB0 := bel_alloc (bel_refl w) (.cells #[.slice na nl nc, .slice ea 0 ec] 25)
  have HCK := hid_of (check_c (p := p) (w.alloc (.cells #[.slice na nl nc, .slice ea 0 ec] 25)) (fun b hb => by have := hp b hb; simp; omega) (HP.out _ hB0))
  rw [hc] at HCK
  have HBG : Hid (∀ X, Below w.heap.size w X → Calls Try.prog 24 #[costsV na nl nc ea 0 ec] X fun e w' => ∃ (sb lb gb X0 : Nat) (nv mv : Value) (vn vm : List Value), e = .returned (.pointer (some ⟨sb, 0, none⟩)) ∧ BgSt X sb lb gb X0 nl N nl nl nv mv vn vm w') := fun X hX =>
    begin_c (p := p) X (fun b hb => by have := hp b hb; have := hX.size; omega) (HP.out X hX).nd (fun n hn => ⟨(hne n hn).2.1, (hne n hn).1⟩) (by omega)
  have hxn : nl ≤ 300 := by omega
  obtain ⟨D, HD⟩ : ∃ D, Hid (costP N [] (chosen N) = D) := ⟨_, (rfl : costP N [] (chosen N) = _)⟩
  rw [HD.out]
  have HCO : Hid (∀ X lb, Below w.heap.size w X → w.heap.size ≤ lb → Row X lb 3 (ints (chosen N)) → ∀ Y, BkS X Y → Calls Try.prog 11 #[costsV na nl nc ea 0 ec, .slice (some ⟨lb, 0, none⟩) nl nl] Y fun e w' => e = .returned (.int .i64 D) ∧ BkS X w') := fun X lb hX hlo hr Y hY => by
    have hl2 : (chosen N).length = nl := by rw [hNL]; exact ldone_length N 0
    have hlr : IsInts (fun b => b < Y.heap.size) Y (.slice (some ⟨lb, 0, none⟩) nl nl) (chosen N) := by
      have h1 := hr.keep (hY.block lb hr.lt)
      have := ints_of_row (p := fun b => b < Y.heap.size) h1 h1.lt (by omega)
      rw [hl2] at this
      exact this
    have hpq : IsPq (fun b => b < Y.heap.size) Y na nl nc ea 0 ec N [] := (HP.out Y (bel_call hX hY)).keep (Keep.refl Y fun b hb hlt => hlt)
    have := costP_c (p := fun b => b < Y.heap.size) Y (fun b hb => hb) hpq hlr
    rw [HD.out] at this
    exact this.mono (by rintro e w' ⟨rfl, hb⟩; exact ⟨rfl, bel_call hY hb⟩)
  have HNL := hid_of hNL
  have HNE := hid_of hne
  have HB0 := hid_of hB0
  clear h hB0 hne hn3 hNL
  go_enter Try.func14, Try.ntmps14
  go_wp2_with fail
  refine HCK.out.mono ?_
  rintro e W1 ⟨rfl, hb1⟩
  have r1 : Row W1 w.heap.size 25 [.slice na nl nc, .slice ea 0 ec] := Row.keep (W := w.alloc (.cells #[.slice na nl nc, .slice ea 0 ec] 25)) (heap_alloc_eq _ _ _ rfl) (hb1.block _ (by simp))
  have hB1 := bel_call HB0.out hb1
  have HB1 := hid_of hB1
  have HR1 := hid_of r1
  have a0 := r1.cell (k := 0) rfl
  have a1 := r1.cell (k := 1) rfl
  have HBE := hid_of (HBG.out W1 hB1)
  have hw1 : w.heap.size < W1.heap.size := r1.lt
  clear HCK HBG hb1 r1 hB1
  go_wp2_with fail
  refine HBE.out.mono ?_
  rintro e W2 ⟨sb, lb, gb, X0, nv, mv, vn, vm, rfl, hS⟩
  clear HBE a0 a1
  by_cases hz : nl = 0
  · subst hz
    have hsv := hS.sv
    have hbl := hS.bel
    have hrl : Row W2 lb 3 (ints (chosen N)) := by
      have h0 : N = [] := List.length_eq_zero_iff.1 HNL.out.symm
      rw [h0]
      exact hS.lr
    have hlo := hS.lo.2.2.1
    have hNX := next_c W2 (k := 0) (n := 0) (mb := 0) (mc := 0) (Nat.le_refl _) hxn (fun h => by omega) (hsv.cell (k := 4) rfl) hS.gr (fun h => by omega)
    rw [if_neg (by omega), decide_eq_false (by omega)] at hNX
    have HNX := hid_of hNX
    have c2 := hsv.cell (k := 2) rfl
    have HSV := hid_of (And.intro hsv (And.intro hbl hrl))
    clear hNX hS hsv hbl hrl
    go_wp2_with fail
    go_loopg [7] 0 (fun _gh _s7 wx => wx = W2)
    case atStart => rfl
    case round =>
      subst hrel
      go_wp2_with fail
      refine HNX.out.mono ?_
      rintro e w' ⟨rfl, rfl⟩
      go_wp2_with fail
      clear c2
      go_loop [9] (fun s9 => s9 = .int .i64 (-1)) (fun _ => 0)
      case atStart => rfl
      case round =>
        subst hrel
        obtain ⟨hsv, hbl, hrl⟩ := HSV.out
        have e0 := (HR1.out.keep (hbl.block _ hw1)).cell (k := 0) rfl
        have e1 := (HR1.out.keep (hbl.block _ hw1)).cell (k := 1) rfl
        have e3 := hsv.cell (k := 3) rfl
        have hBX : Below w.heap.size w w' := bel_call HB1.out hbl
        have hCo := HCO.out w' lb hBX (by omega) hrl
        have hE0 : BkS w' w' := bel_refl w'
        have hl0 := lt_of_cell e0
        have hl3 := lt_of_cell e3
        dsimp only at hl0 hl3
        have hKS : ∀ Y, BkS w' Y → Y.cell? ⟨w.heap.size, 0, none⟩ = some (.slice na 0 nc) ∧ Y.cell? ⟨w.heap.size, 1, none⟩ = some (.slice ea 0 ec) ∧ Y.cell? ⟨sb, 3, none⟩ = some (.slice (some ⟨lb, 0, none⟩) 0 0) := fun Y hY =>
          ⟨(World.cell?_of_block (a := ⟨w.heap.size, 0, none⟩) (hY.block _ hl0)).trans e0, (World.cell?_of_block (a := ⟨w.heap.size, 1, none⟩) (hY.block _ hl0)).trans e1, (World.cell?_of_block (a := ⟨sb, 3, none⟩) (hY.block _ hl3)).trans e3⟩
        have HRL := hid_of hrl
        have HBX := hid_of hBX
        have HLO : Hid (w.heap.size ≤ lb) := by show _ ≤ _; omega
        clear e0 e1 e3 hrl hBX hsv hbl
        go_wp2_with fail
        go_region_held3 (fun Y => Y.cell? ⟨w.heap.size, 0, none⟩ = some (.slice na 0 nc) ∧ Y.cell? ⟨w.heap.size, 1, none⟩ = some (.slice ea 0 ec) ∧ Y.cell? ⟨sb, 3, none⟩ = some (.slice (some ⟨lb, 0, none⟩) 0 0))
          ((refine hKS _ ?_; (first | with_reducible assumption | exact bk_drew hE0)))
          (first | (go_at_call 11; refine (hCo _ ?_).mono ?_; (first | with_reducible assumption | exact bk_drew hE0); rintro e5 Y5 ⟨rfl, hE5⟩))
        all_goals (try go_wp2_with fail)
        all_goals go_ret3
        all_goals exact ⟨lb, rfl, HLO.out, HRL.out.keep (hE5.block lb HRL.out.lt), bel_call HBX.out hE5⟩
  obtain ⟨xb, xc, mb, mc, ms, hB, hT⟩ := begun hS HNL.out (by omega)
  have HBB := hid_of hB
  have HTT := hid_of hT
  clear hS hB hT
  go_wp2_with fail
  go_loopg [7] nl (fun gh _s7 wx => ∃ k : Nat, k + gh = nl ∧ Hid (∃ uv us, TkSt W1 W2 sb lb gb xb xc mb mc nl ms k k k uv us wx))
  case atStart => exact ⟨0, by omega, _, _, HTT.out⟩
  case round =>
    obtain ⟨k, hkg, HK⟩ := hrel
    clear HTT
    obtain ⟨uv, us, hT⟩ := HK.out
    obtain ⟨vs, hvs, hvm⟩ := hT.mr
    have hNX := next_c wr (k := k) (n := nl) (mb := mb) (mc := mc) (by omega) hxn (fun _ => hT.sv.cell (k := 1) rfl) (hT.sv.cell (k := 4) rfl) hT.gr (fun hlt => by
      obtain ⟨b, hbz, hmb, hb0⟩ := HBB.out.mp k (by have := HNL.out; omega)
      exact ⟨b, hvs.cell ((hvm k (Nat.le_refl _)).trans hmb), (hT.kz b hbz).trans hb0⟩)
    by_cases hlt : k < nl
    · rw [if_pos hlt, decide_eq_true hlt] at hNX
      have HNX := hid_of hNX
      have HTK := hid_of (take_c HBB.out hT HNL.out hlt hxn)
      clear hNX hT hvs hvm HK
      go_wp2_with fail
      refine HNX.out.mono ?_
      rintro e w' ⟨rfl, rfl⟩
      have hk0 : decide ((k : Int) < 0) = false := by simp
      go_wp2_with fail
      refine HTK.out.mono ?_
      rintro e w' ⟨rfl, uv2, us2, hT2⟩
      have HT2 := hid_of hT2
      clear hT2 HTK HNX
      go_wp2_with fail
      go_roundg (nl - (k + 1))
      case rel => exact ⟨k + 1, by omega, _, _, HT2.out⟩
      case measure => omega
    · obtain rfl : k = nl := by omega
      rw [if_neg hlt, decide_eq_false hlt] at hNX
      have HNX := hid_of hNX
      have hun := hT.un
      rw [hT.ul] at hun
      obtain ⟨ua, uc, rfl, hua⟩ := owns_slice hun
      obtain ⟨ub, rfl⟩ := hua (by omega)
      have HUN := hid_of hun
      have HT := hid_of hT
      have c2 := hT.sv.cell (k := 2) rfl
      clear hNX hT hvs hvm HK hun hlt
      go_wp2_with fail
      refine HNX.out.mono ?_
      rintro e w' ⟨rfl, rfl⟩
      go_wp2_with fail
      clear c2
      have hL0 : Row w' lb 3 (ints (ldone N k)) := by rw [HNL.out, ldone_all, ← HNL.out]; exact HT.out.lr
      have HS0 : Hid (Row w' lb 3 (ints (ldone N k)) ∧ (∀ b, b < w'.heap.size → b ≠ lb → w'.heap[b]? = w'.heap[b]?) ∧ w'.heap.size ≤ w'.heap.size ∧ Below W1.heap.size W1 w') := ⟨hL0, fun _ _ _ => rfl, Nat.le_refl _, HT.out.bel⟩
      clear hL0 HNX
      go_loopw [9] (fun s9 wx => ∃ m : Nat, m ≤ k ∧ s9 = .int .i64 ((m : Int) - 1) ∧ Hid (Row wx lb 3 (ints (ldone N m)) ∧ (∀ b, b < w'.heap.size → b ≠ lb → wx.heap[b]? = w'.heap[b]?) ∧ w'.heap.size ≤ wx.heap.size ∧ Below W1.heap.size W1 wx)) (fun s9 _ => (intOf s9 + 1).toNat)
      case atStart => exact ⟨k, Nat.le_refl _, rfl, HS0⟩
      case round =>
        obtain ⟨m, hm, rfl, HX⟩ := hrel
        clear HS0
        obtain ⟨hrl, hkq, hsz, hbl⟩ := HX.out
        have hsl := HT.out.sv.lt
        have hd1 := HBB.out.d1
        have hd2 := HBB.out.hi
        have hsv := HT.out.sv.keep (hkq sb hsl hd1.1)
        by_cases h0 : m = 0
        · subst h0
          have hlo := HBB.out.lo.2.1
          have e0 := (HR1.out.keep (hbl.block _ hw1)).cell (k := 0) rfl
          have e1 := (HR1.out.keep (hbl.block _ hw1)).cell (k := 1) rfl
          have e3 := hsv.cell (k := 3) rfl
          have hBX : Below w.heap.size w wr := bel_call HB1.out hbl
          have hCo := HCO.out wr lb hBX (by omega) hrl
          have hE0 : BkS wr wr := bel_refl wr
          have hl0 := lt_of_cell e0
          have hl3 := lt_of_cell e3
          dsimp only at hl0 hl3
          have hKS : ∀ Y, BkS wr Y → Y.cell? ⟨w.heap.size, 0, none⟩ = some (.slice na k nc) ∧ Y.cell? ⟨w.heap.size, 1, none⟩ = some (.slice ea 0 ec) ∧ Y.cell? ⟨sb, 3, none⟩ = some (.slice (some ⟨lb, 0, none⟩) k k) := fun Y hY =>
            ⟨(World.cell?_of_block (a := ⟨w.heap.size, 0, none⟩) (hY.block _ hl0)).trans e0, (World.cell?_of_block (a := ⟨w.heap.size, 1, none⟩) (hY.block _ hl0)).trans e1, (World.cell?_of_block (a := ⟨sb, 3, none⟩) (hY.block _ hl3)).trans e3⟩
          have HRL := hid_of hrl
          have HBX := hid_of hBX
          have HLO : Hid (w.heap.size ≤ lb) := by show _ ≤ _; omega
          clear e0 e1 e3 hrl hBX hsv hbl
          go_wp2_with fail
          go_region_held3 (fun Y => Y.cell? ⟨w.heap.size, 0, none⟩ = some (.slice na k nc) ∧ Y.cell? ⟨w.heap.size, 1, none⟩ = some (.slice ea 0 ec) ∧ Y.cell? ⟨sb, 3, none⟩ = some (.slice (some ⟨lb, 0, none⟩) k k))
            ((refine hKS _ ?_; (first | with_reducible assumption | exact bk_drew hE0)))
            (first | (go_at_call 11; refine (hCo _ ?_).mono ?_; (first | with_reducible assumption | exact bk_drew hE0); rintro e5 Y5 ⟨rfl, hE5⟩))
          all_goals (try go_wp2_with fail)
          all_goals go_ret3
          all_goals exact ⟨lb, rfl, HLO.out, HRL.out.keep (hE5.block lb HRL.out.lt), bel_call HBX.out hE5⟩
        · obtain ⟨j, rfl⟩ : ∃ j, m = j + 1 := ⟨m - 1, by omega⟩
          have hjx : j < us.length := by have := HT.out.ul; omega
          obtain ⟨o, l, e, s, q, hcu, ⟨p1, p2, p3, p4⟩, q1, ⟨v, hv⟩, q2, q3, q4⟩ := HT.out.cl j hjx
          obtain ⟨na2, nc2, hnc, hni⟩ := HBB.out.nd j (by have := HNL.out; omega)
          have hub := (HT.out.un.lt ub rfl)
          have hne : ∀ b, pFl2 W2.heap.size (.slice (some ⟨ub, 0, none⟩) k uc) b → b ≠ lb := fun b hb e => by have := hb.1; omega
          have kc : ∀ b c, pFl2 W2.heap.size (.slice (some ⟨ub, 0, none⟩) k uc) b → b < w'.heap.size → wr.cell? ⟨b, c, none⟩ = w'.cell? ⟨b, c, none⟩ := fun b c hb hlt => World.cell?_of_block (a := ⟨b, c, none⟩) (hkq b hlt (hne b hb))
          have e1 := (kc o 0 p1 (lt_of_cell hv)).trans (q1.trans hnc)
          have e2 := (kc l 0 p2 (lt_of_cell q2)).trans q2
          have e3 := (kc s 0 p3 (lt_of_cell q3)).trans q3
          have e4 := (kc q 0 p4 (lt_of_cell q4)).trans q4
          have eu : wr.cell? ⟨ub, j, none⟩ = some us[j] := by
            have h1 := HUN.out.cellAt j (by omega)
            rw [World.cell?_of_block (a := ⟨ub, j, none⟩) (hkq ub hub.2 (by omega)), h1]
            simp [hjx]
          rw [hcu] at eu
          have hni2 : IsInts (fun b => b < wr.heap.size) wr (.slice na2 (N.getD j []).length nc2) (N.getD j []) := hni.keep (fun b hb hlt => ⟨by have := HT.out.sz; have := hb.1; omega, (hkq b (by have := HT.out.sz; have := hb.1; omega) hb.2.2.1).trans (HT.out.kz b hb)⟩)
          have hnn := HNE.out (N.getD j []) (mem_getD (by have := HNL.out; omega))
          have HCL := hid_of (clo_c wr (e := e) e1 hni2 (by omega) (by omega) e2 e3 e4 (hsv.cell (k := 3) rfl) hrl (by rw [ldone_length]; exact HNL.out.symm) (show j < k by omega))
          rw [ldone_set N (show j < N.length by have := HNL.out; omega)] at HCL
          have b2 := hsv.cell (k := 2) rfl
          have hjz : ((j + 1 : Nat) : Int) - 1 = (j : Int) := by omega
          rw [hjz]
          have hj0 : (0 : Int) ≤ (j : Int) := by omega
          have hjk : (j : Int) < (k : Int) := by omega
          have hlo := HBB.out.lo
          clear hrl hkq hsz hsv hcu p1 p2 p3 p4 q1 hv q2 q3 q4 hnc hni hub hne kc e1 e2 e3 e4 hni2 hnn hjx hjz h0
          go_wp2_with fail
          refine HCL.out.mono ?_
          rintro e9 w9 ⟨rfl, hr9, hk9, hs9, hb9⟩
          obtain ⟨-, hkq, hsz, -⟩ := HX.out
          have HX9 : Hid (Row w9 lb 3 (ints (ldone N j)) ∧ (∀ b, b < w'.heap.size → b ≠ lb → w9.heap[b]? = w'.heap[b]?) ∧ w'.heap.size ≤ w9.heap.size ∧ Below W1.heap.size W1 w9) := ⟨hr9, fun b hb hne => (hk9 b (by omega) hne).trans (hkq b hb hne), by omega, hb9 W1 hbl hlo.2.1⟩
          clear hr9 hk9 hs9 hb9 hkq hsz HCL hbl eu b2
          go_wp2_with fail
          go_roundw
          case rel => exact ⟨j, by omega, by go_num, HX9⟩
          case measure => first | (simp [intOf]; omega) | simp [intOf]
end Go.Proofs.Ytdomnbgjafdnjaa
