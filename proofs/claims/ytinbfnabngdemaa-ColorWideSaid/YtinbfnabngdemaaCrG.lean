/- The reference's 'Good' where the colours are good. -/
import Derived.Test.YtinbfnabngdemaaCrN
import Derived.Test.YtinbfnabngdemaaCrA
import Derived.Test.YtinbfnabngdemaaCoL
import Derived.Test.YtinbfnabngdemaaCnD
namespace Go.Proofs.Ytinbfnabngdemaa
open Go.RowKit

theorem in_q {W wr : World} {v : Value} {xs : List Int} (hq : ∃ q, wr = W.drewN q) (h : IsInts (fun _ => True) W v xs) (n : Int) : ∀ j, Calls Try.prog 19 #[v, .int .i64 n] (wr.drewN j) fun e w' => e = .returned (.bool (decide (n ∈ xs))) ∧ ∃ m, w' = (wr.drewN j).drewN m := by
  intro j
  obtain ⟨q, rfl⟩ := hq
  have := in_c (n := n) ((W.drewN q).drewN j) (h.keep (w' := (W.drewN q).drewN j) (p' := fun _ => True) (fun _ _ _ => ⟨trivial, rfl⟩))
  rw [inS_dec] at this
  exact this.mono (by rintro e w' ⟨rfl, rfl⟩; exact ⟨rfl, 0, rfl⟩)
theorem rows_get {p : Nat → Prop} {W : World} {g n c : Nat} {rows : List (List Int)} (h : IsRows p W (.slice (some ⟨g, 0, none⟩) n c) rows) {v : Nat} (hv : v < rows.length) : ∃ ra rc, W.cell? ⟨g, v, none⟩ = some (.slice ra rows[v].length rc) ∧ IsInts (fun _ => True) W (.slice ra rows[v].length rc) rows[v] := by
  obtain ⟨b, off, e, -, hc⟩ := sl_at h (by omega)
  simp only [Option.some.injEq, Addr.mk.injEq, and_true] at e
  obtain ⟨rfl, rfl⟩ := e
  obtain ⟨u, c1, hu⟩ := hc v hv
  obtain ⟨ra, rc, rfl, -⟩ := id hu
  rw [Nat.zero_add, Nat.mul_one] at c1
  exact ⟨ra, rc, c1, hu.keep (fun _ _ _ => ⟨trivial, rfl⟩)⟩
theorem lp_symm {G : GD} (hG : OkG G) {c d : Int} (hc : 0 ≤ c ∧ c < (G.Lp.length : Int)) (h : d ∈ lpS G c) : c ∈ lpS G d := by
  obtain ⟨k, rfl⟩ : ∃ k : Nat, c = (k : Int) := ⟨c.toNat, by omega⟩
  have hk : k < G.Lp.length := by omega
  rw [lpS_nat G hk] at h
  exact hG.s k hk d h
theorem mem_nr_at {E : List (Int × Int)} {n v i : Nat} (h : i < (nrI E n v).length) : ∃ u : Nat, (nrI E n v)[i] = (u : Int) ∧ u < n ∧ adjS E v u = true := by
  have := mem_nrI.1 (List.getElem_mem h)
  exact ⟨(nrI E n v)[i].toNat, by omega, this.2.1, this.2.2⟩
/-- Where the parts of a graph and the colours lie. -/
structure GdW (G : GD) (n ln g B : Nat) (ea ma aa la ca : Option Addr) (en ec mn mc ac lc : Nat) (l : List Int) (W : World) : Prop where
  row : Row W B 25 [.slice ea en ec, .slice ma mn mc, .slice aa n ac, .slice la ln lc]
  nr : ∀ v, v < n → ∃ ra rc, W.cell? ⟨g, v, none⟩ = some (.slice ra (nrI G.E n v).length rc) ∧ IsInts (fun _ => True) W (.slice ra (nrI G.E n v).length rc) (nrI G.E n v)
  al : ∀ v, v < n → ∃ b o ra rc, aa = some ⟨b, o, none⟩ ∧ W.cell? ⟨b, o + v, none⟩ = some (.slice ra (alw G v).length rc) ∧ IsInts (fun _ => True) W (.slice ra (alw G v).length rc) (alw G v)
  lp : ∀ c, c < ln → ∃ b o ra rc, la = some ⟨b, o, none⟩ ∧ W.cell? ⟨b, o + c, none⟩ = some (.slice ra (lpS G (c : Int)).length rc) ∧ IsInts (fun _ => True) W (.slice ra (lpS G (c : Int)).length rc) (lpS G (c : Int))
  cl : ∀ v, v < n → ∃ b o, ca = some ⟨b, o, none⟩ ∧ W.cell? ⟨b, o + v, none⟩ = some (.int .i64 (l.getD v (-1)))
theorem GdW.drew {G : GD} {n ln g B : Nat} {ea ma aa la ca : Option Addr} {en ec mn mc ac lc : Nat} {l : List Int} {W : World} (h : GdW G n ln g B ea ma aa la ca en ec mn mc ac lc l W) (q : Nat) : GdW G n ln g B ea ma aa la ca en ec mn mc ac lc l (W.drewN q) :=
  ⟨h.row.keep rfl, fun v hv => let ⟨a, b, c, d⟩ := h.nr v hv; ⟨a, b, c, d.keep (fun _ _ _ => ⟨trivial, rfl⟩)⟩, fun v hv => let ⟨a, b, c, d, e, f, g⟩ := h.al v hv; ⟨a, b, c, d, e, f, g.keep (fun _ _ _ => ⟨trivial, rfl⟩)⟩,
    fun v hv => let ⟨a, b, c, d, e, f, g⟩ := h.lp v hv; ⟨a, b, c, d, e, f, g.keep (fun _ _ _ => ⟨trivial, rfl⟩)⟩, h.cl⟩
theorem GdW.mk' {G : GD} {n ln g : Nat} {ea ma aa la ca : Option Addr} {en ec mn mc ac lc cc : Nat} {l : List Int} {w W : World} (h : IsGr (· < w.heap.size) w ⟨ea, en, ec, ma, mn, mc, aa, n, ac, la, ln, lc⟩ G) (hr : Row W w.heap.size 25 [.slice ea en ec, .slice ma mn mc, .slice aa n ac, .slice la ln lc])
    (hb : Below w.heap.size w W) {p : Nat → Prop} (hN : IsRows p W (.slice (some ⟨g, 0, none⟩) n n) ((List.range n).map (nrI G.E n))) (hl : IsInts (· < w.heap.size) w (.slice ca n cc) l) : GdW G n ln g w.heap.size ea ma aa la ca en ec mn mc ac lc l W := by
  obtain ⟨-, -, ha, hll⟩ := h.lens
  dsimp only at ha hll
  have hln := (sl_len hl).1
  refine ⟨hr, fun v hv => ?_, fun v hv => ?_, fun c hc => ?_, fun v hv => ?_⟩
  · obtain ⟨ra, rc, h1, h2⟩ := rows_get hN (v := v) (by simpa using hv)
    simp only [List.getElem_map, List.getElem_range] at h1 h2
    exact ⟨ra, rc, h1, h2⟩
  · have hv2 : v < G.A.length := by omega
    obtain ⟨b, o, rfl, hab, hcc⟩ := sl_at h.a (by omega)
    obtain ⟨u, c1, hu⟩ := hcc v hv2
    rw [Nat.mul_one] at c1
    obtain ⟨ra, rc, rfl, -⟩ := id hu
    rw [← alw_get hv2] at c1 hu
    exact ⟨b, o, ra, rc, rfl, (hb.cell (p := ⟨b, o + v, none⟩) hab).trans c1, hu.keep (fun b hb2 _ => ⟨trivial, hb.block b hb2⟩)⟩
  · have hv2 : c < G.Lp.length := by omega
    obtain ⟨b, o, rfl, hab, hcc⟩ := sl_at h.l (by omega)
    obtain ⟨u, c1, hu⟩ := hcc c hv2
    rw [Nat.mul_one] at c1
    obtain ⟨ra, rc, rfl, -⟩ := id hu
    rw [← lpS_nat G hv2] at c1 hu
    exact ⟨b, o, ra, rc, rfl, (hb.cell (p := ⟨b, o + c, none⟩) hab).trans c1, hu.keep (fun b hb2 _ => ⟨trivial, hb.block b hb2⟩)⟩
  · obtain ⟨b, o, rfl, hab, h1⟩ := ints_cell hl (k := v) (by omega)
    refine ⟨b, o, rfl, (hb.cell (p := ⟨b, o + v, none⟩) hab).trans ?_⟩
    rw [h1]
    simp [List.getD, show v < l.length by omega]

set_option maxRecDepth 100000 in
set_option maxHeartbeats 16000000 in
theorem good_c (w : World) {ea ma aa la ca : Option Addr} {en ec mn mc n ac ln lc cc : Nat} {G : GD} {l : List Int} (h : IsGr (· < w.heap.size) w ⟨ea, en, ec, ma, mn, mc, aa, n, ac, la, ln, lc⟩ G) (hG : OkG G) (hF : Few G) (hl : IsInts (· < w.heap.size) w (.slice ca n cc) l) (hgd : GoodP G l) :
    Calls Try.prog 18 #[.agg #[.slice ea en ec, .slice ma mn mc, .slice aa n ac, .slice la ln lc], .slice ca n cc] w fun e w' => e = .returned (.bool true) ∧ Below w.heap.size w w' := by
  obtain ⟨he, hm, ha, hll⟩ := h.lens
  dsimp only at he hm ha hll
  have hac := (sl_len h.a).2.1
  have hlc := (sl_len h.l).2.1
  have hcc := (sl_len hl).2.1
  dsimp only at hac hlc
  have hn1 : n ≤ 100 := by rw [ha]; exact hF.n
  have hln : ln ≤ 60 := by rw [hll]; exact hF.k
  have HH := hid_of h
  have HL := hid_of (And.intro ha hll)
  have HC := hid_of hl
  have HG := hid_of hgd
  have HNr := hid_of (fun (Y : World) (hY : Below w.heap.size w Y) => nearR_c Y (h.keep (p' := (· < Y.heap.size)) (fun b hb hlt => ⟨by have := hY.size; omega, hY.block b hlt⟩)) (by rw [ha]; exact hG.e) (by omega) (by have := hF.e; omega))
  clear he hm ha hll h hl hgd
  go_enter Try.func18, Try.ntmps18
  go_upto_region 1 with fail
  refine wp_at (fun X => Row X w.heap.size 25 [.slice ea en ec, .slice ma mn mc, .slice aa n ac, .slice la ln lc] ∧ Below w.heap.size w X) ⟨heap_alloc_eq _ _ _ rfl, bel_alloc (bel_refl w) _⟩ ?_
  rintro X ⟨r0, hX⟩
  have q0 := r0.cell (k := 0) rfl
  have q1 := r0.cell (k := 1) rfl
  have q2 := r0.cell (k := 2) rfl
  have q3 := r0.cell (k := 3) rfl
  have HNX := hid_of (HNr.out X hX)
  have HR := hid_of r0
  have HX := hid_of hX
  clear HNr r0 hX
  go_wp2_with fail
  clear q0 q1 q2 q3
  refine HNX.out.mono ?_
  rintro e W1 ⟨g, rfl, -, hN, hb1⟩
  have hbw : Below w.heap.size w W1 := bel_call HX.out hb1
  have HW : Hid (GdW G n ln g w.heap.size ea ma aa la ca en ec mn mc ac lc l W1 ∧ Below w.heap.size w W1) := ⟨GdW.mk' HH.out (HR.out.keep (hb1.block _ HR.out.lt)) hbw hN HC.out, hbw⟩
  clear hN hb1 hbw HNX HR HX HH HC
  go_wp2_with fail
  go_loopw [6] (fun s6 wx => ∃ v : Nat, v ≤ n ∧ s6 = .int .i64 v ∧ Hid (GdW G n ln g w.heap.size ea ma aa la ca en ec mn mc ac lc l wx ∧ Below w.heap.size w wx)) (fun s6 _ => n - (intOf s6).toNat)
  case atStart => exact ⟨0, by omega, rfl, HW⟩
  case round =>
    obtain ⟨v, hv, rfl, HK⟩ := hrel
    clear HW
    by_cases hlt : v < n
    · have hvz : (v : Int) < (n : Int) := by omega
      obtain ⟨b, o, rfl, cv⟩ := HK.out.1.cl v hlt
      have hvA : v < l.length := by rw [HG.out.len, ← HL.out.1]; exact hlt
      obtain ⟨x, Hx⟩ : ∃ x, Hid (l.getD v (-1) = x) := ⟨_, (rfl : l.getD v (-1) = _)⟩
      rw [Hx.out] at cv
      by_cases hx : x = -1
      · subst hx
        have e1 : ((-1 : Int) == -1) = true := rfl
        go_wp2_with fail
        go_roundw
        case rel => exact ⟨v + 1, by omega, by go_num, HK⟩
        case measure => simp [intOf]; omega
      · have e1 : (x == -1) = false := beq_eq_false_iff_ne.2 hx
        have hxa : x ∈ alw G v := by
          have := HG.out.okc v hvA
          rw [Hx.out] at this
          exact this.resolve_left hx
        have hxr := hG.alw_rng hxa
        obtain ⟨ab, ao, ra, rc, rfl, ca1, hA⟩ := HK.out.1.al v hlt
        have hin := in_q (wr := wr) ⟨0, rfl⟩ hA x
        rw [decide_eq_true hxa] at hin
        obtain ⟨am, Ham⟩ : ∃ m, Hid ((alw G v).length = m) := ⟨_, (rfl : (alw G v).length = _)⟩
        rw [Ham.out] at hin ca1
        have q2 := HK.out.1.row.cell (k := 2) rfl
        obtain ⟨x, rfl⟩ : ∃ k : Nat, x = (k : Int) := ⟨x.toNat, by omega⟩
        have hxL : x < ln := by have := HL.out.2; omega
        obtain ⟨m, Hm⟩ : ∃ m, Hid ((nrI G.E n v).length = m) := ⟨_, (rfl : (nrI G.E n v).length = _)⟩
        have hmn2 : m ≤ n := by rw [← Hm.out]; exact nrI_len _ _ _
        clear hA hxa hx
        go_wp2_with fail
        go_quiet ((go_at_call 19; exact Calls.quiet_of (hin _)))
        all_goals
          have HJ0 : Hid (GdW G n ln g w.heap.size ea ma (some ⟨ab, ao, none⟩) la (some ⟨b, o, none⟩) en ec mn mc ac lc l (wr.drewN nq) ∧ Below w.heap.size w (wr.drewN nq)) := ⟨HK.out.1.drew _, bel_drewN HK.out.2 _⟩
          clear HK cv ca1 q2 hin e1
          go_wp2_with fail
          go_loopw [8] (fun s8 wx => ∃ i : Nat, i ≤ m ∧ s8 = .int .i64 i ∧ Hid (GdW G n ln g w.heap.size ea ma (some ⟨ab, ao, none⟩) la (some ⟨b, o, none⟩) en ec mn mc ac lc l wx ∧ Below w.heap.size w wx)) (fun s8 _ => m - (intOf s8).toNat)
          case atStart => exact ⟨0, by omega, rfl, HJ0⟩
          case round =>
            obtain ⟨i, hi, rfl, HJ⟩ := hrel
            clear HJ0
            obtain ⟨na, nc, cn, hnI⟩ := HJ.out.1.nr v hlt
            rw [Hm.out] at cn hnI
            by_cases him : i < m
            · have hil : i < (nrI G.E n v).length := by rw [Hm.out]; exact him
              obtain ⟨nb, no, rfl, -, t1⟩ := ints_cell hnI hil
              obtain ⟨u, hu, hun, hadj⟩ := mem_nr_at hil
              rw [hu] at t1
              obtain ⟨b', o', hbo, cu⟩ := HJ.out.1.cl u hun
              simp only [Option.some.injEq, Addr.mk.injEq, and_true] at hbo
              obtain ⟨rfl, rfl⟩ := hbo
              obtain ⟨y, Hy⟩ : ∃ x, Hid (l.getD u (-1) = x) := ⟨_, (rfl : l.getD u (-1) = _)⟩
              rw [Hy.out] at cu
              have hiz : (i : Int) < (m : Int) := by omega
              have huz : (u : Int) < (n : Int) := by omega
              have hNl := hid_of hnI
              clear hnI hu
              by_cases hy : y < 0
              · have e1 : decide (y < 0) = true := by simpa using hy
                clear hy
                go_wp2_with fail
                go_roundw
                case rel => exact ⟨i + 1, by omega, by go_num, HJ⟩
                case measure => simp [intOf]; omega
              · have e1 : decide (y < 0) = false := by simpa using hy
                obtain ⟨b', o', hbo, cv⟩ := HJ.out.1.cl v hlt
                simp only [Option.some.injEq, Addr.mk.injEq, and_true] at hbo
                obtain ⟨rfl, rfl⟩ := hbo
                rw [Hx.out] at cv
                obtain ⟨lb, lo, sa, sc, rfl, cl, hLp⟩ := HJ.out.1.lp x hxL
                have hno : y ∉ lpS G (x : Int) := by
                  have := HG.out.lap u v (by have := HG.out.len; have := HL.out.1; omega) hvA (by rw [adjS_symm]; exact hadj) (by rw [Hy.out]; omega) (by rw [Hx.out]; omega)
                  rw [Hy.out, Hx.out] at this
                  exact this
                have hin := in_q (wr := wr) ⟨0, rfl⟩ hLp y
                rw [decide_eq_false hno] at hin
                obtain ⟨sn, Hsn⟩ : ∃ m, Hid ((lpS G (x : Int)).length = m) := ⟨_, (rfl : (lpS G (x : Int)).length = _)⟩
                rw [Hsn.out] at hin cl
                have q3 := HJ.out.1.row.cell (k := 3) rfl
                have hxz : (x : Int) < (ln : Int) := by omega
                clear hLp hno hy hadj
                go_wp2_with fail
                go_quiet ((go_at_call 19; exact Calls.quiet_of (hin _)))
                all_goals
                  go_wp2_with fail
                  go_roundw
                all_goals first | exact ⟨i + 1, by omega, by go_num, HJ.out.1.drew _, bel_drewN HJ.out.2 _⟩ | (simp [intOf]; omega)
            · obtain rfl : m = i := by omega
              clear hnI
              go_wp2_with fail
              go_roundw
              case rel => exact ⟨v + 1, by omega, by go_num, HJ⟩
              case measure => simp [intOf]; omega
    · obtain rfl : n = v := by omega
      go_wp2_with fail
      go_loopw [11] (fun s11 wx => ∃ v : Nat, v ≤ n ∧ s11 = .int .i64 v ∧ Hid (GdW G n ln g w.heap.size ea ma aa la ca en ec mn mc ac lc l wx ∧ Below w.heap.size w wx)) (fun s11 _ => n - (intOf s11).toNat)
      case atStart => exact ⟨0, by omega, rfl, HK⟩
      case round =>
        obtain ⟨v, hv, rfl, HV⟩ := hrel
        clear HK
        by_cases hlt : v < n
        · have hvz : (v : Int) < (n : Int) := by omega
          obtain ⟨b, o, rfl, cv⟩ := HV.out.1.cl v hlt
          have hvA : v < l.length := by rw [HG.out.len, ← HL.out.1]; exact hlt
          obtain ⟨x, Hx⟩ : ∃ x, Hid (l.getD v (-1) = x) := ⟨_, (rfl : l.getD v (-1) = _)⟩
          rw [Hx.out] at cv
          by_cases hx : x = -1
          · subst hx
            have e1 : ((-1 : Int) == -1) = true := rfl
            obtain ⟨am, Ham⟩ : ∃ m, Hid ((alw G v).length = m) := ⟨_, (rfl : (alw G v).length = _)⟩
            obtain ⟨m, Hm⟩ : ∃ m, Hid ((nrI G.E n v).length = m) := ⟨_, (rfl : (nrI G.E n v).length = _)⟩
            have hmn2 : m ≤ n := by rw [← Hm.out]; exact nrI_len _ _ _
            have ham : am ≤ 60 := by rw [← Ham.out]; exact alw_len hG hF v
            go_wp2_with fail
            go_loopw [12] (fun s12 wx => ∃ k : Nat, k ≤ am ∧ s12 = .int .i64 k ∧ Hid (GdW G n ln g w.heap.size ea ma aa la (some ⟨b, o, none⟩) en ec mn mc ac lc l wx ∧ Below w.heap.size w wx)) (fun s12 _ => am - (intOf s12).toNat)
            case atStart => exact ⟨0, by omega, rfl, HV⟩
            case round =>
              obtain ⟨k, hk, rfl, HK⟩ := hrel
              clear HV cv e1
              have q2 := HK.out.1.row.cell (k := 2) rfl
              obtain ⟨ab, ao, ra, rc, rfl, ca1, hA⟩ := HK.out.1.al v hlt
              rw [Ham.out] at ca1 hA
              by_cases hka : k < am
              · have hkz : (k : Int) < (am : Int) := by omega
                have hkA : k < (alw G v).length := by rw [Ham.out]; exact hka
                have hmem : (alw G v)[k] ∈ alw G v := List.getElem_mem hkA
                obtain ⟨c, Hc⟩ : ∃ c, Hid ((alw G v)[k] = c) := ⟨_, (rfl : (alw G v)[k] = _)⟩
                rw [Hc.out] at hmem
                have hcr := hG.alw_rng hmem
                obtain ⟨c, rfl⟩ : ∃ z : Nat, c = (z : Int) := ⟨c.toNat, by omega⟩
                have hcL : c < ln := by have := HL.out.2; omega
                have HF0 : Hid ((∀ j (h : j < (nrI G.E n v).length), j < 0 → 0 ≤ l.getD (nrI G.E n v)[j].toNat (-1) → l.getD (nrI G.E n v)[j].toNat (-1) ∈ lpS G (c : Int) → true = false) ∧ GdW G n ln g w.heap.size ea ma (some ⟨ab, ao, none⟩) la (some ⟨b, o, none⟩) en ec mn mc ac lc l wr ∧ Below w.heap.size w wr) := ⟨fun j _ h => by omega, HK.out⟩
                clear HK hA
                go_wp2_with fail
                clear q2 ca1
                go_loopw [13, 14] (fun s13 s14 wx => ∃ (i : Nat) (f : Bool), i ≤ m ∧ s14 = .int .i64 i ∧ s13 = .bool f ∧ Hid ((∀ j (h : j < (nrI G.E n v).length), j < i → 0 ≤ l.getD (nrI G.E n v)[j].toNat (-1) → l.getD (nrI G.E n v)[j].toNat (-1) ∈ lpS G (c : Int) → f = false) ∧ GdW G n ln g w.heap.size ea ma (some ⟨ab, ao, none⟩) la (some ⟨b, o, none⟩) en ec mn mc ac lc l wx ∧ Below w.heap.size w wx)) (fun _ s14 _ => m - (intOf s14).toNat)
                case atStart => exact ⟨0, true, by omega, rfl, rfl, HF0⟩
                case round =>
                  obtain ⟨i, f, hi, rfl, rfl, HJ⟩ := hrel
                  clear HF0
                  obtain ⟨na, nc, cn, hnI⟩ := HJ.out.2.1.nr v hlt
                  rw [Hm.out] at cn hnI
                  by_cases him : i < m
                  · have hil : i < (nrI G.E n v).length := by rw [Hm.out]; exact him
                    obtain ⟨nb, no, rfl, -, t1⟩ := ints_cell hnI hil
                    obtain ⟨u, hu, hun, hadj⟩ := mem_nr_at hil
                    rw [hu] at t1
                    obtain ⟨b', o', hbo, cu⟩ := HJ.out.2.1.cl u hun
                    simp only [Option.some.injEq, Addr.mk.injEq, and_true] at hbo
                    obtain ⟨rfl, rfl⟩ := hbo
                    obtain ⟨y, Hy⟩ : ∃ x, Hid (l.getD u (-1) = x) := ⟨_, (rfl : l.getD u (-1) = _)⟩
                    rw [Hy.out] at cu
                    have hiz : (i : Int) < (m : Int) := by omega
                    have huz : (u : Int) < (n : Int) := by omega
                    have hNx : ∀ f', (f = false → f' = false) → (0 ≤ y → y ∈ lpS G (c : Int) → f' = false) → ∀ j (h : j < (nrI G.E n v).length), j < i + 1 → 0 ≤ l.getD (nrI G.E n v)[j].toNat (-1) → l.getD (nrI G.E n v)[j].toNat (-1) ∈ lpS G (c : Int) → f' = false := fun f' h1 h2 j hj hji h3 h4 => by
                      by_cases e : j = i
                      · subst e
                        rw [hu, Int.toNat_natCast, Hy.out] at h3 h4
                        exact h2 h3 h4
                      · exact h1 (HJ.out.1 j hj (by omega) h3 h4)
                    have HNx := hid_of hNx
                    clear hnI hu hNx
                    by_cases hy : 0 ≤ y
                    · have e1 : decide (y ≥ 0) = true := by simpa using hy
                      have e2 : decide (0 ≤ y) = true := by simpa using hy
                      obtain ⟨ab', ao', ra', rc', hbo, ca1, hA⟩ := HJ.out.2.1.al v hlt
                      simp only [Option.some.injEq, Addr.mk.injEq, and_true] at hbo
                      obtain ⟨rfl, rfl⟩ := hbo
                      rw [Ham.out] at ca1 hA
                      obtain ⟨xb, xo, rfl, -, t2⟩ := ints_cell hA hkA
                      rw [Hc.out] at t2
                      obtain ⟨lb, lo, sa, sc, rfl, cl, hLp⟩ := HJ.out.2.1.lp c hcL
                      obtain ⟨r, Hr⟩ : ∃ r, Hid (decide (y ∈ lpS G (c : Int)) = r) := ⟨_, (rfl : decide (y ∈ lpS G (c : Int)) = _)⟩
                      have hin := in_q (wr := wr) ⟨0, rfl⟩ hLp y
                      rw [Hr.out] at hin
                      obtain ⟨sn, Hsn⟩ : ∃ m, Hid ((lpS G (c : Int)).length = m) := ⟨_, (rfl : (lpS G (c : Int)).length = _)⟩
                      rw [Hsn.out] at hin cl
                      have q2 := HJ.out.2.1.row.cell (k := 2) rfl
                      have q3 := HJ.out.2.1.row.cell (k := 3) rfl
                      have hcz : (c : Int) < (ln : Int) := by omega
                      clear hLp hA hy hadj
                      go_wp2_with fail
                      go_quiet ((go_at_call 19; exact Calls.quiet_of (hin _)))
                      all_goals cases r
                      all_goals
                        go_wp2_with fail
                        go_roundw
                      all_goals first
                        | exact ⟨i + 1, f, by omega, by go_num, rfl, HNx.out f id (fun _ h => absurd h (of_decide_eq_false Hr.out)), HJ.out.2.1.drew _, bel_drewN HJ.out.2.2 _⟩
                        | exact ⟨i + 1, false, by omega, by go_num, rfl, HNx.out false (fun _ => rfl) (fun _ _ => rfl), HJ.out.2.1.drew _, bel_drewN HJ.out.2.2 _⟩
                        | (simp [intOf]; omega)
                    · have e1 : decide (y ≥ 0) = false := by simpa using hy
                      have e2 : decide (0 ≤ y) = false := by simpa using hy
                      have HNy := hid_of (HNx.out f id (fun h => absurd h hy))
                      clear hy hadj
                      go_wp2_with fail
                      go_quiet (fail)
                      all_goals
                        go_wp2_with fail
                        go_roundw
                      all_goals first
                        | exact ⟨i + 1, f, by omega, by go_num, rfl, HNy.out, HJ.out.2.1.drew _, bel_drewN HJ.out.2.2 _⟩
                        | (simp [intOf]; omega)
                  · obtain rfl : m = i := by omega
                    have hf : f = false := by
                      obtain ⟨z, hz, hadj, h0, hlp⟩ := HG.out.lft v hvA Hx.out _ hmem
                      have hzn : z < n := by rw [HL.out.1, ← HG.out.len]; exact hz
                      have hzm : ((z : Nat) : Int) ∈ nrI G.E n v := mem_nrI.2 ⟨by omega, by rw [Int.toNat_natCast]; exact hzn, by rw [Int.toNat_natCast]; exact hadj⟩
                      obtain ⟨j, hj, e⟩ := List.getElem_of_mem hzm
                      have hzr : 0 ≤ l.getD z (-1) ∧ l.getD z (-1) < (G.Lp.length : Int) := by
                        rcases HG.out.okc z hz with h | h
                        · omega
                        · exact hG.alw_rng h
                      refine HJ.out.1 j hj (by rw [← Hm.out]; exact hj) ?_ ?_
                      · rw [e, Int.toNat_natCast]; exact h0
                      · rw [e, Int.toNat_natCast]; exact lp_symm hG hzr hlp
                    subst hf
                    have HK2 : Hid (GdW G n ln g w.heap.size ea ma (some ⟨ab, ao, none⟩) la (some ⟨b, o, none⟩) en ec mn mc ac lc l wr ∧ Below w.heap.size w wr) := HJ.out.2
                    clear hnI HJ
                    go_wp2_with fail
                    go_roundw
                    case rel => exact ⟨k + 1, by omega, by go_num, HK2⟩
                    case measure => simp [intOf]; omega
              · obtain rfl : am = k := by omega
                clear hA
                go_wp2_with fail
                go_roundw
                case rel => exact ⟨v + 1, by omega, by go_num, HK⟩
                case measure => simp [intOf]; omega
          · have e1 : (x == -1) = false := beq_eq_false_iff_ne.2 hx
            clear hx
            go_wp2_with fail
            go_roundw
            case rel => exact ⟨v + 1, by omega, by go_num, HV⟩
            case measure => simp [intOf]; omega
        · obtain rfl : n = v := by omega
          have HB := hid_of HV.out.2
          clear HV
          go_wp2_with fail
          go_ret
          exact ⟨rfl, HB.out⟩
end Go.Proofs.Ytinbfnabngdemaa
