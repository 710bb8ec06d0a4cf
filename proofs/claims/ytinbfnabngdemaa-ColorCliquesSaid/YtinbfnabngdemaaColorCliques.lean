/- 'ColorCliques' walked: it returns true. -/
import Derived.Test.YtinbfnabngdemaaCwH
namespace Go.Proofs.Ytinbfnabngdemaa
open Go.RowKit

/-- The edges so far. -/
structure CqE (n a b : Nat) (zs : List (Int × Int)) : Prop where
  nd : ∀ p ∈ zs, EndP p n
  all : ∀ u v : Nat, u < v → v < n → (u < a ∨ (u = a ∧ v < b)) → ((u : Int), (v : Int)) ∈ zs
  len : zs.length ≤ a * 30 + b
theorem CqE.step {n a b : Nat} {zs : List (Int × Int)} (h : CqE n a b zs) (ha : a < b) (hb : b < n) : CqE n a (b + 1) (zs ++ [((a : Int), (b : Int))]) := by
  refine ⟨fun p hp => ?_, fun u v h1 h2 h3 => ?_, by have := h.len; simp; omega⟩
  · rcases List.mem_append.1 hp with hp | hp
    · exact h.nd p hp
    · rw [List.mem_singleton.1 hp]; unfold EndP; dsimp only; omega
  · rw [List.mem_append]
    by_cases e : u = a ∧ v = b
    · obtain ⟨rfl, rfl⟩ := e; exact .inr (by simp)
    · exact .inl (h.all u v h1 h2 (by omega))
theorem CqE.next {n a b : Nat} {zs : List (Int × Int)} (h : CqE n a b zs) (hb : n ≤ b) (hb2 : b ≤ 30) : CqE n (a + 1) (a + 1) zs :=
  ⟨h.nd, fun u v h1 h2 h3 => h.all u v h1 h2 (by omega), by have := h.len; omega⟩

set_option maxRecDepth 100000 in
set_option maxHeartbeats 8000000 in
theorem colorCliques_c (w : World) (n k : Int) : Calls Try.prog 5 #[.int .i64 n, .int .i64 k] w fun e w' => e = .returned (.bool true) ∧ Below w.heap.size w w' := by
  go_enter Try.func5, Try.ntmps5
  go_wp2_with fail
  refine (alive_c w).mono ?_
  rintro e W0 ⟨rfl, hb0⟩
  have HB0 := hid_of hb0
  clear hb0
  by_cases h1 : n < 1
  · have e1 : decide (n < 1) = true := by simpa using h1
    clear h1
    go_wp2_with fail
    go_ret
    exact ⟨rfl, HB0.out⟩
  have e1 : decide (n < 1) = false := by simpa using h1
  by_cases h2 : n > 30
  · have e2 : decide (n > 30) = true := by simpa using h2
    have e2' : decide (30 < n) = true := by simpa using h2
    clear h1 h2
    go_wp2_with fail
    go_ret
    exact ⟨rfl, HB0.out⟩
  have e2 : decide (n > 30) = false := by simpa using h2
  have e2' : decide (30 < n) = false := by simpa using h2
  by_cases h3 : k < 1
  · have e3 : decide (k < 1) = true := by simpa using h3
    clear h1 h2 h3
    go_wp2_with fail
    go_ret
    exact ⟨rfl, HB0.out⟩
  have e3 : decide (k < 1) = false := by simpa using h3
  by_cases h4 : k > 40
  · have e4 : decide (k > 40) = true := by simpa using h4
    have e4' : decide (40 < k) = true := by simpa using h4
    clear h1 h2 h3 h4
    go_wp2_with fail
    go_ret
    exact ⟨rfl, HB0.out⟩
  have e4 : decide (k > 40) = false := by simpa using h4
  have e4' : decide (40 < k) = false := by simpa using h4
  obtain ⟨n, rfl⟩ : ∃ m : Nat, n = (m : Int) := ⟨n.toNat, by omega⟩
  obtain ⟨k, rfl⟩ : ∃ m : Nat, k = (m : Int) := ⟨k.toNat, by omega⟩
  have hn : 1 ≤ n ∧ n ≤ 30 := by omega
  have hk : 1 ≤ k ∧ k ≤ 40 := by omega
  have H0 : Hid (∃ zs, W0.ownsRow W0.heap.size 37 2 (.slice none 0 0) 0 (prs zs) ∧ zs.length = 0 ∧ CqE n 0 1 zs ∧ Below W0.heap.size W0 W0) := ⟨[], World.ownsRow_nil _ _ _ _, rfl, ⟨by simp, fun u v h1 h2 h3 => by omega, by simp⟩, bel_refl _⟩
  clear h1 h2 h3 h4
  go_wp2_with fail
  clear e1 e2 e2' e3 e4 e4'
  go_loopw [6, 7] (fun s6 s7 wx => ∃ (a m : Nat) (ya : Option Addr) (yc : Nat), a ≤ n ∧ s7 = .int .i64 a ∧ s6 = .slice ya m yc ∧ Hid (∃ zs, wx.ownsRow W0.heap.size 37 2 (.slice ya m yc) m (prs zs) ∧ zs.length = m ∧ CqE n a (a + 1) zs ∧ Below W0.heap.size W0 wx)) (fun _ s7 _ => n - (intOf s7).toNat)
  case atStart => exact ⟨0, 0, none, 0, by omega, rfl, rfl, H0⟩
  case round =>
    obtain ⟨a, m, ya, yc, ha, rfl, rfl, HK⟩ := hrel
    clear H0
    by_cases hlt : a < n
    · have haz : (a : Int) < (n : Int) := by omega
      go_wp2_with fail
      go_loopw [6, 8] (fun s6 s8 wx => ∃ (b m : Nat) (ya : Option Addr) (yc : Nat), a < b ∧ b ≤ n ∧ s8 = .int .i64 b ∧ s6 = .slice ya m yc ∧ Hid (∃ zs, wx.ownsRow W0.heap.size 37 2 (.slice ya m yc) m (prs zs) ∧ zs.length = m ∧ CqE n a b zs ∧ Below W0.heap.size W0 wx)) (fun _ s8 _ => n - (intOf s8).toNat)
      case atStart => exact ⟨a + 1, m, ya, yc, by omega, by omega, by go_num, rfl, HK⟩
      case round =>
        obtain ⟨b, m, ya, yc, hab, hb, rfl, rfl, HJ⟩ := hrel
        clear HK
        by_cases hlt2 : b < n
        · have hbz : (b : Int) < (n : Int) := by omega
          obtain ⟨zs, ho, hm, hE, hbl⟩ := HJ.out
          have hml : m ≤ 930 := by
            have := hE.len
            have h2 : a * 30 ≤ 29 * 30 := Nat.mul_le_mul_right _ (by omega)
            omega
          have hba : BkS wr (wr.alloc (.cells #[.int .i64 (a : Int), .int .i64 (b : Int)] 37)) := bk_alloc (bk_refl wr) _
          rw [← hm] at ho
          have HE := hid_of hE
          have HM := hid_of hm
          have HBl := hid_of hbl
          have hsz := hbl.size
          clear hE hm hbl HJ
          have hml1 : zs.length + 1 ≤ 1000000 := by rw [HM.out]; omega
          have hl1 : (zs ++ [((a : Int), (b : Int))]).length = m + 1 := by rw [List.length_append, HM.out]; rfl
          rw [HM.out] at ho
          have ho0 : (wr.alloc (.cells #[.int .i64 (a : Int), .int .i64 (b : Int)] 37)).ownsRow W0.heap.size 37 2 (.slice ya m yc) zs.length (prs zs) := by rw [HM.out]; exact owns_below ho hba
          have hszb : W0.heap.size ≤ (wr.alloc (.cells #[.int .i64 (a : Int), .int .i64 (b : Int)] 37)).heap.size := by have := hba.size; omega
          have HE2 := hid_of (HE.out.step hab hlt2)
          have hfin : ∀ v' w', w'.ownsRow W0.heap.size 37 2 v' (zs ++ [((a : Int), (b : Int))]).length (prs (zs ++ [((a : Int), (b : Int))])) → (wr.alloc (.cells #[.int .i64 (a : Int), .int .i64 (b : Int)] 37)).grownBy w' (Value.slice ya m yc).ownBlock → ∃ za zc, v' = .slice za (m + 1) zc ∧ Hid (∃ zs, w'.ownsRow W0.heap.size 37 2 (.slice za (m + 1) zc) (m + 1) (prs zs) ∧ zs.length = m + 1 ∧ CqE n a (b + 1) zs ∧ Below W0.heap.size W0 w') := fun v' w' h1 h2 => by
            rw [hl1] at h1
            obtain ⟨za, zc, rfl, -⟩ := owns_slice h1
            exact ⟨za, zc, rfl, _, h1, hl1, HE2.out, bel_grown (bel_call HBl.out hba) h2 (fun b e => (ho.lt b e).1)⟩
          have HFin := hid_of hfin
          have HO0 := hid_of ho0
          clear hfin ho0 hl1 HE2 HE ho
          go_wp2_with (at_builtin; refine stop_here ?_)
          refine stop_go (app_pr rfl _ _ rfl W0.heap.size (.slice ya m yc) zs rfl HO0.out _ ((a : Int), (b : Int)) rfl (heap_alloc_eq _ _ _ rfl) hml1 hszb ?_)
          intro v' w' ho1 hg1 _
          obtain ⟨za, zc, rfl, HN⟩ := HFin.out v' w' ho1 hg1
          clear ho1 hg1 HFin HO0 HM HBl hba hsz hszb hml1
          go_wp2_with fail
          go_roundw
          case rel => exact ⟨b + 1, m + 1, za, zc, by omega, by omega, by go_num, rfl, HN⟩
          case measure => simp [intOf]; omega
        · obtain rfl : n = b := by omega
          have HK2 : Hid (∃ zs, wr.ownsRow W0.heap.size 37 2 (.slice ya m yc) m (prs zs) ∧ zs.length = m ∧ CqE n (a + 1) (a + 1 + 1) zs ∧ Below W0.heap.size W0 wr) := by
            obtain ⟨zs, h1, h2, h3, h4⟩ := HJ.out
            have h5 := h3.next (Nat.le_refl _) hn.2
            exact ⟨zs, h1, h2, ⟨h5.nd, fun u v h6 h7 h8 => h5.all u v h6 h7 (by omega), by have := h5.len; omega⟩, h4⟩
          clear HJ
          go_wp2_with fail
          go_roundw
          case rel => exact ⟨a + 1, m, ya, yc, by omega, by go_num, rfl, HK2⟩
          case measure => simp [intOf]; omega
    · obtain rfl : n = a := by omega
      obtain ⟨zs, ho, hm, hE, hbl⟩ := HK.out
      have hml : zs.length ≤ 931 := by
        have := hE.len
        have h2 : n * 30 ≤ 30 * 30 := Nat.mul_le_mul_right _ (by omega)
        omega
      have hpr := pairs_of_owns (v := .slice ya m yc) (zs := zs) (by rw [hm]; exact ho) (by omega)
      have HPr := hid_of hpr
      have HE := hid_of hE
      have HB1 := hid_of (HB0.out.trans (hbl.mono HB0.out.size))
      have hok : OkG (plainG n k zs []) := plain_ok hE.nd (by simp)
      have hfw : Few (plainG n k zs []) := few_plain (by omega) (by omega) (by omega) (by simp)
      have hout : ((colS (plainG n k zs [])).filter fun x => x == -1).length = n - k := clique_out (colS_good hok) (fun u v hu hv huv => by
        rcases Nat.lt_or_ge u v with h | h
        · exact adjS_iff.2 (.inl (hE.all u v h hv (.inl hu)))
        · exact adjS_iff.2 (.inr (hE.all v u (by omega) hu (.inl hv))))
      have hclen : (colS (plainG n k zs [])).length = n := by rw [colS_length, plain_n]
      have HGr := hid_of (fun (X : World) {aa la : Option Addr} {ac lc B2 : Nat} {Z1 Z2 : Nat → Prop} {vs1 vs2 : List Value} (hb : Below wr.heap.size wr X) => @plain_gr wr X n k B2 m yc ac lc ya aa la Z1 Z2 vs1 vs2 zs _ (by omega) (by omega) hpr (fun b hb => hb.2) hb)
      have HOk := hid_of hok
      have HFw := hid_of hfw
      have HOut := hid_of hout
      have HLen := hid_of hclen
      clear HK ho hm hE hbl hpr hok hfw hout hclen
      go_wp2_with fail
      refine (plain_c wr n k (by omega) (by omega)).mono ?_
      rintro e X ⟨aa, ac, la, lc, rfl, hb1, B2, Z1, Z2, vs1, vs2, l1, l2, n1, n2, hB⟩
      have hgr := HGr.out X hb1 l1 l2 n1 n2 hB
      have HCo := hid_of (color_ok X hgr HOk.out HFw.out)
      have HBX := hid_of (HB1.out.trans (hb1.mono HB1.out.size))
      clear hb1 l1 l2 n1 n2 hB hgr
      go_wp2_with fail
      refine HCo.out.mono ?_
      rintro e X2 ⟨kb, rfl, hkb, hcl, hkl, hrow, hb2⟩
      have HN := num_c X2 0
      have HB2 := hid_of (HBX.out.trans (hb2.mono HBX.out.size))
      have HRow := hid_of hrow
      clear hkb hcl hb2 HCo hrow
      go_wp2_with fail
      refine HN.mono ?_
      rintro e U ⟨rfl, rfl⟩
      have enn : ((n : Int) == (n : Int)) = true := by simp
      go_wp2_with fail
      clear enn
      obtain ⟨C, HC⟩ : ∃ C, Hid (colS (plainG n k zs []) = C) := ⟨_, (rfl : colS (plainG n k zs []) = _)⟩
      rw [HC.out] at HOut HLen HRow
      go_loopw [11, 12] (fun s11 s12 wx => ∃ i o : Nat, i ≤ n ∧ s12 = .int .i64 i ∧ s11 = .int .i64 o ∧ o ≤ i ∧ wx = U ∧ Hid (o = ((C.take i).filter fun x => x == -1).length)) (fun _ s12 _ => n - (intOf s12).toNat)
      case atStart => exact ⟨0, 0, by omega, rfl, rfl, by omega, rfl, by show _ = _; simp⟩
      case round =>
        obtain ⟨i, o, hi, rfl, rfl, hoi, rfl, HI⟩ := hrel
        by_cases hlt : i < n
        · have hiC : i < C.length := by rw [HLen.out]; exact hlt
          have ci := HRow.out.cell (k := i) (v := .int .i64 C[i]) (by simp [ints, hiC])
          have hts : (C.take (i + 1)).filter (fun x => x == -1) = (C.take i).filter (fun x => x == -1) ++ [C[i]].filter (fun x => x == -1) := by rw [List.take_succ_eq_append_getElem hiC, List.filter_append]
          obtain ⟨x, Hx⟩ : ∃ x, Hid (C[i] = x) := ⟨_, (rfl : C[i] = _)⟩
          rw [Hx.out] at ci hts
          have HTS := hid_of hts
          have hiz : (i : Int) < (n : Int) := by omega
          clear hts
          by_cases hx : x = -1
          · subst hx
            have e1 : ((-1 : Int) == -1) = true := rfl
            have HI2 : Hid (o + 1 = ((C.take (i + 1)).filter fun x => x == -1).length) := by show _ = _; rw [HTS.out, List.length_append, ← HI.out]; rfl
            go_wp2_with fail
            go_roundw
            case rel => exact ⟨i + 1, o + 1, by omega, by go_num, by go_num, by omega, trivial, HI2⟩
            case measure => simp [intOf]; omega
          · have e1 : (x == -1) = false := beq_eq_false_iff_ne.2 hx
            have HI2 : Hid (o = ((C.take (i + 1)).filter fun x => x == -1).length) := by show _ = _; rw [HTS.out, List.length_append, ← HI.out]; simp [List.filter, e1]
            clear hx
            go_wp2_with fail
            go_roundw
            case rel => exact ⟨i + 1, o, by omega, by go_num, rfl, by omega, trivial, HI2⟩
            case measure => simp [intOf]; omega
        · obtain rfl : n = i := by omega
          have ho : o = n - k := by
            have := HI.out
            rw [List.take_of_length_le (by rw [HLen.out]; omega), HOut.out] at this
            exact this
          subst ho
          by_cases hnk : n < k
          · have e1 : decide ((n : Int) - (k : Int) < 0) = true := by simp; omega
            have e2 : ((n - k : Nat) : Int) = 0 := by omega
            have e3 : (((n - k : Nat) : Int) == 0) = true := by rw [e2]; rfl
            clear e2
            go_wp2_with fail
            go_ret
            exact ⟨rfl, HB2.out⟩
          · have e1 : decide ((n : Int) - (k : Int) < 0) = false := by simp; omega
            have e3 : (((n - k : Nat) : Int) == (n : Int) - (k : Int)) = true := by rw [beq_iff_eq]; omega
            go_wp2_with fail
            go_ret
            exact ⟨rfl, HB2.out⟩
end Go.Proofs.Ytinbfnabngdemaa
