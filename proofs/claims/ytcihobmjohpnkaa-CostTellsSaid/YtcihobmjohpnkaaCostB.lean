/- The reference's 'ByCost': the registers by what they cost, by insertion. -/
import Derived.Test.YtcihobmjohpnkaaCostO
import Derived.Test.YtcihobmjohpnkaaCostR
import Derived.Test.YtcihobmjohpnkaaStU
namespace Go.Proofs.Ytcihobmjohpnkaa
open Go.RowKit

theorem owns_set {W : World} {base g n cap k : Nat} {e : TypeId} {D : Nat → Int} (h : W.ownsRow base e 1 (.slice (some ⟨g, 0, none⟩) n cap) n (ints (rowF n D))) (_hk : k < n) (x : Int) :
    (W.setCell ⟨g, k, none⟩ (.int .i64 x)).ownsRow base e 1 (.slice (some ⟨g, 0, none⟩) n cap) n (ints (rowF n (updN D k x))) := by
  obtain ⟨cur, hg, hh, hn, hm, hc, ht, hl, hlt⟩ := owns_block h
  rw [Nat.mul_one] at hc ht hl
  have hr : Row W g e cur.toList := by unfold Row; simpa using hh
  have hr2 := hr.set k (.int .i64 x)
  refine ⟨by simp [rowF], .inr ⟨g, cap, (cur.toList.set k (.int .i64 x)).toArray, rfl, hg, hr2, hn, hm, by simp [hc], ?_⟩⟩
  rw [Nat.mul_one]
  show (cur.toList.set k _).take n = _
  rw [List.take_set, ht, ← rowF_set, ints_set]
theorem own_cell {W : World} {base g n cap k : Nat} {D : Nat → Int} (h : W.ownsRow base 3 1 (.slice (some ⟨g, 0, none⟩) n cap) n (ints (rowF n D))) (hk : k < n) : W.cell? ⟨g, k, none⟩ = some (.int .i64 (D k)) ∧ W.frozen? ⟨g, k, none⟩ = false :=
  ⟨(RowP.of_owns h).cell (by simp [ints, rowF, hk]), (RowP.of_owns h).frozen k⟩
theorem ins_step {C : List Int} {D : Nat → Int} {k j : Nat} (hD : BlkOk (cS C) D 0 k) (hk : D k = (k : Int)) (hj : j ≤ k) (lo : 0 < j → ltC (cS C) (D (j - 1)) (D k)) (hi : ∀ i, j ≤ i → i < k → ltC (cS C) (D k) (D i)) :
    BlkOk (cS C) (insL D k j) 0 (k + 1) := by
  have h3 := insL_seg (m := k) (i := j) hD.so (Nat.zero_le _) hj (fun i _ i2 => le_seg hD.so (Nat.zero_le _) (show i ≤ j - 1 by omega) (by omega) (lo (by omega))) hi
  refine ⟨h3.1, fun i i1 i2 => ?_⟩
  obtain ⟨l, l1, l2, e⟩ := h3.2.src i i1 i2
  rw [e]
  by_cases el : l = k
  · rw [el, hk]; omega
  · have := hD.rg l l1 (by omega); omega

set_option maxRecDepth 100000 in
set_option maxHeartbeats 8000000 in
theorem byCost_c (w : World) (nm : ByteArray) (va : Option Addr) (vn vc : Nat) (pa : Option Addr) (pn pc : Nat) (re : ByteArray) (ba : Option Addr) (n bc : Nat) {L : List (List InsD)}
    (h : IsBlocks (· < w.heap.size) w (.slice ba n bc) L) (hl : n ≤ 1000) (hvn : vn ≤ 1000000) (hbd : ∀ l ∈ L, l.length ≤ 100000 ∧ ∀ i ∈ l, i.args.length ≤ 1000000) :
    Calls Try.prog 67 #[funcV nm va vn vc pa pn pc re ba n bc] w fun e w' => ∃ D a c, e = .returned (.slice a vn c) ∧ OrdAt w.heap.size vn (costS vn L) D a c w' ∧ Below w.heap.size w w' := by
  have hb0 := bel_alloc (bel_refl w) (.cells #[.string nm, .slice va vn vc, .slice pa pn pc, .string re, .slice ba n bc] 44)
  have HCO := hid_st (costsR_c (w.alloc (.cells #[.string nm, .slice va vn vc, .slice pa pn pc, .string re, .slice ba n bc] 44)) nm va vn vc pa pn pc re ba n bc (h.keep (fun b hb hlt => ⟨by simp; omega, hb0.block b hlt⟩)) hl hvn hbd)
  unfold funcV at HCO ⊢
  have HB0 := hid_st hb0
  have HCL : Hid ((costS vn L).length = vn) := costK_length vn L L.length
  obtain ⟨C, HCC⟩ : ∃ C, Hid (costS vn L = C) := ⟨_, (rfl : costS vn L = _)⟩
  rw [HCC.out] at HCO HCL ⊢
  clear h hbd hb0
  go_enter Try.func67, Try.ntmps67
  go_wp2_with fail
  refine HCO.out.mono ?_
  rintro e W1 ⟨gc, rfl, hgc, hrc, hb1⟩
  have HB1 := hid_st (bel_call HB0.out hb1)
  have HRC := hid_st hrc
  have hgcl := hrc.lt
  have HO0 : Hid (∃ D, W1.ownsRow W1.heap.size 3 1 (.slice none 0 0) 0 (ints (rowF 0 D)) ∧ BlkOk (cS C) D 0 0 ∧ Below W1.heap.size W1 W1) := ⟨fun _ => 0, World.ownsRow_nil _ _ _ _, ⟨SegS.small (by omega), fun k _ h => by omega⟩, bel_refl W1⟩
  clear hb1 hgc hrc HCO HB0
  go_wp2_with fail
  go_loopw [4, 5] (fun s4 s5 wx => ∃ (k : Nat) (ra : Option Addr) (rc : Nat), k ≤ vn ∧ s5 = .int .i64 k ∧ s4 = .slice ra k rc ∧ Hid (∃ D, wx.ownsRow W1.heap.size 3 1 (.slice ra k rc) k (ints (rowF k D)) ∧ BlkOk (cS C) D 0 k ∧ Below W1.heap.size W1 wx)) (fun _ s5 _ => vn - (intOf s5).toNat)
  case atStart => exact ⟨0, none, 0, by omega, rfl, rfl, HO0⟩
  case round =>
    obtain ⟨k, ra, rc, hk, rfl, rfl, HK⟩ := hrel
    clear HO0
    by_cases hlt : k < vn
    · have hkz : (k : Int) < (vn : Int) := by omega
      obtain ⟨D, ho, hbk, hbl⟩ := HK.out
      have hrl := rowF_length k D
      have hrs : rowF (k + 1) (updN D k (k : Int)) = rowF k D ++ [(k : Int)] := by
        rw [rowF_succ]
        have e : updN D k (k : Int) k = (k : Int) := by unfold updN; rw [if_pos rfl]
        rw [e, rowF_congr (D' := D) (fun i hi => by unfold updN; rw [if_neg (by omega)])]
      have hD2 : BlkOk (cS C) (updN D k (k : Int)) 0 k := hbk.of_eq fun i _ i2 => by unfold updN; rw [if_neg (by omega)]
      have hDk : updN D k (k : Int) k = (k : Int) := by unfold updN; rw [if_pos rfl]
      obtain ⟨l, Hl⟩ : ∃ l, Hid (rowF k D = l) := ⟨_, (rfl : rowF k D = _)⟩
      obtain ⟨D2, HD2⟩ : ∃ D2, Hid (updN D k (k : Int) = D2) := ⟨_, (rfl : updN D k (k : Int) = _)⟩
      rw [Hl.out] at hrl hrs ho
      rw [HD2.out] at hrs hD2 hDk
      have HRL := hid_st hrl
      have HRS := hid_st hrs
      have HOW := hid_st ho
      have HBL := hid_st hbl
      have HD := hid_st hD2
      have HDK := hid_st hDk
      clear hrl hrs ho hbl hbk hD2 hDk HK
      go_wp2_with (at_builtin; refine stop_here ?_)
      refine stop_go (app_int rfl _ _ rfl W1.heap.size (.slice ra k rc) l rfl (by rw [HRL.out]; exact owns_below HOW.out (bel_alloc (bel_refl wr) _)) _ (k : Int) rfl (heap_alloc_eq _ _ _ rfl) (by have := HRL.out; omega) (by have := HBL.out.size; simp; omega) ?_)
      intro v' w' ho hgr hv
      have ho2 : w'.ownsRow W1.heap.size 3 1 v' (k + 1) (ints (rowF (k + 1) D2)) := by
        rw [HRS.out]
        rw [List.length_append, HRL.out] at ho
        exact ho
      have hb6 : Below W1.heap.size W1 w' := bel_grown (bel_alloc HBL.out _) hgr (fun b e => (HOW.out.lt b e).1)
      rcases owns_nilcase ho2 with ⟨-, h0, -⟩ | ⟨g2, c2, rfl⟩
      · omega
      have HJ0 : Hid (w'.ownsRow W1.heap.size 3 1 (.slice (some ⟨g2, 0, none⟩) (k + 1) c2) (k + 1) (ints (rowF (k + 1) (shF D2 k k))) ∧ (∀ i, k ≤ i → i < k → ltC (cS C) (D2 k) (D2 i)) ∧ Below W1.heap.size W1 w') := ⟨by rw [shF_self]; exact ho2, fun i h1 h2 => by omega, hb6⟩
      have HGG : Hid (W1.heap.size ≤ g2) := by obtain ⟨_, h, -⟩ := owns_block ho2; exact h
      clear ho ho2 hgr hv hb6 HOW HBL
      go_wp2_with fail
      go_loopw [6] (fun s6 wx => ∃ j : Nat, j ≤ k ∧ s6 = .int .i64 j ∧ Hid (wx.ownsRow W1.heap.size 3 1 (.slice (some ⟨g2, 0, none⟩) (k + 1) c2) (k + 1) (ints (rowF (k + 1) (shF D2 k j))) ∧ (∀ i, j ≤ i → i < k → ltC (cS C) (D2 k) (D2 i)) ∧ Below W1.heap.size W1 wx)) (fun s6 _ => (intOf s6).toNat)
      case atStart => exact ⟨k, by omega, rfl, HJ0⟩
      case round =>
        obtain ⟨j, hj, rfl, HJ⟩ := hrel
        clear HJ0
        have HEND : (0 < j → ltC (cS C) (D2 (j - 1)) (D2 k)) → Hid (∀ q, ∃ D, (((wr.drewN q).setCell ⟨g2, j, none⟩ (.int .i64 (k : Int)))).ownsRow W1.heap.size 3 1 (.slice (some ⟨g2, 0, none⟩) (k + 1) c2) (k + 1) (ints (rowF (k + 1) D)) ∧ BlkOk (cS C) D 0 (k + 1) ∧ Below W1.heap.size W1 ((wr.drewN q).setCell ⟨g2, j, none⟩ (.int .i64 (k : Int)))) := fun hlo q => by
          obtain ⟨hoj, hhi, hbj⟩ := HJ.out
          have h1 := owns_set (show (wr.drewN q).ownsRow _ _ _ _ _ _ from hoj) (show j < k + 1 by omega) (k : Int)
          rw [← HDK.out, shF_end] at h1
          rw [HDK.out] at h1
          exact ⟨_, h1, ins_step HD.out HDK.out hj hlo hhi, (bel_drewN hbj q).setCell HGG.out _⟩
        have fj := (own_cell HJ.out.1 (show j < k + 1 by omega)).2
        have cj := (own_cell HJ.out.1 (show j < k + 1 by omega)).1
        obtain ⟨z, Hz⟩ : ∃ z, Hid (shF D2 k j j = z) := ⟨_, (rfl : shF D2 k j j = _)⟩
        rw [Hz.out] at cj
        clear Hz
        by_cases h0 : 0 < j
        · obtain ⟨jp, rfl⟩ : ∃ jp, j = jp + 1 := ⟨j - 1, by omega⟩
          simp only [Nat.add_sub_cancel] at HEND
          obtain ⟨hoj, hhi, hbj⟩ := HJ.out
          have e2 : shF D2 k (jp + 1) jp = D2 jp := by unfold shF; rw [if_neg (by omega)]
          have hrg := HD.out.rg jp (Nat.zero_le _) (by omega)
          obtain ⟨yN, hyN⟩ : ∃ yN : Nat, D2 jp = (yN : Int) := ⟨(D2 jp).toNat, by omega⟩
          have hy1 : yN < vn := by omega
          have hyk : yN < k := by omega
          have c2' := (own_cell hoj (show jp < k + 1 by omega)).1
          rw [e2, hyN] at c2'
          have hrc := HRC.out.keep (hbj.block gc hgcl)
          have q1 := hrc.cell (k := yN) (v := .int .i64 (C.getD yN 0)) (by
            have h1 : yN < C.length := by rw [HCL.out]; exact hy1
            simp [ints, List.getD, h1])
          have q2 := hrc.cell (k := k) (v := .int .i64 (C.getD k 0)) (by
            have h1 : k < C.length := by rw [HCL.out]; exact hlt
            simp [ints, List.getD, h1])
          obtain ⟨u, Hu⟩ : ∃ u, Hid (C.getD yN 0 = u) := ⟨_, (rfl : C.getD yN 0 = _)⟩
          obtain ⟨v, Hv⟩ : ∃ v, Hid (C.getD k 0 = v) := ⟨_, (rfl : C.getD k 0 = _)⟩
          rw [Hu.out] at q1
          rw [Hv.out] at q2
          have hcy : cS C (yN : Int) = u := by unfold cS; rw [Int.toNat_natCast]; exact Hu.out
          have hck : cS C (k : Int) = v := by unfold cS; rw [Int.toNat_natCast]; exact Hv.out
          have hyz : (yN : Int) < (vn : Int) := by omega
          have hyz0 : (0 : Int) ≤ (yN : Int) := by omega
          have hjz : (jp : Int) + 1 - 1 = (jp : Int) := by omega
          have hjs : ((jp + 1 : Nat) : Int) = (jp : Int) + 1 := by omega
          have hjw : (jp : Int) + 1 < (k : Int) + 1 := by omega
          have hjw2 : (jp : Int) < (k : Int) + 1 := by omega
          have hjg : decide ((jp : Int) + 1 > 0) = true := by simp <;> omega
          have hjg' : decide ((0 : Int) < (jp : Int) + 1) = true := by simp <;> omega
          have hks : ((k + 1 : Nat) : Int) = (k : Int) + 1 := by omega
          rw [hjs]
          by_cases hcmp : u > v
          · have g4 : decide (u > v) = true := by simpa using hcmp
            have g4' : decide (v < u) = true := by simpa using hcmp
            have HN : Hid (∀ q, ((wr.drewN q).setCell ⟨g2, jp + 1, none⟩ (.int .i64 (yN : Int))).ownsRow W1.heap.size 3 1 (.slice (some ⟨g2, 0, none⟩) (k + 1) c2) (k + 1) (ints (rowF (k + 1) (shF D2 k jp))) ∧ (∀ i, jp ≤ i → i < k → ltC (cS C) (D2 k) (D2 i)) ∧ Below W1.heap.size W1 ((wr.drewN q).setCell ⟨g2, jp + 1, none⟩ (.int .i64 (yN : Int)))) := fun q => by
              have h1 := owns_set (show (wr.drewN q).ownsRow _ _ _ _ _ _ from hoj) (show jp + 1 < k + 1 by omega) (yN : Int)
              have h2 : (yN : Int) = shF D2 k (jp + 1) jp := by rw [e2, hyN]
              rw [h2, shF_step D2 (by omega), ← h2] at h1
              refine ⟨h1, fun i i1 i2 => ?_, (bel_drewN hbj q).setCell HGG.out _⟩
              by_cases e : i = jp
              · subst e
                rw [HDK.out, hyN]
                exact ltC_lt (by rw [hcy, hck]; exact hcmp)
              · exact hhi i (by omega) i2
            clear hoj hhi hbj hcmp hrg hyN HEND HJ hrc e2
            go_wp2_with fail
            go_quiet (fail)
            clear q1 q2
            go_wp2_with fail
            go_roundw
            case rel => exact ⟨jp, by omega, by go_num, HN.out _⟩
            case measure => simp [intOf] <;> omega
          · have g4 : decide (u > v) = false := by simpa using hcmp
            have g4' : decide (v < u) = false := by simpa using hcmp
            have HN := HEND fun _ => by
              rw [hyN, HDK.out]
              exact ltC_ge (by rw [hcy, hck]; exact hcmp) (by omega)
            clear hoj hhi hbj hcmp hrg hyN HEND HJ hrc e2
            go_wp2_with fail
            go_quiet (fail)
            clear q1 q2 c2'
            go_wp2_with fail
            go_roundw
            case rel => exact ⟨k + 1, _, _, by omega, by go_num, rfl, HN.out _⟩
            case measure => simp [intOf] <;> omega
        · obtain rfl : j = 0 := by omega
          have HN := HEND fun h => absurd h (by omega)
          have hks : ((k + 1 : Nat) : Int) = (k : Int) + 1 := by omega
          have hkw : (0 : Int) < (k : Int) + 1 := by omega
          clear HEND HJ
          go_wp2_with fail
          go_quiet (fail)
          go_wp2_with fail
          go_roundw
          case rel => exact ⟨k + 1, _, _, by omega, by go_num, rfl, HN.out _⟩
          case measure => simp [intOf] <;> omega
    · obtain rfl : k = vn := by omega
      obtain ⟨D, ho, hbk, hbl⟩ := HK.out
      have HF : Hid (∃ D, OrdAt w.heap.size k C D ra rc wr ∧ Below w.heap.size w wr) := by
        refine ⟨D, ⟨hbk, ?_, ?_⟩, bel_call HB1.out hbl⟩
        · rcases owns_nilcase ho with ⟨hnil, h0, -⟩ | ⟨g, cap, hsome⟩
          · omega
          · obtain ⟨rfl, rfl⟩ : ra = some ⟨g, 0, none⟩ ∧ rc = cap := by simpa using hsome
            obtain ⟨_, -, -, h, -⟩ := owns_block ho
            exact h
        · rcases owns_nilcase ho with ⟨hnil, h0, -⟩ | ⟨g, cap, hsome⟩
          · exact .inl h0
          · obtain ⟨rfl, rfl⟩ : ra = some ⟨g, 0, none⟩ ∧ rc = cap := by simpa using hsome
            obtain ⟨_, h, -⟩ := owns_block ho
            exact .inr ⟨g, rfl, Nat.le_trans HB1.out.size h, RowP.of_owns ho⟩
      clear ho hbk hbl HK
      go_wp2_with fail
      go_ret
      obtain ⟨D, h1, h2⟩ := HF.out
      exact ⟨D, ra, rc, rfl, h1, h2⟩
end Go.Proofs.Ytcihobmjohpnkaa
