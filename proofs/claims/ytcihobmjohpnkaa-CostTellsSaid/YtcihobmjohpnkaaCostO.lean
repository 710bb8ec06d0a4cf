/- cost.Order: the registers by what they cost. -/
import Derived.Test.YtcihobmjohpnkaaStS
import Derived.Test.YtcihobmjohpnkaaCostW
namespace Go.Proofs.Ytcihobmjohpnkaa
open Go.RowKit

/-- The registers in their order, in a block of its own. -/
def OrdAt (B n : Nat) (C : List Int) (D : Nat → Int) (a : Option Addr) (c : Nat) (W : World) : Prop := BlkOk (cS C) D 0 n ∧ n ≤ c ∧ (n = 0 ∨ ∃ g, a = some ⟨g, 0, none⟩ ∧ B ≤ g ∧ RowP W g 3 (ints (rowF n D)))
theorem rowF_succ (k : Nat) (D : Nat → Int) : rowF (k + 1) D = rowF k D ++ [D k] := by unfold rowF; rw [List.range_succ, List.map_append]; rfl

theorem CsAt.below {cb gc nr : Nat} {C : List Int} {W X : World} (h : CsAt cb gc nr C W) (hb : Below W.heap.size W X) : CsAt cb gc nr C X :=
  ⟨(World.cell?_of_block (a := ⟨cb, 0, none⟩) (hb.block cb (lt_of_cell h.box))).trans h.box, h.row.keep (hb.block gc h.row.lt), h.len⟩

set_option maxRecDepth 100000 in
set_option maxHeartbeats 8000000 in
theorem order_cost_c (w : World) (nm : ByteArray) (va : Option Addr) (vn vc : Nat) (pa : Option Addr) (pn pc : Nat) (re : ByteArray) (ba : Option Addr) (n bc : Nat) {L : List (List InsD)}
    (h : IsBlocks (· < w.heap.size) w (.slice ba n bc) L) (hl : n ≤ 1000) (hvn : vn ≤ 1000000) (hbd : ∀ l ∈ L, l.length ≤ 100000 ∧ ∀ i ∈ l, (usesS i).length ≤ 1000002) :
    Calls Try.prog 65 #[funcV nm va vn vc pa pn pc re ba n bc] w fun e w' => ∃ D a c, e = .returned (.slice a vn c) ∧ OrdAt w.heap.size vn (costS vn L) D a c w' ∧ Below w.heap.size w w' := by
  have hb0 := bel_alloc (bel_refl w) (.cells #[.string nm, .slice va vn vc, .slice pa pn pc, .string re, .slice ba n bc] 44)
  have HCO := hid_st (costs_c (w.alloc (.cells #[.string nm, .slice va vn vc, .slice pa pn pc, .string re, .slice ba n bc] 44)) nm va vn vc pa pn pc re ba n bc (h.keep (fun b hb hlt => ⟨by simp; omega, hb0.block b hlt⟩)) hl hvn hbd)
  unfold funcV at HCO ⊢
  have HB0 := hid_st hb0
  have HCL : Hid ((costS vn L).length = vn) := costK_length vn L L.length
  obtain ⟨C, HCC⟩ : ∃ C, Hid (costS vn L = C) := ⟨_, (rfl : costS vn L = _)⟩
  rw [HCC.out] at HCO HCL ⊢
  clear h hbd hb0
  go_enter Try.func65, Try.ntmps65
  go_wp2_with fail
  refine HCO.out.mono ?_
  rintro e W1 ⟨gc, rfl, hgc, hrc, hb1⟩
  simp at hgc
  have HB1 := hid_st (bel_call HB0.out hb1)
  have HGC := hid_st (And.intro hgc hrc)
  clear hb1 hgc hrc HCO
  go_upto_region 2 with fail
  refine wp_at (fun X => CsAt W1.heap.size gc vn C X ∧ Below W1.heap.size W1 X ∧ w.heap.size < gc ∧ gc < W1.heap.size ∧ W1.heap.size < X.heap.size) ⟨⟨(heap_alloc_eq (W1) (.cells #[.slice (some ⟨gc, 0, none⟩) vn vn] 25) _ rfl |> fun e => Row.cell (vs := [.slice (some ⟨gc, 0, none⟩) vn vn]) (k := 0) e rfl), HGC.out.2.keep (Below.heap_alloc _ _ _ HGC.out.2.lt), HCL.out⟩, bel_alloc (bel_refl W1) _, by have := HGC.out.1; omega, HGC.out.2.lt, by simp⟩ ?_
  rintro X ⟨hcs, hX, hg1, hg2, hsz⟩
  obtain ⟨cb, Hcb⟩ : ∃ cb, Hid (W1.heap.size = cb) := ⟨_, (rfl : W1.heap.size = _)⟩
  rw [Hcb.out] at hcs hg2 hsz ⊢
  have HX := hid_st (bel_call HB1.out hX)
  have HCS := hid_st hcs
  have HWC : Hid (w.heap.size < cb) := by show _ < _; omega
  have cb0 := hcs.box
  have HO0 : Hid (X.ownsRow X.heap.size 3 1 (.slice none 0 0) 0 (ints (rowF 0 fun j => (j : Int))) ∧ Below X.heap.size X X) := ⟨World.ownsRow_nil _ _ _ _, bel_refl X⟩
  clear hcs hX HGC HB1 HB0
  go_wp2_with fail
  clear cb0
  go_loopw [4, 10] (fun s4 s10 wx => ∃ (k : Nat) (ra : Option Addr) (rc : Nat), k ≤ vn ∧ s10 = .int .i64 k ∧ s4 = .slice ra k rc ∧ Hid (wx.ownsRow X.heap.size 3 1 (.slice ra k rc) k (ints (rowF k fun j => (j : Int))) ∧ Below X.heap.size X wx)) (fun _ s10 _ => vn - (intOf s10).toNat)
  case atStart => exact ⟨0, none, 0, by omega, rfl, rfl, HO0⟩
  case round =>
    obtain ⟨k, ra, rc, hk, rfl, rfl, HK⟩ := hrel
    clear HO0
    by_cases hlt : k < vn
    · have hkz : (k : Int) < (vn : Int) := by omega
      have hrl := rowF_length k fun j => (j : Int)
      have hrs := rowF_succ k fun j => (j : Int)
      obtain ⟨l, Hl⟩ : ∃ l, Hid ((rowF k fun j => (j : Int)) = l) := ⟨_, (rfl : (rowF k fun j => (j : Int)) = _)⟩
      rw [Hl.out] at hrl hrs HK
      have HRL := hid_st hrl
      have HRS := hid_st hrs
      clear hrl hrs
      go_wp2_with (at_builtin; refine stop_here ?_)
      refine stop_go (app_int rfl _ _ rfl X.heap.size (.slice ra k rc) l rfl (by rw [HRL.out]; exact owns_below HK.out.1 (bel_alloc (bel_refl wr) _)) _ (k : Int) rfl (heap_alloc_eq _ _ _ rfl) (by have := HRL.out; omega) (by have := HK.out.2.size; simp; omega) ?_)
      intro v' w' ho hgr hv
      have ho2 : w'.ownsRow X.heap.size 3 1 v' (k + 1) (ints (rowF (k + 1) fun j => (j : Int))) := by
        rw [HRS.out]
        rw [List.length_append, HRL.out] at ho
        exact ho
      have hb6 : Below X.heap.size X w' := bel_grown (bel_alloc HK.out.2 _) hgr (fun b e => (HK.out.1.lt b e).1)
      obtain ⟨ra2, rc2, rfl, -⟩ := owns_slice ho2
      have HN := hid_st (And.intro ho2 hb6)
      clear ho ho2 hgr hv hb6 HK
      go_wp2_with fail
      go_roundw
      case rel => exact ⟨k + 1, ra2, rc2, by omega, by go_num, rfl, HN⟩
      case measure => simp [intOf]; omega
    · obtain rfl : k = vn := by omega
      obtain ⟨ho, hb5⟩ := HK.out
      have HX5 := hid_st (bel_call HX.out hb5)
      rcases owns_nilcase ho with ⟨hnil, h0, -⟩ | ⟨g, cap, hsome⟩
      · simp only [Value.slice.injEq] at hnil
        obtain ⟨rfl, -, rfl⟩ := hnil
        subst h0
        have HF : Hid (OrdAt w.heap.size 0 C (fun j => (j : Int)) none 0 wr) := ⟨⟨SegS.small (by omega), fun j _ hj => by omega⟩, Nat.le_refl _, .inl rfl⟩
        clear ho hb5 HK
        go_wp2_with fail
        refine (sortStable_nil _ _).mono ?_
        rintro e Y ⟨rfl, rfl⟩
        go_wp2_with fail
        go_ret
        exact ⟨_, none, 0, rfl, HF.out, HX5.out⟩
      · simp only [Value.slice.injEq] at hsome
        obtain ⟨rfl, -, rfl⟩ := hsome
        have hgl := ho.lt g rfl
        have hro := RowP.of_owns ho
        obtain ⟨_, -, -, hcap, -⟩ := owns_block ho
        have hSO := sortStable_c (cc := rc) wr (fun j => (j : Int)) ⟨hro, Only.refl _ _⟩ (HCS.out.below hb5) (by have := hgl.1; omega) (by have := hgl.1; omega) (fun _ _ => rfl) (Nat.le_refl _) hvn
        have HCAP : Hid (k ≤ rc) := hcap
        have HGL : Hid (w.heap.size ≤ g) := by show _ ≤ _; have := hgl.1; have := HWC.out; omega
        have HSO := hid_st hSO
        clear ho hb5 HK hgl hro hcap hSO
        go_wp2_with fail
        refine HSO.out.mono ?_
        rintro e Y ⟨rfl, D', k1, k2⟩
        have HF : Hid (OrdAt w.heap.size k C D' (some ⟨g, 0, none⟩) rc Y ∧ Below w.heap.size w Y) := ⟨⟨k2, HCAP.out, .inr ⟨g, rfl, HGL.out, k1.row⟩⟩, k1.on.bel _ _ HX5.out HGL.out⟩
        clear k1 k2 HSO
        go_wp2_with fail
        go_ret
        exact ⟨D', _, rc, rfl, HF.out.1, HF.out.2⟩
end Go.Proofs.Ytcihobmjohpnkaa
