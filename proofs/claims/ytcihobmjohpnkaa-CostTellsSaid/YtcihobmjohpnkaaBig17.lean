/- The law 17's 'Big': either of the two. -/
import Derived.Test.YtcihobmjohpnkaaBig9
import Derived.Test.YtcihobmjohpnkaaIRow
namespace Go.Proofs.Ytcihobmjohpnkaa
open Go.RowKit Go.Sort

def All17 (L : List (List InsD)) : Prop := L.length ≤ 60 ∧ ∀ l ∈ L, l.length ≤ 3000 ∧ ∀ i ∈ l, i.args.length ≤ 3000
/-- As many registers, too, as that. -/
def All17v (L : List (List InsD)) (vn : Nat) : Prop := All17 L ∧ vn ≤ 3000

set_option maxRecDepth 100000 in
set_option maxHeartbeats 8000000 in
theorem big17v_c (w : World) (nm : ByteArray) (va : Option Addr) (vn vc : Nat) (pa : Option Addr) (pn pc : Nat) (re : ByteArray) (ba : Option Addr) (n bc : Nat) {vs : List ByteArray} {ps : List Int} {L : List (List InsD)}
    (hv : IsStrs (· < w.heap.size) w (.slice va vn vc) vs) (hp : IsInts (· < w.heap.size) w (.slice pa pn pc) ps) (hL : IsBlocks (· < w.heap.size) w (.slice ba n bc) L) (hN : ∀ l ∈ L, ∀ i ∈ l, i.name.size ≤ 9223372036854775807) (hnm : nm.size ≤ 9223372036854775807) (hre : re.size ≤ 9223372036854775807) :
    Calls Try.prog 43 #[funcV nm va vn vc pa pn pc re ba n bc] w (BigPost (All17v L vn) w) := by
  have hB := bel_alloc (bel_refl w) (.cells #[.string nm, .slice va vn vc, .slice pa pn pc, .string re, .slice ba n bc] 44)
  have hk0 : Row (w.alloc (.cells #[.string nm, .slice va vn vc, .slice pa pn pc, .string re, .slice ba n bc] 44)) w.heap.size 44 [.string nm, .slice va vn vc, .slice pa pn pc, .string re, .slice ba n bc] := heap_alloc_eq _ _ _ rfl
  have hsz : (w.alloc (.cells #[.string nm, .slice va vn vc, .slice pa pn pc, .string re, .slice ba n bc] 44)).heap.size = w.heap.size + 1 := by simp
  have hK : Keep (· < w.heap.size) (· < (w.alloc (.cells #[.string nm, .slice va vn vc, .slice pa pn pc, .string re, .slice ba n bc] 44)).heap.size) w (w.alloc (.cells #[.string nm, .slice va vn vc, .slice pa pn pc, .string re, .slice ba n bc] 44)) := fun b hp hb => ⟨Nat.lt_of_lt_of_le hp hB.size, hB.block b hb⟩
  have H9 := hid_of (big9_c _ nm va vn vc pa pn pc re ba n bc (hv.keep hK) (hp.keep hK) (hL.keep hK) hN hnm hre)
  have HL := hid_of hL
  have HB := hid_of hB
  have HK0 := hid_of hk0
  unfold funcV at H9 ⊢
  clear hv hp hL hB hK hN hnm hre hk0
  go_enter Try.func43, Try.ntmps43
  go_wp2_with fail
  refine H9.out.mono ?_
  rintro e W1 ⟨r, rfl, hb1, hr⟩
  have hk1 : Row W1 w.heap.size 44 [.string nm, .slice va vn vc, .slice pa pn pc, .string re, .slice ba n bc] := (hb1.block _ (by simp)).trans HK0.out
  have c4 := hk1.cell (k := 4) (v := .slice ba n bc) rfl
  have hB1 := bel_call HB.out hb1
  have hL1 := HL.out.keep (p' := fun _ => True) (fun b hp hb => ⟨trivial, hB1.block b hb⟩)
  have HR := hid_of hr
  have HB1 := hid_of hB1
  have h14 := big_c W1 hL1
  have H14 := hid_of h14
  clear H9 HB HK0 HL hb1 hr hk1 hB1 hL1 h14
  cases r with
  | true =>
    go_wp2_with fail
    refine H14.out.mono ?_
    rintro e W2 ⟨r2, rfl, rfl, hr2⟩
    clear H14 hr2 c4
    go_wp2_with fail
    go_ret
    exact ⟨true, rfl, HB1.out, fun hh => by cases hh⟩
  | false =>
    have HR2 := hid_of (HR.out rfl)
    go_wp2_with fail
    refine H14.out.mono ?_
    rintro e W2 ⟨r2, rfl, rfl, hr2⟩
    have HR3 := hid_of hr2
    clear H14 hr2 c4 HR
    cases r2 with
    | true =>
      go_wp2_with fail
      go_ret
      exact ⟨true, rfl, HB1.out, fun hh => by cases hh⟩
    | false =>
      have HA : Hid (All17v L vn) := ⟨⟨HR3.out rfl, HR2.out.2.1⟩, HR2.out.2.2⟩
      clear HR3 HR2
      go_wp2_with fail
      go_ret
      exact ⟨false, rfl, HB1.out, fun _ => HA.out⟩
theorem big17_c (w : World) (nm : ByteArray) (va : Option Addr) (vn vc : Nat) (pa : Option Addr) (pn pc : Nat) (re : ByteArray) (ba : Option Addr) (n bc : Nat) {vs : List ByteArray} {ps : List Int} {L : List (List InsD)}
    (hv : IsStrs (· < w.heap.size) w (.slice va vn vc) vs) (hp : IsInts (· < w.heap.size) w (.slice pa pn pc) ps) (hL : IsBlocks (· < w.heap.size) w (.slice ba n bc) L) (hN : ∀ l ∈ L, ∀ i ∈ l, i.name.size ≤ 9223372036854775807) (hnm : nm.size ≤ 9223372036854775807) (hre : re.size ≤ 9223372036854775807) :
    Calls Try.prog 43 #[funcV nm va vn vc pa pn pc re ba n bc] w (BigPost (All17 L) w) :=
  (big17v_c w nm va vn vc pa pn pc re ba n bc hv hp hL hN hnm hre).mono (by
    rintro e w' ⟨r, h1, h2, h3⟩
    exact ⟨r, h1, h2, fun h => (h3 h).1⟩)
end Go.Proofs.Ytcihobmjohpnkaa
