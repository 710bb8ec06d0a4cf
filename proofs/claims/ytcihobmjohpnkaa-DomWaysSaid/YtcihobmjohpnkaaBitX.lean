/- 'With', 'Without'. -/
import Derived.Test.YtcihobmjohpnkaaBitO
import Derived.Test.YtcihobmjohpnkaaBitF
import Derived.Deep.RegionWith
namespace Go.Proofs.Ytcihobmjohpnkaa
open Go.RowKit

theorem one_len (n : Int) : ([n] : List Int).length ≤ 140737488351232 := by simp
theorem words_slice {p : Nat → Prop} {w : World} {z : Value} {ws : List Nat} (h : IsWords p w z ws) : ∃ za zn zc, z = .slice za zn zc := by obtain ⟨_, _, h, -⟩ := h; exact ⟨_, _, _, h⟩
theorem bel_dac {W w1 : World} {o : Obj} (h : Below (W.alloc o).drew.heap.size (W.alloc o).drew w1) : Below W.heap.size W w1 :=
  bel_call (bel_alloc (bel_refl W) o).drew h

set_option maxRecDepth 100000 in
set_option maxHeartbeats 1000000 in
theorem with_c {p : Nat → Prop} {u : Value} {a : List Nat} (w : World) (n : Int) (ha : IsWords p w u a) (hoa : Bit.Ok a) (hla : a.length ≤ 2000) :
    Calls Try.prog 113 #[.agg #[u], .int .i64 n] w fun e w' => ∃ z, e = .returned (.agg #[z]) ∧ IsWords (w.heap.size ≤ ·) w' z (Bit.orW a (Bit.ofW [n])) ∧ Below w.heap.size w w' := by
  obtain ⟨ua, un, uc, rfl⟩ : ∃ ua un uc, u = .slice ua un uc := by obtain ⟨_, _, h, -⟩ := ha; exact ⟨_, _, _, h⟩
  have hob := (Bit.of_can [n]).1
  have hlb := Bit.of_length [n]
  go_enter Try.func113, Try.ntmps113
  go_wp2_with fail
  generalize hW : ((w.alloc _).alloc _) = W
  have hB : Below w.heap.size w W := by rw [← hW]; exact bel_alloc (bel_alloc (bel_refl w) _) _
  have hs : W.heap.size = w.heap.size + 2 := by rw [← hW]; simp
  have hk : W.heap[w.heap.size + 1]? = some (.cells #[.slice none 0 0] 96) := by rw [← hW]; exact heap_alloc_eq _ _ _ (by simp)
  have hk0 : W.heap[w.heap.size]? = some (.cells #[.slice ua un uc] 96) := by rw [← hW]; exact heap_alloc_ne _ _ _ _ (heap_alloc_eq _ _ _ rfl)
  have c0 := cell_of_one hk0
  have l0 : w.heap.size < W.heap.size := by omega
  have l1 : w.heap.size + 1 < W.heap.size := by omega
  have haW := ha.keep (p' := p) (fun b h hb => ⟨h, hB.block b hb⟩)
  have HK0 : Hid (W.heap[w.heap.size]? = some (.cells #[.slice ua un uc] 96)) := hk0
  have HK1 : Hid (W.heap[w.heap.size + 1]? = some (.cells #[.slice none 0 0] 96)) := hk
  have hint : IsInts (fun _ => True) (W.alloc (Obj.cells #[.int .i64 n] 3)).drew (.slice (some ⟨w.heap.size + 2, 0, none⟩) 1 1) [n] := ints_of_row (e := 3) (xs := [n]) (heap_alloc_eq W _ _ hs.symm) trivial (one_len n)
  clear hW hk0 hk ha
  go_region_with (first
    | (go_at_call 106; refine (of_c _ hint).mono ?_; rintro e w1 ⟨z, rfl, hz, hb1⟩; have hb1' := bel_dac hb1; have c1 := cell_of_one ((hb1'.block _ l0).trans HK0.out); have haW1 := haW.keep (Keep.below hb1'))
    | (go_at_call 107; refine (or_c w1 haW1 hz hoa hob hla hlb).mono ?_; rintro e w2 ⟨z2, rfl, hz2, hb2⟩; have hb2' := bel_call hb1' hb2; have hk2 := (hb2'.block _ l1).trans HK1.out; have c2 := cell_of_one hk2; have f2 := free_of_one hk2; have hs2 := Nat.lt_of_lt_of_le l1 hb2'.size; obtain ⟨za, zn, zc, rfl⟩ := words_slice hz2))
  all_goals
    try go_wp2_with fail
    have c3 : (w2.setCell ⟨w.heap.size + 1, 0, none⟩ (.slice za zn zc)).cell? ⟨w.heap.size + 1, 0, none⟩ = some (.slice za zn zc) := World.cell?_setCell_same' _ _ _ (by rw [c2]; rfl)
    refine bodyPost_ret (v := .agg #[.slice za zn zc]) (by simp [results, Try.results113, go_sem, c3]) rfl ⟨_, rfl, ?_, ?_⟩
    · exact hz2.keep (Keep.setCell fun b h _ => ⟨by have := hb1'.size; omega, by have := hb1'.size; show b ≠ w.heap.size + 1; omega⟩)
    · exact bel_setCell (bel_call hB hb2') (by show w.heap.size ≤ w.heap.size + 1; omega)

set_option maxRecDepth 100000 in
set_option maxHeartbeats 1000000 in
theorem without_c {p : Nat → Prop} {u : Value} {a : List Nat} (w : World) (n : Int) (ha : IsWords p w u a) (hoa : Bit.Ok a) (hla : a.length ≤ 2000) :
    Calls Try.prog 119 #[.agg #[u], .int .i64 n] w fun e w' => ∃ z, e = .returned (.agg #[z]) ∧ IsWords (w.heap.size ≤ ·) w' z (Bit.subW a (Bit.ofW [n])) ∧ Below w.heap.size w w' := by
  obtain ⟨ua, un, uc, rfl⟩ : ∃ ua un uc, u = .slice ua un uc := by obtain ⟨_, _, h, -⟩ := ha; exact ⟨_, _, _, h⟩
  have hob := (Bit.of_can [n]).1
  have hlb := Bit.of_length [n]
  go_enter Try.func119, Try.ntmps119
  go_wp2_with fail
  generalize hW : ((w.alloc _).alloc _) = W
  have hB : Below w.heap.size w W := by rw [← hW]; exact bel_alloc (bel_alloc (bel_refl w) _) _
  have hs : W.heap.size = w.heap.size + 2 := by rw [← hW]; simp
  have hk : W.heap[w.heap.size + 1]? = some (.cells #[.slice none 0 0] 96) := by rw [← hW]; exact heap_alloc_eq _ _ _ (by simp)
  have hk0 : W.heap[w.heap.size]? = some (.cells #[.slice ua un uc] 96) := by rw [← hW]; exact heap_alloc_ne _ _ _ _ (heap_alloc_eq _ _ _ rfl)
  have c0 := cell_of_one hk0
  have l0 : w.heap.size < W.heap.size := by omega
  have l1 : w.heap.size + 1 < W.heap.size := by omega
  have haW := ha.keep (p' := p) (fun b h hb => ⟨h, hB.block b hb⟩)
  have HK0 : Hid (W.heap[w.heap.size]? = some (.cells #[.slice ua un uc] 96)) := hk0
  have HK1 : Hid (W.heap[w.heap.size + 1]? = some (.cells #[.slice none 0 0] 96)) := hk
  have hint : IsInts (fun _ => True) (W.alloc (Obj.cells #[.int .i64 n] 3)).drew (.slice (some ⟨w.heap.size + 2, 0, none⟩) 1 1) [n] := ints_of_row (e := 3) (xs := [n]) (heap_alloc_eq W _ _ hs.symm) trivial (one_len n)
  clear hW hk0 hk ha
  go_region_with (first
    | (go_at_call 106; refine (of_c _ hint).mono ?_; rintro e w1 ⟨z, rfl, hz, hb1⟩; have hb1' := bel_dac hb1; have c1 := cell_of_one ((hb1'.block _ l0).trans HK0.out); have haW1 := haW.keep (Keep.below hb1'))
    | (go_at_call 108; refine (sub_c w1 haW1 hz hoa hob hla hlb).mono ?_; rintro e w2 ⟨z2, rfl, hz2, hb2⟩; have hb2' := bel_call hb1' hb2; have hk2 := (hb2'.block _ l1).trans HK1.out; have c2 := cell_of_one hk2; have f2 := free_of_one hk2; have hs2 := Nat.lt_of_lt_of_le l1 hb2'.size; obtain ⟨za, zn, zc, rfl⟩ := words_slice hz2))
  all_goals
    try go_wp2_with fail
    have c3 : (w2.setCell ⟨w.heap.size + 1, 0, none⟩ (.slice za zn zc)).cell? ⟨w.heap.size + 1, 0, none⟩ = some (.slice za zn zc) := World.cell?_setCell_same' _ _ _ (by rw [c2]; rfl)
    refine bodyPost_ret (v := .agg #[.slice za zn zc]) (by simp [results, Try.results119, go_sem, c3]) rfl ⟨_, rfl, ?_, ?_⟩
    · exact hz2.keep (Keep.setCell fun b h _ => ⟨by have := hb1'.size; omega, by have := hb1'.size; show b ≠ w.heap.size + 1; omega⟩)
    · exact bel_setCell (bel_call hB hb2') (by show w.heap.size ≤ w.heap.size + 1; omega)

end Go.Proofs.Ytcihobmjohpnkaa
