/- 'Or', 'And', 'Sub'. -/
import Derived.Test.YtcihobmjohpnkaaBitZ
namespace Go.Proofs.Ytcihobmjohpnkaa
open Go.RowKit

set_option maxRecDepth 100000 in
theorem or_c {p q : Nat → Prop} {u v : Value} {a b : List Nat} (w : World) (ha : IsWords p w u a) (hb : IsWords q w v b) (hoa : Bit.Ok a) (hob : Bit.Ok b) (hla : a.length ≤ 2000) (hlb : b.length ≤ 2000) :
    Calls Try.prog 107 #[.agg #[u], .agg #[v]] w fun e w' => ∃ z, e = .returned (.agg #[z]) ∧ IsWords (w.heap.size ≤ ·) w' z (Bit.orW a b) ∧ Below w.heap.size w w' := by
  go_enter Try.func107, Try.ntmps107
  go_wp2_with fail
  generalize hW : (((w.alloc _).alloc _).alloc _) = W
  have hB : Below w.heap.size w W := by rw [← hW]; exact bel_alloc (bel_alloc (bel_alloc (bel_refl w) _) _) _
  have hs : W.heap.size = w.heap.size + 3 := by rw [← hW]; simp
  have hk : W.heap[w.heap.size + 1 + 1]? = some (.cells #[.slice none 0 0] 96) := by rw [← hW]; exact heap_alloc_eq _ _ _ (by simp)
  clear hW
  refine (zip_c W 122 _ (.inl rfl) (fun W x y => orB_c W x y) (p := fun b => p b ∨ q b) ((ha.keep (p' := fun b => p b ∨ q b) (fun b h hb => ⟨.inl h, hB.block b hb⟩))) (hb.keep (fun b h hb => ⟨.inr h, hB.block b hb⟩)) hoa hob hla hlb).mono ?_
  rintro e w1 ⟨z, rfl, hz, hb1⟩
  go_wp2_with fail
  have hzl : ∀ f, (Bit.zipS f a b).length ≤ 140737488351232 := fun f => by rw [Bit.zipS_length]; omega
  refine (trimmed_c w1 (words_of_owns (p := (W.heap.size ≤ ·)) hz (hzl _) (fun _ _ h _ => h))).mono ?_
  rintro e w2 ⟨z2, rfl, hz2, hb2⟩
  have hb3 := bel_call (bel_call (bel_refl W) hb1) hb2
  have hk2 : w2.heap[w.heap.size + 1 + 1]? = _ := (hb3.block _ (by omega)).trans hk
  have c2 := cell_of_one hk2
  have hs2 : w.heap.size + 1 + 1 < w2.heap.size := by have := hb3.size; omega
  have f2 : w2.frozen? ⟨w.heap.size + 1 + 1, 0, none⟩ = false := free_of_one hk2
  have hz3 := hz2
  obtain ⟨za, zn, zc, rfl⟩ : ∃ za zn zc, z2 = .slice za zn zc := by obtain ⟨_, _, h, -⟩ := hz2; exact ⟨_, _, _, h⟩
  have c3 : (w2.setCell ⟨w.heap.size + 1 + 1, 0, none⟩ (.slice za zn zc)).cell? ⟨w.heap.size + 1 + 1, 0, none⟩ = some (.slice za zn zc) := World.cell?_setCell_same' _ _ _ (by rw [c2]; rfl)
  have hr : Below w.heap.size w w2 := bel_call (bel_call hB hb1) hb2
  go_wp2_with fail
  refine bodyPost_ret (v := .agg #[.slice za zn zc]) (by simp [results, Try.results107, go_sem, c3]) rfl ⟨_, rfl, ?_, ?_⟩
  · exact hz3.keep (Keep.setCell fun b h _ => ⟨by omega, by show b ≠ w.heap.size + 1 + 1; omega⟩)
  · exact bel_setCell hr (by show w.heap.size ≤ w.heap.size + 1 + 1; omega)
set_option maxRecDepth 100000 in
theorem and_c {p q : Nat → Prop} {u v : Value} {a b : List Nat} (w : World) (ha : IsWords p w u a) (hb : IsWords q w v b) (hoa : Bit.Ok a) (hob : Bit.Ok b) (hla : a.length ≤ 2000) (hlb : b.length ≤ 2000) :
    Calls Try.prog 112 #[.agg #[u], .agg #[v]] w fun e w' => ∃ z, e = .returned (.agg #[z]) ∧ IsWords (w.heap.size ≤ ·) w' z (Bit.andW a b) ∧ Below w.heap.size w w' := by
  go_enter Try.func112, Try.ntmps112
  go_wp2_with fail
  generalize hW : (((w.alloc _).alloc _).alloc _) = W
  have hB : Below w.heap.size w W := by rw [← hW]; exact bel_alloc (bel_alloc (bel_alloc (bel_refl w) _) _) _
  have hs : W.heap.size = w.heap.size + 3 := by rw [← hW]; simp
  have hk : W.heap[w.heap.size + 1 + 1]? = some (.cells #[.slice none 0 0] 96) := by rw [← hW]; exact heap_alloc_eq _ _ _ (by simp)
  clear hW
  refine (zip_c W 126 _ (.inr (.inl rfl)) (fun W x y => andB_c W x y) (p := fun b => p b ∨ q b) ((ha.keep (p' := fun b => p b ∨ q b) (fun b h hb => ⟨.inl h, hB.block b hb⟩))) (hb.keep (fun b h hb => ⟨.inr h, hB.block b hb⟩)) hoa hob hla hlb).mono ?_
  rintro e w1 ⟨z, rfl, hz, hb1⟩
  go_wp2_with fail
  have hzl : ∀ f, (Bit.zipS f a b).length ≤ 140737488351232 := fun f => by rw [Bit.zipS_length]; omega
  refine (trimmed_c w1 (words_of_owns (p := (W.heap.size ≤ ·)) hz (hzl _) (fun _ _ h _ => h))).mono ?_
  rintro e w2 ⟨z2, rfl, hz2, hb2⟩
  have hb3 := bel_call (bel_call (bel_refl W) hb1) hb2
  have hk2 : w2.heap[w.heap.size + 1 + 1]? = _ := (hb3.block _ (by omega)).trans hk
  have c2 := cell_of_one hk2
  have hs2 : w.heap.size + 1 + 1 < w2.heap.size := by have := hb3.size; omega
  have f2 : w2.frozen? ⟨w.heap.size + 1 + 1, 0, none⟩ = false := free_of_one hk2
  have hz3 := hz2
  obtain ⟨za, zn, zc, rfl⟩ : ∃ za zn zc, z2 = .slice za zn zc := by obtain ⟨_, _, h, -⟩ := hz2; exact ⟨_, _, _, h⟩
  have c3 : (w2.setCell ⟨w.heap.size + 1 + 1, 0, none⟩ (.slice za zn zc)).cell? ⟨w.heap.size + 1 + 1, 0, none⟩ = some (.slice za zn zc) := World.cell?_setCell_same' _ _ _ (by rw [c2]; rfl)
  have hr : Below w.heap.size w w2 := bel_call (bel_call hB hb1) hb2
  go_wp2_with fail
  refine bodyPost_ret (v := .agg #[.slice za zn zc]) (by simp [results, Try.results112, go_sem, c3]) rfl ⟨_, rfl, ?_, ?_⟩
  · exact hz3.keep (Keep.setCell fun b h _ => ⟨by omega, by show b ≠ w.heap.size + 1 + 1; omega⟩)
  · exact bel_setCell hr (by show w.heap.size ≤ w.heap.size + 1 + 1; omega)
set_option maxRecDepth 100000 in
theorem sub_c {p q : Nat → Prop} {u v : Value} {a b : List Nat} (w : World) (ha : IsWords p w u a) (hb : IsWords q w v b) (hoa : Bit.Ok a) (hob : Bit.Ok b) (hla : a.length ≤ 2000) (hlb : b.length ≤ 2000) :
    Calls Try.prog 108 #[.agg #[u], .agg #[v]] w fun e w' => ∃ z, e = .returned (.agg #[z]) ∧ IsWords (w.heap.size ≤ ·) w' z (Bit.subW a b) ∧ Below w.heap.size w w' := by
  go_enter Try.func108, Try.ntmps108
  go_wp2_with fail
  generalize hW : (((w.alloc _).alloc _).alloc _) = W
  have hB : Below w.heap.size w W := by rw [← hW]; exact bel_alloc (bel_alloc (bel_alloc (bel_refl w) _) _) _
  have hs : W.heap.size = w.heap.size + 3 := by rw [← hW]; simp
  have hk : W.heap[w.heap.size + 1 + 1]? = some (.cells #[.slice none 0 0] 96) := by rw [← hW]; exact heap_alloc_eq _ _ _ (by simp)
  clear hW
  refine (zip_c W 123 _ (.inr (.inr rfl)) (fun W x y => subB_c W x y) (p := fun b => p b ∨ q b) ((ha.keep (p' := fun b => p b ∨ q b) (fun b h hb => ⟨.inl h, hB.block b hb⟩))) (hb.keep (fun b h hb => ⟨.inr h, hB.block b hb⟩)) hoa hob hla hlb).mono ?_
  rintro e w1 ⟨z, rfl, hz, hb1⟩
  go_wp2_with fail
  have hzl : ∀ f, (Bit.zipS f a b).length ≤ 140737488351232 := fun f => by rw [Bit.zipS_length]; omega
  refine (trimmed_c w1 (words_of_owns (p := (W.heap.size ≤ ·)) hz (hzl _) (fun _ _ h _ => h))).mono ?_
  rintro e w2 ⟨z2, rfl, hz2, hb2⟩
  have hb3 := bel_call (bel_call (bel_refl W) hb1) hb2
  have hk2 : w2.heap[w.heap.size + 1 + 1]? = _ := (hb3.block _ (by omega)).trans hk
  have c2 := cell_of_one hk2
  have hs2 : w.heap.size + 1 + 1 < w2.heap.size := by have := hb3.size; omega
  have f2 : w2.frozen? ⟨w.heap.size + 1 + 1, 0, none⟩ = false := free_of_one hk2
  have hz3 := hz2
  obtain ⟨za, zn, zc, rfl⟩ : ∃ za zn zc, z2 = .slice za zn zc := by obtain ⟨_, _, h, -⟩ := hz2; exact ⟨_, _, _, h⟩
  have c3 : (w2.setCell ⟨w.heap.size + 1 + 1, 0, none⟩ (.slice za zn zc)).cell? ⟨w.heap.size + 1 + 1, 0, none⟩ = some (.slice za zn zc) := World.cell?_setCell_same' _ _ _ (by rw [c2]; rfl)
  have hr : Below w.heap.size w w2 := bel_call (bel_call hB hb1) hb2
  go_wp2_with fail
  refine bodyPost_ret (v := .agg #[.slice za zn zc]) (by simp [results, Try.results108, go_sem, c3]) rfl ⟨_, rfl, ?_, ?_⟩
  · exact hz3.keep (Keep.setCell fun b h _ => ⟨by omega, by show b ≠ w.heap.size + 1 + 1; omega⟩)
  · exact bel_setCell hr (by show w.heap.size ≤ w.heap.size + 1 + 1; omega)
end Go.Proofs.Ytcihobmjohpnkaa
