/- 'Or', 'And', 'Sub'. -/
import Derived.Test.YtinbfnabngdemaaKBitW
import Derived.StillTailTactics
import Derived.Deep.LoopGhost
import Derived.Deep.RegionWith
namespace Go.Proofs.Ytinbfnabngdemaa

section
open Go.RowKit

set_option maxRecDepth 100000 in
theorem and_c {p q : Nat → Prop} {u v : Value} {a b : List Nat} (w : World) (ha : IsWords p w u a) (hb : IsWords q w v b) (hoa : Bit.Ok a) (hob : Bit.Ok b) (hla : a.length ≤ 2000) (hlb : b.length ≤ 2000) :
    Calls Try.prog 48 #[.agg #[u], .agg #[v]] w fun e w' => ∃ z, e = .returned (.agg #[z]) ∧ IsWords (w.heap.size ≤ ·) w' z (Bit.andW a b) ∧ Below w.heap.size w w' := by
  go_enter Try.func48, Try.ntmps48
  go_wp2_with fail
  generalize hW : (((w.alloc _).alloc _).alloc _) = W
  have hB : Below w.heap.size w W := by rw [← hW]; exact bel_alloc (bel_alloc (bel_alloc (bel_refl w) _) _) _
  have hs : W.heap.size = w.heap.size + 3 := by rw [← hW]; simp
  have hk : W.heap[w.heap.size + 1 + 1]? = some (.cells #[.slice none 0 0] 49) := by rw [← hW]; exact heap_alloc_eq _ _ _ (by simp)
  clear hW
  refine (zip_c W 58 _ (.inl rfl) (fun W x y => andB_c W x y) (p := fun b => p b ∨ q b) ((ha.keep (p' := fun b => p b ∨ q b) (fun b h hb => ⟨.inl h, hB.block b hb⟩))) (hb.keep (fun b h hb => ⟨.inr h, hB.block b hb⟩)) hoa hob hla hlb).mono ?_
  rintro e w1 ⟨z, rfl, hz, hb1⟩
  go_wp2_with fail
  have hzl : ∀ f, (Bit.zipS f a b).length ≤ 140737488351232 := fun f => by rw [Bit.zipS_length]; omega
  refine (trimmed_c w1 (words_of_owns (p := (W.heap.size ≤ ·)) hz (hzl _) (fun _ _ h _ => h))).mono ?_
  rintro e w2 ⟨z2, rfl, hz2, hb2⟩
  have hb3 := bel_call (bel_call (bel_refl W) hb1) hb2
  have hk2 : w2.heap[w.heap.size + 1 + 1]? = _ := (hb3.block _ (by omega)).trans hk
  have c2 := cell_of_one hk2
  have hs2 : w.heap.size + 1 + 1 < w2.heap.size := by have := hb3.size; omega
  have f2 : w2.frozen? ⟨w.heap.size + 1 + 1, 0, none⟩ = false := free_of_one hk2
  have hz3 := hz2
  obtain ⟨za, zn, zc, rfl⟩ : ∃ za zn zc, z2 = .slice za zn zc := by obtain ⟨_, _, h, -⟩ := hz2; exact ⟨_, _, _, h⟩
  have c3 : (w2.setCell ⟨w.heap.size + 1 + 1, 0, none⟩ (.slice za zn zc)).cell? ⟨w.heap.size + 1 + 1, 0, none⟩ = some (.slice za zn zc) := World.cell?_setCell_same' _ _ _ (by rw [c2]; rfl)
  have hr : Below w.heap.size w w2 := bel_call (bel_call hB hb1) hb2
  go_wp2_with fail
  refine bodyPost_ret (v := .agg #[.slice za zn zc]) (by simp [results, Try.results48, go_sem, c3]) rfl ⟨_, rfl, ?_, ?_⟩
  · exact hz3.keep (Keep.setCell fun b h _ => ⟨by omega, by show b ≠ w.heap.size + 1 + 1; omega⟩)
  · exact bel_setCell hr (by show w.heap.size ≤ w.heap.size + 1 + 1; omega)
set_option maxRecDepth 100000 in
theorem sub_c {p q : Nat → Prop} {u v : Value} {a b : List Nat} (w : World) (ha : IsWords p w u a) (hb : IsWords q w v b) (hoa : Bit.Ok a) (hob : Bit.Ok b) (hla : a.length ≤ 2000) (hlb : b.length ≤ 2000) :
    Calls Try.prog 43 #[.agg #[u], .agg #[v]] w fun e w' => ∃ z, e = .returned (.agg #[z]) ∧ IsWords (w.heap.size ≤ ·) w' z (Bit.subW a b) ∧ Below w.heap.size w w' := by
  go_enter Try.func43, Try.ntmps43
  go_wp2_with fail
  generalize hW : (((w.alloc _).alloc _).alloc _) = W
  have hB : Below w.heap.size w W := by rw [← hW]; exact bel_alloc (bel_alloc (bel_alloc (bel_refl w) _) _) _
  have hs : W.heap.size = w.heap.size + 3 := by rw [← hW]; simp
  have hk : W.heap[w.heap.size + 1 + 1]? = some (.cells #[.slice none 0 0] 49) := by rw [← hW]; exact heap_alloc_eq _ _ _ (by simp)
  clear hW
  refine (zip_c W 53 _ (.inr rfl) (fun W x y => subB_c W x y) (p := fun b => p b ∨ q b) ((ha.keep (p' := fun b => p b ∨ q b) (fun b h hb => ⟨.inl h, hB.block b hb⟩))) (hb.keep (fun b h hb => ⟨.inr h, hB.block b hb⟩)) hoa hob hla hlb).mono ?_
  rintro e w1 ⟨z, rfl, hz, hb1⟩
  go_wp2_with fail
  have hzl : ∀ f, (Bit.zipS f a b).length ≤ 140737488351232 := fun f => by rw [Bit.zipS_length]; omega
  refine (trimmed_c w1 (words_of_owns (p := (W.heap.size ≤ ·)) hz (hzl _) (fun _ _ h _ => h))).mono ?_
  rintro e w2 ⟨z2, rfl, hz2, hb2⟩
  have hb3 := bel_call (bel_call (bel_refl W) hb1) hb2
  have hk2 : w2.heap[w.heap.size + 1 + 1]? = _ := (hb3.block _ (by omega)).trans hk
  have c2 := cell_of_one hk2
  have hs2 : w.heap.size + 1 + 1 < w2.heap.size := by have := hb3.size; omega
  have f2 : w2.frozen? ⟨w.heap.size + 1 + 1, 0, none⟩ = false := free_of_one hk2
  have hz3 := hz2
  obtain ⟨za, zn, zc, rfl⟩ : ∃ za zn zc, z2 = .slice za zn zc := by obtain ⟨_, _, h, -⟩ := hz2; exact ⟨_, _, _, h⟩
  have c3 : (w2.setCell ⟨w.heap.size + 1 + 1, 0, none⟩ (.slice za zn zc)).cell? ⟨w.heap.size + 1 + 1, 0, none⟩ = some (.slice za zn zc) := World.cell?_setCell_same' _ _ _ (by rw [c2]; rfl)
  have hr : Below w.heap.size w w2 := bel_call (bel_call hB hb1) hb2
  go_wp2_with fail
  refine bodyPost_ret (v := .agg #[.slice za zn zc]) (by simp [results, Try.results43, go_sem, c3]) rfl ⟨_, rfl, ?_, ?_⟩
  · exact hz3.keep (Keep.setCell fun b h _ => ⟨by omega, by show b ≠ w.heap.size + 1 + 1; omega⟩)
  · exact bel_setCell hr (by show w.heap.size ≤ w.heap.size + 1 + 1; omega)
end

section
/- 'Of'. -/
open Go.RowKit

theorem setW_pad {ws : List Nat} {m n : Nat} (h : ws.length + m = max ws.length (n / 64 + 1)) : Bit.setW ws n = (ws ++ List.replicate m 0).modify (n / 64) (· ||| 2 ^ (n % 64)) := by
  have : m = n / 64 + 1 - ws.length := by omega
  subst this; rfl

theorem or_word {y j : Nat} (hy : y < 2 ^ 64) (hj : j < 64) : bits .or .u64 (y : Int) (IntKind.u64.wrap (2 ^ j)) = ((y ||| 2 ^ j : Nat) : Int) := by
  have hp : (2 : Nat) ^ j < 2 ^ 64 := Nat.pow_lt_pow_right (by omega) hj
  have e : (2 : Int) ^ j = ((2 ^ j : Nat) : Int) := by simp
  rw [e]
  have hw : IntKind.u64.wrap ((2 ^ j : Nat) : Int) = ((2 ^ j : Nat) : Int) := by
    generalize (2 : Nat) ^ j = z at hp
    simp [IntKind.wrap, IntKind.bits, IntKind.signed]
    omega
  rw [hw]
  exact u64_or_nat y _ hy hp

set_option maxRecDepth 100000 in
set_option maxHeartbeats 2000000 in
theorem of_c {p : Nat → Prop} {v : Value} {xs : List Int} (w : World) (h : IsInts p w v xs) :
    Calls Try.prog 25 #[v] w fun e w' => ∃ z, e = .returned (.agg #[z]) ∧ IsWords (w.heap.size ≤ ·) w' z (Bit.ofW xs) ∧ Below w.heap.size w w' := by
  have h0 := h
  obtain ⟨a, cap, rfl, hl, -⟩ := h
  go_enter Try.func25, Try.ntmps25
  go_wp2_with fail
  generalize hW : w.alloc _ = W
  have hB : Below w.heap.size w W := by rw [← hW]; exact bel_alloc (bel_refl w) _
  have hs : W.heap.size = w.heap.size + 1 := by rw [← hW]; simp
  have hk : W.heap[w.heap.size]? = some (.cells #[.slice none 0 0] 49) := by rw [← hW]; exact heap_alloc_eq _ _ _ rfl
  have hi : IsInts (fun b => b < w.heap.size ∨ p b) W (.slice a xs.length cap) xs := h0.keep fun b h hb => ⟨.inr h, hB.block b hb⟩
  clear hW
  go_loopw [3, 8] (fun s3 s8 wr => ∃ k : Nat, k ≤ xs.length ∧ s8 = .int .i64 k ∧ wr.ownsRow W.heap.size 67 1 s3 (Bit.rawOf (xs.take k)).length (words (Bit.rawOf (xs.take k))) ∧ Below W.heap.size W wr) (fun _ s8 _ => xs.length - (intOf s8).toNat)
  case atStart => exact ⟨0, by omega, rfl, World.ownsRow_nil _ _ _ _, bel_refl _⟩
  case round =>
    obtain ⟨k, hkl, rfl, ho, hb⟩ := hrel
    have hsz := hb.size
    have hr := Bit.rawOf_ok (xs.take k)
    obtain ⟨ws, HW⟩ : ∃ ws, Hid (Bit.rawOf (xs.take k) = ws) := ⟨_, (rfl : Bit.rawOf (xs.take k) = _)⟩
    rw [HW.out] at ho hr
    by_cases hlt : k < xs.length
    · obtain ⟨_, _, hv0, -, hx⟩ := hi.keep (Keep.below hb)
      simp only [Value.slice.injEq, true_and] at hv0
      obtain ⟨rfl, rfl⟩ := hv0
      rcases hx with rfl | ⟨ib, io, rfl, hpb, hx⟩
      · simp at hlt
      have t0 := hx k hlt
      simp only [CInt, Nat.mul_one] at t0
      clear hx
      have hS := Bit.rawOf_snoc (xs.take k) xs[k]
      rw [← List.take_succ_eq_append_getElem hlt, HW.out] at hS
      obtain ⟨x, HX⟩ : ∃ x, Hid (xs[k] = x) := ⟨xs[k], (rfl : xs[k] = xs[k])⟩
      rw [HX.out] at t0 hS
      have HS : Hid (Bit.rawOf (xs.take (k + 1)) = if Bit.fits x = true then Bit.setW ws x.toNat else ws) := hS
      clear hS HX
      by_cases hx0 : 0 ≤ x
      · by_cases hx1 : x ≤ 65535
        · have hf : Bit.fits x = true := by unfold Bit.fits; simp [hx0, hx1]
          have HS2 : Hid (Bit.rawOf (xs.take (k + 1)) = Bit.setW ws x.toNat) := by have := HS.out; rw [if_pos hf] at this; exact this
          obtain ⟨q, hq⟩ : ∃ q : Nat, x / 64 = (q : Int) := ⟨(x / 64).toNat, by omega⟩
          obtain ⟨j, hj⟩ : ∃ j : Nat, x % 64 = (j : Int) := ⟨(x % 64).toNat, by omega⟩
          have hj64 : j < 64 := by omega
          have hq1 : q ≤ 1023 := by omega
          clear hf HS
          go_wp2_with fail
          go_loopg [3] (q + 1) (fun g s3 wx => ∃ N : Nat, ws.length ≤ N ∧ N ≤ max ws.length (q + 1) ∧ q + 1 ≤ N + g ∧ wx.ownsRow W.heap.size 67 1 s3 N (words (ws ++ List.replicate (N - ws.length) 0)) ∧ Below W.heap.size W wx)
          case atStart => exact ⟨ws.length, by omega, by omega, by omega, by simpa using ho, hb⟩
          case round =>
            obtain ⟨N, hN0, hN1, hN2, hoN, hbN⟩ := hrel
            clear ho hb t0 hpb hi
            have hN3 : N ≤ 1024 := by omega
            obtain ⟨sa, sc, rfl⟩ : ∃ sa sc, u3 = .slice sa N sc := by
              rcases owns_nilcase hoN with ⟨h1, h2, _⟩ | ⟨g, c, h1⟩
              · exact ⟨none, 0, by rw [h1, h2]⟩
              · exact ⟨_, _, h1⟩
            by_cases hNq : N ≤ q
            · have HN : Hid (words (ws ++ List.replicate (N + 1 - ws.length) 0) = words (ws ++ List.replicate (N - ws.length) 0) ++ [Value.int .u64 ((0 : Nat) : Int)]) := by
                show _ = _
                rw [show N + 1 - ws.length = (N - ws.length) + 1 by omega, List.replicate_succ', ← List.append_assoc]
                simp [words]
              obtain ⟨L, HL⟩ : ∃ L, Hid (ws ++ List.replicate (N - ws.length) 0 = L) := ⟨_, (rfl : ws ++ List.replicate (N - ws.length) 0 = _)⟩
              have hLl : L.length = N := by rw [← HL.out]; simp; omega
              rw [HL.out] at hoN HN
              have hoL : wr.ownsRow W.heap.size 67 1 (.slice sa N sc) L.length (words L) := by rw [hLl]; exact hoN
              have hL1 : L.length + 1 ≤ 17592186044416 := by omega
              have HLN : Hid (L.length = N) := hLl
              clear hLl hoN
              go_wp2_with (at_builtin; refine stop_here ?_)
              refine stop_go (app_word rfl _ _ rfl W.heap.size _ L rfl (hoL.alloc _) _ 0 rfl (heap_alloc_eq _ _ _ rfl) hL1 (by have := hbN.size; simp; omega) ?_)
              intro v' w' hown' hg' hv'
              have hb' : Below W.heap.size W w' := bel_grown (bel_alloc hbN _) hg' (fun k hk => (hoL.lt k hk).1)
              clear hoL hbN hg' hv'
              go_wp2_with fail
              go_roundg (gk - 1)
              case measure => omega
              case rel =>
                refine ⟨N + 1, by omega, by omega, by omega, ?_, hb'⟩
                rw [HN.out]
                simpa [HLN.out] using hown'
            · obtain ⟨L, HL⟩ : ∃ L, Hid (ws ++ List.replicate (N - ws.length) 0 = L) := ⟨_, (rfl : ws ++ List.replicate (N - ws.length) 0 = _)⟩
              have hLl : L.length = N := by rw [← HL.out]; simp; omega
              have hLok : Bit.Ok L := by
                rw [← HL.out]
                intro y hy
                rcases List.mem_append.1 hy with h | h
                · exact hr.1 y h
                · rw [(List.mem_replicate.1 h).2]; exact Nat.two_pow_pos 64
              have hqL : q < L.length := by omega
              have HM : Hid (Bit.setW ws x.toNat = L.set q (L[q] ||| 2 ^ j)) := by
                have e1 : x.toNat / 64 = q := by omega
                have e2 : x.toNat % 64 = j := by omega
                show _ = _
                rw [setW_pad (m := N - ws.length) (by rw [e1]; omega), e1, e2, HL.out, List.modify_eq_set]
                simp [hqL]
              rw [HL.out] at hoN
              have hy := hLok L[q] (List.getElem_mem hqL)
              rcases owns_nilcase hoN with ⟨h1, h2, _⟩ | ⟨g, c, h1⟩
              · omega
              simp only [Value.slice.injEq, true_and] at h1
              obtain ⟨rfl, rfl⟩ := h1
              have cq : wr.cell? ⟨g, q, none⟩ = some (.int .u64 ((L[q] : Nat) : Int)) := by
                rw [World.ownsRow.cellAt hoN q (by omega)]
                simp [words, hqL]
              have HLN : Hid (L.length = N) := hLl
              generalize L[q] = y at HM hy cq
              have hqN : q < N := by omega
              have HS3 : Hid (Bit.rawOf (xs.take (k + 1)) = L.set q (y ||| 2 ^ j)) := HS2.out.trans HM.out
              clear hLl hLok HL HM HS2 hqL hNq
              go_wp2_with fail
              have hqt : IntKind.i64.wrap (x.tdiv 64) = (q : Int) := by rw [Int.tdiv_eq_ediv_of_nonneg hx0, hq, IntKind.wrap_i64]; omega
              have hjt : IntKind.i64.wrap (x.tmod 64) = (j : Int) := by rw [Int.tmod_eq_emod_of_nonneg hx0, hj, IntKind.wrap_i64]; omega
              have hjm : x.tmod 64 = (j : Int) := by rw [Int.tmod_eq_emod_of_nonneg hx0, hj]
              refine wp_region_still_tail 10 (by kernel_rfl) (by kernel_rfl) ?_
              simp only [List.take_succ_cons, List.take_zero, List.drop_succ_cons, List.drop_zero]
              repeat still_step
              refine wpStill_nil ?_
              rw [or_word hy hj64]
              change wpList _ _ _ _ _ wr.drew
              have hoD : wr.drew.ownsRow W.heap.size 67 1 (.slice (some ⟨g, 0, none⟩) N sc) N (words L) := hoN
              have cD : wr.drew.cell? ⟨g, q, none⟩ = some (.int .u64 (y : Int)) := cq
              have hbD : Below W.heap.size W wr.drew := hbN.drew
              clear hoN cq hbN
              generalize wr.drew = W5 at hoD cD hbD ⊢
              have fq : W5.frozen? ⟨g, q, none⟩ = false := hoD.frozenAt q
              obtain ⟨hst, hgst⟩ := hoD.stored q (.int .u64 ((y ||| 2 ^ j : Nat) : Int))
              have hst' : (W5.setCell ⟨g, q, none⟩ (.int .u64 ((y ||| 2 ^ j : Nat) : Int))).ownsRow W.heap.size 67 1 (.slice (some ⟨g, 0, none⟩) N sc) (L.set q (y ||| 2 ^ j)).length (words (L.set q (y ||| 2 ^ j))) := by
                rw [List.length_set, HLN.out]
                simpa [words, List.map_set] using hst
              have hbE := bel_grown hbD hgst (fun k hk => by cases hk; exact (hoD.lt g rfl).1)
              have hgl : g < W5.heap.size := (hoD.lt g rfl).2
              have HE : Hid (Below W.heap.size W (W5.setCell ⟨g, q, none⟩ (.int .u64 ((y ||| 2 ^ j : Nat) : Int)))) := hbE
              have HF : Hid ((W5.setCell ⟨g, q, none⟩ (.int .u64 ((y ||| 2 ^ j : Nat) : Int))).ownsRow W.heap.size 67 1 (.slice (some ⟨g, 0, none⟩) N sc) (L.set q (y ||| 2 ^ j)).length (words (L.set q (y ||| 2 ^ j)))) := hst'
              clear hoD hbD hst hgst hst' hbE
              go_wp2_with fail
              go_roundw
              case rel => exact ⟨k + 1, by omega, by go_num, by rw [HS3.out]; exact HF.out, HE.out⟩
              case measure => simp [intOf]; omega
        · have hf : Bit.fits x = false := by unfold Bit.fits; simp [hx1]
          have HS2 : Hid (Bit.rawOf (xs.take (k + 1)) = ws) := by have := HS.out; rw [hf] at this; exact this
          clear hf HS
          go_wp2_with fail
          go_roundw
          case rel => exact ⟨k + 1, by omega, by go_num, by rw [HS2.out]; exact ho, hb⟩
          case measure => simp [intOf]; omega
      · have hf : Bit.fits x = false := by unfold Bit.fits; simp [hx0]
        have HS2 : Hid (Bit.rawOf (xs.take (k + 1)) = ws) := by have := HS.out; rw [hf] at this; exact this
        clear hf HS
        go_wp2_with fail
        go_roundw
        case rel => exact ⟨k + 1, by omega, by go_num, by rw [HS2.out]; exact ho, hb⟩
        case measure => simp [intOf]; omega
    · have hke : k = xs.length := by omega
      rw [hke, List.take_length] at HW
      clear hke
      have hwl : ws.length ≤ 140737488351232 := by omega
      clear hi hr
      have hk2 : wr.heap[w.heap.size]? = _ := (hb.block _ (by omega)).trans hk
      go_wp2_with fail
      refine (trimmed_c wr (words_of_owns (p := (W.heap.size ≤ ·)) ho hwl (fun _ _ h _ => h))).mono ?_
      rintro e w2 ⟨z2, rfl, hz2, hb2⟩
      have hk3 : w2.heap[w.heap.size]? = _ := (hb2.block _ (by omega)).trans hk2
      have c2 := cell_of_one hk3
      have f2 : w2.frozen? ⟨w.heap.size, 0, none⟩ = false := free_of_one hk3
      have hs2 : w.heap.size < w2.heap.size := by have := hb2.size; omega
      have hz3 := hz2
      obtain ⟨za, zn, zc, rfl⟩ : ∃ za zn zc, z2 = .slice za zn zc := by obtain ⟨_, _, h, -⟩ := hz2; exact ⟨_, _, _, h⟩
      have c3 : (w2.setCell ⟨w.heap.size, 0, none⟩ (.slice za zn zc)).cell? ⟨w.heap.size, 0, none⟩ = some (.slice za zn zc) := World.cell?_setCell_same' _ _ _ (by rw [c2]; rfl)
      have hrr : Below w.heap.size w w2 := bel_call (bel_call hB hb) hb2
      rw [← HW.out] at hz3
      go_wp2_with fail
      refine bodyPost_ret (v := .agg #[.slice za zn zc]) (by simp [results, Try.results25, go_sem, c3]) rfl ⟨_, rfl, ?_, ?_⟩
      · exact hz3.keep (Keep.setCell fun b h _ => ⟨by omega, by show b ≠ w.heap.size; omega⟩)
      · exact bel_setCell hrr (Nat.le_refl _)
end

section
/- 'With', 'Without'. -/
open Go.RowKit

theorem words_slice {p : Nat → Prop} {w : World} {z : Value} {ws : List Nat} (h : IsWords p w z ws) : ∃ za zn zc, z = .slice za zn zc := by obtain ⟨_, _, h, -⟩ := h; exact ⟨_, _, _, h⟩
end
end Go.Proofs.Ytinbfnabngdemaa
