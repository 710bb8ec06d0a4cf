/- 'kinds': nodes of like colours have one number. -/
import Derived.Test.YtinbfnabngdemaaCmC
import Derived.Test.YtinbfnabngdemaaCnA
import Derived.Laws.BytesArg
import Derived.StringKeys
import Derived.Maps.OwnIn
import Derived.Laws.MakeOwn
namespace Go.Proofs.Ytinbfnabngdemaa
open Go.RowKit Go.Maps Go.Sort Go.Shelf Go.WideMaps Go.ChangeMaps Go.WideElems

/-- A list's bytes, as numbers. -/
def kB (l : List Int) : List Int := l.flatMap fun c => [c, 0]
theorem kB_snoc (l : List Int) (c : Int) : kB (l ++ [c]) = kB l ++ [c, 0] := by simp [kB]
theorem kB_len (l : List Int) : (kB l).length = 2 * l.length := by
  induction l with
  | nil => rfl
  | cons c l ih => show (c :: 0 :: kB l).length = _; simp only [List.length_cons, ih]; omega
noncomputable def sL (l : List Int) : Lit := .string (strOfNums (kB l)).data.toList
theorem sL_inj : ∀ {l l' : List Int}, (∀ c ∈ l, 0 ≤ c ∧ c < 256) → (∀ c ∈ l', 0 ≤ c ∧ c < 256) → sL l = sL l' → l = l' := by
  have key : ∀ {l l' : List Int}, (∀ c ∈ l, 0 ≤ c ∧ c < 256) → (∀ c ∈ l', 0 ≤ c ∧ c < 256) → (kB l).map (fun n => UInt8.ofNat n.toNat) = (kB l').map (fun n => UInt8.ofNat n.toNat) → l = l' := by
    intro l
    induction l with
    | nil =>
      intro l' _ _ h
      cases l' with
      | nil => rfl
      | cons c l' => have := congrArg List.length h; simp [kB] at this
    | cons c l ih =>
      intro l' h1 h2 h
      cases l' with
      | nil => have := congrArg List.length h; simp [kB] at this
      | cons d l' =>
        have e : ∀ (c : Int) (l : List Int), kB (c :: l) = c :: 0 :: kB l := fun _ _ => rfl
        rw [e, e] at h
        simp only [List.map_cons, List.cons.injEq, true_and] at h
        have hc := h1 c (by simp)
        have hd := h2 d (by simp)
        have h3 := congrArg UInt8.toNat h.1
        rw [UInt8.toNat_ofNat', UInt8.toNat_ofNat'] at h3
        have : c = d := by omega
        rw [this, ih (fun x hx => h1 x (by simp [hx])) (fun x hx => h2 x (by simp [hx])) h.2]
  intro l l' h1 h2 h
  unfold sL at h
  rw [strOfNums_data, strOfNums_data] at h
  injection h with h
  exact key h1 h2 h
/-- What is known of the first k kinds. -/
structure KI (A : List (List Int)) (k : Nat) (f : Lit → Option Int) (s : Nat) (Ks : List Int) : Prop where
  len : Ks.length = k
  le : s ≤ k
  has : ∀ i, i < k → f (sL (A.getD i [])) = some (Ks.getD i 0)
  rg : ∀ l c, f l = some c → 0 ≤ c ∧ c < (s : Int)
  inj : ∀ l l' c, f l = some c → f l' = some c → l = l'
theorem KI.start (A : List (List Int)) : KI A 0 (fun _ => none) 0 [] := ⟨rfl, Nat.le_refl _, fun i h => by omega, fun l c h => by simp at h, fun l l' c h => by simp at h⟩
theorem getD_snoc (Ks : List Int) (c : Int) {i k : Nat} (h : Ks.length = k) (hi : i < k + 1) : (Ks ++ [c]).getD i 0 = if i = k then c else Ks.getD i 0 := by
  subst h
  by_cases e : i = Ks.length
  · subst e; simp [List.getD]
  · rw [if_neg e]
    have : i < Ks.length := by omega
    rw [List.getD_eq_getElem?_getD, List.getElem?_append_left this, ← List.getD_eq_getElem?_getD]
theorem KI.old {A : List (List Int)} {k s : Nat} {f : Lit → Option Int} {Ks : List Int} (h : KI A k f s Ks) {c : Int} (hc : f (sL (A.getD k [])) = some c) : KI A (k + 1) f s (Ks ++ [c]) := by
  refine ⟨by simp [h.len], by have := h.le; omega, fun i hi => ?_, h.rg, h.inj⟩
  rw [getD_snoc Ks c h.len hi]
  by_cases e : i = k
  · subst e; rw [if_pos rfl]; exact hc
  · rw [if_neg e]; exact h.has i (by omega)
theorem KI.new {A : List (List Int)} {k s : Nat} {f : Lit → Option Int} {Ks : List Int} (h : KI A k f s Ks) (hc : f (sL (A.getD k [])) = none) : KI A (k + 1) (updL f (sL (A.getD k [])) (s : Int)) (s + 1) (Ks ++ [(s : Int)]) := by
  refine ⟨by simp [h.len], by have := h.le; omega, fun i hi => ?_, fun l c hl => ?_, fun l l' c h1 h2 => ?_⟩
  · rw [getD_snoc Ks _ h.len hi]
    unfold updL
    by_cases e : i = k
    · subst e; rw [if_pos rfl, if_pos rfl]
    · rw [if_neg e]
      have := h.has i (by omega)
      by_cases e2 : sL (A.getD i []) = sL (A.getD k [])
      · rw [e2, hc] at this; cases this
      · rw [if_neg e2]; exact this
  · unfold updL at hl
    split at hl
    · injection hl with hl; omega
    · have := h.rg l c hl; omega
  · unfold updL at h1 h2
    split at h1
    · rename_i e1
      injection h1 with h1
      split at h2
      · rename_i e2; rw [e1, e2]
      · have := h.rg l' c h2; omega
    · split at h2
      · injection h2 with h2
        have := h.rg l c h1; omega
      · exact h.inj l l' c h1 h2
theorem infoByte : (Try.prog.info? 5).map (fun i => (i.zero, i.size, i.bytes)) = some (some (.int .u8 0), 1, 1) := by kernel_rfl
/-- 'make([]byte, 0, n)'. -/
theorem mk_bytes0 {ops : Array Oper} {rest : List Oper} {o : Oper} {a : Act} {Q : Exit → Act → World → Prop} {W : World}
    (hgd : o.guard = none) (l c : Operand) (hop : o.op = Op.makeSlice 84 l c) (n : Nat) {z : Int} (hl : a.eval l = .int .i64 0) (hc : a.eval c = .int .i64 z) (hz' : z = (n : Int)) (hn : n ≤ 1000000)
    (h : ∀ w', w'.ownsRow W.heap.size 5 1 (.slice (some ⟨W.heap.size, 0, none⟩) 0 n) 0 [] → W.grownBy w' none → wpList Try.prog ops Q rest (a.put o.dst (.slice (some ⟨W.heap.size, 0, none⟩) 0 n)) w') :
    wpList Try.prog ops Q (o :: rest) a W := by
  subst hz'
  obtain ⟨i0, hi, hz0, hz1, hz2⟩ := info_parts infoByte
  obtain ⟨w', hr, h1, h2⟩ := run_make_own (P := Try.prog) W W.heap.size 84 5 i0 (.int .u8 0) 1 Try.underlying84 hi hz0 hz1 .i64 .i64 n (by rw [hz2]; omega) (by unfold maxLen; omega) (Nat.le_refl _)
  refine wpList_plain hgd fun K' hK' => ?_
  unfold Oper.wp execOp
  simp only [hop, hl, hc, Sem.run_bind, Sem.run_pure, hr, Result.andThen]
  exact hK' _ _ (h w' h1 h2)
abbrev bV (l : List Int) : List Value := l.map fun c => Value.int .u8 c
/-- Two bytes behind a row of bytes. -/
theorem app_two {ops : Array Oper} {rest : List Oper} {o : Oper} {a : Act} {Q : Exit → Act → World → Prop} {W : World}
    (hgd : o.guard = none) (s x : Operand) (hop : o.op = .call { callee := .builtin .append, args := #[s, x], argTypes := #[84, 84] })
    (base : Nat) (v : Value) (zs : List Int) (hs : a.eval s = v) (hown : W.ownsRow base 5 1 v zs.length (bV zs)) (g : Nat) (y z : Int) (hx : a.eval x = .slice (some ⟨g, 0, none⟩) 2 2)
    (hc : W.heap[g]? = some (.cells #[.int .u8 y, .int .u8 z] 5 (0, 0))) (hn : zs.length + 2 ≤ 17592186044416) (hb : base ≤ W.heap.size)
    (h : ∀ v' w', w'.ownsRow base 5 1 v' (zs ++ [y, z]).length (bV (zs ++ [y, z])) → W.grownBy w' v.ownBlock → (v'.ownBlock = v.ownBlock ∨ v'.ownBlock = some W.heap.size) → wpList Try.prog ops Q rest (a.put o.dst v') w') :
    wpList Try.prog ops Q (o :: rest) a W := by
  obtain ⟨i0, hi, hz0, hz1, hz2⟩ := info_parts infoByte
  refine wp_app _ hgd s x 84 hop base 5 i0 (.int .u8 0) 1 1 Try.underlying84 hi hz0 hz1 hz2 rfl (by decide) v zs.length (bV zs) hs hown
    ⟨g, 0, none⟩ 2 2 [.int .u8 y, .int .u8 z] hx rfl ?_ ?_ ?_ ?_ hb ?_
  · intro j u hj
    have hr : Row W g 5 [.int .u8 y, .int .u8 z] := hc
    match j, hj with
    | 0, hj => simp at hj; subst hj; exact hr.cell (k := 0) rfl
    | 1, hj => simp at hj; subst hj; exact hr.cell (k := 1) rfl
  · intro u hu; simp at hu; rcases hu with rfl | rfl <;> rfl
  · unfold maxLen; omega
  · omega
  · intro v' w' ho hg hv
    refine h v' w' ?_ hg hv
    simpa [bV] using ho
theorem conv_bytes {W : World} {B n : Nat} {v : Value} {zs : List Int} (h : W.ownsRow B 5 1 v n (bV zs)) (hn : zs.length = n) : (convert 84 9 v).run Try.prog W = .ok (.string (strOfNums zs)) W := by
  rcases owns_nilcase h with ⟨rfl, rfl, h3⟩ | ⟨g, cap, rfl⟩
  · have : zs = [] := List.length_eq_zero_iff.1 hn
    subst this
    rw [run_convert_bytes_nil W 84 5 Try.underlying84 Try.underlying5 0 0 9 Try.underlying9]
    rfl
  · refine run_convert_bytes_arg W 84 5 Try.underlying84 Try.underlying5 g 0 n cap zs hn (fun i hi => ?_) 9 Try.underlying9
    rw [Nat.zero_add]
    have hi' : i < zs.length := by omega
    refine (RowP.of_owns h).cell ?_
    simp [bV, hi', List.getD]
structure KnS (A : List (List Int)) (k : Nat) (ov : Value) (w W : World) : Prop where
  ex : ∃ f s Ks, KI A k f s Ks ∧ IsFm 9 W w.heap.size k s f ∧ W.ownsRow (w.heap.size + 1) 3 1 ov k (ints Ks)
  bel : Below w.heap.size w W

set_option maxRecDepth 100000 in
set_option maxHeartbeats 8000000 in
theorem kinds_c {p : Nat → Prop} {a : Option Addr} {n cap : Nat} {A : List (List Int)} (w : World) (h : IsRows p w (.slice a n cap) A) (hp : ∀ b, p b → b < w.heap.size) (hn : n ≤ 1000) (hA : ∀ l ∈ A, l.length ≤ 1000 ∧ ∀ c ∈ l, 0 ≤ c ∧ c < 256) :
    Calls Try.prog 38 #[.slice a n cap] w fun e w' => ∃ ov, e = .returned ov ∧ KnS A n ov w w' := by
  have HN := hid_of (sl_len h).1
  have HH := hid_of h
  have HP := hid_of hp
  have HA := hid_of hA
  have hcap := (sl_len h).2.1
  have hmm := @run_makeMap Try.prog
  have hB0 := bel_alloc (bel_refl w) (.map #[] 0)
  have H0 : Hid (KnS A 0 (.slice none 0 0) w (w.alloc (.map #[] 0))) := ⟨⟨_, 0, [], KI.start A, IsFm.of_empty (heap_alloc_eq _ _ _ rfl), World.ownsRow_nil _ _ _ _⟩, hB0⟩
  clear h hp hA hB0
  go_enter Try.func38, Try.ntmps38
  go_wp2_with fail
  generalize w.alloc (.map #[] 0) = W0 at *
  go_loopw [4, 15] (fun s4 s15 wx => ∃ (k : Nat) (oa : Option Addr) (oc : Nat), k ≤ n ∧ s15 = .int .i64 k ∧ s4 = .slice oa k oc ∧ Hid (KnS A k (.slice oa k oc) w wx)) (fun _ s15 _ => n - (intOf s15).toNat)
  case atStart => exact ⟨0, none, 0, by omega, rfl, rfl, H0⟩
  case round =>
    obtain ⟨k, oa, oc, hk, rfl, rfl, HK⟩ := hrel
    clear H0
    by_cases hlt : k < n
    · have hkl : k < A.length := by rw [← HN.out]; exact hlt
      obtain ⟨b, off, rfl, hpb, hc⟩ := sl_at HH.out (by omega)
      obtain ⟨u, c1, hu⟩ := hc k hkl
      rw [Nat.mul_one] at c1
      have hbw := HP.out b hpb
      have c1 := (HK.out.bel.cell (p := ⟨b, off + k, none⟩) hbw).trans c1
      have hu2 := hu.keep (p' := fun _ => True) (fun b hb hlt => ⟨trivial, HK.out.bel.block b hlt⟩)
      obtain ⟨ra, rc, rfl, hrl, -⟩ := id hu2
      have ha := HA.out _ (List.getElem_mem hkl)
      have hget : A.getD k [] = A[k] := by simp [List.getD, hkl]
      obtain ⟨l, Hl⟩ : ∃ l, Hid (A[k] = l) := ⟨_, (rfl : A[k] = _)⟩
      rw [Hl.out] at c1 hu2 ha hget hrl
      obtain ⟨m, Hm⟩ : ∃ m, Hid (l.length = m) := ⟨_, (rfl : l.length = _)⟩
      rw [Hm.out] at c1 ha hrl
      have hm : m ≤ 1000 := ha.1
      have HLC := hid_of ha.2
      have HU := hid_of hu2
      have HG := hid_of hget
      have hkz : (k : Int) < (n : Int) := by omega
      clear hu hu2 hc hpb hbw ha hget
      go_wp2_with (at_make; refine stop_here ?_)
      refine stop_go (mk_bytes0 rfl _ _ rfl (2 * m) rfl rfl (by omega) (by omega) ?_)
      intro W1 ho1 hg1
      have hb1 := bel_grown (bel_refl wr) hg1 (fun k e => by cases e)
      have c1 := (cell_of_block (hb1.block _ (lt_of_cell c1)) (off + k)).trans c1
      have HBI : Hid (W1.ownsRow wr.heap.size 5 1 (.slice (some ⟨wr.heap.size, 0, none⟩) (2 * 0) (2 * m)) (2 * 0) (bV (kB (l.take 0))) ∧ Below wr.heap.size wr W1) := ⟨ho1, hb1⟩
      clear ho1 hg1
      obtain ⟨Wo, rfl⟩ : ∃ Wo, Wo = wr := ⟨_, rfl⟩
      go_wp2_with fail
      go_loopw [7, 25] (fun s7 s25 wx => ∃ (j : Nat) (va : Option Addr) (vc : Nat), j ≤ m ∧ s25 = .int .i64 j ∧ s7 = .slice va (2 * j) vc ∧ Hid (wx.ownsRow Wo.heap.size 5 1 (.slice va (2 * j) vc) (2 * j) (bV (kB (l.take j))) ∧ Below Wo.heap.size Wo wx)) (fun _ s25 _ => m - (intOf s25).toNat)
      case atStart => exact ⟨0, _, _, by omega, rfl, rfl, HBI⟩
      case round =>
        obtain ⟨j, va, vc, hj, rfl, rfl, HJ⟩ := hrel
        clear HBI
        by_cases hjm : j < m
        · have hjl : j < l.length := by rw [Hm.out]; exact hjm
          obtain ⟨lb, lo, rfl, -, t1⟩ := ints_cell HU.out hjl
          have hcr := HLC.out _ (List.getElem_mem hjl)
          have hts : kB (l.take (j + 1)) = kB (l.take j) ++ [l[j], 0] := by rw [List.take_succ_eq_append_getElem hjl, kB_snoc]
          obtain ⟨x, Hx⟩ : ∃ x, Hid (l[j] = x) := ⟨_, (rfl : l[j] = _)⟩
          rw [Hx.out] at t1 hcr hts
          obtain ⟨x, rfl⟩ : ∃ y : Nat, x = (y : Int) := ⟨x.toNat, by omega⟩
          have t1 := (cell_of_block (HJ.out.2.block _ (lt_of_cell t1)) (lo + j)).trans t1
          have HTS := hid_of hts
          have hjz : (j : Int) < (m : Int) := by omega
          have hkl2 : (kB (l.take j)).length = 2 * j := by rw [kB_len, List.length_take]; omega
          have HL2 := hid_of hkl2
          have hjb : j ≤ 1000 := by omega
          have hown := HJ.out.1
          have hxw : IntKind.u8.wrap (x : Int) = (x : Int) := by
            have : x < 256 := by omega
            simp [IntKind.wrap, IntKind.bits, IntKind.signed]; omega
          clear hts hkl2
          have HXS : Hid ((x : Int) / 256 = 0) := by show _ = _; omega
          go_wp2_with (at_builtin; refine stop_here ?_)
          refine stop_go (app_two rfl _ _ rfl Wo.heap.size (.slice va (2 * j) vc) (kB (l.take j)) rfl (by rw [HL2.out]; exact hown.alloc _) _ (x : Int) ((x : Int) / 256) rfl (heap_alloc_eq _ _ _ rfl) (by rw [HL2.out]; omega) (by have := HJ.out.2.size; simp; omega) ?_)
          intro v2 w2 ho2 hg2 _
          rw [HXS.out, ← HTS.out] at ho2
          have hl2 : (kB (l.take (j + 1))).length = 2 * (j + 1) := by rw [kB_len, List.length_take]; omega
          rw [hl2] at ho2
          obtain ⟨va2, vc2, rfl, -⟩ := owns_slice ho2
          have hb2 := bel_grown (bel_alloc HJ.out.2 (.cells #[.int .u8 (x : Int), .int .u8 ((x : Int) / 256)] 5)) hg2 (fun k hk => (hown.lt k hk).1)
          have HF2 : Hid (w2.ownsRow Wo.heap.size 5 1 (.slice va2 (2 * (j + 1)) vc2) (2 * (j + 1)) (bV (kB (l.take (j + 1)))) ∧ Below Wo.heap.size Wo w2) := ⟨ho2, hb2⟩
          clear ho2 hg2 hb2 hown hl2 HJ t1
          go_wp2_with fail
          go_roundw
          case rel => exact ⟨j + 1, va2, vc2, by omega, by go_num, rfl, HF2⟩
          case measure => simp [intOf]; omega
        · obtain rfl : m = j := by omega
          obtain ⟨hby, hbe⟩ := HJ.out
          have htl : l.take m = l := by rw [← Hm.out, List.take_length]
          rw [htl] at hby
          have hkl2 : (kB l).length = 2 * m := by rw [kB_len, Hm.out]
          have hcv := conv_bytes hby hkl2
          obtain ⟨f, s, Ks, hKI, hFm, hOw⟩ := HK.out.ex
          have hFm2 := hFm.keep (hbe.block _ hFm.lt)
          have hOw2 := owns_below hOw hbe
          have hB2 := bel_call HK.out.bel hbe
          have hstr : (strOfNums (kB l)).size ≤ maxLen := by rw [strOfNums_size, hkl2]; unfold maxLen; omega
          have hky : keyOf Try.prog 9 (.string (strOfNums (kB l))) = some (sL l) := keyOf_string_mk Try.underlying9 hstr
          have hkl3 : WideAt.IsKeyLit (sL l) := isKey_str rfl
          have hlk := hFm2.look lawStr (t := 83) Try.underlying83 hky hkl3
          have hs1 := hKI.le
          obtain ⟨str, HS⟩ : ∃ str, Hid (strOfNums (kB l) = str) := ⟨_, (rfl : strOfNums (kB l) = _)⟩
          rw [HS.out] at hcv hlk hky
          have HKI := hid_of hKI
          have HFM := hid_of hFm2
          have HOW := hid_of hOw2
          have HB2 := hid_of hB2
          have hlen := hFm2.len (t := 83) Try.underlying83 3
          have HKY := hid_of hky
          have HKL3 := hid_of hkl3
          have hw1 : w.heap.size < wr.heap.size := HFM.out.lt
          clear hby hbe hFm hOw hFm2 hOw2 hB2 hKI hky hkl3 HJ HK c1 hkl2 htl hstr
          cases hf : f (sL l) with
          | some c =>
            rw [hf] at hlk
            dsimp only [Option.getD_some, Option.isSome_some] at hlk
            have HK2 := hid_of (HKI.out.old (c := c) (by rw [HG.out]; exact hf))
            clear hf hlen
            go_wp2_with (at_builtin; refine stop_here ?_)
            refine stop_go (app_int rfl _ _ rfl (w.heap.size + 1) (.slice oa k oc) Ks rfl (by rw [HKI.out.len]; exact HOW.out.alloc _) _ _ rfl (heap_alloc_eq _ _ _ rfl) (by rw [HKI.out.len]; omega) (by simp; omega) ?_)
            intro v4 w4 ho4 hg4 _
            have hb4 : Below w.heap.size w w4 := bel_grown (bel_alloc HB2.out _) hg4 (fun q hq => by have := (HOW.out.lt q hq).1; omega)
            have hl4 : (Ks ++ [c]).length = k + 1 := by rw [List.length_append, HKI.out.len]; rfl
            have hne : ∀ q, (Value.slice oa k oc).ownBlock = some q → w.heap.size < q := fun q hq => by have := (HOW.out.lt q hq).1; omega
            have hF4 : IsFm 9 w4 w.heap.size (k + 1) s f := ((HFM.out.keep (Below.heap_alloc wr (.cells #[.int .i64 c] 3) _ hw1)).keep (hg4.block _ (by simp; omega) (fun e => by have := hne _ e.symm; omega))).mono (by omega)
            rw [hl4] at ho4
            obtain ⟨va4, vc4, rfl, -⟩ := owns_slice ho4
            have HF : Hid (KnS A (k + 1) (.slice va4 (k + 1) vc4) w w4) := ⟨⟨f, s, _, HK2.out, hF4, ho4⟩, hb4⟩
            clear ho4 hg4 hb4 hF4 hlk hcv hne hl4
            go_wp2_with fail
            go_roundw
            case rel => exact ⟨k + 1, va4, vc4, by omega, by go_num, rfl, HF⟩
            case measure => simp [intOf]; omega
          | none =>
            rw [hf] at hlk
            dsimp only [Option.getD_none, Option.isSome_none] at hlk
            have HK2 := hid_of (HKI.out.new (by rw [HG.out]; exact hf))
            have HFN := hid_of hf
            clear hf
            go_wp2_with (at_mapUpdate; refine stop_here ?_)
            refine stop_go (wp_putF rfl _ _ _ (t := 83) Try.underlying83 rfl HFM.out lawStr (by omega) (key := .string str) (kl := sL l) (c := (s : Int)) rfl rfl rfl HKY.out HKL3.out (In64.of (by omega) (by omega)) ?_)
            intro W3 s3 hF3 hs3 ht3
            have hs3 := hs3 HFN.out
            have hg3 := ht3.grown
            have hO3 : W3.ownsRow (w.heap.size + 1) 3 1 (.slice oa k oc) k (ints Ks) := HOW.out.kept hg3 (by
              cases e : (Value.slice oa k oc).ownBlock with
              | none => exact .inl rfl
              | some q => right; intro e2; injection e2 with e2; have := (HOW.out.lt q e).1; omega)
            have hb3 : Below w.heap.size w W3 := HB2.out.grown hg3 HB2.out.size (fun q e => by cases e; omega)
            have hw3 : w.heap.size < W3.heap.size := hF3.lt
            clear ht3 hg3 hlk hcv hlen
            go_wp2_with (at_builtin; refine stop_here ?_)
            refine stop_go (app_int rfl _ _ rfl (w.heap.size + 1) (.slice oa k oc) Ks rfl (by rw [HKI.out.len]; exact hO3.alloc _) _ _ rfl (heap_alloc_eq _ _ _ rfl) (by rw [HKI.out.len]; omega) (by simp; omega) ?_)
            intro v4 w4 ho4 hg4 _
            have hb4 : Below w.heap.size w w4 := bel_grown (bel_alloc hb3 _) hg4 (fun q hq => by have := (hO3.lt q hq).1; omega)
            have hl4 : (Ks ++ [(s : Int)]).length = k + 1 := by rw [List.length_append, HKI.out.len]; rfl
            have hne : ∀ q, (Value.slice oa k oc).ownBlock = some q → w.heap.size < q := fun q hq => by have := (hO3.lt q hq).1; omega
            have hF4 : IsFm 9 w4 w.heap.size (k + 1) s3 (updL f (sL l) (s : Int)) := (hF3.keep (Below.heap_alloc W3 (.cells #[.int .i64 (s : Int)] 3) _ hw3)).keep (hg4.block _ (by simp; omega) (fun e => by have := hne _ e.symm; omega))
            rw [hl4] at ho4
            obtain ⟨va4, vc4, rfl, -⟩ := owns_slice ho4
            have HF : Hid (KnS A (k + 1) (.slice va4 (k + 1) vc4) w w4) := ⟨⟨_, s + 1, _, HK2.out, by rw [HG.out, ← hs3]; exact hF4, ho4⟩, hb4⟩
            clear ho4 hg4 hb4 hF4 hne hl4 hO3 hb3 hF3
            go_wp2_with fail
            go_roundw
            case rel => exact ⟨k + 1, va4, vc4, by omega, by go_num, rfl, HF⟩
            case measure => simp [intOf]; omega
    · obtain rfl : n = k := by omega
      go_wp2_with fail
      go_ret
      exact ⟨_, rfl, HK.out⟩
end Go.Proofs.Ytinbfnabngdemaa
