/- 'most': how many of a node's colours a neighbour may take away at most; what was reckoned once is kept. -/
import Derived.Test.YtinbfnabngdemaaCnD
import Derived.Test.YtinbfnabngdemaaKBitX
import Derived.Deep.RegionHeld3
import Derived.StillTailTactics
import Derived.Deep.DeepCutAuto
namespace Go.Proofs.Ytinbfnabngdemaa
open Go.RowKit Go.Maps Go.Sort Go.Shelf Go.WideMaps Go.ChangeMaps Go.WideElems

section
variable {L : Gl} {G : GD} {S : CS} {W : World} {ov sv : Value}
theorem StG.at_K (h : StG L G W) {v : Nat} (hv : v < G.A.length) : ∃ b off c, L.kv = .slice (some ⟨b, off, none⟩) G.A.length c ∧ L.St b ∧ G.A.length ≤ c ∧ ∀ u, u < G.A.length → W.cell? ⟨b, off + u, none⟩ = some (.int .i64 (L.K u)) := by
  obtain ⟨a, c, e, ⟨h1, h2⟩, hx⟩ := id h.kv
  have hl : ((List.range G.A.length).map L.K).length = G.A.length := by simp
  rw [hl] at e h1
  rcases hx with hx | ⟨b, off, rfl, hb, hx⟩
  · have := congrArg List.length hx; rw [hl, List.length_nil] at this; omega
  · refine ⟨b, off, c, e, hb, h1, fun u hu => ?_⟩
    have := hx u (by rw [hl]; exact hu)
    unfold CInt at this
    rw [Nat.mul_one] at this
    simpa using this
/-- A colour's set, where it lies. -/
theorem StG.at_L (h : StG L G W) (hd : DyV L G S ov sv W) {c : Int} (hc : 0 ≤ c ∧ c < (G.Lp.length : Int)) : ∃ b off lc sa sn sc, W.cell? ⟨L.gb, 8, none⟩ = some (.slice (some ⟨b, off, none⟩) G.Lp.length lc) ∧ L.St b ∧ G.Lp.length ≤ lc ∧
    W.cell? ⟨b, off + c.toNat, none⟩ = some (.slice sa sn sc) ∧ IsWords L.St W (.slice sa sn sc) (Bit.ofW (lpS G c)) := by
  obtain ⟨k, rfl⟩ : ∃ k : Nat, c = (k : Int) := ⟨c.toNat, by omega⟩
  have hk : k < G.Lp.length := by omega
  have c8 : W.cell? ⟨L.gb, 8, none⟩ = some L.lv := hd.row.cell rfl
  obtain ⟨a, lc, e, -⟩ := id h.lv
  have hl := h.lv
  rw [e] at hl c8
  obtain ⟨h1, h2, -⟩ := sl_len hl
  obtain ⟨b, off, rfl, hb, hx⟩ := sl_at hl (by simp; omega)
  obtain ⟨u, h3, h4⟩ := hx k (by simp; omega)
  obtain ⟨sa, sn, sc, rfl⟩ := words_slice h4
  rw [Nat.mul_one] at h3
  rw [List.length_map] at c8 h2
  rw [Int.toNat_natCast, lpS_nat G hk]
  refine ⟨b, off, lc, sa, sn, sc, c8, hb, h2, h3, ?_⟩
  simpa using h4

theorem mostK_take {G : GD} {i j k : Nat} (hk : k < (alw G j).length) : maxK (cntS G (alw G i)) ((alw G j).take (k + 1)) = max (maxK (cntS G (alw G i)) ((alw G j).take k)) (cntS G (alw G i) (alw G j)[k]) := by
  rw [List.take_succ_eq_append_getElem hk, maxK_snoc]
theorem and_len {G : GD} (hG : OkG G) (hF : Few G) {i : Nat} {c : Int} (hc : 0 ≤ c ∧ c < (G.Lp.length : Int)) : (listI (Bit.andW (Bit.ofW (alw G i)) (Bit.ofW (lpS G c)))).length = cntS G (alw G i) c := by
  rw [list_and (hG.alw_ris i) (hG.lp_ris hc) hF.k]; rfl
set_option maxRecDepth 100000 in
theorem DyV.put_cost (hd : DyV L G S ov sv W) (hok : GlOk L G) {W' : World} {s f : _} {i j : Nat} (hi : i < G.A.length) (hj : j < G.A.length) (hn : G.A.length ≤ 1000)
    (hs : s = cntF f G.A.length) (hf : ∀ i j c, i < G.A.length → j < G.A.length → f (kp (L.K i) (L.K j)) = some c → c = (mostS G i j : Int)) (hno : f (kp (L.K i) (L.K j)) = none)
    {s' : Nat} (hF' : IsFm 37 W' L.cb (s + 1) s' (updL f (kp (L.K i) (L.K j)) (mostS G i j : Int))) (hs' : s' = s + 1) (ht : W.mapTurned W' L.cb) : DyV L G S ov sv W' ∧ KZ L 0 W W' := by
  have hap := hok.ap
  have hlt := hok.lt
  have hg := ht.grown
  have hk : ∀ b, b < W.heap.size → b ≠ L.cb → W'.heap[b]? = W.heap[b]? := fun b hb hne => hg.block b hb (fun e => hne (by injection e))
  have hrg := hok.rg
  have hI : ∀ u, u < G.A.length → In64 (L.K u) := fun u hu => In64.of (hrg u hu).1 (by have := (hrg u hu).2; omega)
  have hrow : Row W' L.gb 62 (L.cs G.A.length ov sv) := hd.row.keep (hk _ hd.row.lt hap.1)
  have hown : ∀ {v : Value} {n : Nat} {xs : List Value}, W.ownsRow L.B 3 1 v n xs → v.ownBlock = none ∨ v.ownBlock ≠ some L.cb := fun {v n xs} h => by
    cases e : v.ownBlock with
    | none => exact .inl rfl
    | some b => right; intro e2; injection e2 with e2; have := (h.lt b e).1; omega
  refine ⟨⟨hrow, ⟨s', _, by rw [hs'] at hF' ⊢; exact hF', ?_, ?_⟩, hd.sums.keep (hk _ hd.sums.lt (Ne.symm hap.2.2.2.1)), hd.gone.keep (hk _ hd.gone.lt (Ne.symm hap.2.2.2.2.1)), hd.ord.kept hg (hown hd.ord), hd.sf.kept hg (hown hd.sf), hd.ap⟩, ?_⟩
  · rw [hs', hs]
    obtain ⟨a, ha, ea⟩ : ∃ a : Nat, a < G.A.length ∧ L.K i = (a : Int) := ⟨(L.K i).toNat, by have := hrg i hi; omega, by have := hrg i hi; omega⟩
    obtain ⟨b, hb, eb⟩ : ∃ b : Nat, b < G.A.length ∧ L.K j = (b : Int) := ⟨(L.K j).toNat, by have := hrg j hj; omega, by have := hrg j hj; omega⟩
    rw [ea, eb] at hno ⊢
    exact (cntF_put ha hb (by omega) hno _).symm
  · intro u v c hu hv he
    unfold updL at he
    split at he
    · rename_i e
      injection he with he
      obtain ⟨e1, e2⟩ := kp_inj (hI u hu) (hI v hv) (hI i hi) (hI j hj) e
      have a1 := hok.kd u i hu hi e1
      have a2 := hok.kd v j hv hj e2
      rw [← he]
      unfold mostS
      rw [a1, a2]
    · exact hf u v c hu hv he
  · refine ⟨hg.os, hg.tape, hg.output, hg.size, fun o _ => ?_, fun b hb _ hD => hk b hb (fun e => hD (.inl (.inl e))), fun b _ h => ?_⟩
    · rw [hrow.cell_eq, hd.row.cell_eq]
    · rcases h with h | ⟨o, ho, -⟩
      · exact .inl h
      · unfold Ofs at ho; omega

set_option maxRecDepth 100000 in
set_option maxHeartbeats 8000000 in
theorem most_s (h : StG L G W) (hd : DyV L G S ov sv W) (hok : GlOk L G) (hG : OkG G) (hF : Few G) {i j : Nat} (hi : i < G.A.length) (hj : j < G.A.length) :
    Calls Try.prog 39 #[.pointer (some ⟨L.gb, 0, none⟩), .int .i64 (i : Int), .int .i64 (j : Int)] W fun e w' => e = .returned (.int .i64 (mostS G i j : Int)) ∧ DyV L G S ov sv w' ∧ KZ L 0 W w' := by
  obtain ⟨kb, ko, kc, ekv, hkb, hkc, hK⟩ := h.at_K hi
  have hn100 := hF.n
  have c6 : W.cell? ⟨L.gb, 6, none⟩ = some L.kv := hd.row.cell rfl
  have c7 : W.cell? ⟨L.gb, 7, none⟩ = some (.map (some L.cb)) := hd.row.cell rfl
  rw [ekv] at c6
  have ki := hK i hi
  have kj := hK j hj
  obtain ⟨s, f, hfm, hsz, hfv⟩ := hd.cost
  have hI : ∀ u, u < G.A.length → In64 (L.K u) := fun u hu => In64.of (hok.rg u hu).1 (by have := (hok.rg u hu).2; omega)
  have hkp := kp_isKey (hI i hi) (hI j hj)
  have hkk := kp_key (hI i hi) (hI j hj)
  have HLK := hid_of (fun (X : World) (hX : IsFm 37 X L.cb s s f) => hX.look lawPair (t := 57) Try.underlying57 hkk hkp)
  have HFM := hid_of hfm
  have HH := hid_of h
  have HD := hid_of hd
  have lcb := hfm.lt
  have lgb := lt_of_cell c6
  have lkb := lt_of_cell ki
  obtain ⟨n, Hn⟩ : ∃ n, Hid (G.A.length = n) := ⟨_, (rfl : G.A.length = _)⟩
  obtain ⟨Ki, HKi⟩ : ∃ x, Hid (L.K i = x) := ⟨_, (rfl : L.K i = _)⟩
  obtain ⟨Kj, HKj⟩ : ∃ x, Hid (L.K j = x) := ⟨_, (rfl : L.K j = _)⟩
  have hiz : (i : Int) < (n : Int) := by have := Hn.out; omega
  have hjz : (j : Int) < (n : Int) := by have := Hn.out; omega
  rw [Hn.out] at c6 hkc
  rw [HKi.out] at ki HLK
  rw [HKj.out] at kj HLK
  dsimp only at lgb lkb
  have hS : ∀ X, BkS W X → X.cell? ⟨L.gb, 6, none⟩ = some (.slice (some ⟨kb, ko, none⟩) n kc) ∧ X.cell? ⟨kb, ko + i, none⟩ = some (.int .i64 Ki) ∧ X.cell? ⟨kb, ko + j, none⟩ = some (.int .i64 Kj) := fun X hX =>
    ⟨(cell_of_block (hX.block _ lgb) 6).trans c6, (cell_of_block (hX.block _ lkb) (ko + i)).trans ki, (cell_of_block (hX.block _ lkb) (ko + j)).trans kj⟩
  have hE0 : BkS W W := bel_refl W
  have HOK := hid_of hok
  clear h hd hfm hok hK hkk hkp hI
  go_enter Try.func39, Try.ntmps39
  go_upto_region 2 with fail
  go_cut [7] (fun s7 wx => s7 = .pointer (some ⟨W.heap.size, 0, none⟩) ∧ Row wx W.heap.size 37 [.int .i64 Ki, .int .i64 Kj] ∧ BkS W wx)
  case first =>
    go_region_held3 (fun X => X.cell? ⟨L.gb, 6, none⟩ = some (.slice (some ⟨kb, ko, none⟩) n kc) ∧ X.cell? ⟨kb, ko + i, none⟩ = some (.int .i64 Ki) ∧ X.cell? ⟨kb, ko + j, none⟩ = some (.int .i64 Kj))
      ((refine hS _ ?_; repeat (first | with_reducible assumption | refine bk_drew ?_ | refine bk_alloc ?_ _ | refine bk_set ?_ ?_ _)))
      (fail)
    all_goals (try go_wp2_with fail)
    all_goals go_meet
    all_goals exact ⟨rfl, heap_alloc_eq _ _ _ rfl, bk_drew (bk_alloc hE0 _)⟩
  case rest =>
    obtain ⟨rfl, hr7, hb7⟩ := hcut
    have hfm2 := HFM.out.keep (hb7.block _ lcb)
    have HR7 := hid_of hr7
    have HB7 := hid_of hb7
    have HFM2 := hid_of hfm2
    have hd2 := HD.out.below hb7
    have hst2 := HH.out.keep hb7.size (fun b hb => hb7.block b (by have := hb.1; have := HH.out.hB; omega))
    have HD2 := hid_of hd2
    have HH2 := hid_of hst2
    have r0 := hr7.cell (k := 0) rfl
    have r1 := hr7.cell (k := 1) rfl
    have c7' := (cell_of_block (hb7.block _ lgb) 7).trans c7
    have hlk : ∀ q, (Instr.lookup 57 (.map (some L.cb)) (.agg #[.int .i64 Ki, .int .i64 Kj]) true).run Try.prog (wc.drewN q) = _ := fun q => HLK.out (wc.drewN q) (hfm2.keep rfl)
    obtain ⟨fk, HFK⟩ : ∃ x, Hid (f (kp Ki Kj) = x) := ⟨_, (rfl : f (kp Ki Kj) = _)⟩
    have hfv' := hfv i j
    rw [HKi.out, HKj.out, HFK.out] at hfv'
    rw [HFK.out] at hlk
    clear HLK HFM HH HD hS hE0 hfm2 hd2 hst2 hr7 hb7 c6 ki kj c7
    cases fk with
    | some c =>
      have HC : Hid (c = (mostS G i j : Int)) := hfv' c hi hj rfl
      dsimp only [Option.getD_some, Option.isSome_some] at hlk
      clear hfv'
      go_wp2_with fail
      go_quiet (fail)
      all_goals
        go_wp2_with fail
        go_ret
        refine ⟨by rw [HC.out]; rfl, HD2.out.drewN _, (KZ.of_below lgb HB7.out).drewN HD2.out _⟩
    | none =>
      dsimp only [Option.getD_none, Option.isSome_none] at hlk
      have HFN : Hid (f (kp (L.K i) (L.K j)) = none) := by show _ = _; rw [HKi.out, HKj.out]; exact HFK.out
      clear hfv'
      obtain ⟨W2, rfl⟩ : ∃ W2, W2 = wc := ⟨_, rfl⟩
      go_upto_region 3 with fail
      go_cut [8, 9] (fun s8 s9 wx => s8 = .int .i64 0 ∧ s9 = .bool false ∧ ∃ q, wx = W2.drewN q)
      case first =>
        go_wp2_with fail
        go_quiet (fail)
        all_goals (try go_wp2_with fail)
        all_goals (go_meet; exact ⟨rfl, rfl, _, rfl⟩)
      case rest =>
        obtain ⟨rfl, rfl, q, rfl⟩ := hcut
        clear hlk r0 r1 c7'
        have hd3 := HD2.out.drewN q
        have hh3 := HH2.out.drewN q
        have hb3 : BkS W (W2.drewN q) := bel_drewN HB7.out q
        have hr3 : Row (W2.drewN q) W.heap.size 37 [.int .i64 Ki, .int .i64 Kj] := HR7.out
        have hf3 : IsFm 37 (W2.drewN q) L.cb s s f := HFM2.out.keep rfl
        generalize W2.drewN q = W3 at *
        clear HD2 HH2 HB7 HR7 HFM2
        obtain ⟨ab, ao, ra, rc, c2, hab, ca, hra⟩ := hh3.at_A hd3 hi
        obtain ⟨ab', ao', ra', rc', c2', -, ca', hra'⟩ := hh3.at_A hd3 hj
        rw [c2] at c2'
        simp only [Option.some.injEq, Value.slice.injEq, Addr.mk.injEq, and_true] at c2'
        obtain ⟨rfl, rfl⟩ := c2'
        have hac : G.A.length ≤ L.V.ac := by have := hh3.an; omega
        rw [Hn.out] at c2 hac
        have HRA := hid_of hra
        have HRA' := hid_of hra'
        have HD3 := hid_of hd3
        have HH3 := hid_of hh3
        have HB3 := hid_of hb3
        have HR3 := hid_of hr3
        have HF3 := hid_of hf3
        have hOf := hid_of (of_c W3 hra)
        clear hd3 hh3 hb3 hr3 hf3 hra hra'
        go_wp2_with fail
        refine hOf.out.mono ?_
        rintro e W4 ⟨z, rfl, hz, hb4⟩
        obtain ⟨za, zn, zc, rfl⟩ := words_slice hz
        have HB4 : Hid (BkS W3 W4) := hb4
        have c2 := (cell_of_block (hb4.block _ (lt_of_cell c2)) 2).trans c2
        have ca' := (cell_of_block (hb4.block _ (lt_of_cell ca')) (ao + j)).trans ca'
        have hra4 := HRA'.out.keep (p' := fun _ => True) (Keep.trans (Keep.below hb4) (Keep.refl W4 fun _ _ _ => trivial) hb4.size)
        have HZ := hid_of hz
        have hrcl := (sl_len hra4).2.1
        have hrcm := (sl_len hra4).2.2
        have HRA4 := hid_of hra4
        obtain ⟨m, Hm⟩ : ∃ m, Hid ((alw G j).length = m) := ⟨_, (rfl : (alw G j).length = _)⟩
        rw [Hm.out] at ca' hrcl hrcm
        have hE5 := bk_alloc (bk_refl W4) (.cells #[.slice za zn zc] 49)
        have c2 := (cell_of_block (hE5.block _ (lt_of_cell c2)) 2).trans c2
        have ca' := (cell_of_block (hE5.block _ (lt_of_cell ca')) (ao + j)).trans ca'
        clear hb4 hz hra4 hOf ca
        go_wp2_with fail
        have hr5 : Row (W4.alloc (.cells #[.slice za zn zc] 49)) W4.heap.size 49 [.slice za zn zc] := heap_alloc_eq _ _ _ rfl
        generalize W4.alloc (.cells #[.slice za zn zc] 49) = W5 at *
        have HE5 := hid_of hE5
        have HR5 := hid_of hr5
        have H0 : Hid (BkS W5 W5) := bk_refl W5
        clear hE5 hr5
        go_loopw [11, 58] (fun s11 s58 wx => ∃ k : Nat, k ≤ m ∧ s58 = .int .i64 k ∧ s11 = .int .i64 (maxK (cntS G (alw G i)) ((alw G j).take k) : Nat) ∧ Hid (BkS W5 wx)) (fun _ s58 _ => m - (intOf s58).toNat)
        case atStart => exact ⟨0, by omega, rfl, rfl, H0⟩
        case round =>
          obtain ⟨k, hk, rfl, rfl, HK⟩ := hrel
          clear H0
          by_cases hlt : k < m
          · have hkl : k < (alw G j).length := by rw [Hm.out]; exact hlt
            obtain ⟨b, off, rfl, -, c1⟩ := ints_cell HRA4.out hkl
            have hmt := mostK_take (G := G) (i := i) hkl
            have hcr := hG.alw_rng (List.getElem_mem hkl)
            obtain ⟨x, Hx⟩ : ∃ x, Hid ((alw G j)[k] = x) := ⟨_, (rfl : (alw G j)[k] = _)⟩
            rw [Hx.out] at c1 hmt hcr
            obtain ⟨x, rfl⟩ : ∃ y : Nat, x = (y : Int) := ⟨x.toNat, by omega⟩
            have hlt4 := lt_of_cell c1
            dsimp only at hlt4
            have hb45 := HE5.out
            have hb5 := HK.out
            have c1 := (cell_of_block (hb45.block _ hlt4) (off + k)).trans c1
            have c1 := (cell_of_block (hb5.block _ (Nat.lt_of_lt_of_le hlt4 hb45.size)) (off + k)).trans c1
            have hb35 : BkS W3 wr := bel_call (bel_call HB4.out hb45) hb5
            have hh6 := HH3.out.keep hb35.size (fun b hb => hb35.block b (by have := hb.1; have := HH3.out.hB; omega))
            have hd6 := HD3.out.below hb35
            obtain ⟨lb, lo, lc, sa, sn, sc, c8, hlb, hlc, cl, hw⟩ := hh6.at_L hd6 hcr
            rw [Int.toNat_natCast] at cl
            have hl8 := lt_of_cell c8
            have hll := lt_of_cell cl
            dsimp only at hl8 hll
            have hz0 := HZ.out.keep (p' := fun b => W3.heap.size ≤ b) (Keep.trans (Keep.below hb45) (Keep.below hb5) hb45.size)
            have hrw := (HR5.out.keep (hb5.block _ HR5.out.lt)).cell (k := 0) rfl
            have hrwl := lt_of_cell hrw
            dsimp only at hrwl
            have hAn : ∀ X, BkS wr X → Calls Try.prog 48 #[.agg #[.slice za zn zc], .agg #[.slice sa sn sc]] X fun e X' => ∃ z, e = .returned (.agg #[z]) ∧ IsWords (· < X'.heap.size) X' z (Bit.andW (Bit.ofW (alw G i)) (Bit.ofW (lpS G x))) ∧ BkS wr X' := fun X hX =>
              (and_c X (hz0.keep (Keep.below hX)) (hw.keep (Keep.below hX)) (Bit.of_can _).1 (Bit.of_can _).1 (Bit.of_length _) (Bit.of_length _)).mono (by
                rintro e X' ⟨z, rfl, hz, hb⟩
                exact ⟨z, rfl, hz.keep (fun b _ hlt => ⟨hlt, rfl⟩), bel_call hX hb⟩)
            have hLn : ∀ X z, BkS wr X → IsWords (· < X.heap.size) X z (Bit.andW (Bit.ofW (alw G i)) (Bit.ofW (lpS G x))) → Calls Try.prog 49 #[.agg #[z]] X fun e X' => e = .returned (.int .i64 (cntS G (alw G i) x : Nat)) ∧ BkS wr X' := fun X z hX hz =>
              (len_c X hz (Nat.le_trans (Bit.trim_length _) (by rw [Bit.zipS_length]; exact Nat.max_le.2 ⟨Bit.of_length _, Bit.of_length _⟩)) (Bit.and_can (Bit.of_can _).1 (Bit.of_can _).1).1).mono (by
                rintro e X' ⟨rfl, hb⟩
                rw [and_len hG hF hcr]
                exact ⟨rfl, bel_call hX hb⟩)
            have hS : ∀ X, BkS wr X → X.cell? ⟨W4.heap.size, 0, none⟩ = some (.slice za zn zc) ∧ X.cell? ⟨L.gb, 8, none⟩ = some (.slice (some ⟨lb, lo, none⟩) G.Lp.length lc) ∧ X.cell? ⟨lb, lo + x, none⟩ = some (.slice sa sn sc) := fun X hX =>
              ⟨(cell_of_block (hX.block _ hrwl) 0).trans hrw, (cell_of_block (hX.block _ hl8) 8).trans c8, (cell_of_block (hX.block _ hll) (lo + x)).trans cl⟩
            have hE0 : BkS wr wr := bk_refl wr
            have hE1 : BkS wr wr.drew := bk_drew hE0
            obtain ⟨mk, HMk⟩ : ∃ y, Hid (maxK (cntS G (alw G i)) ((alw G j).take k) = y) := ⟨_, (rfl : maxK (cntS G (alw G i)) ((alw G j).take k) = _)⟩
            obtain ⟨cn, HCn⟩ : ∃ y, Hid (cntS G (alw G i) x = y) := ⟨_, (rfl : cntS G (alw G i) x = _)⟩
            obtain ⟨lpn, HLp⟩ : ∃ y, Hid (G.Lp.length = y) := ⟨_, (rfl : G.Lp.length = _)⟩
            rw [HMk.out, HCn.out] at hmt
            rw [HLp.out] at hS hlc hcr
            rw [HMk.out]
            rw [HCn.out] at hLn
            have HMT := hid_of hmt
            have HB5 := hid_of hb5
            have hxz : (x : Int) < (lpn : Int) := hcr.2
            clear hmt hcr hb45 hb5 hb35 hh6 hd6 hw hz0 hrw c8 cl hlb
            have hmax : max (mk : Int) (cn : Int) = ((max mk cn : Nat) : Int) := by omega
            go_wp2_with fail
            go_region_held3 (fun X => X.cell? ⟨W4.heap.size, 0, none⟩ = some (.slice za zn zc) ∧ X.cell? ⟨L.gb, 8, none⟩ = some (.slice (some ⟨lb, lo, none⟩) lpn lc) ∧ X.cell? ⟨lb, lo + x, none⟩ = some (.slice sa sn sc))
              ((refine hS _ ?_; with_reducible assumption))
              (first
                | (go_at_call 48; (with_reducible refine (hAn _ ?_).mono ?_); (with_reducible assumption); rintro e Ya ⟨zz, rfl, hza, hEa⟩)
                | (go_at_call 49; (with_reducible refine (hLn _ zz ?_ ?_).mono ?_); (with_reducible assumption); (with_reducible assumption); rintro e Yb ⟨rfl, hEb⟩))
            all_goals (try go_wp2_with fail)
            all_goals go_roundw
            case rel => exact ⟨k + 1, by omega, by go_num, by rw [HMT.out], bel_call HB5.out hEb⟩
            case measure => simp [intOf]; omega
          · obtain rfl : k = m := by omega
            have hb36 : BkS W3 wr := bel_call (bel_call HB4.out HE5.out) HK.out
            have hb6 : BkS W wr := bel_call HB3.out hb36
            have hd6 := HD3.out.below hb36
            have hf6 := HF3.out.keep (hb36.block _ HF3.out.lt)
            have r6 := HR3.out.keep (hb36.block _ HR3.out.lt)
            have r0 := r6.cell (k := 0) rfl
            have r1 := r6.cell (k := 1) rfl
            have c7 : wr.cell? ⟨L.gb, 7, none⟩ = some (.map (some L.cb)) := hd6.row.cell rfl
            have hM : maxK (cntS G (alw G i)) ((alw G j).take k) = mostS G i j := by rw [← Hm.out, List.take_length]; rfl
            rw [hM]
            obtain ⟨ms, HMs⟩ : ∃ y, Hid (mostS G i j = y) := ⟨_, (rfl : mostS G i j = _)⟩
            have hms : ms ≤ 60 := by rw [← HMs.out]; exact Nat.le_trans (mostS_le G i j) (alw_len hG hF i)
            rw [HMs.out]
            have HD6 := hid_of hd6
            have HB6 := hid_of hb6
            have HF6 := hid_of hf6
            clear HK hb36 hb6 hd6 hf6 r6 hM HRA4 HZ HR5 HE5
            go_wp2_with fail
            go_still_tail 6, (by kernel_rfl)
            change wpList _ _ _ _ _ wr.drew
            have hs4 : s ≤ 10000 := by rw [hsz]; exact Nat.le_trans (cntF_le f _) (Nat.mul_le_mul hn100 hn100)
            have hIi : In64 (L.K i) := In64.of (HOK.out.rg i hi).1 (by have := (HOK.out.rg i hi).2; omega)
            have hIj : In64 (L.K j) := In64.of (HOK.out.rg j hj).1 (by have := (HOK.out.rg j hj).2; omega)
            refine wp_putF rfl _ _ _ (t := 57) Try.underlying57 rfl (W := wr.drew) (HF6.out.keep rfl) lawPair (by omega) (key := .agg #[.int .i64 Ki, .int .i64 Kj]) (kl := kp (L.K i) (L.K j)) (c := (ms : Int)) rfl rfl rfl (by rw [← HKi.out, ← HKj.out]; exact kp_key hIi hIj) (kp_isKey hIi hIj) (In64.of (by omega) (by omega)) ?_
            intro W' s' hF' hs' ht
            have hfin := DyV.put_cost (HD6.out.below (Below.drew (bk_refl wr))) HOK.out hi hj (by omega) hsz hfv HFN.out (s' := s') (W' := W') (by rw [HMs.out]; exact hF') (hs' HFN.out) ht
            have hk0 : KZ L 0 W W' := ((KZ.of_below lgb HB6.out).trans (KZ.of_below HD6.out.gb_lt (Below.drew (bk_refl wr)))).trans hfin.2
            have HFIN := hid_of (And.intro hfin.1 hk0)
            clear hF' hs' ht hfin hk0 r0 r1 c7
            go_wp2_with fail
            go_ret
            rw [HMs.out]
            exact ⟨rfl, HFIN.out⟩
end
end Go.Proofs.Ytinbfnabngdemaa
