/- The reference's 'Succs'. -/
import Derived.Test.YtcihobmjohpnkaaSuccsW
import Derived.Deep.DeepMust
import Derived.Test.YtcihobmjohpnkaaOwn
import Derived.Deep.LoopGhost
import Derived.Test.YtcihobmjohpnkaaPreds
import Derived.Test.YtcihobmjohpnkaaRef1
namespace Go.Proofs.Ytcihobmjohpnkaa

section
open Go.RowKit Go.Sort

theorem rawS_eq (n : Nat) (k d a b nn : Int) (nm : ByteArray) (ar : List Int) (t f : Int) :
    (rawS ⟨k, d, a, b, nn, nm, ar, t, f⟩).filter (inR n) = (if (k = 7 ∨ k = 8) ∧ 0 ≤ t ∧ t < n then [t] else []) ++ (if k = 7 ∧ 0 ≤ f ∧ f < n ∧ f ≠ t then [f] else []) := by
  unfold rawS inR
  dsimp only
  by_cases h7 : k = 7
  · by_cases htf : t = f
    · subst htf; by_cases h1 : 0 ≤ t <;> by_cases h2 : t < (n : Int) <;> simp [h7, h1, h2]
    · have : f ≠ t := fun e => htf e.symm
      by_cases h1 : 0 ≤ t <;> by_cases h2 : t < (n : Int) <;> by_cases h3 : 0 ≤ f <;> by_cases h4 : f < (n : Int) <;> simp [h7, h1, h2, h3, h4, htf, this]
  · by_cases h8 : k = 8
    · by_cases h1 : 0 ≤ t <;> by_cases h2 : t < (n : Int) <;> simp [h8, h1, h2]
    · simp [h7, h8]

set_option maxRecDepth 100000 in
set_option maxHeartbeats 1000000 in
theorem succsR_c {p : Nat → Prop} {v : Value} {l : List (List InsD)} (w : World) (b : Int) (h : IsBlocks p w v l) :
    Calls Try.prog 32 #[v, .int .i64 b] w fun e w' => ∃ u, e = .returned u ∧ w'.ownsRow w.heap.size 3 1 u (succS l b).length (ints (succS l b)) ∧ Below w.heap.size w w' := by
  obtain ⟨a, cap, rfl, hl, hx⟩ := h
  by_cases hb0 : b < 0
  · have hd : decide (b < 0) = true := by simpa using hb0
    have e0 : succS l b = [] := by unfold succS; rw [if_neg (by omega)]
    rw [e0]
    clear hx e0
    go_enter Try.func32, Try.ntmps32
    go_wp2
    go_ret
    exact ⟨_, rfl, World.ownsRow_nil _ _ _ _, bel_refl _⟩
  obtain ⟨n, rfl⟩ : ∃ n : Nat, b = n := ⟨b.toNat, by omega⟩
  have hd0 : decide ((n : Int) < 0) = false := by simp
  have e0 : succS l (n : Int) = succN l n := by unfold succS; rw [if_pos (by omega)]; simp
  rw [e0]
  by_cases hn : l.length ≤ n
  · have hd1 : decide (l.length ≤ n) = true := by simpa using hn
    have e1 : succN l n = [] := by unfold succN; rw [List.getD_eq_getElem?_getD, List.getElem?_eq_none hn]; rfl
    rw [e1]
    clear hx e0 e1
    go_enter Try.func32, Try.ntmps32
    go_wp2
    go_ret
    exact ⟨_, rfl, World.ownsRow_nil _ _ _ _, bel_refl _⟩
  have hd1 : decide (l.length ≤ n) = false := by simpa using hn
  have hn' : n < l.length := by omega
  clear e0 hb0
  rcases hx with rfl | ⟨bl, off, rfl, hp, hx⟩
  · simp at hn'
  obtain ⟨vi, hc, ai, capi, rfl, hli, hxi⟩ := hx n hn'
  rw [Nat.mul_one] at hc
  have hbl : bl < w.heap.size := lt_of_cell hc
  clear hx
  obtain ⟨li, HLI⟩ : ∃ li, Hid (l[n] = li) := ⟨l[n], (rfl : l[n] = l[n])⟩
  rw [HLI.out] at hli hxi hc
  have hS : Hid (succN l n = match li.getLast? with | none => [] | some i => (rawS i).filter (inR l.length)) := by
    show succN l n = _
    unfold succN
    rw [List.getD_eq_getElem?_getD, List.getElem?_eq_getElem hn', Option.getD_some, HLI.out]
    rfl
  generalize succN l n = S at hS
  clear HLI
  rcases List.eq_nil_or_concat li with rfl | ⟨li', i, rfl⟩
  · have e1 : S = [] := hS.out
    subst e1
    clear hxi
    simp only [List.length_nil] at hc
    go_enter Try.func32, Try.ntmps32
    go_wp2
    go_ret
    exact ⟨_, rfl, World.ownsRow_nil _ _ _ _, bel_refl _⟩
  rw [List.concat_eq_append] at hxi hS hc hli
  have hS2 : Hid (S = (rawS i).filter (inR l.length)) := by
    have := hS.out
    simp only [List.getLast?_append, List.getLast?_singleton, Option.some_or] at this
    exact this
  clear hS
  rcases hxi with hxi | ⟨bb, ob, rfl, hpb, hxi⟩
  · simp at hxi
  obtain ⟨h0, h1, h2, h3, h4, h5, ⟨va, h6, ⟨aa, ca, rfl, -, -⟩⟩, h7, h8⟩ := hxi li'.length (by simp)
  have hbb : bb < w.heap.size := lt_of_cell h0
  rw [List.getElem_append_right (Nat.le_refl _)] at h0 h1 h2 h3 h4 h5 h6 h7 h8
  simp only [Nat.sub_self, List.getElem_cons_zero, List.length_append, List.length_cons, List.length_nil, Nat.zero_add] at h0 h1 h2 h3 h4 h5 h6 h7 h8 hc hli
  clear hxi
  obtain ⟨m, HM⟩ : ∃ m, Hid (li'.length = m) := ⟨li'.length, (rfl : li'.length = li'.length)⟩
  rw [HM.out] at h0 h1 h2 h3 h4 h5 h6 h7 h8 hc hli
  clear HM
  obtain ⟨ik, id', ia, ib, inn, iname, iargs, it, jf⟩ := i
  dsimp only at h0 h1 h2 h3 h4 h5 h6 h7 h8
  generalize iargs.length = la at h6
  have hS3 : Hid (S = (if (ik = 7 ∨ ik = 8) ∧ 0 ≤ it ∧ it < l.length then [it] else []) ++ (if ik = 7 ∧ 0 ≤ jf ∧ jf < l.length ∧ jf ≠ it then [jf] else [])) := hS2.out.trans (rawS_eq _ _ _ _ _ _ _ _ _ _)
  clear hS2
  go_enter Try.func32, Try.ntmps32
  go_wp2_with fail
  go_region
  clear h0 h1 h2 h3 h4 h5 h6 h7 h8
  refine k_at (fun W => W.cell? ⟨w.heap.size, 0, none⟩ = some (.int .i64 ik) ∧ W.cell? ⟨w.heap.size, 7, none⟩ = some (.int .i64 it) ∧ W.cell? ⟨w.heap.size, 8, none⟩ = some (.int .i64 jf) ∧ Below w.heap.size w W ∧ w.heap.size < W.heap.size) ⟨by simp, by simp, by simp, (bel_alloc (bel_refl w) _).drew, by simp⟩ ?_
  rintro W ⟨g0, g7, g8, hB, hsz⟩
  have hle : w.heap.size ≤ W.heap.size := by omega
  clear hc hli hl hd0 hd1 hn hn' hbl hbb
  go_wp2_with (at_builtin; refine stop_here ?_)
  all_goals try simp only [bne_iff_ne, ne_eq] at *
  all_goals first
    | (go_ret
       have e : S = [] := by rw [hS3.out, if_neg (by omega), if_neg (by omega)]; rfl
       rw [e]
       exact ⟨_, rfl, World.ownsRow_nil _ _ _ _, hB⟩)
    | (have e : S = [jf] := by rw [hS3.out, if_neg (by omega), if_pos (by omega)]; rfl
       subst e
       clear hS3)
    | skip
  all_goals first
    | (refine stop_go (app_int rfl (.tmp 55) (.tmp 58) rfl W.heap.size (.slice none 0 0) [] rfl (World.ownsRow_nil _ _ _ _) _ _ rfl (heap_alloc_eq _ _ _ rfl) (by simp) (by simp) ?_)
       intro v1 w1 ho1 hg1 _
       have c0 := hg1.cell (Lib.cell?_alloc_some _ g0) (by simp [Value.ownBlock])
       have c7 := hg1.cell (Lib.cell?_alloc_some _ g7) (by simp [Value.ownBlock])
       have c8 := hg1.cell (Lib.cell?_alloc_some _ g8) (by simp [Value.ownBlock])
       have hB1 := bel_grown (bel_alloc hB _) hg1 (by simp [Value.ownBlock])
       have hsz1 : W.heap.size ≤ w1.heap.size := by have := hg1.size; simp at this; omega
       clear hg1 g0 g7 g8 hB
       rw [List.nil_append] at ho1
       go_wp2_with (at_builtin; refine stop_here ?_))
    | (refine stop_go (app_int rfl (.tmp 82) (.tmp 85) rfl W.heap.size (.slice none 0 0) [] rfl (World.ownsRow_nil _ _ _ _) _ _ rfl (heap_alloc_eq _ _ _ rfl) (by simp) (by simp) ?_)
       intro v1 w1 ho1 hg1 _
       have hB1 := bel_grown (bel_alloc hB _) hg1 (by simp [Value.ownBlock])
       clear hg1
       go_wp2
       go_ret
       exact ⟨_, rfl, owns_mono ho1 hle, hB1⟩)
  all_goals try simp only [bne_iff_ne, ne_eq, bne_eq_false_iff_eq] at *
  all_goals first
    | (go_ret
       have e : S = [it] := by rw [hS3.out, if_pos (by omega), if_neg (by omega)]; rfl
       rw [e]
       exact ⟨_, rfl, owns_mono ho1 hle, hB1⟩)
    | (have e : S = [it] ++ [jf] := by rw [hS3.out, if_pos (by omega), if_pos (by omega)]
       refine stop_go (app_int rfl (.tmp 82) (.tmp 85) rfl W.heap.size v1 [it] rfl (ho1.alloc _) _ _ rfl (heap_alloc_eq _ _ _ rfl) (by simp) (by simp; omega) ?_)
       intro v2 w2 ho2 hg2 _
       have hB2 := bel_grown (bel_alloc hB1 _) hg2 (fun k hk => by have := (ho1.lt k hk).1; omega)
       clear hg2
       go_wp2
       go_ret
       rw [e]
       exact ⟨_, rfl, owns_mono ho2 hle, hB2⟩)
end

section
/- 'pigeonholeref14.from': which blocks there is a way to. -/
open Go.RowKit Go.Sort

set_option maxRecDepth 100000 in
set_option maxHeartbeats 2000000 in
theorem fromR_c {p : Nat → Prop} {v : Value} {l : List (List InsD)} (w : World) (b nt : Int) (h : IsBlocks p w v l) (hl : l.length ≤ 1000) :
    Calls Try.prog 76 #[v, .int .i64 b, .int .i64 nt] w fun e w' => ∃ g, e = .returned (.slice (some ⟨g, 0, none⟩) l.length l.length) ∧ w.heap.size ≤ g ∧ Row w' g 4 (bools (fromS l b nt)) ∧ Below w.heap.size w w' := by
  have h0 : IsBlocks (· < w.heap.size) w v l := h.keep (Keep.refl w fun _ _ hb => hb)
  clear h
  obtain ⟨a, cap, hv, _, _⟩ := id h0
  subst hv
  obtain ⟨n, hn⟩ : ∃ n, l.length = n := ⟨_, rfl⟩
  have hnn := hn
  rw [hn] at hl ⊢
  have HL : Hid (l.length = n) := hn
  rw [hn] at h0
  clear hn hnn
  go_enter Try.func76, Try.ntmps76
  go_wp2_with (at_make; refine stop_here ?_)
  refine stop_go (mk_bools rfl _ _ rfl n rfl rfl (by omega) ?_)
  obtain ⟨B, HB⟩ : ∃ B, Hid (w.heap.size = B) := ⟨w.heap.size, (rfl : w.heap.size = w.heap.size)⟩
  refine k_at (fun W => Row W B 4 (bools (List.replicate n false)) ∧ Below B w W ∧ W.heap.size = B + 1) ⟨heap_alloc_eq _ _ _ HB.out.symm, by rw [← HB.out]; exact bel_alloc (bel_refl w) _, by simp [HB.out]⟩ ?_
  rintro W0 ⟨hr0, hb0, hz0⟩
  rw [HB.out] at h0 ⊢
  by_cases hb : 0 ≤ b ∧ b < (n : Int) ∧ b ≠ nt
  · have hd1 : decide (b < 0) = false := by simpa using hb.1
    have hd2 : decide (b ≥ (n : Int)) = false := by simpa using hb.2.1
    have hd3 : (b == nt) = false := beq_eq_false_iff_ne.2 hb.2.2
    obtain ⟨bn, rfl⟩ : ∃ bn : Nat, b = bn := ⟨b.toNat, by omega⟩
    have hbn : bn < n := by omega
    have hd2' : decide (n ≤ bn) = false := by simpa using hbn
    have HBN : Hid (0 ≤ (bn : Int) ∧ (bn : Int) < l.length ∧ (bn : Int) ≠ nt) := by rw [HL.out]; exact hb
    clear hb
    have c1 := hr0.cell (k := bn) (v := .bool false) (by simp [bools, hbn])
    have f1 := hr0.frozen bn
    have hm := hr0.set bn (.bool true)
    rw [bools_set] at hm
    have hbm := hb0.setCell (p := ⟨B, bn, none⟩) (Nat.le_refl _) (.bool true)
    have hzm : (W0.setCell ⟨B, bn, none⟩ (.bool true)).heap.size = B + 1 := by simpa using hz0
    go_wp2_with fail
    refine wp_at (fun W => Row W B 4 (bools ((List.replicate n false).set bn true)) ∧ Below B w W ∧ W.ownsRow (B + 1) 3 1 (.slice (some ⟨B + 1, 0, none⟩) 1 1) 1 (ints [(bn : Int)])) ?_ ?_
    · refine ⟨heap_alloc_ne _ _ _ _ hm, hbm.alloc (by omega) _, ?_⟩
      exact owns_new (X := W0.setCell ⟨B, bn, none⟩ (.bool true)) rfl (by omega) (by decide) rfl hzm.symm rfl
    · rintro W1 ⟨hr1, hb1, ho1⟩
      have hcf : ((List.replicate n false).set bn true).count false + 1 = n := by
        have := (count_set (seen := List.replicate n false) (k := bn) (by simp [List.getD, hbn])).2
        simpa using this
      have hI0 : FrInv l (bn : Int) nt ((List.replicate n false).set bn true) [(bn : Int)] := by
        have := FrInv.first HBN.out
        rw [HL.out] at this
        simpa using this
      clear hm hbm hzm hr0 hb0 c1 f1 hd1 hd2 hd3 hz0
      go_loopg [8, 9, 10, 11] (2 * n) (fun g s8 s9 s10 s11 wr => ∃ (seen : List Bool) (todo : List Int) (a8 : Option Addr) (c8 : Nat), s8 = .slice a8 todo.length c8 ∧ Row wr B 4 (bools seen) ∧ Below B w wr ∧
        wr.ownsRow (B + 1) 3 1 (.slice a8 todo.length c8) todo.length (ints todo) ∧ Hid (FrInv l (bn : Int) nt seen todo) ∧ Hid (2 * seen.count false + todo.length ≤ g ∧ g ≤ 2 * n))
      case atStart => exact ⟨_, [(bn : Int)], _, _, rfl, hr1, hb1, ho1, hI0, (by simp; omega : 2 * ((List.replicate n false).set bn true).count false + [(bn : Int)].length ≤ 2 * n ∧ 2 * n ≤ 2 * n)⟩
      case round =>
        obtain ⟨seen, todo, a8, c8, rfl, hr, hB, ho, hI, hg⟩ := hrel
        clear hr1 hb1 ho1 hI0 hcf
        rcases List.eq_nil_or_concat todo with rfl | ⟨t, x, rfl⟩
        · have he := FrInv.done HBN.out hI.out
          subst he
          have hlt := hr.lt
          simp only [List.length_nil]
          go_wp2_with fail
          go_ret
          exact ⟨B, rfl, Nat.le_of_eq HB.out, hr, by rw [HB.out]; exact hB⟩
        · rw [List.concat_eq_append] at ho hI hg ⊢
          have hlen : (t ++ [x]).length = t.length + 1 := by simp
          have HT : Hid ((t ++ [x]).length = t.length + 1) := hlen
          rw [hlen] at ho ⊢
          obtain ⟨g8, rfl⟩ : ∃ g8, a8 = some ⟨g8, 0, none⟩ := by
            rcases owns_nilcase ho with ⟨_, h0, _⟩ | ⟨g, c, h⟩
            · omega
            · simp at h; exact ⟨g, h.1⟩
          have hlen0 : ((t.length + 1 : Nat) : Int) > 0 := by omega
          have hI1 := FrInv.pop hI.out
          obtain ⟨hx0, hxn, hxs⟩ := hI.out.tod x (by simp)
          rw [HL.out] at hxn
          obtain ⟨xn, rfl⟩ : ∃ xn : Nat, x = xn := ⟨x.toNat, by omega⟩
          have c1 : wr.cell? ⟨g8, t.length, none⟩ = some (.int .i64 xn) := by
            have := ho.cellAt t.length (by omega)
            rw [this]; simp [ints]
          have ho1 := owns_shrink ho t.length (by omega)
          have et : (ints (t ++ [(xn : Int)])).take (t.length * 1) = ints t := by simp [ints]
          rw [et] at ho1
          obtain ⟨_, hcap, -⟩ : ∃ z : Nat, t.length + 1 ≤ c8 ∧ z = z := by
            obtain ⟨cur, _, _, hcn, _⟩ := owns_block ho
            exact ⟨0, hcn, rfl⟩
          have hlt8 := (ho.lt g8 rfl).2
          have htl : t.length ≤ 2000 := by have := hg.out; rw [HT.out] at this; omega
          clear ho hlen hI hxs
          go_wp2_with fail
          have hk1 : IsBlocks (· < B) wr (.slice a n cap) l := by
            have := h0.keep (Keep.belowB hB)
            exact this
          refine (succsR_c wr (xn : Int) hk1).mono ?_
          rintro e W2 ⟨us, rfl, hs, hb2⟩
          have hr2 := hr.keep (hb2.block B hr.lt)
          have hB2 := hB.trans (hb2.mono (Nat.le_of_lt hr.lt))
          have ho2 := owns_below ho1 hb2
          have hsl := succS_length l (xn : Int)
          have his := ints_of_own hs (by omega)
          have HYS : Hid (∀ y ∈ succS l (xn : Int), 0 ≤ y ∧ y < (n : Int)) := fun y hy => by have := succS_range l (xn : Int) y hy; rwa [HL.out] at this
          generalize hys : succS l (xn : Int) = ys at his hsl HYS hI1
          obtain ⟨sa, sc, rfl, -, -⟩ := id his
          have hbs : ∀ b, wr.heap.size ≤ b → B < b := fun b hb => by have := hr.lt; omega
          have hlt0 := hr.lt
          have HG : Hid (2 * seen.count false + t.length + 1 ≤ gk ∧ gk ≤ 2 * n) := by have := hg.out; rw [HT.out] at this; exact ⟨by omega, this.2⟩
          have hI1' : Hid (FrIn l (bn : Int) nt (xn : Int) ys 0 seen t) := hI1
          clear hs hys hr hB ho1 hb2 hk1 c1 hI1 hg HT et
          obtain ⟨go, hgo⟩ : ∃ go, go = gk := ⟨gk, rfl⟩
          go_wp2_with fail
          go_loopg [8, 11] ys.length (fun g s8 s11 wx => ∃ (m : Nat) (seen : List Bool) (todo : List Int) (a8 : Option Addr) (c8 : Nat), m + g = ys.length ∧ s11 = .int .i64 m ∧ s8 = .slice a8 todo.length c8 ∧ Row wx B 4 (bools seen) ∧ Below B w wx ∧
            wx.ownsRow (B + 1) 3 1 (.slice a8 todo.length c8) todo.length (ints todo) ∧ Hid (FrIn l (bn : Int) nt (xn : Int) ys m seen todo) ∧ Hid (2 * seen.count false + todo.length + 1 ≤ go) ∧ IsInts (fun b => B < b ∧ some b ≠ (Value.slice a8 todo.length c8).ownBlock) wx (.slice sa ys.length sc) ys)
          case atStart =>
            have h1 : IsInts (fun b => B < b ∧ some b ≠ (Value.slice (some ⟨g8, 0, none⟩) t.length c8).ownBlock) W2 (.slice sa ys.length sc) ys := his.keep (Keep.refl W2 fun b hb _ => ⟨hbs b hb, fun e => by simp [Value.ownBlock] at e; omega⟩)
            have h2 : Hid (2 * seen.count false + t.length + 1 ≤ go) := by rw [hgo]; exact HG.out.1
            refine ⟨0, seen, t, _, _, ?_, rfl, rfl, hr2, hB2, ho2, hI1', h2, h1⟩
            exact Nat.zero_add _
          case round =>
            obtain ⟨m, seen, todo, a8, c8, hm, rfl, rfl, hr, hB, ho, hI, hg, his⟩ := hrel
            clear hr2 hB2 ho2 hI1'
            by_cases hmt : m < ys.length
            · have his6 := his
              obtain ⟨_, _, hv0, -, hx⟩ := his6
              simp only [Value.slice.injEq, true_and] at hv0
              obtain ⟨rfl, rfl⟩ := hv0
              rcases hx with rfl | ⟨sb, so, rfl, hpb, hx⟩
              · simp at hmt
              have t0 := hx m hmt
              simp only [CInt, Nat.mul_one] at t0
              have hbs2 := lt_of_cell t0
              clear hx
              obtain ⟨hy0, hyn⟩ := HYS.out ys[m] (List.getElem_mem hmt)
              obtain ⟨yn, hye⟩ : ∃ yn : Nat, ys[m] = yn := ⟨ys[m].toNat, by omega⟩
              have HYE : Hid (ys[m] = yn) := hye
              rw [hye] at t0 hy0 hyn
              clear hye
              have hlb := hr.lt
              by_cases hynt : (yn : Int) = nt
              · have hd : ((yn : Int) != nt) = false := by simpa using hynt
                have hI2 : Hid (FrIn l (bn : Int) nt (xn : Int) ys (m + 1) seen todo) := FrIn.skip hI.out hmt (.inl (by rw [HYE.out]; exact hynt))
                clear hI
                go_wp2_with fail
                go_roundg (gk - 1)
                case measure => omega
                case rel => exact ⟨m + 1, seen, todo, _, _, by omega, by go_num, rfl, hr, hB, ho, hI2, hg, his⟩
              · have hd : ((yn : Int) != nt) = true := by simpa using hynt
                have hyn' : yn < seen.length := by have := hI.out.len; have := HL.out; omega
                obtain ⟨bb, hbb⟩ : ∃ bb, seen.getD yn true = bb := ⟨_, rfl⟩
                have c2 := hr.cell (k := yn) (bools_get hyn')
                rw [hbb] at c2
                have f2 := hr.frozen yn
                have HBB : Hid (seen.getD yn true = bb) := hbb
                clear hbb
                cases bb with
                | true =>
                  have hI2 : Hid (FrIn l (bn : Int) nt (xn : Int) ys (m + 1) seen todo) := FrIn.skip hI.out hmt (.inr (by rw [HYE.out]; exact HBB.out))
                  clear hI
                  go_wp2_with fail
                  go_roundg (gk - 1)
                  case measure => omega
                  case rel => exact ⟨m + 1, seen, todo, _, _, by omega, by go_num, rfl, hr, hB, ho, hI2, hg, his⟩
                | false =>
                  have hI2 : Hid (FrIn l (bn : Int) nt (xn : Int) ys (m + 1) (seen.set yn true) (todo ++ [(yn : Int)])) := by
                    have := FrIn.push hI.out hmt (by rw [HYE.out]; exact hynt) (by rw [HYE.out]; exact HBB.out)
                    rw [HYE.out] at this
                    exact this
                  have hct := (count_set HBB.out).2
                  have hr2 := hr.set yn (.bool true)
                  rw [bools_set] at hr2
                  have hB2 := hB.setCell (p := ⟨B, yn, none⟩) (Nat.le_refl _) (.bool true)
                  have hne : ¬ sb = B := by omega
                  have hne' : ¬ B = sb := by omega
                  have ho2 := ownsRow_setCell_below (a := ⟨B, yn, none⟩) ho (by show B < B + 1; omega) (.bool true)
                  have his2 : IsInts (fun b => B < b ∧ some b ≠ (Value.slice a8 todo.length c8).ownBlock) (wr.setCell ⟨B, yn, none⟩ (.bool true)) (.slice (some ⟨sb, so, none⟩) ys.length sc) ys :=
                    his.keep (Keep.setCell fun b hb _ => ⟨hb, by show b ≠ B; omega⟩)
                  have t1 : (wr.setCell ⟨B, yn, none⟩ (.bool true)).cell? ⟨sb, so + m, none⟩ = some (.int .i64 yn) := by
                    rw [← t0]; exact World.cell?_of_block (Below.heap_setCell _ _ _ _ hne)
                  have hol : todo.length + 1 ≤ 17592186044416 := by have := hg.out; have := hgo; have := HG.out; omega
                  have HB2 : Hid (B + 1 ≤ wr.heap.size) := hlb
                  clear hr hB ho his hI
                  go_wp2_with (at_builtin; refine stop_here ?_)
                  refine stop_go (app_int rfl _ _ rfl (B + 1) (.slice a8 todo.length c8) todo rfl (ho2.alloc _) _ _ rfl (heap_alloc_eq _ _ _ (by simp)) hol (by simp; omega) ?_)
                  intro v1 w1 ho1 hg1 hv1
                  have hob : ∀ b, (Value.slice a8 todo.length c8).ownBlock = some b → B < b := fun b hb => by have := (ho2.lt b hb).1; omega
                  have hr3 := hr2.keep ((hg1.block B (by simp; omega) (fun e => by have := hob B e.symm; omega)).trans (Below.heap_alloc _ _ _ (by simp; omega)))
                  have hB3 := (hB2.alloc (by simp; omega) (Obj.cells #[Value.int IntKind.i64 yn] 3)).grown hg1 (by simp; omega) (fun k hk => Nat.le_of_lt (hob k hk))
                  have hka : Keep (fun b => B < b ∧ some b ≠ (Value.slice a8 todo.length c8).ownBlock) (fun b => (B < b ∧ some b ≠ (Value.slice a8 todo.length c8).ownBlock) ∧ b < wr.heap.size) (wr.setCell ⟨B, yn, none⟩ (.bool true)) ((wr.setCell ⟨B, yn, none⟩ (.bool true)).alloc (.cells #[.int .i64 yn] 3)) :=
                    fun b hb hlt => ⟨⟨hb, by simpa using hlt⟩, Below.heap_alloc _ _ _ hlt⟩
                  have his3 := (his2.keep hka).keep (p' := fun b => B < b ∧ some b ≠ v1.ownBlock) (Keep.grown hg1 fun b hb hlt => ⟨⟨hb.1.1, fun e => by
                    rcases hv1 with hv1 | hv1
                    · rw [hv1] at e; exact hb.1.2 e
                    · rw [hv1] at e; simp at e; have := hb.2; omega⟩, hb.1.2⟩)
                  have hv1' : ∃ a c, v1 = .slice a (todo ++ [(yn : Int)]).length c := by
                    rcases owns_nilcase ho1 with ⟨rfl, h0, _⟩ | ⟨g, c, rfl⟩
                    · simp at h0
                    · exact ⟨some ⟨g, 0, none⟩, c, rfl⟩
                  obtain ⟨a1, c1, rfl⟩ := hv1'
                  clear hr2 hB2 ho2 his2 hg1 hv1 hob t1 c2 f2
                  go_wp2_with fail
                  go_roundg (gk - 1)
                  case measure => omega
                  case rel => exact ⟨m + 1, seen.set yn true, todo ++ [(yn : Int)], _, _, by omega, by go_num, by simp, hr3, hB3, ho1, hI2, (by have := hg.out; simp; omega : 2 * (seen.set yn true).count false + (todo ++ [(yn : Int)]).length + 1 ≤ go), his3⟩
            · have hme : m = ys.length := by omega
              subst hme
              have hI2 : Hid (FrInv l (bn : Int) nt seen todo) := FrIn.close hI.out
              clear hI his
              go_wp2_with fail
              go_roundg (go - 1)
              case measure => have := HG.out; omega
              case rel => exact ⟨seen, todo, _, _, rfl, hr, hB, ho, hI2, (by have := hg.out; have := HG.out; omega : 2 * seen.count false + todo.length ≤ go - 1 ∧ go - 1 ≤ 2 * n)⟩
  · have hS : fromS l b nt = List.replicate n false := by
      unfold fromS
      rw [HL.out, if_neg hb]
    have hlt := hr0.lt
    by_cases h1 : b < 0
    · have hd1 : decide (b < 0) = true := by simpa using h1
      go_wp2_with fail
      go_ret
      exact ⟨B, rfl, Nat.le_of_eq HB.out, by have h9 := hr0; rw [← hS] at h9; first | exact h9 | (simp only [bools, List.map_replicate] at hr0; exact hr0), by rw [HB.out]; exact hb0⟩
    · have hd1 : decide (b < 0) = false := by simpa using h1
      by_cases h2 : (n : Int) ≤ b
      · have hd2 : decide (b ≥ (n : Int)) = true := by simpa using h2
        go_wp2_with fail
        go_ret
        exact ⟨B, rfl, Nat.le_of_eq HB.out, by have h9 := hr0; rw [← hS] at h9; first | exact h9 | (simp only [bools, List.map_replicate] at hr0; exact hr0), by rw [HB.out]; exact hb0⟩
      · have hd2 : decide (b ≥ (n : Int)) = false := by simpa using h2
        have h3 : b = nt := Classical.byContradiction fun h3 => hb ⟨by omega, by omega, h3⟩
        have hS' : fromS l nt nt = List.replicate n false := by have h9 := hS; rw [h3] at h9; exact h9
        have hd3 : (b == nt) = true := by simpa using h3
        go_wp2_with fail
        go_ret
        exact ⟨B, rfl, Nat.le_of_eq HB.out, by simpa [bools] using hr0, by rw [HB.out]; exact hb0⟩
end

section
/- The reference's 'Preds'; which blocks are reached. -/
open Go.RowKit Go.Sort

/-- The first k blocks from where a block is come to. -/
def predK (l : List (List InsD)) (b : Int) (k : Nat) : List Int := ((List.range k).filter fun (i : Nat) => inS (succS l (i : Int)) b).map fun (i : Nat) => (i : Int)
theorem predK_length (l : List (List InsD)) (b : Int) (k : Nat) : (predK l b k).length ≤ k := by
  unfold predK
  rw [List.length_map]
  exact Nat.le_trans (List.length_filter_le _ _) (by simp)
theorem predK_succ (l : List (List InsD)) (b : Int) (k : Nat) : predK l b (k + 1) = predK l b k ++ (if inS (succS l (k : Int)) b then [(k : Int)] else []) := by
  unfold predK
  rw [List.range_succ, List.filter_append, List.map_append]
  congr 1
  cases h : inS (succS l (k : Int)) b <;> simp [h]

theorem owns_bel {w w' : World} {B base : Nat} {e : TypeId} {size n : Nat} {u : Value} {xs : List Value} (h : w.ownsRow base e size u n xs) (hb : Below B w w') (hB : ∀ k, u.ownBlock = some k → k < B) : w'.ownsRow base e size u n xs := by
  obtain ⟨h1, h2⟩ := h
  refine ⟨h1, ?_⟩
  rcases h2 with h2 | ⟨g, cap, cur, rfl, hg, hh, r⟩
  · exact .inl h2
  · exact .inr ⟨g, cap, cur, rfl, hg, (hb.block g (hB g rfl)).trans hh, r⟩

set_option maxRecDepth 100000 in
set_option maxHeartbeats 2000000 in
theorem predsR_c {p : Nat → Prop} {v : Value} {l : List (List InsD)} (w : World) (b : Int) (h0 : IsBlocks p w v l) (hl : l.length ≤ 1000) :
    Calls Try.prog 34 #[v, .int .i64 b] w fun e w' => ∃ u, e = .returned u ∧ w'.ownsRow w.heap.size 3 1 u (predS l b).length (ints (predS l b)) ∧ Below w.heap.size w w' := by
  have h : IsBlocks (· < w.heap.size) w v l := h0.keep (Keep.refl w fun _ _ hb => hb)
  clear h0
  obtain ⟨a, cap, hv, _, _⟩ := id h
  subst hv
  go_enter Try.func34, Try.ntmps34
  go_wp2_with fail
  go_loopw [5, 6] (fun so i wr => ∃ k : Nat, k ≤ l.length ∧ i = .int .i64 k ∧ wr.ownsRow w.heap.size 3 1 so (predK l b k).length (ints (predK l b k)) ∧ Below w.heap.size w wr) (fun _ i _ => l.length - (intOf i).toNat)
  case atStart => exact ⟨0, by omega, rfl, World.ownsRow_nil _ _ _ _, bel_refl _⟩
  case round =>
    obtain ⟨k, hk, rfl, ho, hb⟩ := hrel
    have hpl := predK_length l b k
    by_cases hlt : k < l.length
    · have hk1 : IsBlocks (· < w.heap.size) wr (.slice a l.length cap) l := h.keep (Keep.belowB hb)
      have HS : Hid (predK l b (k + 1) = predK l b k ++ (if inS (succS l (k : Int)) b then [(k : Int)] else [])) := predK_succ l b k
      have hsz := hb.size
      go_wp2_with fail
      refine (succsR_c wr k hk1).mono ?_
      rintro e w2 ⟨u, rfl, hs, hb2⟩
      have ho2 := owns_below ho hb2
      have hB2 := bel_call hb hb2
      have hsl := succS_length l (k : Int)
      have his := ints_of_own hs (by omega)
      have hsz2 := hB2.size
      skip
      obtain ⟨so', c, rfl, -⟩ := owns_slice ho2
      obtain ⟨P, HP⟩ : ∃ P, Hid (predK l b k = P) := ⟨_, (rfl : predK l b k = predK l b k)⟩
      rw [HP.out] at ho2 hpl HS ⊢
      clear ho hb hs hb2 hk1 hsz
      cases hin : inS (succS l (k : Int)) b
      · have HS' : Hid (predK l b (k + 1) = P) := by have := HS.out; rw [hin] at this; show _ = _; simpa using this
        go_wp2_with fail
        refine (in_c w2 (n := b) his).mono ?_
        rintro e w3 ⟨rfl, rfl⟩
        rw [hin]
        clear HS
        go_wp2_with fail
        go_roundw
        case rel => exact ⟨k + 1, by omega, by go_num, by rw [HS'.out]; exact ho2, hB2⟩
        case measure => simp [intOf]; omega
      · have HS' : Hid (predK l b (k + 1) = P ++ [(k : Int)]) := by have := HS.out; rw [hin] at this; show _ = _; simpa using this
        go_wp2_with fail
        refine (in_c w2 (n := b) his).mono ?_
        rintro e w3 ⟨rfl, rfl⟩
        rw [hin]
        clear HS
        go_wp2_with (at_builtin; refine stop_here ?_)
        refine stop_go (app_int rfl _ _ rfl w.heap.size _ P rfl (owns_below ho2 (bel_alloc (bel_refl _) _)) _ (k : Int) rfl (heap_alloc_eq _ _ _ rfl) (by omega) (by simp; omega) ?_)
        intro v' w' ho3 hg3 hv3
        have hB3 : Below w.heap.size w w' := bel_grown (bel_alloc hB2 _) hg3 (fun k hk => (ho2.lt k hk).1)
        clear hg3 hv3 ho2 his
        obtain ⟨s3, c3, rfl, -⟩ := owns_slice ho3
        have hlp : (P ++ [(k : Int)]).length = P.length + 1 := by simp
        rw [hlp] at ho3 ⊢
        have HLP : Hid ((P ++ [(k : Int)]).length = P.length + 1) := hlp
        clear hlp
        go_wp2_with fail
        go_roundw
        case rel => exact ⟨k + 1, by omega, by go_num, by rw [HS'.out, HLP.out]; exact ho3, hB3⟩
        case measure => simp [intOf]; omega
    · obtain rfl : k = l.length := by omega
      go_wp2_with fail
      go_ret
      exact ⟨_, rfl, ho, hb⟩

theorem succX_none (l : List (List InsD)) (x : Int) : succX l (-1) x = succS l x := by
  unfold succX
  rw [List.filter_eq_self]
  intro y hy
  have := succS_range l x y hy
  simp; omega

/-- Which blocks are reached, told twice. -/
theorem reach_two {l : List (List InsD)} {k : Nat} (h : k < l.length) : (fromS l 0 (-1))[k]? = some (inS (orderS l) (k : Int)) := by
  have hb : (0 : Int) ≤ 0 ∧ (0 : Int) < l.length ∧ (0 : Int) ≠ -1 := ⟨by omega, by omega, by omega⟩
  have h1 := fromS_way l hb (k : Int) ⟨by omega, by omega⟩
  obtain ⟨new, h2, -, -, h3, -⟩ := orderS_post l (by omega)
  have hX : succX l (-1) = succS l := funext fun x => succX_none l x
  rw [hX] at h1
  have hlen := fromS_length l 0 (-1)
  have h4 : inS (orderS l) (k : Int) = true ↔ Way (succS l) 0 (k : Int) := by
    unfold inS; rw [h2, ← h3]; simp
  rw [List.getElem?_eq_getElem (by omega)]
  congr 1
  rw [Bool.eq_iff_iff, h4, ← h1]
  unfold sn
  simp [List.getD, h, hlen]
end
end Go.Proofs.Ytcihobmjohpnkaa
