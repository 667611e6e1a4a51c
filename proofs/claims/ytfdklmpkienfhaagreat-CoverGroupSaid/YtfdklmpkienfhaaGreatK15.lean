/- Package cover: all lists that lead back, as an iterator: the closure that fills. -/
import Derived.RangeFuncNested
import Derived.RangeFuncCalls
import Derived.OwnWalkIn
import Derived.LoopIn
import Derived.BigRegionIn
import Derived.Sort.CutIn
import Derived.Test.YtfdklmpkienfhaaGreatK14
import Derived.Test.YtfdklmpkienfhaaGreatBk
import Derived.Test.YtfdklmpkienfhaaGreatPln
import Derived.Test.YtfdklmpkienfhaaGreatItN
namespace Go.Proofs.YtfdklmpkienfhaaGreat
set_option linter.unusedSimpArgs false
set_option linter.unusedVariables false
open Go.RowKit
open Cov (fillL fillP pairUp)

attribute [local go_sem] Oper.semAt_some

/-- What a round is handed: a list in memory that is nobody's. -/
def BackS (xs : List (List Int)) (n : Nat) (i : Nat) (C : Nat → Prop) (args : Array Value) (W : World) : Prop :=
  ∃ v g L, args = #[v] ∧ xs[i]? = some L ∧ L.length = n ∧ QRow W g 1 v n (nums .i64 L) ∧ ¬ C g

structure FillS (n l nb yb tb fb gb cap : Nat) (L : List Int) (W : World) : Prop where
  hn : W.heap[nb]? = some (.cells #[.int .i64 n] 3)
  hy : W.heap[yb]? = some (.cells #[.func (.yield l) #[] #[]] 100)
  ht : W.heap[tb]? = some (.cells #[.slice (some ⟨gb, 0, none⟩) n cap] 24)
  hf : W.heap[fb]? = some (.cells #[.func (.func 172) #[] #[.pointer (some ⟨nb, 0, none⟩), .pointer (some ⟨yb, 0, none⟩), .pointer (some ⟨tb, 0, none⟩), .pointer (some ⟨fb, 0, none⟩)]] 240)
  q : IQ .i64 W gb (.slice (some ⟨gb, 0, none⟩) n cap) L
  len : L.length = n
  one : ∀ k, k < n → L.getD k 0 = -1 ∨ 0 ≤ L.getD k 0
  ne : gb ≠ nb ∧ gb ≠ yb ∧ gb ≠ tb ∧ gb ≠ fb

/-- The blocks of the closure are none of C's. -/
def Apart5 (nb yb tb fb gb : Nat) (C : Nat → Prop) : Prop := ∀ k, (k = nb ∨ k = yb ∨ k = tb ∨ k = fb ∨ k = gb) → ¬ C k

theorem FillS.lt {n l nb yb tb fb gb cap : Nat} {L : List Int} {W : World} (h : FillS n l nb yb tb fb gb cap L W) : ∀ k, (k = nb ∨ k = yb ∨ k = tb ∨ k = fb ∨ k = gb) → k < W.heap.size := by
  rintro k (rfl | rfl | rfl | rfl | rfl)
  · exact (Array.getElem?_eq_some_iff.1 h.hn).1
  · exact (Array.getElem?_eq_some_iff.1 h.hy).1
  · exact (Array.getElem?_eq_some_iff.1 h.ht).1
  · exact (Array.getElem?_eq_some_iff.1 h.hf).1
  · exact h.q.lt
theorem FillS.of_heap {n l nb yb tb fb gb cap : Nat} {L : List Int} {W W' : World} (h : FillS n l nb yb tb fb gb cap L W) (hh : ∀ k, (k = nb ∨ k = yb ∨ k = tb ∨ k = fb ∨ k = gb) → W'.heap[k]? = W.heap[k]?) (hs : W.heap.size ≤ W'.heap.size) : FillS n l nb yb tb fb gb cap L W' :=
  ⟨(hh _ (.inl rfl)).trans h.hn, (hh _ (.inr (.inl rfl))).trans h.hy, (hh _ (.inr (.inr (.inl rfl)))).trans h.ht, (hh _ (.inr (.inr (.inr (.inl rfl))))).trans h.hf, h.q.of_heap (hh _ (.inr (.inr (.inr (.inr rfl))))) hs, h.len, h.one, h.ne⟩
/-- A cell of the list is written. -/
theorem FillS.set {n l nb yb tb fb gb cap : Nat} {L : List Int} {W : World} (h : FillS n l nb yb tb fb gb cap L W) {j : Nat} (hj : j < n) (x : Int) (hx : x = -1 ∨ 0 ≤ x) : FillS n l nb yb tb fb gb cap (L.set j x) (W.setCell ⟨gb, j, none⟩ (.int .i64 x)) := by
  have ho := only_one W gb j (.int .i64 x)
  have hq := h.q.set (j := j) (by rw [h.len]; exact hj) x
  rw [Nat.zero_add] at hq
  refine ⟨(ho.block nb (Ne.symm h.ne.1)).trans h.hn, (ho.block yb (Ne.symm h.ne.2.1)).trans h.hy, (ho.block tb (Ne.symm h.ne.2.2.1)).trans h.ht, (ho.block fb (Ne.symm h.ne.2.2.2)).trans h.hf, hq, by rw [List.length_set]; exact h.len, fun k hk => ?_, h.ne⟩
  rw [Cov.getD_set _ _ _ _ (by rw [h.len]; exact hj)]
  split
  · exact hx
  · exact h.one k hk

/-- What filling leaves. -/
def FillPost (n l nb yb tb fb gb cap : Nat) (xs : List (List Int)) (J Jx : Nat → (Nat → Prop) → World → Prop) (L : List Int) (i m : Nat) (C' : Nat → Prop) (W1 : World) (e : Ending) (W' : World) : Prop :=
  Only (fun k => Mine C' W1.heap.size k ∨ k = gb) W1 W' ∧ ∃ C'' : Nat → Prop, (∀ k, C'' k → Mine C' W1.heap.size k ∧ k < W'.heap.size) ∧
    ((e = .returned (.bool true) ∧ FillS n l nb yb tb fb gb cap L W' ∧ J (i + m) C'' W') ∨ (e = .returned (.bool false) ∧ ∃ i', i' ≤ xs.length ∧ Jx i' C'' W'))

set_option maxRecDepth 100000 in
set_option maxHeartbeats 4000000 in
theorem fill_end {n l nb yb tb fb gb cap : Nat} (hnn : 1 ≤ n ∧ n ≤ 1000) {xs : List (List Int)} {J Jx : Nat → (Nat → Prop) → World → Prop} {Own : Nat → Prop} (hJ : Stable Own J) {N0 : Nat} (hOwn : ∀ k, Own k → k < N0 ∧ k ≠ gb)
    (hY : ∀ i C args W1, i < xs.length → BackS xs n i C args W1 → J i C W1 → (∀ k, C k → k < W1.heap.size) → YieldAt Fence.wide 0 Tryz.prog l args W1 (RoundEnd J Jx i C W1))
    (L : List Int) (i : Nat) (C' : Nat → Prop) (W1 : World) (hS : FillS n l nb yb tb fb gb cap L W1) (hap : Apart5 nb yb tb fb gb C') (hj : J i C' W1) (hft : ∀ k, C' k → k < W1.heap.size) (hx : xs[i]? = some L) (hN0 : N0 ≤ W1.heap.size) :
    CallsIn Fence.wide 0 Tryz.prog 172 #[.int .i64 n, .pointer (some ⟨nb, 0, none⟩), .pointer (some ⟨yb, 0, none⟩), .pointer (some ⟨tb, 0, none⟩), .pointer (some ⟨fb, 0, none⟩)] W1 (FillPost n l nb yb tb fb gb cap xs J Jx L i 1 C' W1) := by
  refine callsIn_wide.2 ?_
  have z0 := cell_of_heap hS.hn 0
  have z1 := cell_of_heap hS.hy 0
  have z2 := cell_of_heap hS.ht 0
  simp only [List.getElem?_toArray, List.getElem?_cons_zero, List.getElem?_cons_succ] at z0 z1 z2
  have HS := Lib.hid hS; have HAP := Lib.hid hap; have HJI := Lib.hid hj; have HFT := Lib.hid hft; have HX := Lib.hid hx
  have HJ := Lib.hid hJ; have HY := Lib.hid hY; have HOWN := Lib.hid hOwn; have HN0 := Lib.hid hN0
  clear hS hap hj hft hx hJ hY hOwn
  go_enter Tryz.func172, Tryz.ntmps172
  refine (wpIn_wide (n := 0)).1 ?_
  gi_upto_region 2 with fail
  have ly := HS.out.lt yb (.inr (.inl rfl))
  have lt := HS.out.lt tb (.inr (.inr (.inl rfl)))
  have g1 := fun (y : Later W1) => ((bcell y.h).1 yb 0 ly).trans z1
  have g2 := fun (y : Later W1) => ((bcell y.h).1 tb 0 lt).trans z2
  clear z0 z1 z2
  have HCL := Lib.hid (show ∀ W : World, Below W1.heap.size W1 W → Calls Tryz.prog 59 #[.slice (some ⟨gb, 0, none⟩) n cap] W fun e w' => ∃ v g', e = .returned v ∧ QRow w' g' 1 v n (nums .i64 L) ∧ W.heap.size ≤ g' ∧ Below W.heap.size W w' from fun W hB => by
    have hq := (HS.out.q.later hB).at
    have h := clone_some W gb 0 cap L (by rw [HS.out.len]; omega) hq.2.1 (Nat.lt_of_lt_of_le HS.out.q.lt hB.size)
    rw [HS.out.len] at h
    exact h)
  refine wpIn_region_segs Open.wide [([0, 1], [2])] 3 (fun w' => ∃ y : Later W1, w' = y.W) ⟨⟨W1.drew, (Below.refl _ _).drew⟩, rfl⟩ (by kernel_rfl) (by kernel_rfl) ?_
  simp only [List.map_cons, List.map_nil, pickOps, List.flatMap_cons, List.flatMap_nil, List.cons_append, List.nil_append, List.take_succ_cons, List.take_zero, List.drop_succ_cons, List.drop_zero, wpSegs]
  repeat (go_big_quiet_step (fail))
  refine wpQuiet_nil ?_
  refine wpG_step ?_
  intro K2 hK2
  go_wp2_with fail
  refine (HCL.out _ ((Below.refl _ _).drew)).mono ?_
  rintro e w4 ⟨v, g, rfl, hq, hg, hB⟩
  have HB4 := Lib.hid (show Below W1.heap.size W1 w4 from below_undrew hB)
  have HQ := Lib.hid hq
  have HG := Lib.hid (show W1.heap.size ≤ g from hg)
  clear hB hq hg
  obtain ⟨off, c4, hve, -⟩ := id HQ.out
  subst hve
  go_wp2_with fail
  refine ⟨⟨⟨w4, HB4.out⟩, rfl⟩, hK2 _ _ ?_⟩
  clear hK2
  refine wpG_nil ?_
  clear g1 g2
  have hj4 := HJ.out i C' W1 w4 HJI.out (fun k hk => HB4.out.block k (by
    rcases hk with hk | hk
    · exact HFT.out k hk
    · exact Nat.lt_of_lt_of_le (HOWN.out k hk).1 HN0.out)) HB4.out.size
  obtain ⟨fn, tmps, assign, body, hyl, hRd⟩ := HY.out i C' #[.slice (some ⟨g, off, none⟩) n c4] w4 (List.getElem?_eq_some_iff.1 HX.out).1 ⟨_, g, L, rfl, HX.out, HS.out.len, HQ.out, fun h => by have := HFT.out g h; have := HG.out; omega⟩ hj4 (fun k hk => Nat.lt_of_lt_of_le (HFT.out k hk) HB4.out.size)
  have HRD := Lib.hid hRd
  clear hRd hj4
  gi_wp2_with fail
  refine ⟨rfl, HRD.out.mono ?_⟩
  rintro e W3 ⟨hO3, C'', hC'', hend⟩
  have hold : ∀ k, k < W1.heap.size → ¬ C' k → W3.heap[k]? = W1.heap[k]? := fun k hk hn => (hO3.block k (by
    rintro (h | h)
    · exact hn h
    · have := HB4.out.size; omega)).trans (HB4.out.block k hk)
  have HEND := Lib.hid (show Only (fun k => Mine C' W1.heap.size k ∨ k = gb) W1 W3 ∧ (∀ k, C'' k → Mine C' W1.heap.size k ∧ k < W3.heap.size) ∧ FillS n l nb yb tb fb gb cap L W3 from
    ⟨(Only.of_below HB4.out (fun k hk => .inl (.inr hk))).trans (hO3.mono (fun k hk => .inl (hk.imp id (fun h => Nat.le_trans HB4.out.size h)))),
     fun k hk => ⟨(hC'' k hk).1.imp id (fun h => Nat.le_trans HB4.out.size h), (hC'' k hk).2⟩,
     HS.out.of_heap (fun k hk => hold k (HS.out.lt k hk) (HAP.out k hk)) (Nat.le_trans HB4.out.size hO3.size)⟩)
  clear hO3 hC'' hold hyl HRD
  rcases hend with ⟨rfl, hJ3⟩ | ⟨rfl, hJx3⟩
  · gi_wp2_with fail
    go_ret
    exact ⟨HEND.out.1, C'', HEND.out.2.1, .inl ⟨rfl, HEND.out.2.2, hJ3⟩⟩
  · gi_wp2_with fail
    go_ret
    exact ⟨HEND.out.1, C'', HEND.out.2.1, .inr ⟨rfl, i + 1, (List.getElem?_eq_some_iff.1 HX.out).1, hJx3⟩⟩

/-- What holds ahead of the partner number d. -/
structure FillI (n l nb yb tb fb gb cap : Nat) (J : Nat → (Nat → Prop) → World → Prop) (L : List Int) (i : Nat) (C' : Nat → Prop) (W1 : World) (wr : World) (C2 : Nat → Prop) : Prop where
  on : Only (fun k => Mine C' W1.heap.size k ∨ k = gb) W1 wr
  ft : ∀ k, C2 k → Mine C' W1.heap.size k ∧ k < wr.heap.size
  s : FillS n l nb yb tb fb gb cap L wr
  j : J i C2 wr
theorem FillI.apart {n l nb yb tb fb gb cap : Nat} {J : Nat → (Nat → Prop) → World → Prop} {L L1 : List Int} {i : Nat} {C' : Nat → Prop} {W1 : World} {wr : World} {C2 : Nat → Prop} (h : FillI n l nb yb tb fb gb cap J L i C' W1 wr C2) (hS : FillS n l nb yb tb fb gb cap L1 W1) (hap : Apart5 nb yb tb fb gb C') : Apart5 nb yb tb fb gb C2 := fun k hk hC => by
  rcases (h.ft k hC).1 with h1 | h1
  · exact hap k hk h1
  · have := hS.lt k hk; omega

set_option maxRecDepth 100000 in
set_option maxHeartbeats 8000000 in
theorem fill_ok {n l nb yb tb fb gb cap : Nat} (hnn : 1 ≤ n ∧ n ≤ 1000) {xs : List (List Int)} {J Jx : Nat → (Nat → Prop) → World → Prop} {Own : Nat → Prop} (hJ : Stable Own J) {N0 : Nat} (hOwn : ∀ k, Own k → k < N0 ∧ k ≠ gb)
    (hY : ∀ i C args W1, i < xs.length → BackS xs n i C args W1 → J i C W1 → (∀ k, C k → k < W1.heap.size) → YieldAt Fence.wide 0 Tryz.prog l args W1 (RoundEnd J Jx i C W1)) :
    ∀ (r : Nat), r ≤ n → ∀ (L : List Int) (i : Nat) (C' : Nat → Prop) (W1 : World), FillS n l nb yb tb fb gb cap L W1 → Apart5 nb yb tb fb gb C' → J i C' W1 → (∀ k, C' k → k < W1.heap.size) → (∀ j X, (fillL n r L)[j]? = some X → xs[i + j]? = some X) → N0 ≤ W1.heap.size →
    CallsIn Fence.wide 0 Tryz.prog 172 #[.int .i64 ((n - r : Nat) : Int), .pointer (some ⟨nb, 0, none⟩), .pointer (some ⟨yb, 0, none⟩), .pointer (some ⟨tb, 0, none⟩), .pointer (some ⟨fb, 0, none⟩)] W1 (FillPost n l nb yb tb fb gb cap xs J Jx L i (fillL n r L).length C' W1) := by
  intro r
  induction r with
  | zero =>
    intro _ L i C' W1 hS hap hj hft hx hN0
    exact fill_end hnn hJ hOwn hY L i C' W1 hS hap hj hft (hx 0 L rfl) hN0
  | succ r ih =>
    intro hr L i C' W1 hS hap hj hft hx hN0
    have HN0 := Lib.hid hN0
    clear hN0
    refine callsIn_wide.2 ?_
    obtain ⟨x, hxx⟩ : ∃ x, x = n - (r + 1) := ⟨_, rfl⟩
    have hxn : x < n := by omega
    have hx1 : n - r = x + 1 := by omega
    rw [← hxx]
    have HIH := Lib.hid (show ∀ (L : List Int) (i : Nat) (C' : Nat → Prop) (W1 : World), FillS n l nb yb tb fb gb cap L W1 → Apart5 nb yb tb fb gb C' → J i C' W1 → (∀ k, C' k → k < W1.heap.size) → (∀ j X, (fillL n r L)[j]? = some X → xs[i + j]? = some X) → N0 ≤ W1.heap.size →
        CallsIn Fence.wide 0 Tryz.prog 172 #[.int .i64 ((x : Int) + 1), .pointer (some ⟨nb, 0, none⟩), .pointer (some ⟨yb, 0, none⟩), .pointer (some ⟨tb, 0, none⟩), .pointer (some ⟨fb, 0, none⟩)] W1 (FillPost n l nb yb tb fb gb cap xs J Jx L i (fillL n r L).length C' W1) from fun L i C' W1 h1 h2 h3 h4 h5 h6 => by
      have h := ih (by omega) L i C' W1 h1 h2 h3 h4 h5 h6
      rw [hx1] at h
      exact h)
    have z0 := cell_of_heap hS.hn 0
    have z2 := cell_of_heap hS.ht 0
    have z3 := cell_of_heap hS.hf 0
    have z4 := hS.q.at.2.1 x (by rw [hS.len]; exact hxn)
    simp only [List.getElem?_toArray, List.getElem?_cons_zero, List.getElem?_cons_succ, Nat.zero_add] at z0 z2 z3 z4
    have HS := Lib.hid hS; have HAP := Lib.hid hap; have HJI := Lib.hid hj; have HFT := Lib.hid hft; have HX := Lib.hid hx
    have HJ := Lib.hid hJ; have HOWN := Lib.hid hOwn
    have HXX := Lib.hid hxx
    have hn1000 := hnn.2
    have hxe : ((x : Int) == (n : Int)) = false := by rw [beq_eq_false_iff_ne]; omega
    have hxi : (x : Int) < (n : Int) := by omega
    clear hS hap hj hft hx hJ hOwn ih hY hxx hx1
    by_cases hfx : 0 ≤ L.getD x 0
    · have HFX := Lib.hid hfx
      obtain ⟨u, hu⟩ : ∃ u, u = L.getD x 0 := ⟨_, rfl⟩
      rw [← hu] at z4 hfx
      clear hu
      go_enter Tryz.func172, Tryz.ntmps172
      refine (wpIn_wide (n := 0)).1 ?_
      gi_wp2_with fail
      refine ⟨trivial, rfl, (HIH.out L i C' W1 HS.out HAP.out HJI.out HFT.out (fun j X h => HX.out j X (by rw [Cov.fillL_fixed (by rw [← HXX.out]; exact HFX.out)]; exact h)) HN0.out).mono ?_⟩
      rintro e W3 hpost
      have hpost2 : FillPost n l nb yb tb fb gb cap xs J Jx L i (fillL n (r + 1) L).length C' W1 e W3 := by
        rw [Cov.fillL_fixed (by rw [← HXX.out]; exact HFX.out)]; exact hpost
      have HP := Lib.hid hpost2
      obtain ⟨_, C'', _, hend⟩ := hpost
      clear z0 z2 z3 z4 hpost2
      rcases hend with ⟨rfl, -, -⟩ | ⟨rfl, -⟩
      · gi_wp2_with fail
        go_ret
        exact HP.out
      · gi_wp2_with fail
        go_ret
        exact HP.out
    · have hneg : L.getD x 0 = -1 := (HS.out.one x hxn).resolve_right hfx
      have HFX := Lib.hid hfx
      have HNEG := Lib.hid hneg
      rw [hneg] at z4
      clear hneg hfx
      go_enter Tryz.func172, Tryz.ntmps172
      refine (wpIn_wide (n := 0)).1 ?_
      gi_wp2_with fail
      clear z0 z2 z3 z4
      gi_loopw [7] (fun yv wr => ∃ d : Nat, yv = .int .i64 ((x + d : Nat) : Int) ∧ d ≤ r + 1 ∧ ∃ C2, Hid (FillI n l nb yb tb fb gb cap J L (i + (fillP n r L d).length) C' W1 wr C2)) (fun yv _ => n - (intOf yv).toNat)
      case atStart => exact ⟨0, rfl, Nat.zero_le _, C', Lib.hid ⟨Only.refl _ _, fun k hk => ⟨.inl hk, HFT.out k hk⟩, HS.out, by rw [Cov.fillP_zero]; exact HJI.out⟩⟩
      case round =>
        obtain ⟨d, rfl, hd, C2, HI⟩ := hrel
        obtain ⟨y, hy⟩ : ∃ y, y = x + d := ⟨_, rfl⟩
        rw [← hy]
        have hxr : x + (r + 1) = n := by have := HXX.out; omega
        have z0 := cell_of_heap HI.out.s.hn 0
        simp only [List.getElem?_toArray, List.getElem?_cons_zero, List.getElem?_cons_succ] at z0
        by_cases hdr : d < r + 1
        · have hyn : y < n := by omega
          have hyi : (y : Int) < (n : Int) := by omega
          have z2 := cell_of_heap HI.out.s.ht 0
          have z3 := cell_of_heap HI.out.s.hf 0
          have z4 := HI.out.s.q.at.2.1 y (by rw [HI.out.s.len]; exact hyn)
          have z5 := HI.out.s.q.at.2.1 x (by rw [HI.out.s.len]; exact hxn)
          simp only [List.getElem?_toArray, List.getElem?_cons_zero, List.getElem?_cons_succ, Nat.zero_add] at z2 z3 z4 z5
          have HY := Lib.hid hy
          clear hy
          by_cases hfy : 0 ≤ L.getD y 0
          · have HFY := Lib.hid hfy
            obtain ⟨u, hu⟩ : ∃ u, u = L.getD y 0 := ⟨_, rfl⟩
            rw [← hu] at z4 hfy
            clear hu
            gi_wp2_with fail
            go_roundw
            case rel => exact ⟨d + 1, by rw [HY.out]; go_num, by omega, C2, by rw [Cov.fillP_succ, if_pos (by rw [← HXX.out, ← HY.out]; exact HFY.out), List.append_nil]; exact HI⟩
            case measure => simp [intOf]; omega
          · have hnegy : L.getD y 0 = -1 := (HS.out.one y hyn).resolve_right hfy
            have HFY := Lib.hid hfy
            have HNEGY := Lib.hid hnegy
            rw [hnegy] at z4
            rw [HNEG.out] at z5
            clear hnegy hfy
            gi_upto_region 9 with fail
            have lt := HI.out.s.lt tb (.inr (.inr (.inl rfl)))
            have hgt := HI.out.s.ne.2.2.1
            have g2 := fun (q : LaterB (fun k => k = gb) wr) => (q.cell tb 0 lt (fun h => hgt h.symm)).trans z2
            have hfy9 := fun (W : World) => HI.out.s.q.at.2.2
            have fx := HI.out.s.q.at.2.2 x (by rw [HI.out.s.len]; exact hxn)
            have fy := HI.out.s.q.at.2.2 y (by rw [HI.out.s.len]; exact hyn)
            simp only [Nat.zero_add] at fx fy
            have hS1 := HI.out.s.set hxn (y : Int) (.inr (by omega))
            have hS2 := hS1.set hyn (x : Int) (.inr (by omega))
            have hq1 := hS1.q.at.2.1 y (by rw [hS1.len]; exact hyn)
            have hf1 := hS1.q.at.2.2 y (by rw [hS1.len]; exact hyn)
            simp only [Nat.zero_add] at hq1 hf1
            have HS2 := Lib.hid hS2
            have HONE := Lib.hid (show Only (fun k => k = gb) wr ((wr.setCell ⟨gb, x, none⟩ (.int .i64 y)).setCell ⟨gb, y, none⟩ (.int .i64 x)) from (only_one wr gb x _).trans (only_one _ gb y _))
            clear z0 z2 z3 hS1 hS2 hfy9
            refine wpIn_region_segs Open.wide [([0, 1, 2, 3, 4, 5, 6], [7]), ([8], [])] 9 (fun w' => ∃ q : LaterB (fun k => k = gb) wr, w' = q.W) ⟨⟨wr.drew, (Only.refl _ _).drew⟩, rfl⟩ (by kernel_rfl) (by kernel_rfl) ?_
            simp only [List.map_cons, List.map_nil, pickOps, List.flatMap_cons, List.flatMap_nil, List.cons_append, List.nil_append, List.take_succ_cons, List.take_zero, List.drop_succ_cons, List.drop_zero, wpSegs]
            repeat (go_big_quiet_step (fail))
            refine wpQuiet_nil ?_
            refine wpG_step ?_
            intro K2 hK2
            go_wp2_with fail
            refine ⟨⟨⟨_, ((only_one wr gb x _).mono (fun k hk => .inl hk)).drew⟩, rfl⟩, hK2 _ _ ?_⟩
            clear hK2
            refine wpG_nil ?_
            repeat (go_big_quiet_step (fail))
            refine wpQuiet_nil ?_
            refine wpG_nil ?_
            clear g2 z4 z5 fx fy
            gi_upto_region 10 with fail
            have HS5 := Lib.hid (show FillS n l nb yb tb fb gb cap (pairUp L x y) (((wr.setCell ⟨gb, x, none⟩ (.int .i64 y)).setCell ⟨gb, y, none⟩ (.int .i64 x)).drew) from HS2.out.of_heap (fun k _ => rfl) (Nat.le_refl _))
            have HO5 := Lib.hid (show Only (fun k => k = gb) wr (((wr.setCell ⟨gb, x, none⟩ (.int .i64 y)).setCell ⟨gb, y, none⟩ (.int .i64 x)).drew) from HONE.out.drew)
            clear hq1 hf1
            generalize (((wr.setCell ⟨gb, x, none⟩ (.int .i64 y)).setCell ⟨gb, y, none⟩ (.int .i64 x)).drew) = W5 at HS5 HO5 ⊢
            have HAP2 := Lib.hid (HI.out.apart HS.out HAP.out)
            have HJ5 := Lib.hid (HJ.out _ C2 wr W5 HI.out.j (fun k hk => HO5.out.block k (fun h => by
              rcases hk with hk | hk
              · exact HAP2.out k (.inr (.inr (.inr (.inr h)))) hk
              · exact (HOWN.out k hk).2 h)) HO5.out.size)
            have z3 := cell_of_heap HS5.out.hf 0
            simp only [List.getElem?_toArray, List.getElem?_cons_zero, List.getElem?_cons_succ] at z3
            have hnext : fillP n r L (d + 1) = fillP n r L d ++ fillL n r (pairUp L x y) := by
              rw [Cov.fillP_succ, if_neg (by rw [← HXX.out, ← HY.out]; have := HFY.out; omega), ← HXX.out, ← HY.out]
            have HNX := Lib.hid hnext
            have HSEG := Lib.hid (show ∀ j X, (fillL n r (pairUp L x y))[j]? = some X → xs[(i + (fillP n r L d).length) + j]? = some X from fun j X hX => by
              rw [Nat.add_assoc]
              refine HX.out _ _ ?_
              obtain ⟨T, hT⟩ := Cov.fillP_pre (n := n) (r := r) (L := L) (d := d + 1) (e := r + 1) (by omega)
              rw [Cov.fillL_free (by rw [← HXX.out]; have := HFX.out; omega), hT, hnext, List.append_assoc, List.getElem?_append_right (by omega), Nat.add_sub_cancel_left, List.getElem?_append_left (List.getElem?_eq_some_iff.1 hX).1]
              exact hX)
            clear hnext
            gi_wp2_with fail
            refine ⟨trivial, rfl, (HIH.out (pairUp L x y) _ C2 W5 HS5.out HAP2.out HJ5.out (fun k hk => Nat.lt_of_lt_of_le (HI.out.ft k hk).2 HO5.out.size) HSEG.out (Nat.le_trans HN0.out (Nat.le_trans HI.out.on.size HO5.out.size))).mono ?_⟩
            rintro e W6 ⟨hO6, C3, hC3, hend⟩
            have hm2 : ∀ k, Mine C2 W5.heap.size k → Mine C' W1.heap.size k := fun k hk => by
              rcases hk with hk | hk
              · exact (HI.out.ft k hk).1
              · exact .inr (by have := HI.out.on.size; have := HO5.out.size; omega)
            have HON6 := Lib.hid (show Only (fun k => Mine C' W1.heap.size k ∨ k = gb) W1 W6 from (HI.out.on.trans (HO5.out.mono (fun k hk => .inr hk))).trans (hO6.mono (fun k hk => hk.imp (hm2 k) id)))
            have HC3 := Lib.hid (show ∀ k, C3 k → Mine C' W1.heap.size k ∧ k < W6.heap.size from fun k hk => ⟨hm2 k (hC3 k hk).1, (hC3 k hk).2⟩)
            have HAP3 := Lib.hid (show Apart5 nb yb tb fb gb C3 from fun k hk hC => by
              rcases (hC3 k hC).1 with h | h
              · exact HAP2.out k hk h
              · have := HS5.out.lt k hk; omega)
            clear hO6 hC3 hm2 z3
            rcases hend with ⟨rfl, hS6, hj6⟩ | ⟨rfl, i', hi', hjx⟩
            · have HS6 := Lib.hid hS6
              have HJ6 := Lib.hid hj6
              clear hS6 hj6
              gi_upto_region 12 with fail
              have z2 := cell_of_heap HS6.out.ht 0
              simp only [List.getElem?_toArray, List.getElem?_cons_zero] at z2
              have lt := HS6.out.lt tb (.inr (.inr (.inl rfl)))
              have hgt := HS6.out.ne.2.2.1
              have g2 := fun (q : LaterB (fun k => k = gb) W6) => (q.cell tb 0 lt (fun h => hgt h.symm)).trans z2
              have fx := HS6.out.q.at.2.2 x (by rw [HS6.out.len]; exact hxn)
              have cx := HS6.out.q.at.2.1 x (by rw [HS6.out.len]; exact hxn)
              simp only [Nat.zero_add] at fx cx
              have hS1 := HS6.out.set hxn (-1) (.inl rfl)
              have hS2 := hS1.set hyn (-1) (.inl rfl)
              have hq1 := hS1.q.at.2.1 y (by rw [hS1.len]; exact hyn)
              have hf1 := hS1.q.at.2.2 y (by rw [hS1.len]; exact hyn)
              simp only [Nat.zero_add] at hq1 hf1
              rw [Cov.pairUp_undo (by rw [HS.out.len]; exact hxn) (by rw [HS.out.len]; exact hyn) HNEG.out HNEGY.out] at hS2
              have HS2 := Lib.hid hS2
              have HONE := Lib.hid (show Only (fun k => k = gb) W6 ((W6.setCell ⟨gb, x, none⟩ (.int .i64 (-1))).setCell ⟨gb, y, none⟩ (.int .i64 (-1))) from (only_one W6 gb x _).trans (only_one _ gb y _))
              clear z2 hS1 hS2
              refine wpIn_region_segs Open.wide [([0, 1, 2, 3, 4], [5]), ([6], [])] 7 (fun w' => ∃ q : LaterB (fun k => k = gb) W6, w' = q.W) ⟨⟨W6.drew, (Only.refl _ _).drew⟩, rfl⟩ (by kernel_rfl) (by kernel_rfl) ?_
              simp only [List.map_cons, List.map_nil, pickOps, List.flatMap_cons, List.flatMap_nil, List.cons_append, List.nil_append, List.take_succ_cons, List.take_zero, List.drop_succ_cons, List.drop_zero, wpSegs]
              repeat (go_big_quiet_step (fail))
              refine wpQuiet_nil ?_
              refine wpG_step ?_
              intro K2 hK2
              go_wp2_with fail
              refine ⟨⟨⟨_, ((only_one W6 gb x _).mono (fun k hk => .inl hk)).drew⟩, rfl⟩, hK2 _ _ ?_⟩
              clear hK2
              refine wpG_nil ?_
              repeat (go_big_quiet_step (fail))
              refine wpQuiet_nil ?_
              refine wpG_nil ?_
              clear g2 fx cx
              gi_wp2_with fail
              have HS5' := Lib.hid (show FillS n l nb yb tb fb gb cap L (((W6.setCell ⟨gb, x, none⟩ (.int .i64 (-1))).setCell ⟨gb, y, none⟩ (.int .i64 (-1))).drew) from HS2.out.of_heap (fun k _ => rfl) (Nat.le_refl _))
              have HO7 := Lib.hid (show Only (fun k => k = gb) W6 (((W6.setCell ⟨gb, x, none⟩ (.int .i64 (-1))).setCell ⟨gb, y, none⟩ (.int .i64 (-1))).drew) from HONE.out.drew)
              clear hq1 hf1
              generalize (((W6.setCell ⟨gb, x, none⟩ (.int .i64 (-1))).setCell ⟨gb, y, none⟩ (.int .i64 (-1))).drew) = W7 at HS5' HO7 ⊢
              have hj7 := HJ.out _ C3 W6 W7 HJ6.out (fun k hk => HO7.out.block k (fun h => by
                rcases hk with hk | hk
                · exact HAP3.out k (.inr (.inr (.inr (.inr h)))) hk
                · exact (HOWN.out k hk).2 h)) HO7.out.size
              have hfin : FillI n l nb yb tb fb gb cap J L (i + (fillP n r L (d + 1)).length) C' W1 W7 C3 := ⟨HON6.out.trans (HO7.out.mono (fun k hk => .inr hk)), fun k hk => ⟨(HC3.out k hk).1, Nat.lt_of_lt_of_le (HC3.out k hk).2 HO7.out.size⟩, HS5'.out, by rw [HNX.out, List.length_append, ← Nat.add_assoc]; exact hj7⟩
              go_roundw
              case rel => exact ⟨d + 1, by rw [HY.out]; go_num, by omega, C3, Lib.hid hfin⟩
              case measure => simp [intOf]; omega
            · have HJX := Lib.hid hjx
              clear hjx
              gi_wp2_with fail
              go_ret
              exact ⟨HON6.out, C3, HC3.out, .inr ⟨rfl, i', hi', HJX.out⟩⟩
        · obtain rfl : d = r + 1 := by omega
          have hyi : ¬ (y : Int) < (n : Int) := by omega
          gi_wp2_with fail
          go_ret
          exact ⟨HI.out.on, C2, HI.out.ft, .inl ⟨rfl, HI.out.s, by rw [Cov.fillL_free (by rw [← HXX.out]; have := HFX.out; omega)]; exact HI.out.j⟩⟩
end Go.Proofs.YtfdklmpkienfhaaGreat
