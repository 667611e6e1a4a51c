/- Package cover: what is checked ahead of every function; an action with a point; the point to which a word leads. -/
import Derived.Test.YtfdklmpkienfhaaGreatK7
import Derived.Test.YtfdklmpkienfhaaGreatPln

/- Package cover: what is checked ahead of every function; a word that leads from a point. -/
namespace Go.Proofs.YtfdklmpkienfhaaGreat
set_option linter.unusedSimpArgs false
set_option linter.unusedVariables false
open Go.RowKit

/-- Orders as numbers. -/
def ordN (a b c : Int) : Hy.Ord := ⟨a.toNat, b.toNat, c.toNat⟩
theorem ordN_v {a b c : Int} (h : Hy.ordErr a b c = 0) : ordersV a b c = ordersV ((ordN a b c).m01 : Nat) ((ordN a b c).m12 : Nat) ((ordN a b c).m02 : Nat) := by
  obtain ⟨⟨h1, _, _⟩, ⟨h2, _, _⟩, ⟨h3, _, _⟩⟩ := Hy.ordErr_zero h
  unfold ordN
  simp only [Int.toNat_of_nonneg h1, Int.toNat_of_nonneg h2, Int.toNat_of_nonneg h3]
theorem ordN_le {a b c : Int} (h : Hy.ordErr a b c = 0) : (ordN a b c).m01 ≤ 12 ∧ (ordN a b c).m12 ≤ 12 ∧ (ordN a b c).m02 ≤ 12 := by
  obtain ⟨⟨h1, _, _⟩, ⟨h2, _, _⟩, ⟨h3, _, _⟩⟩ := Hy.ordErr_zero h
  unfold ordN
  simp only
  omega

/-- All conditions but the shape. -/
def Whole (o : Hy.Ord) (A : Nat → List Int) : Prop := Cov.Holds o (letters A) (A 0).length ∧ (Cov.met (letters A) (A 0).length 0).length = (A 0).length
open Classical in
/-- The error of lists. -/
noncomputable def actErr (a b c : Int) (A : Nat → List Int) : Int := if Hy.ordErr a b c ≠ 0 then Hy.ordErr a b c else if ¬ Shaped A then 1 else if Whole (ordN a b c) A then 0 else 30

theorem cover_met_len {M : List Nat} {w : World} {v : Value} (h : RS w.heap.size w v (intL M)) : ∃ a cap, v = .slice a M.length cap := by
  obtain ⟨a, cap, h1, _⟩ := h
  exact ⟨a, cap, by rw [h1]; simp [intL]⟩

set_option maxRecDepth 100000 in
set_option maxHeartbeats 2000000 in
theorem cover_checked (a b c : Int) (V : Nat → Value) (A : Nat → List Int) (w : World) (hA : AR w.heap.size w V A) (hlen : ∀ i, i < 3 → (A i).length ≤ 1000000000) :
    Calls Tryz.prog 61 #[ordersV a b c, actV V] w fun e w' => ((actErr a b c A = 0 ∧ e = .returned (.tuple #[])) ∨ (actErr a b c A ≠ 0 ∧ e = .panicked [{ v := refusal (actErr a b c A), recovered := false }])) ∧ Below w.heap.size w w' := by
  have HOK := Lib.hid (fun W => cover_must_ok 30 W)
  have HNO := Lib.hid (fun W => cover_must_no 30 W)
  have HOO := Lib.hid (fun h W => cover_orders_ok a b c h W)
  have HON := Lib.hid (fun h W => cover_orders_no a b c h W)
  have HSH := Lib.hid (fun W hA => cover_shaped V A W hA hlen)
  obtain ⟨W1, hW1⟩ : ∃ W1, W1 = (w.alloc (.cells #[.int .i64 a, .int .i64 b, .int .i64 c] 23)).alloc (.cells #[V 0, V 1, V 2] 27) := ⟨_, rfl⟩
  have hs1 : W1.heap.size = w.heap.size + 2 := by rw [hW1]; simp
  have HB1 := Lib.hid (show Below w.heap.size w W1 from by rw [hW1]; exact ((Below.refl w.heap.size w).alloc (Nat.le_refl _) _).alloc (by simp) _)
  have q0 : W1.heap[w.heap.size]? = some (.cells #[.int .i64 a, .int .i64 b, .int .i64 c] 23) := by
    rw [hW1, Below.heap_alloc _ _ _ (by simp)]; exact alloc_heap_new w _
  have q1 : W1.heap[w.heap.size + 1]? = some (.cells #[V 0, V 1, V 2] 27) := by
    rw [hW1]
    have := alloc_heap_new (w.alloc (.cells #[.int .i64 a, .int .i64 b, .int .i64 c] 23)) (.cells #[V 0, V 1, V 2] 27)
    rwa [World.size_alloc] at this
  have HS1 := Lib.hid hs1
  have HQ0 := Lib.hid q0
  have HQ1 := Lib.hid q1
  have HA := Lib.hid hA
  have HAW := Lib.hid (show ∀ W, Below W1.heap.size W1 W → AR W.heap.size W V A from fun W hB i hi => (((hA i hi).below HB1.out).below (hB.mono HB1.out.size)).more (Nat.le_trans HB1.out.size hB.size))
  have HLEN := Lib.hid hlen
  clear hA hlen q0 q1
  unfold ordersV actV at *
  go_enter Tryz.func61, Tryz.ntmps61
  go_upto_region 1 with fail
  rw [← hW1]
  clear hW1 hs1
  have l0 : w.heap.size < W1.heap.size := by have := HS1.out; omega
  have l1 : w.heap.size + 1 < W1.heap.size := by have := HS1.out; omega
  have k0 := cell_of_heap HQ0.out 0
  have k1 := cell_of_heap HQ0.out 1
  have k2 := cell_of_heap HQ0.out 2
  simp only [List.getElem?_toArray, List.getElem?_cons_zero, List.getElem?_cons_succ] at k0 k1 k2
  by_cases ho : Hy.ordErr a b c = 0
  · go_wp2_with fail
    refine (HOO.out ho _).mono ?_
    rintro e w1 ⟨rfl, hB⟩
    have HB2 := Lib.hid hB
    clear hB k0 k1 k2
    have hq := (HB2.out.block _ l1).trans HQ1.out
    have k0 := box_at hq (i := 0) (by omega)
    have k1 := box_at hq (i := 1) (by omega)
    have k2 := box_at hq (i := 2) (by omega)
    clear hq
    go_wp2_with fail
    refine (HSH.out w1 (HAW.out w1 HB2.out)).mono ?_
    rintro e w2 ⟨hcase, hB⟩
    have HB3 := Lib.hid (HB2.out.trans (hB.mono HB2.out.size))
    clear hB k0 k1 k2
    rcases hcase with ⟨hsh, rfl⟩ | ⟨hsh, rfl⟩
    · have HSHAPE := Lib.hid hsh
      clear hsh
      go_upto_region 3 with fail
      have l00 : w.heap.size < w2.heap.size := Nat.lt_of_lt_of_le l0 HB3.out.size
      have l11 : w.heap.size + 1 < w2.heap.size := Nat.lt_of_lt_of_le l1 HB3.out.size
      have hq0 := (HB3.out.block _ l0).trans HQ0.out
      have hq1 := (HB3.out.block _ l1).trans HQ1.out
      obtain ⟨a0, c0, hv0, -⟩ := HA.out 0 (by omega)
      obtain ⟨n, hn⟩ : ∃ n, n = (A 0).length := ⟨_, rfl⟩
      rw [← hn] at hv0
      have HV0 := Lib.hid hv0
      have HN := Lib.hid hn
      have g0 := fun (y : Later w2) => ((bcell y.h).1 w.heap.size 0 l00).trans (cell_of_heap hq0 0)
      have g1 := fun (y : Later w2) => ((bcell y.h).1 w.heap.size 1 l00).trans (cell_of_heap hq0 1)
      have g2 := fun (y : Later w2) => ((bcell y.h).1 w.heap.size 2 l00).trans (cell_of_heap hq0 2)
      have p0 := fun (y : Later w2) => ((bcell y.h).1 (w.heap.size + 1) 0 l11).trans ((box_at hq1 (i := 0) (by omega)).trans (congrArg some hv0))
      have p1 := fun (y : Later w2) => ((bcell y.h).1 (w.heap.size + 1) 1 l11).trans (box_at hq1 (i := 1) (by omega))
      have p2 := fun (y : Later w2) => ((bcell y.h).1 (w.heap.size + 1) 2 l11).trans (box_at hq1 (i := 2) (by omega))
      simp only [List.getElem?_toArray, List.getElem?_cons_zero, List.getElem?_cons_succ] at g0 g1 g2
      have HH := Lib.hid (show ∀ W, AR W.heap.size W V A → Calls Tryz.prog 79 #[.agg #[.int .i64 a, .int .i64 b, .int .i64 c], .agg #[.slice a0 n c0, V 1, V 2]] W fun e w' => ((Cov.Holds (ordN a b c) (letters A) (A 0).length ∧ e = .returned (.bool true)) ∨ (¬ Cov.Holds (ordN a b c) (letters A) (A 0).length ∧ e = .returned (.bool false))) ∧ Below W.heap.size W w' from fun W hAW => by
        have h := cover_holds (ordN a b c) (ordN_le ho) V A W hAW HSHAPE.out
        rw [← ordN_v ho] at h
        unfold ordersV actV at h
        rw [hv0] at h
        exact h)
      have HNB := Lib.hid (show ∀ W, AR W.heap.size W V A → Calls Tryz.prog 67 #[.agg #[.slice a0 n c0, V 1, V 2], .int .i64 0] W fun e w' => ∃ pa pc lv, e = .returned (.agg #[V 0, V 1, V 2, .slice pa (Cov.met (letters A) (A 0).length 0).length pc, lv]) ∧ Below W.heap.size W w' from fun W hAW => by
        have h := cover_numbered V A W hAW HSHAPE.out 0 HSHAPE.out.1.1
        unfold actV at h
        rw [hv0] at h
        refine h.mono ?_
        rintro e w' ⟨pv, lv, rfl, hp, _, hB⟩
        obtain ⟨pa, pc, rfl⟩ := cover_met_len hp
        exact ⟨pa, pc, lv, rfl, hB⟩)
      clear hq0 hq1 hv0 hn
      have HO0 := Lib.hid ho
      clear ho
      refine wp_region_segs [([0, 1], [2]), ([3, 8, 9, 10, 11, 4], [5]), ([6, 7, 12, 13], [])] 14 (fun w' => ∃ y : Later w2, w' = y.W) ⟨⟨w2.drew, (Below.refl _ _).drew⟩, rfl⟩ (by kernel_rfl) (by kernel_rfl) ?_
      simp only [List.map_cons, List.map_nil, pickOps, List.flatMap_cons, List.flatMap_nil, List.cons_append, List.nil_append, List.take_succ_cons, List.take_zero, List.drop_succ_cons, List.drop_zero, wpSegs]
      repeat (go_big_quiet_step (fail))
      refine wpQuiet_nil ?_
      refine wpG_step ?_
      intro K2 hK2
      go_wp2_with fail
      refine (HH.out _ (HAW.out _ HB3.out.drew)).mono ?_
      rintro e w4 ⟨hcase, hB⟩
      have hB4 := below_undrew hB
      clear hB
      rcases hcase with ⟨hh, rfl⟩ | ⟨hh, rfl⟩
      · have HHH := Lib.hid hh
        have HB4 := Lib.hid hB4
        clear hh hB4
        go_wp2_with fail
        refine ⟨⟨⟨w4, HB4.out⟩, rfl⟩, hK2 _ _ ?_⟩
        clear hK2
        refine wpG_nil ?_
        repeat (go_big_quiet_step (fail))
        refine wpQuiet_nil ?_
        refine wpG_step ?_
        intro K3 hK3
        go_wp2_with fail
        refine (HNB.out _ (HAW.out _ (HB3.out.trans (HB4.out.mono HB3.out.size)))).mono ?_
        rintro e w5 ⟨pa, pc, lv, rfl, hB⟩
        have HB5 := Lib.hid (HB4.out.trans (hB.mono HB4.out.size))
        clear hB
        go_wp2_with fail
        refine ⟨⟨⟨w5, HB5.out⟩, rfl⟩, hK3 _ _ ?_⟩
        clear hK3
        refine wpG_nil ?_
        obtain ⟨m, hm⟩ : ∃ m, m = (Cov.met (letters A) (A 0).length 0).length := ⟨_, rfl⟩
        rw [← hm]
        have HM := Lib.hid hm
        clear hm
        have hfd : ∀ W : World, (Instr.field 121 (.agg #[V 0, V 1, V 2, .slice pa m pc, lv]) 1).run Tryz.prog W = .ok (.slice pa m pc) W := fun W => by kernel_rfl
        by_cases hmn : m = n
        · have heq : ((m : Int) == (n : Int)) = true := by rw [beq_iff_eq]; omega
          have HMN := Lib.hid hmn
          clear hmn
          repeat (go_big_quiet_step (fail))
          refine wpQuiet_nil ?_
          refine wpG_nil ?_
          clear g0 g1 g2 p0 p1 p2
          go_wp2_with fail
          refine (HOK.out _).mono ?_
          rintro e w6 ⟨rfl, rfl⟩
          go_wp2_with fail
          go_end0
          refine ⟨.inl ⟨?_, rfl⟩, HB1.out.trans ((HB3.out.trans (HB5.out.mono HB3.out.size)).mono HB1.out.size)⟩
          unfold actErr
          rw [if_neg (by simpa using HO0.out), if_neg (by simpa using HSHAPE.out), if_pos ⟨HHH.out, by rw [← HM.out, ← HN.out]; exact HMN.out⟩]
        · have heq : ((m : Int) == (n : Int)) = false := by rw [beq_eq_false_iff_ne]; omega
          repeat (go_big_quiet_step (fail))
          refine wpQuiet_nil ?_
          refine wpG_nil ?_
          clear g0 g1 g2 p0 p1 p2
          go_wp2_with fail
          refine (HNO.out _).mono ?_
          rintro e w6 ⟨rfl, rfl⟩
          go_wp2_with fail
          have e : actErr a b c A = 30 := by
            unfold actErr
            rw [if_neg (by simpa using HO0.out), if_neg (by simpa using HSHAPE.out), if_neg (fun h => hmn (by rw [HM.out, HN.out]; exact h.2))]
          exact ⟨rfl, .inr ⟨by rw [e]; omega, by rw [e]⟩, HB1.out.trans ((HB3.out.trans (HB5.out.mono HB3.out.size)).mono HB1.out.size)⟩
      · have HHH := Lib.hid hh
        have HB4 := Lib.hid hB4
        clear hh hB4
        go_wp2_with fail
        refine ⟨⟨⟨w4, HB4.out⟩, rfl⟩, hK2 _ _ ?_⟩
        clear hK2
        refine wpG_nil ?_
        repeat (go_big_quiet_step (fail))
        refine wpQuiet_nil ?_
        refine wpG_step ?_
        intro K3 hK3
        go_wp2_with fail
        refine ⟨⟨⟨w4, HB4.out⟩, rfl⟩, hK3 _ _ ?_⟩
        clear hK3
        refine wpG_nil ?_
        repeat (go_big_quiet_step (fail))
        refine wpQuiet_nil ?_
        refine wpG_nil ?_
        clear g0 g1 g2 p0 p1 p2
        go_wp2_with fail
        refine (HNO.out _).mono ?_
        rintro e w6 ⟨rfl, rfl⟩
        go_wp2_with fail
        have e : actErr a b c A = 30 := by
          unfold actErr
          rw [if_neg (by simpa using HO0.out), if_neg (by simpa using HSHAPE.out), if_neg (fun h => HHH.out h.1)]
        exact ⟨rfl, .inr ⟨by rw [e]; omega, by rw [e]⟩, HB1.out.trans ((HB3.out.trans (HB4.out.mono HB3.out.size)).mono HB1.out.size)⟩
    · go_wp2_with fail
      refine ⟨rfl, .inr ?_, HB1.out.trans (HB3.out.mono HB1.out.size)⟩
      have e : actErr a b c A = 1 := by unfold actErr; rw [if_neg (by simpa using ho), if_pos hsh]
      exact ⟨by rw [e]; omega, by rw [e]⟩
  · go_wp2_with fail
    refine (HON.out ho _).mono ?_
    rintro e w1 ⟨rfl, hB⟩
    have HB2 := Lib.hid hB
    clear hB k0 k1 k2
    have HE := Lib.hid (show actErr a b c A = Hy.ordErr a b c by unfold actErr; rw [if_pos ho])
    have HNE := Lib.hid ho
    clear ho
    go_wp2_with fail
    exact ⟨rfl, .inr ⟨by rw [HE.out]; exact HNE.out, by rw [HE.out]⟩, HB1.out.trans (HB2.out.mono HB1.out.size)⟩
end Go.Proofs.YtfdklmpkienfhaaGreat

/- Package cover: an action with a point; the point to which a word leads. -/
namespace Go.Proofs.YtfdklmpkienfhaaGreat
set_option linter.unusedSimpArgs false
set_option linter.unusedVariables false
open Go.RowKit

/-- The error of an action with a point. -/
noncomputable def atErr (a b c : Int) (A : Nat → List Int) (p : Int) : Int := if actErr a b c A ≠ 0 then actErr a b c A else if 0 ≤ p ∧ p < ((A 0).length : Int) then 0 else 1
noncomputable def ledErr (a b c : Int) (A : Nat → List Int) (p : Int) (l : List UInt8) : Int := if atErr a b c A p ≠ 0 then atErr a b c A p else Hy.wordErr l

theorem actErr_zero {a b c : Int} {A : Nat → List Int} (h : actErr a b c A = 0) : Hy.ordErr a b c = 0 ∧ Shaped A ∧ Whole (ordN a b c) A := by
  unfold actErr at h
  by_cases h1 : Hy.ordErr a b c = 0
  · rw [if_neg (by simpa using h1)] at h
    by_cases h2 : Shaped A
    · rw [if_neg (by simpa using h2)] at h
      by_cases h3 : Whole (ordN a b c) A
      · exact ⟨h1, h2, h3⟩
      · rw [if_neg h3] at h; omega
    · rw [if_pos h2] at h; omega
  · rw [if_pos h1] at h; exact absurd h h1
theorem atErr_zero {a b c p : Int} {A : Nat → List Int} (h : atErr a b c A p = 0) : actErr a b c A = 0 ∧ 0 ≤ p ∧ p < ((A 0).length : Int) := by
  unfold atErr at h
  by_cases h1 : actErr a b c A = 0
  · rw [if_neg (by simpa using h1)] at h
    by_cases h2 : 0 ≤ p ∧ p < ((A 0).length : Int)
    · exact ⟨h1, h2⟩
    · rw [if_neg h2] at h; omega
  · rw [if_pos h1] at h; exact absurd h h1

set_option maxRecDepth 100000 in
set_option maxHeartbeats 2000000 in
theorem cover_at (a b c : Int) (V : Nat → Value) (A : Nat → List Int) (p : Int) (w : World) (hA : AR w.heap.size w V A) (hlen : ∀ i, i < 3 → (A i).length ≤ 1000000000) :
    Calls Tryz.prog 66 #[ordersV a b c, actV V, .int .i64 p] w fun e w' => ((atErr a b c A p = 0 ∧ e = .returned (.tuple #[])) ∨ (atErr a b c A p ≠ 0 ∧ e = .panicked [{ v := refusal (atErr a b c A p), recovered := false }])) ∧ Below w.heap.size w w' := by
  have HOK := Lib.hid (fun W => cover_must_ok 1 W)
  have HNO := Lib.hid (fun W => cover_must_no 1 W)
  have HCH := Lib.hid (fun W hA => cover_checked a b c V A W hA hlen)
  obtain ⟨W1, hW1⟩ : ∃ W1, W1 = (w.alloc (.cells #[.int .i64 a, .int .i64 b, .int .i64 c] 23)).alloc (.cells #[V 0, V 1, V 2] 27) := ⟨_, rfl⟩
  have hs1 : W1.heap.size = w.heap.size + 2 := by rw [hW1]; simp
  have HB1 := Lib.hid (show Below w.heap.size w W1 from by rw [hW1]; exact ((Below.refl w.heap.size w).alloc (Nat.le_refl _) _).alloc (by simp) _)
  have q0 : W1.heap[w.heap.size]? = some (.cells #[.int .i64 a, .int .i64 b, .int .i64 c] 23) := by
    rw [hW1, Below.heap_alloc _ _ _ (by simp)]; exact alloc_heap_new w _
  have q1 : W1.heap[w.heap.size + 1]? = some (.cells #[V 0, V 1, V 2] 27) := by
    rw [hW1]
    have := alloc_heap_new (w.alloc (.cells #[.int .i64 a, .int .i64 b, .int .i64 c] 23)) (.cells #[V 0, V 1, V 2] 27)
    rwa [World.size_alloc] at this
  have HQ0 := Lib.hid q0
  have HQ1 := Lib.hid q1
  have HS1 := Lib.hid hs1
  have HAW := Lib.hid (show AR W1.heap.size W1 V A from fun i hi => ((hA i hi).below HB1.out).more HB1.out.size)
  obtain ⟨a0, c0, hv0, -⟩ := hA 0 (by omega)
  obtain ⟨n, hn⟩ : ∃ n, n = (A 0).length := ⟨_, rfl⟩
  rw [← hn] at hv0
  have HV0 := Lib.hid hv0
  have HN := Lib.hid hn
  clear hA hlen q0 q1 hv0 hn
  unfold ordersV actV at *
  go_enter Tryz.func66, Tryz.ntmps66
  go_upto_region 1 with fail
  rw [← hW1]
  clear hW1 hs1
  have l1 : w.heap.size + 1 < W1.heap.size := by have := HS1.out; omega
  have k0 := cell_of_heap HQ0.out 0
  have k1 := cell_of_heap HQ0.out 1
  have k2 := cell_of_heap HQ0.out 2
  have p0 := box_at HQ1.out (i := 0) (by omega)
  have p1 := box_at HQ1.out (i := 1) (by omega)
  have p2 := box_at HQ1.out (i := 2) (by omega)
  simp only [List.getElem?_toArray, List.getElem?_cons_zero, List.getElem?_cons_succ] at k0 k1 k2
  go_wp2_with fail
  refine (HCH.out _ HAW.out).mono ?_
  rintro e w1 ⟨hcase, hB⟩
  have HB2 := Lib.hid hB
  clear hB k0 k1 k2 p0 p1 p2
  rcases hcase with ⟨hz, rfl⟩ | ⟨hz, rfl⟩
  · have HZ := Lib.hid hz
    clear hz
    have hq := (HB2.out.block _ l1).trans HQ1.out
    have p0 := box_at hq (i := 0) (by omega)
    rw [HV0.out] at p0
    clear hq
    by_cases h0 : 0 ≤ p
    · by_cases h1 : p < (n : Int)
      · go_wp2_with fail
        refine (HOK.out _).mono ?_
        rintro e w6 ⟨rfl, rfl⟩
        go_wp2_with fail
        go_end0
        refine ⟨.inl ⟨?_, rfl⟩, HB1.out.trans (HB2.out.mono HB1.out.size)⟩
        unfold atErr
        rw [if_neg (by simpa using HZ.out), if_pos ⟨h0, by rw [← HN.out]; exact h1⟩]
      · have hd : decide (p < (n : Int)) = false := decide_eq_false h1
        have HH1 := Lib.hid h1
        go_wp2_with fail
        refine (HNO.out _).mono ?_
        rintro e w6 ⟨rfl, rfl⟩
        go_wp2_with fail
        have e : atErr a b c A p = 1 := by
          unfold atErr
          rw [if_neg (by simpa using HZ.out), if_neg (fun h => by have h9 := HH1.out; have h2 := h.2; rw [← HN.out] at h2; omega)]
        exact ⟨rfl, .inr ⟨by rw [e]; omega, by rw [e]⟩, HB1.out.trans (HB2.out.mono HB1.out.size)⟩
    · have hd : decide (0 ≤ p) = false := decide_eq_false h0
      have HH0 := Lib.hid h0
      clear h0
      go_wp2_with fail
      refine (HNO.out _).mono ?_
      rintro e w6 ⟨rfl, rfl⟩
      go_wp2_with fail
      have e : atErr a b c A p = 1 := by
        unfold atErr
        rw [if_neg (by simpa using HZ.out), if_neg (fun h => by have h9 := HH0.out; have h2 := h.1; omega)]
      exact ⟨rfl, .inr ⟨by rw [e]; omega, by rw [e]⟩, HB1.out.trans (HB2.out.mono HB1.out.size)⟩
  · have HZ := Lib.hid hz
    clear hz
    go_wp2_with fail
    have e : atErr a b c A p = actErr a b c A := by unfold atErr; rw [if_pos HZ.out]
    exact ⟨rfl, .inr ⟨by rw [e]; exact HZ.out, by rw [e]⟩, HB1.out.trans (HB2.out.mono HB1.out.size)⟩

set_option maxRecDepth 100000 in
set_option maxHeartbeats 2000000 in
theorem cover_led (a b c : Int) (V : Nat → Value) (A : Nat → List Int) (p : Int) (l : List UInt8) (w : World) (hA : AR w.heap.size w V A) (hlen : ∀ i, i < 3 → (A i).length ≤ 1000000000) (hl : l.length ≤ 1000000000) :
    Calls Tryz.prog 63 #[ordersV a b c, actV V, .int .i64 p, str l] w fun e w' => ((ledErr a b c A p l = 0 ∧ e = .returned (.int .i64 (Cov.ledP (letters A) p.toNat l : Nat))) ∨ (ledErr a b c A p l ≠ 0 ∧ e = .panicked [{ v := refusal (ledErr a b c A p l), recovered := false }])) ∧ Below w.heap.size w w' := by
  obtain ⟨f, hf⟩ : ∃ f, f = letters A := ⟨_, rfl⟩
  obtain ⟨x, hx⟩ : ∃ x : Nat, x = p.toNat := ⟨_, rfl⟩
  rw [← hx, ← hf]
  have HF := Lib.hid hf
  have HX := Lib.hid hx
  clear hf hx
  have HOK := Lib.hid (fun W => cover_must_ok 0 W)
  have HNO := Lib.hid (fun W => cover_must_no (Hy.wordErr l) W)
  have HAT := Lib.hid (fun W hA => cover_at a b c V A p W hA hlen)
  have HWD := Lib.hid (fun W => grow_Word l W (by omega))
  have HRB := Lib.hid (fun W => run_bytes l W)
  obtain ⟨W1, hW1⟩ : ∃ W1, W1 = (w.alloc (.cells #[.int .i64 a, .int .i64 b, .int .i64 c] 23)).alloc (.cells #[V 0, V 1, V 2] 27) := ⟨_, rfl⟩
  have hs1 : W1.heap.size = w.heap.size + 2 := by rw [hW1]; simp
  have HB1 := Lib.hid (show Below w.heap.size w W1 from by rw [hW1]; exact ((Below.refl w.heap.size w).alloc (Nat.le_refl _) _).alloc (by simp) _)
  have q0 : W1.heap[w.heap.size]? = some (.cells #[.int .i64 a, .int .i64 b, .int .i64 c] 23) := by
    rw [hW1, Below.heap_alloc _ _ _ (by simp)]; exact alloc_heap_new w _
  have q1 : W1.heap[w.heap.size + 1]? = some (.cells #[V 0, V 1, V 2] 27) := by
    rw [hW1]
    have := alloc_heap_new (w.alloc (.cells #[.int .i64 a, .int .i64 b, .int .i64 c] 23)) (.cells #[V 0, V 1, V 2] 27)
    rwa [World.size_alloc] at this
  have HQ0 := Lib.hid q0
  have HQ1 := Lib.hid q1
  have HS1 := Lib.hid hs1
  have HA := Lib.hid hA
  have HAW := Lib.hid (show AR W1.heap.size W1 V A from fun i hi => ((hA i hi).below HB1.out).more HB1.out.size)
  clear hA hlen q0 q1
  unfold ordersV actV str at *
  go_enter Tryz.func63, Tryz.ntmps63
  go_upto_region 1 with fail
  rw [← hW1]
  clear hW1 hs1
  have l1 : w.heap.size + 1 < W1.heap.size := by have := HS1.out; omega
  have k0 := cell_of_heap HQ0.out 0
  have k1 := cell_of_heap HQ0.out 1
  have k2 := cell_of_heap HQ0.out 2
  have p0 := box_at HQ1.out (i := 0) (by omega)
  have p1 := box_at HQ1.out (i := 1) (by omega)
  have p2 := box_at HQ1.out (i := 2) (by omega)
  simp only [List.getElem?_toArray, List.getElem?_cons_zero, List.getElem?_cons_succ] at k0 k1 k2
  go_wp2_with fail
  refine (HAT.out _ HAW.out).mono ?_
  rintro e w1 ⟨hcase, hB⟩
  have HB2 := Lib.hid hB
  clear hB k0 k1 k2 p0 p1 p2
  rcases hcase with ⟨hz, rfl⟩ | ⟨hz, rfl⟩
  · have HZ := Lib.hid hz
    clear hz
    go_wp2_with fail
    refine (HWD.out _).mono ?_
    rintro e w2 ⟨rfl, hB⟩
    have HB3 := Lib.hid (HB2.out.trans (hB.mono HB2.out.size))
    clear hB
    by_cases hw : Hy.wordErr l = 0
    · rw [hw]
      have HW := Lib.hid hw
      clear hw
      go_wp2_with fail
      refine (HOK.out _).mono ?_
      rintro e w3 ⟨rfl, rfl⟩
      obtain ⟨cap, cs, fr, kb, hcs⟩ := HRB.out w3
      obtain ⟨hact, hp0, hpn⟩ := atErr_zero HZ.out
      obtain ⟨_, hsh, _⟩ := actErr_zero hact
      obtain ⟨n, hn⟩ : ∃ n, n = (A 0).length := ⟨_, rfl⟩
      have hf := HF.out
      have hx := HX.out
      have hxn : x < n := by omega
      have hpx : p = (x : Int) := by omega
      rw [hpx]
      have HIN := Lib.hid (show Cov.Into f n from by rw [hf, hn]; exact hsh.into)
      have HLT := Lib.hid (show ∀ c ∈ l, c.toNat < 3 from fun c hc => by
        obtain ⟨k, hk, rfl⟩ := List.getElem_of_mem hc
        exact (Hy.wordErr_letters HW.out).1 k hk)
      have HL := Lib.hid (show ∀ i, i < 3 → ∃ g off cap, V i = .slice (some ⟨g, off, none⟩) n cap ∧ g < w.heap.size ∧ ∀ x, x < n → w.cell? ⟨g, off + x, none⟩ = some (.int .i64 ((f i x : Nat) : Int)) from fun i hi => by
        obtain ⟨a, cap, h1, h2, h3⟩ := HA.out i hi
        have hl : (A i).length = n := by rw [hn]; exact hsh.len hi
        rw [hl] at h1 h3
        obtain ⟨g, off, rfl, hg, _⟩ := h3 0 (by omega)
        refine ⟨g, off, cap, h1, hg, fun x hx => ?_⟩
        obtain ⟨g', off', e, hg', hc⟩ := h3 x hx
        simp only [Option.some.injEq, Addr.mk.injEq, and_true] at e
        obtain ⟨rfl, rfl⟩ := e
        rw [hc, hsh.at hi (by omega), hf])
      have hn200 : n ≤ 200 := by rw [hn]; exact hsh.1.2.1
      have HNX := Lib.hid (And.intro hn (And.intro hf (And.intro hx hpx)))
      have hcell : ∀ j (h : j < l.length), (w3.alloc (.cells cs 5 fr)).cell? ⟨w3.heap.size, j, none⟩ = some (.int .u8 (l[j].toNat : Int)) := fun j h => (cell_new _ _ _ _ _).trans (hcs j h)
      have HCELL := Lib.hid hcell
      clear hcs hcell hact hp0 hpn hsh hn hf hx hpx
      have hll : l.length ≤ 1000000000 := hl
      go_wp2_with fail
      go_loopw [25, 2] (fun kv pv wr => ∃ k : Nat, kv = .int .i64 k ∧ pv = .int .i64 ((Cov.ledP f x (l.take k) : Nat) : Int) ∧ k ≤ l.length ∧ Hid (Below w3.heap.size w3 wr) ∧ Hid (∀ j (h : j < l.length), wr.cell? ⟨w3.heap.size, j, none⟩ = some (.int .u8 (l[j].toNat : Int)))) (fun kv _ _ => l.length - (intOf kv).toNat)
      case atStart => exact ⟨0, rfl, by simp [Cov.ledP], Nat.zero_le _, Lib.hid (by first | exact ((Below.refl _ _).alloc (Nat.le_refl _) _).drew | exact (Below.refl _ _).alloc (Nat.le_refl _) _), Lib.hid (by exact HCELL.out)⟩
      case round =>
        clear kb
        obtain ⟨k, rfl, rfl, hk, HB, HC⟩ := hrel
        obtain ⟨y, hy⟩ : ∃ y, y = Cov.ledP f x (l.take k) := ⟨_, rfl⟩
        rw [← hy]
        by_cases hkl : k < l.length
        · have hki : (k : Int) < (l.length : Int) := by omega
          have c1 := HC.out k hkl
          obtain ⟨i, hi⟩ : ∃ i : Nat, i = l[k].toNat := ⟨_, rfl⟩
          rw [← hi] at c1
          have hi3 : i < 3 := by rw [hi]; exact HLT.out _ (List.getElem_mem hkl)
          have hii : (i : Int) < 3 := by omega
          have hyn : y < n := by rw [hy]; exact Cov.ledP_lt HIN.out _ (fun c hc => HLT.out c (List.mem_of_mem_take hc)) hxn
          have hyi : (y : Int) < (n : Int) := by omega
          obtain ⟨gi, offi, capi, hVi, hgi, hm⟩ := HL.out i hi3
          have hB9 := HB3.out.trans (HB.out.mono HB3.out.size)
          have m1 := (box_at ((hB9.block _ l1).trans HQ1.out) hi3)
          rw [hVi] at m1
          have m2 := ((HB1.out.trans (hB9.mono HB1.out.size)).cell (p := ⟨gi, offi + y, none⟩) hgi).trans (hm y hyn)
          have HY := Lib.hid (And.intro hy hi)
          clear hy hi hVi hm hB9 hgi
          go_wp2_with fail
          go_roundw
          case rel => exact ⟨k + 1, by go_num, by rw [Cov.ledP_snoc _ _ _ _ hkl, ← HY.out.1, ← HY.out.2], hkl, HB, HC⟩
          case measure => simp [intOf]; omega
        · obtain rfl : k = l.length := by omega
          have hki : ¬ (l.length : Int) < (l.length : Int) := by omega
          rw [List.take_length] at hy
          have HY := Lib.hid hy
          clear hy
          go_wp2_with fail
          go_ret
          refine ⟨.inl ⟨?_, by rw [HY.out]; rfl⟩, HB1.out.trans ((HB3.out.trans (HB.out.mono HB3.out.size)).mono HB1.out.size)⟩
          unfold ledErr
          rw [if_neg (by simpa using HZ.out), HW.out]
    · obtain ⟨er, her⟩ : ∃ er, er = Hy.wordErr l := ⟨_, rfl⟩
      rw [← her] at HNO hw ⊢
      have hne : (er == 0) = false := by rw [beq_eq_false_iff_ne]; exact hw
      have HER := Lib.hid her
      have HNE := Lib.hid hw
      clear her hw
      go_wp2_with fail
      refine (HNO.out _).mono ?_
      rintro e w3 ⟨rfl, rfl⟩
      go_wp2_with fail
      have e : ledErr a b c A p l = er := by unfold ledErr; rw [if_neg (by simpa using HZ.out), ← HER.out]
      exact ⟨rfl, .inr ⟨by rw [e]; exact HNE.out, by rw [e]⟩, HB1.out.trans (HB3.out.mono HB1.out.size)⟩
  · have HZ := Lib.hid hz
    clear hz
    go_wp2_with fail
    have e : ledErr a b c A p l = atErr a b c A p := by unfold ledErr; rw [if_pos HZ.out]
    exact ⟨rfl, .inr ⟨by rw [e]; exact HZ.out, by rw [e]⟩, HB1.out.trans (HB2.out.mono HB1.out.size)⟩
end Go.Proofs.YtfdklmpkienfhaaGreat
