/- The law CoverChecks. -/
import Derived.Test.YtfdklmpkienfhaaAg
import Derived.Test.YtfdklmpkienfhaaPln
import Derived.Sort.CutIn
namespace Go.Proofs.Ytfdklmpkienfhaa
set_option linter.unusedSimpArgs false
set_option linter.unusedVariables false
open Go.RowKit

set_option maxRecDepth 100000 in
set_option maxHeartbeats 8000000 in
theorem law_checks (a b c : Int) (V : Nat → Value) (A : Nat → List Int) (p : Int) (l : List UInt8) (w : World) (hA : AR w.heap.size w V A) (hlen : ∀ i, i < 3 → (A i).length ≤ 9223372036854775807) (hl : l.length ≤ 9223372036854775807) :
    Calls Try.prog 4 #[ordersV a b c, actV V, .int .i64 p, str l] w fun e w' => e = .returned (.bool true) ∧ Below w.heap.size w w' := by
  have HSANE := Lib.hid (fun W => law12_sane W)
  obtain ⟨W1, hW1⟩ : ∃ W1, W1 = (w.alloc (.cells #[.int .i64 a, .int .i64 b, .int .i64 c] 23)).alloc (.cells #[V 0, V 1, V 2] 36) := ⟨_, rfl⟩
  have hs1 : W1.heap.size = w.heap.size + 2 := by rw [hW1]; simp
  have HB0 := Lib.hid (show Below w.heap.size w W1 from by
    rw [hW1]
    exact ((Below.refl w.heap.size w).alloc (Nat.le_refl _) _).alloc (by simp) _)
  have HQ0 := Lib.hid (show W1.heap[w.heap.size]? = some (.cells #[.int .i64 a, .int .i64 b, .int .i64 c] 23) from by
    rw [hW1, Below.heap_alloc _ _ _ (by simp)]
    exact alloc_heap_new w _)
  have HQ1 := Lib.hid (show W1.heap[w.heap.size + 1]? = some (.cells #[V 0, V 1, V 2] 36) from by
    rw [hW1]
    have := alloc_heap_new (w.alloc (.cells #[.int .i64 a, .int .i64 b, .int .i64 c] 23)) (.cells #[V 0, V 1, V 2] 36)
    rwa [World.size_alloc] at this)
  have HAW := Lib.hid (show ∀ W, Below W1.heap.size W1 W → AR W.heap.size W V A from fun W hB i hi => (((hA i hi).below HB0.out).below (hB.mono HB0.out.size)).more (Nat.le_trans HB0.out.size hB.size))
  have HBX := Lib.hid (show ∀ W, Below W1.heap.size W1 W → W.heap[w.heap.size]? = some (.cells #[.int .i64 a, .int .i64 b, .int .i64 c] 23) ∧ W.heap[w.heap.size + 1]? = some (.cells #[V 0, V 1, V 2] 36) from fun W hB =>
    ⟨(hB.block _ (by omega)).trans HQ0.out, (hB.block _ (by omega)).trans HQ1.out⟩)
  have HLEN := Lib.hid hlen
  have HS1 := Lib.hid hs1
  clear hA hlen hs1
  unfold ordersV actV str
  go_enter Try.func4, Try.ntmps4
  go_upto_region 1 with fail
  rw [← hW1]
  clear hW1
  have p0 := box_at HQ1.out (i := 0) (by omega)
  have p1 := box_at HQ1.out (i := 1) (by omega)
  have p2 := box_at HQ1.out (i := 2) (by omega)
  go_wp2_with fail
  have hB2 := (Below.refl W1.heap.size W1).alloc (Nat.le_refl _) (.cells #[V 0, V 1, V 2] 36)
  have hsm := law12_small W1.heap.size 1 (fun _ => V) (fun _ => A) (W1.alloc (.cells #[V 0, V 1, V 2] 36)) (by simp) (by omega) (fun j hj i hi => by
    obtain rfl : j = 0 := by omega
    rw [Nat.zero_mul, Nat.zero_add]
    exact box_at (alloc_heap_new W1 _) hi) (fun j hj => HAW.out _ hB2) (fun j hj => HLEN.out)
  rw [show ((List.range 1).all fun j => smallA A) = smallA A by simp] at hsm
  have HSM := Lib.hid hsm
  have HB2 := Lib.hid hB2
  clear hsm hB2 p0 p1 p2
  generalize W1.alloc (.cells #[V 0, V 1, V 2] 36) = W2 at HSM HB2 ⊢
  refine HSM.out.mono ?_
  rintro e w3 ⟨rfl, hB⟩
  have HB3 := Lib.hid (HB2.out.trans (hB.mono HB2.out.size))
  clear hB HSM
  have hll : (l.length : Int) ≤ 9223372036854775807 := by omega
  cases hsm : smallA A with
  | false =>
    clear hsm
    go_wp2_with fail
    refine (HSANE.out _).mono ?_
    rintro e w4 ⟨rfl, hB⟩
    have HB4 := Lib.hid (HB3.out.trans (hB.mono HB3.out.size))
    clear hB
    go_wp2_with fail
    go_ret
    exact ⟨rfl, HB0.out.trans (HB4.out.mono HB0.out.size)⟩
  | true =>
    have HL250 := Lib.hid (show ∀ i, i < 3 → (A i).length ≤ 250 from fun i hi => smallA_len hsm hi)
    clear hsm
    by_cases h200 : 200 < l.length
    · have h200i : (200 : Int) < (l.length : Int) := by omega
      go_wp2_with fail
      refine (HSANE.out _).mono ?_
      rintro e w4 ⟨rfl, hB⟩
      have HB4 := Lib.hid (HB3.out.trans (hB.mono HB3.out.size))
      clear hB
      go_wp2_with fail
      go_ret
      exact ⟨rfl, HB0.out.trans (HB4.out.mono HB0.out.size)⟩
    · have h200i : ¬ (200 : Int) < (l.length : Int) := by omega
      obtain ⟨q0, q1⟩ := HBX.out w3 HB3.out
      have k0 := cell_of_heap q0 0
      have k1 := cell_of_heap q0 1
      have k2 := cell_of_heap q0 2
      have p0 := box_at q1 (i := 0) (by omega)
      have p1 := box_at q1 (i := 1) (by omega)
      have p2 := box_at q1 (i := 2) (by omega)
      simp only [List.getElem?_toArray, List.getElem?_cons_zero, List.getElem?_cons_succ] at k0 k1 k2
      have HCH := Lib.hid (fun W hA => r12_Check a b c V A W hA (fun i hi => by have := HL250.out i hi; omega))
      have HLD := Lib.hid (fun W hA => r12_Lead a b c V A p l W hA (fun i hi => by have := HL250.out i hi; omega) (by omega))
      have HCC := Lib.hid (fun V W hA => cover_Check a b c V A W hA (fun i hi => by have := HL250.out i hi; omega))
      have HCL := Lib.hid (fun V W hA => cover_Lead a b c V A p l W hA (fun i hi => by have := HL250.out i hi; omega) (by omega))
      have HCA := Lib.hid (fun V W hA => cover_Has a b c V A p l W hA (fun i hi => by have := HL250.out i hi; omega) (by omega))
      have HCE := Lib.hid (fun V W hA => cover_Euler a b c V A W hA (fun i hi => by have := HL250.out i hi; omega))
      have HKP := Lib.hid (fun W hA => law12_kept (V := V) (A := A) (w := W) hA (fun i hi => by have := HL250.out i hi; omega))
      have HRE := Lib.hid (fun he n hn W => r12_Euler a b c he n hn W)
      obtain ⟨er, her⟩ : ∃ er, er = actErr a b c A := ⟨_, rfl⟩
      obtain ⟨el, hel⟩ : ∃ el, el = ledErr a b c A p l := ⟨_, rfl⟩
      obtain ⟨lp, hlp⟩ : ∃ lp : Int, lp = if el = 0 then ((Cov.ledP (letters A) p.toNat l : Nat) : Int) else 0 := ⟨_, rfl⟩
      obtain ⟨eb, heb⟩ : ∃ eb : Bool, eb = if el = 0 then decide (((Cov.ledP (letters A) p.toNat l : Nat) : Int) = p) else false := ⟨_, rfl⟩
      obtain ⟨x1, hx1⟩ : ∃ x1, x1 = (eulOut a b c A).1 := ⟨_, rfl⟩
      obtain ⟨x2, hx2⟩ : ∃ x2, x2 = (eulOut a b c A).2 := ⟨_, rfl⟩
      rw [← her] at HCH HCC HCE
      rw [← hel, ← hlp] at HLD HCL
      rw [← hel, ← heb] at HCA
      rw [← hx1, ← hx2] at HCE
      have HER := Lib.hid (And.intro her (And.intro hel (And.intro hlp (And.intro heb (And.intro hx1 hx2)))))
      clear q0 q1 her hel hlp heb hx1 hx2
      unfold ordersV actV str at *
      go_wp2_with fail
      refine (HCH.out _ (HAW.out _ HB3.out)).mono ?_
      rintro e w4 ⟨rfl, hB⟩
      have HB4 := Lib.hid (HB3.out.trans (hB.mono HB3.out.size))
      clear hB k0 k1 k2 p0 p1 p2
      obtain ⟨q0, q1⟩ := HBX.out w4 HB4.out
      have k0 := cell_of_heap q0 0
      have k1 := cell_of_heap q0 1
      have k2 := cell_of_heap q0 2
      have p0 := box_at q1 (i := 0) (by omega)
      have p1 := box_at q1 (i := 1) (by omega)
      have p2 := box_at q1 (i := 2) (by omega)
      simp only [List.getElem?_toArray, List.getElem?_cons_zero, List.getElem?_cons_succ] at k0 k1 k2
      clear q0 q1
      go_wp2_with fail
      refine (HLD.out _ (HAW.out _ HB4.out)).mono ?_
      rintro e w5 ⟨rfl, hB⟩
      have HB5 := Lib.hid (HB4.out.trans (hB.mono HB4.out.size))
      clear hB k0 k1 k2 p0 p1 p2
      obtain ⟨q0, q1⟩ := HBX.out w5 HB5.out
      have hl := HB5.out.size
      have hs1 := HS1.out
      have g0 := fun (yy : Later w5) => ((bcell yy.h).1 w.heap.size 0 (by omega)).trans (cell_of_heap q0 0)
      have g1 := fun (yy : Later w5) => ((bcell yy.h).1 w.heap.size 1 (by omega)).trans (cell_of_heap q0 1)
      have g2 := fun (yy : Later w5) => ((bcell yy.h).1 w.heap.size 2 (by omega)).trans (cell_of_heap q0 2)
      have b0 := fun (yy : Later w5) => ((bcell yy.h).1 (w.heap.size + 1) 0 (by omega)).trans (box_at q1 (i := 0) (by omega))
      have b1 := fun (yy : Later w5) => ((bcell yy.h).1 (w.heap.size + 1) 1 (by omega)).trans (box_at q1 (i := 1) (by omega))
      have b2 := fun (yy : Later w5) => ((bcell yy.h).1 (w.heap.size + 1) 2 (by omega)).trans (box_at q1 (i := 2) (by omega))
      simp only [List.getElem?_toArray, List.getElem?_cons_zero, List.getElem?_cons_succ] at g0 g1 g2
      clear q0 q1 hl hs1
      go_upto_region 5 with fail
      refine wp_region_segs [([0, 1, 3, 4], [2, 5]), ([6, 7, 8, 9], [])] 10 (fun w' => ∃ y : Later w5, w' = y.W) ⟨⟨w5.drew, (Below.refl _ _).drew⟩, rfl⟩ (by kernel_rfl) (by kernel_rfl) ?_
      simp only [List.map_cons, List.map_nil, pickOps, List.flatMap_cons, List.flatMap_nil, List.cons_append, List.nil_append, List.take_succ_cons, List.take_zero, List.drop_succ_cons, List.drop_zero, wpSegs]
      repeat (go_big_quiet_step (fail))
      refine wpQuiet_nil ?_
      clear g0 g1 g2 b0 b1 b2
      refine wpG_step ?_
      intro K2 hK2
      go_wp2_with fail
      refine (HKP.out _ (HAW.out _ HB5.out.drew)).mono ?_
      rintro e w6 ⟨V', rfl, hA, hB⟩
      have HBa := Lib.hid (show Below w5.heap.size w5 w6 from below_undrew hB)
      have HAa := Lib.hid hA
      clear hA hB
      go_wp2_with fail
      refine ⟨⟨⟨w6, HBa.out⟩, rfl⟩, hK2 _ _ ?_⟩
      clear hK2
      refine wpG_step ?_
      intro K3 hK3
      go_wp2_with fail
      refine (HCL.out V' w6 HAa.out).mono ?_
      rintro e w7 ⟨rfl, hB⟩
      have HBb := Lib.hid (HBa.out.trans (hB.mono HBa.out.size))
      have HB7 := Lib.hid (HB5.out.trans (HBb.out.mono HB5.out.size))
      clear hB HAa
      go_wp2_with fail
      refine ⟨⟨⟨w7, HBb.out⟩, rfl⟩, hK3 _ _ ?_⟩
      clear hK3
      refine wpG_nil ?_
      repeat (go_big_quiet_step (fail))
      refine wpQuiet_nil ?_
      refine wpG_nil ?_
      clear HBa HBb
      obtain ⟨q0, q1⟩ := HBX.out w7 HB7.out
      have hl := HB7.out.size
      have hs1 := HS1.out
      have g0 := fun (yy : Later w7) => ((bcell yy.h).1 w.heap.size 0 (by omega)).trans (cell_of_heap q0 0)
      have g1 := fun (yy : Later w7) => ((bcell yy.h).1 w.heap.size 1 (by omega)).trans (cell_of_heap q0 1)
      have g2 := fun (yy : Later w7) => ((bcell yy.h).1 w.heap.size 2 (by omega)).trans (cell_of_heap q0 2)
      have b0 := fun (yy : Later w7) => ((bcell yy.h).1 (w.heap.size + 1) 0 (by omega)).trans (box_at q1 (i := 0) (by omega))
      have b1 := fun (yy : Later w7) => ((bcell yy.h).1 (w.heap.size + 1) 1 (by omega)).trans (box_at q1 (i := 1) (by omega))
      have b2 := fun (yy : Later w7) => ((bcell yy.h).1 (w.heap.size + 1) 2 (by omega)).trans (box_at q1 (i := 2) (by omega))
      simp only [List.getElem?_toArray, List.getElem?_cons_zero, List.getElem?_cons_succ] at g0 g1 g2
      clear q0 q1 hl hs1
      go_upto_region 6 with fail
      refine wp_region_segs [([0, 1, 3, 4], [2, 5]), ([6, 7, 8, 9], [])] 10 (fun w' => ∃ y : Later w7, w' = y.W) ⟨⟨w7.drew, (Below.refl _ _).drew⟩, rfl⟩ (by kernel_rfl) (by kernel_rfl) ?_
      simp only [List.map_cons, List.map_nil, pickOps, List.flatMap_cons, List.flatMap_nil, List.cons_append, List.nil_append, List.take_succ_cons, List.take_zero, List.drop_succ_cons, List.drop_zero, wpSegs]
      repeat (go_big_quiet_step (fail))
      refine wpQuiet_nil ?_
      clear g0 g1 g2 b0 b1 b2
      refine wpG_step ?_
      intro K2 hK2
      go_wp2_with fail
      refine (HKP.out _ (HAW.out _ HB7.out.drew)).mono ?_
      rintro e w8 ⟨V', rfl, hA, hB⟩
      have HBa := Lib.hid (show Below w7.heap.size w7 w8 from below_undrew hB)
      have HAa := Lib.hid hA
      clear hA hB
      go_wp2_with fail
      refine ⟨⟨⟨w8, HBa.out⟩, rfl⟩, hK2 _ _ ?_⟩
      clear hK2
      refine wpG_step ?_
      intro K3 hK3
      go_wp2_with fail
      refine (HCA.out V' w8 HAa.out).mono ?_
      rintro e w9 ⟨rfl, hB⟩
      have HBb := Lib.hid (HBa.out.trans (hB.mono HBa.out.size))
      have HB9 := Lib.hid (HB7.out.trans (HBb.out.mono HB7.out.size))
      clear hB HAa
      go_wp2_with fail
      refine ⟨⟨⟨w9, HBb.out⟩, rfl⟩, hK3 _ _ ?_⟩
      clear hK3
      refine wpG_nil ?_
      repeat (go_big_quiet_step (fail))
      refine wpQuiet_nil ?_
      refine wpG_nil ?_
      clear HBa HBb
      go_upto_region 7 with fail
      go_cut [16, 17] from 57 to 63 (fun xv ev wx => ∃ bx, xv = .pointer (some ⟨bx, 0, none⟩) ∧ ev = .int .i64 er ∧ Hid (wx.heap[bx]? = some (.cells #[.int .i64 x1, .int .i64 x2] 48) ∧ Below W1.heap.size W1 wx))
      case first =>
        obtain ⟨q0, q1⟩ := HBX.out w9 HB9.out
        have hl := HB9.out.size
        have hs1 := HS1.out
        have g0 := fun (yy : Later w9) => ((bcell yy.h).1 w.heap.size 0 (by omega)).trans (cell_of_heap q0 0)
        have g1 := fun (yy : Later w9) => ((bcell yy.h).1 w.heap.size 1 (by omega)).trans (cell_of_heap q0 1)
        have g2 := fun (yy : Later w9) => ((bcell yy.h).1 w.heap.size 2 (by omega)).trans (cell_of_heap q0 2)
        have b0 := fun (yy : Later w9) => ((bcell yy.h).1 (w.heap.size + 1) 0 (by omega)).trans (box_at q1 (i := 0) (by omega))
        have b1 := fun (yy : Later w9) => ((bcell yy.h).1 (w.heap.size + 1) 1 (by omega)).trans (box_at q1 (i := 1) (by omega))
        have b2 := fun (yy : Later w9) => ((bcell yy.h).1 (w.heap.size + 1) 2 (by omega)).trans (box_at q1 (i := 2) (by omega))
        simp only [List.getElem?_toArray, List.getElem?_cons_zero, List.getElem?_cons_succ] at g0 g1 g2
        clear q0 q1 hl hs1
        refine wp_region_plan (.pick [0, 1] (.fork 2 (.fork 3 (.pick [4, 5, 6] (.seq [7, 8] .fin)) 7 (.seq [3] (.pick [4, 5, 6] (.seq [8] .fin)))) 7 (.seq [2, 3] (.pick [4, 5, 6] (.seq [8] .fin))))) 9 (fun w' => ∃ y : Later w9, w' = y.W) ⟨⟨w9.drew, (Below.refl _ _).drew⟩, rfl⟩ (by kernel_rfl) (by kernel_rfl) ?_
        simp only [wpPlan, pickOps, List.map_cons, List.map_nil, List.flatMap_cons, List.flatMap_nil, List.cons_append, List.nil_append, List.take_succ_cons, List.take_zero, List.drop_succ_cons, List.drop_zero]
        repeat (go_big_quiet_step (fail))
        refine wpQuiet_nil ?_
        clear g0 g1 g2 b0 b1 b2
        refine ⟨?_, ?_⟩
        · refine wpG_step ?_
          intro K2 hK2
          go_wp2_with fail
          refine (HKP.out _ (HAW.out _ HB9.out.drew)).mono ?_
          rintro e w10 ⟨V', rfl, hA, hB⟩
          have HBa := Lib.hid (show Below w9.heap.size w9 w10 from below_undrew hB)
          have HAa := Lib.hid hA
          clear hA hB
          go_wp2_with fail
          refine ⟨⟨⟨w10, HBa.out⟩, rfl⟩, hK2 _ _ ?_⟩
          clear hK2
          refine wpG_nil ?_
          refine ⟨?_, ?_⟩
          · refine wpG_step ?_
            intro K3 hK3
            go_wp2_with fail
            refine (HCE.out V' w10 HAa.out).mono ?_
            rintro e w11 ⟨rfl, hB⟩
            have HBb := Lib.hid (HBa.out.trans (hB.mono HBa.out.size))
            clear hB
            go_wp2_with fail
            refine ⟨⟨⟨w11, HBb.out⟩, rfl⟩, hK3 _ _ ?_⟩
            clear hK3
            refine wpG_nil ?_
            repeat (go_big_quiet_step (fail))
            refine wpQuiet_nil ?_
            refine wpG_step ?_
            intro K4 hK4
            go_wp2_with fail
            obtain ⟨bx, hbx⟩ : ∃ bx, bx = w11.heap.size := ⟨_, rfl⟩
            have hqx := alloc_heap_new w11 (.cells #[.int .i64 0, .int .i64 0] 48)
            have HBY := Lib.hid (show w9.heap.size ≤ bx from by rw [hbx]; exact HBb.out.size)
            have HBb := Lib.hid (HBb.out.alloc HBb.out.size (.cells #[.int .i64 0, .int .i64 0] 48))
            rw [← hbx] at hqx ⊢
            clear hbx
            generalize w11.alloc (.cells #[.int .i64 0, .int .i64 0] 48) = w12 at hqx HBb ⊢
            refine ⟨⟨⟨w12, HBb.out⟩, rfl⟩, hK4 _ _ ?_⟩
            clear hK4
            have c0 := cell_of_heap hqx 0
            have c1 := cell_of_heap hqx 1
            have f0 := free_of_heap hqx 0
            have f1 := free_of_heap hqx 1
            simp only [List.getElem?_toArray, List.getElem?_cons_zero, List.getElem?_cons_succ] at c0 c1 f0 f1
            have HQX := Lib.hid hqx
            clear hqx
            refine wpG_step ?_
            intro K5 hK5
            go_wp2_with fail
            have HFIN := Lib.hid (And.intro (heap_setCell_same _ bx 1 _ _ (.int .i64 x2) (heap_setCell_same w12 bx 0 _ _ (.int .i64 x1) HQX.out)) (HBb.out.trans (((only_one w12 bx 0 (.int .i64 x1)).trans (only_one _ _ 1 (.int .i64 x2))).below (fun k hk => by have := HBY.out; omega))))
            refine ⟨⟨⟨_, HFIN.out.2⟩, rfl⟩, hK5 _ _ ?_⟩
            clear hK5
            refine wpG_nil ?_
            go_wp2_with fail
            go_meet
            refine ⟨bx, rfl, rfl, Lib.hid ⟨?_, HB9.out.trans (HFIN.out.2.mono HB9.out.size)⟩⟩
            simpa using HFIN.out.1
          · refine wpG_step ?_
            intro K3 hK3
            go_wp2_with fail
            obtain ⟨bx, hbx⟩ : ∃ bx, bx = w10.heap.size := ⟨_, rfl⟩
            have hqx := alloc_heap_new w10 (.cells #[.int .i64 0, .int .i64 0] 48)
            have HBc := Lib.hid (HBa.out.alloc HBa.out.size (.cells #[.int .i64 0, .int .i64 0] 48))
            have HBY := Lib.hid (show w9.heap.size ≤ bx from by rw [hbx]; exact HBa.out.size)
            have HAc := Lib.hid (show AR (w10.alloc (.cells #[.int .i64 0, .int .i64 0] 48)).heap.size (w10.alloc (.cells #[.int .i64 0, .int .i64 0] 48)) V' A from fun i hi => ((HAa.out i hi).below ((Below.refl _ w10).alloc (Nat.le_refl _) _)).more (by simp))
            rw [← hbx] at hqx ⊢
            clear hbx
            generalize w10.alloc (.cells #[.int .i64 0, .int .i64 0] 48) = w11 at hqx HBc HAc ⊢
            refine ⟨⟨⟨w11, HBc.out⟩, rfl⟩, hK3 _ _ ?_⟩
            clear hK3
            refine wpG_nil ?_
            refine wpG_step ?_
            intro K4 hK4
            go_wp2_with fail
            refine (HCE.out V' w11 HAc.out).mono ?_
            rintro e w12 ⟨rfl, hB⟩
            have HBb := Lib.hid (HBc.out.trans (hB.mono HBc.out.size))
            have HBZ := Lib.hid (HB9.out.trans (HBb.out.mono HB9.out.size))
            have hqy := (hB.block _ (Array.getElem?_eq_some_iff.1 hqx).1).trans hqx
            clear hB hqx
            go_wp2_with fail
            refine ⟨⟨⟨w12, HBb.out⟩, rfl⟩, hK4 _ _ ?_⟩
            clear hK4
            refine wpG_nil ?_
            repeat (go_big_quiet_step (fail))
            refine wpQuiet_nil ?_
            have c0 := cell_of_heap hqy 0
            have c1 := cell_of_heap hqy 1
            have f0 := free_of_heap hqy 0
            have f1 := free_of_heap hqy 1
            simp only [List.getElem?_toArray, List.getElem?_cons_zero, List.getElem?_cons_succ] at c0 c1 f0 f1
            have HQX := Lib.hid hqy
            clear hqy
            refine wpG_step ?_
            intro K5 hK5
            go_wp2_with fail
            have HFIN := Lib.hid (And.intro (heap_setCell_same _ bx 1 _ _ (.int .i64 x2) (heap_setCell_same w12 bx 0 _ _ (.int .i64 x1) HQX.out)) (HBb.out.trans (((only_one w12 bx 0 (.int .i64 x1)).trans (only_one _ _ 1 (.int .i64 x2))).below (fun k hk => by have := HBY.out; omega))))
            refine ⟨⟨⟨_, HFIN.out.2⟩, rfl⟩, hK5 _ _ ?_⟩
            clear hK5
            refine wpG_nil ?_
            go_wp2_with fail
            go_meet
            refine ⟨bx, rfl, rfl, Lib.hid ⟨?_, HB9.out.trans (HFIN.out.2.mono HB9.out.size)⟩⟩
            simpa using HFIN.out.1
        · refine wpG_step ?_
          intro K2 hK2
          go_wp2_with fail
          obtain ⟨bx, hbx⟩ : ∃ bx, bx = w9.heap.size := ⟨_, rfl⟩
          have hqx := alloc_heap_new w9 (.cells #[.int .i64 0, .int .i64 0] 48)
          have HBc := Lib.hid (show Below w9.heap.size w9 (w9.alloc (.cells #[.int .i64 0, .int .i64 0] 48)).drew from ((Below.refl _ w9).alloc (Nat.le_refl _) _).drew)
          have HBY := Lib.hid (show w9.heap.size ≤ bx from by rw [hbx]; exact Nat.le_refl _)
          have hqx' : (w9.alloc (.cells #[.int .i64 0, .int .i64 0] 48)).drew.heap[w9.heap.size]? = some (.cells #[.int .i64 0, .int .i64 0] 48) := hqx
          rw [← hbx] at hqx' ⊢
          clear hbx hqx
          refine ⟨⟨⟨_, HBc.out⟩, rfl⟩, hK2 _ _ ?_⟩
          clear hK2
          generalize (w9.alloc (.cells #[.int .i64 0, .int .i64 0] 48)).drew = w10 at hqx' HBc ⊢
          refine wpG_nil ?_
          refine wpG_step ?_
          intro K3 hK3
          go_wp2_with fail
          refine (HKP.out _ (HAW.out _ (HB9.out.trans (HBc.out.mono HB9.out.size)))).mono ?_
          rintro e w11 ⟨V', rfl, hA, hB⟩
          have HBa := Lib.hid (HBc.out.trans (hB.mono HBc.out.size))
          have hqy := (hB.block _ (Array.getElem?_eq_some_iff.1 hqx').1).trans hqx'
          have HAa := Lib.hid hA
          clear hA hB hqx'
          go_wp2_with fail
          refine ⟨⟨⟨w11, HBa.out⟩, rfl⟩, hK3 _ _ ?_⟩
          clear hK3
          refine wpG_step ?_
          intro K4 hK4
          go_wp2_with fail
          refine (HCE.out V' w11 HAa.out).mono ?_
          rintro e w12 ⟨rfl, hB⟩
          have HBb := Lib.hid (HBa.out.trans (hB.mono HBa.out.size))
          have HBZ := Lib.hid (HB9.out.trans (HBb.out.mono HB9.out.size))
          have hqz := (hB.block _ (Array.getElem?_eq_some_iff.1 hqy).1).trans hqy
          clear hB hqy
          go_wp2_with fail
          refine ⟨⟨⟨w12, HBb.out⟩, rfl⟩, hK4 _ _ ?_⟩
          clear hK4
          refine wpG_nil ?_
          repeat (go_big_quiet_step (fail))
          refine wpQuiet_nil ?_
          have c0 := cell_of_heap hqz 0
          have c1 := cell_of_heap hqz 1
          have f0 := free_of_heap hqz 0
          have f1 := free_of_heap hqz 1
          simp only [List.getElem?_toArray, List.getElem?_cons_zero, List.getElem?_cons_succ] at c0 c1 f0 f1
          have HQX := Lib.hid hqz
          clear hqz
          refine wpG_step ?_
          intro K5 hK5
          go_wp2_with fail
          have HFIN := Lib.hid (And.intro (heap_setCell_same _ bx 1 _ _ (.int .i64 x2) (heap_setCell_same w12 bx 0 _ _ (.int .i64 x1) HQX.out)) (HBb.out.trans (((only_one w12 bx 0 (.int .i64 x1)).trans (only_one _ _ 1 (.int .i64 x2))).below (fun k hk => by have := HBY.out; omega))))
          refine ⟨⟨⟨_, HFIN.out.2⟩, rfl⟩, hK5 _ _ ?_⟩
          clear hK5
          refine wpG_nil ?_
          go_wp2_with fail
          go_meet
          refine ⟨bx, rfl, rfl, Lib.hid ⟨?_, HB9.out.trans (HFIN.out.2.mono HB9.out.size)⟩⟩
          simpa using HFIN.out.1
      case rest =>
        rename World => wx
        obtain ⟨bx, rfl, rfl, HX⟩ := hcut
        obtain ⟨q0, q1⟩ := HBX.out wx HX.out.2
        have hl := HX.out.2.size
        have hs1 := HS1.out
        have hbs := (Array.getElem?_eq_some_iff.1 HX.out.1).1
        have g0 := fun (yy : Later wx) => ((bcell yy.h).1 w.heap.size 0 (by omega)).trans (cell_of_heap q0 0)
        have g1 := fun (yy : Later wx) => ((bcell yy.h).1 w.heap.size 1 (by omega)).trans (cell_of_heap q0 1)
        have g2 := fun (yy : Later wx) => ((bcell yy.h).1 w.heap.size 2 (by omega)).trans (cell_of_heap q0 2)
        have b0 := fun (yy : Later wx) => ((bcell yy.h).1 (w.heap.size + 1) 0 (by omega)).trans (box_at q1 (i := 0) (by omega))
        have b1 := fun (yy : Later wx) => ((bcell yy.h).1 (w.heap.size + 1) 1 (by omega)).trans (box_at q1 (i := 1) (by omega))
        have b2 := fun (yy : Later wx) => ((bcell yy.h).1 (w.heap.size + 1) 2 (by omega)).trans (box_at q1 (i := 2) (by omega))
        simp only [List.getElem?_toArray, List.getElem?_cons_zero, List.getElem?_cons_succ] at g0 g1 g2
        clear q0 q1 hl hs1 hbs
        go_upto_region 8 with fail
        refine wp_region_segs [([0, 1, 4], [2, 3]), ([5, 6, 7, 8, 9, 10, 11, 12, 13, 14, 15, 16, 17, 18, 19, 20, 21, 22, 23, 24, 25, 26, 27, 28, 29, 30, 31, 32, 33, 34, 35], [])] 36 (fun w' => ∃ y : Later wx, w' = y.W) ⟨⟨wx.drew, (Below.refl _ _).drew⟩, rfl⟩ (by kernel_rfl) (by kernel_rfl) ?_
        simp only [List.map_cons, List.map_nil, pickOps, List.flatMap_cons, List.flatMap_nil, List.cons_append, List.nil_append, List.take_succ_cons, List.take_zero, List.drop_succ_cons, List.drop_zero, wpSegs]
        repeat (go_big_quiet_step (fail))
        refine wpQuiet_nil ?_
        clear g0 g1 g2 b0 b1 b2
        refine wpG_step ?_
        intro K2 hK2
        go_wp2_with fail
        refine (HKP.out _ (HAW.out _ HX.out.2.drew)).mono ?_
        rintro e w13 ⟨V', rfl, hA, hB⟩
        have HBa := Lib.hid (show Below wx.heap.size wx w13 from below_undrew hB)
        have HAa := Lib.hid hA
        clear hA hB
        go_wp2_with fail
        refine ⟨⟨⟨w13, HBa.out⟩, rfl⟩, hK2 _ _ ?_⟩
        clear hK2
        refine wpG_step ?_
        intro K3 hK3
        go_wp2_with fail
        refine (HCC.out V' w13 HAa.out).mono ?_
        rintro e w14 ⟨rfl, hB⟩
        have HBb := Lib.hid (HBa.out.trans (hB.mono HBa.out.size))
        have HBZ := Lib.hid (HX.out.2.trans (HBb.out.mono HX.out.2.size))
        have HXX := Lib.hid ((HBb.out.block _ (Array.getElem?_eq_some_iff.1 HX.out.1).1).trans HX.out.1)
        clear hB HAa
        go_wp2_with fail
        refine ⟨⟨⟨w14, HBb.out⟩, rfl⟩, hK3 _ _ ?_⟩
        clear hK3
        refine wpG_nil ?_
        clear HBa HBb
        have HC3 : (el = 0 ∧ lp = p ∧ eb = true) ∨ (el = 0 ∧ lp ≠ p ∧ eb = false) ∨ (el ≠ 0 ∧ eb = false) := by
          obtain ⟨-, -, hlp, heb, -, -⟩ := id HER.out
          by_cases h : el = 0
          · rw [if_pos h] at hlp heb
            by_cases h' : lp = p
            · exact Or.inl ⟨h, h', by rw [heb, decide_eq_true_eq, ← hlp]; exact h'⟩
            · exact Or.inr (Or.inl ⟨h, h', by rw [heb, decide_eq_false_iff_not, ← hlp]; exact h'⟩)
          · rw [if_neg h] at heb
            exact Or.inr (Or.inr ⟨h, heb⟩)
        clear HCL HCA HLD
        rcases HC3 with ⟨h0, h1, rfl⟩ | ⟨h0, h1, rfl⟩ | ⟨h0, rfl⟩
        · have hz1 : (el == 0) = true := by simp [h0]
          have hz2 : (lp == p) = true := by simp [h1]
          repeat (go_big_quiet_step (fail))
          refine wpQuiet_nil ?_
          refine wpG_nil ?_
          go_upto_region 10 with fail
          obtain ⟨q0, q1⟩ := HBX.out w14 HBZ.out
          have hl := HBZ.out.size
          have hs1 := HS1.out
          have hbs := (Array.getElem?_eq_some_iff.1 HXX.out).1
          have g0 := fun (yy : Later w14) => ((bcell yy.h).1 w.heap.size 0 (by omega)).trans (cell_of_heap q0 0)
          have g1 := fun (yy : Later w14) => ((bcell yy.h).1 w.heap.size 1 (by omega)).trans (cell_of_heap q0 1)
          have g2 := fun (yy : Later w14) => ((bcell yy.h).1 w.heap.size 2 (by omega)).trans (cell_of_heap q0 2)
          have b0 := fun (yy : Later w14) => ((bcell yy.h).1 (w.heap.size + 1) 0 (by omega)).trans (box_at q1 (i := 0) (by omega))
          have c0 := fun (yy : Later w14) => ((bcell yy.h).1 bx 0 hbs).trans (cell_of_heap HXX.out 0)
          have c1 := fun (yy : Later w14) => ((bcell yy.h).1 bx 1 hbs).trans (cell_of_heap HXX.out 1)
          simp only [List.getElem?_toArray, List.getElem?_cons_zero, List.getElem?_cons_succ] at g0 g1 g2 c0 c1
          clear q0 q1 hl hs1 hbs
          by_cases her0 : er = 0
          · obtain ⟨q1, q2, q3, q4, q5, q6⟩ := id HER.out
            obtain ⟨hord, hsh, hwh⟩ := actErr_zero (q1.symm.trans her0)
            have HAZ := HAW.out _ HBZ.out
            obtain ⟨av, cv, hv0, -⟩ := HAZ 0 (by omega)
            have hn200 : (A 0).length ≤ 200 := hsh.1.2.1
            rw [hv0] at b0
            obtain ⟨n0, hn0⟩ : ∃ n0, n0 = (A 0).length := ⟨_, rfl⟩
            rw [← hn0] at b0 hn200
            have HEU := Lib.hid (fun W => HRE.out hord n0 hn200 W)
            have hxx : eulOut a b c A = Cov.eulS n0 [a, b, c] := by unfold eulOut; rw [if_pos (q1.symm.trans her0), ← hn0]
            rw [hxx] at q5 q6
            rw [← q5, ← q6] at HEU
            have hef : ∀ W : World, (binOp .eql 48 (.agg #[.int .i64 x1, .int .i64 x2]) (.agg #[.int .i64 x1, .int .i64 x2])).run Try.prog W = .ok (.bool true) W := fun W => by
              have := eql_frac x1 x1 x2 x2 W
              simpa using this
            clear q1 q2 q3 q4 q5 q6 hxx hn0 HAZ hsh hwh hord
            go_upto_region 12 with fail
            refine wp_region_segs [([], [0]), ([1, 2, 3, 4, 5, 6, 7], [8]), ([9], [])] 10 (fun w' => ∃ y : Later w14, w' = y.W) ⟨⟨w14.drew, (Below.refl _ _).drew⟩, rfl⟩ (by kernel_rfl) (by kernel_rfl) ?_
            simp only [List.map_cons, List.map_nil, pickOps, List.flatMap_cons, List.flatMap_nil, List.cons_append, List.nil_append, List.take_succ_cons, List.take_zero, List.drop_succ_cons, List.drop_zero, wpSegs]
            refine wpQuiet_nil ?_
            refine wpG_step ?_
            intro K2 hK2
            go_wp2_with fail
            refine (HSANE.out _).mono ?_
            rintro e w15 ⟨rfl, hB⟩
            have HBa := Lib.hid (below_undrew hB)
            clear hB
            go_wp2_with fail
            refine ⟨⟨⟨w15, HBa.out⟩, rfl⟩, hK2 _ _ ?_⟩
            clear hK2
            refine wpG_nil ?_
            repeat (go_big_quiet_step (fail))
            refine wpQuiet_nil ?_
            refine wpG_step ?_
            intro K3 hK3
            go_wp2_with fail
            refine (HEU.out _).mono ?_
            rintro e w16 ⟨rfl, hB⟩
            have HBb := Lib.hid (HBa.out.trans (hB.mono HBa.out.size))
            clear hB
            go_wp2_with fail
            refine ⟨⟨⟨w16, HBb.out⟩, rfl⟩, hK3 _ _ ?_⟩
            clear hK3
            refine wpG_nil ?_
            repeat (go_big_quiet_step (fail))
            refine wpQuiet_nil ?_
            refine wpG_nil ?_
            clear g0 g1 g2 b0 c0 c1
            go_wp2_with fail
            go_ret
            exact ⟨rfl, HB0.out.trans ((HBZ.out.trans (HBb.out.mono HBZ.out.size)).mono HB0.out.size)⟩
          · obtain ⟨q1, q2, q3, q4, q5, q6⟩ := id HER.out
            have hxx : eulOut a b c A = (0, 0) := by unfold eulOut; rw [if_neg (fun h => her0 (q1.trans h))]
            rw [hxx] at q5 q6
            subst q5 q6
            have hef : ∀ W : World, (binOp .eql 48 (.agg #[.int .i64 0, .int .i64 0]) (.agg #[.int .i64 0, .int .i64 0])).run Try.prog W = .ok (.bool true) W := fun W => by
              have := eql_frac 0 0 0 0 W
              simpa using this
            clear q1 q2 q3 q4 hxx g0 g1 g2 b0
            go_upto_region 11 with fail
            go_wp2_with fail
            refine (HSANE.out _).mono ?_
            rintro e w15 ⟨rfl, hB⟩
            have r0 := c0 ⟨w15, hB⟩
            have r1 := c1 ⟨w15, hB⟩
            simp only [] at r0 r1
            have HBa := Lib.hid hB
            clear hB c0 c1
            go_wp2_with fail
            go_ret
            exact ⟨rfl, HB0.out.trans ((HBZ.out.trans (HBa.out.mono HBZ.out.size)).mono HB0.out.size)⟩
        · have hz1 : (el == 0) = true := by simp [h0]
          have hz2 : (lp == p) = false := by simp [h1]
          repeat (go_big_quiet_step (fail))
          refine wpQuiet_nil ?_
          refine wpG_nil ?_
          go_upto_region 10 with fail
          obtain ⟨q0, q1⟩ := HBX.out w14 HBZ.out
          have hl := HBZ.out.size
          have hs1 := HS1.out
          have hbs := (Array.getElem?_eq_some_iff.1 HXX.out).1
          have g0 := fun (yy : Later w14) => ((bcell yy.h).1 w.heap.size 0 (by omega)).trans (cell_of_heap q0 0)
          have g1 := fun (yy : Later w14) => ((bcell yy.h).1 w.heap.size 1 (by omega)).trans (cell_of_heap q0 1)
          have g2 := fun (yy : Later w14) => ((bcell yy.h).1 w.heap.size 2 (by omega)).trans (cell_of_heap q0 2)
          have b0 := fun (yy : Later w14) => ((bcell yy.h).1 (w.heap.size + 1) 0 (by omega)).trans (box_at q1 (i := 0) (by omega))
          have c0 := fun (yy : Later w14) => ((bcell yy.h).1 bx 0 hbs).trans (cell_of_heap HXX.out 0)
          have c1 := fun (yy : Later w14) => ((bcell yy.h).1 bx 1 hbs).trans (cell_of_heap HXX.out 1)
          simp only [List.getElem?_toArray, List.getElem?_cons_zero, List.getElem?_cons_succ] at g0 g1 g2 c0 c1
          clear q0 q1 hl hs1 hbs
          by_cases her0 : er = 0
          · obtain ⟨q1, q2, q3, q4, q5, q6⟩ := id HER.out
            obtain ⟨hord, hsh, hwh⟩ := actErr_zero (q1.symm.trans her0)
            have HAZ := HAW.out _ HBZ.out
            obtain ⟨av, cv, hv0, -⟩ := HAZ 0 (by omega)
            have hn200 : (A 0).length ≤ 200 := hsh.1.2.1
            rw [hv0] at b0
            obtain ⟨n0, hn0⟩ : ∃ n0, n0 = (A 0).length := ⟨_, rfl⟩
            rw [← hn0] at b0 hn200
            have HEU := Lib.hid (fun W => HRE.out hord n0 hn200 W)
            have hxx : eulOut a b c A = Cov.eulS n0 [a, b, c] := by unfold eulOut; rw [if_pos (q1.symm.trans her0), ← hn0]
            rw [hxx] at q5 q6
            rw [← q5, ← q6] at HEU
            have hef : ∀ W : World, (binOp .eql 48 (.agg #[.int .i64 x1, .int .i64 x2]) (.agg #[.int .i64 x1, .int .i64 x2])).run Try.prog W = .ok (.bool true) W := fun W => by
              have := eql_frac x1 x1 x2 x2 W
              simpa using this
            clear q1 q2 q3 q4 q5 q6 hxx hn0 HAZ hsh hwh hord
            go_upto_region 12 with fail
            refine wp_region_segs [([], [0]), ([1, 2, 3, 4, 5, 6, 7], [8]), ([9], [])] 10 (fun w' => ∃ y : Later w14, w' = y.W) ⟨⟨w14.drew, (Below.refl _ _).drew⟩, rfl⟩ (by kernel_rfl) (by kernel_rfl) ?_
            simp only [List.map_cons, List.map_nil, pickOps, List.flatMap_cons, List.flatMap_nil, List.cons_append, List.nil_append, List.take_succ_cons, List.take_zero, List.drop_succ_cons, List.drop_zero, wpSegs]
            refine wpQuiet_nil ?_
            refine wpG_step ?_
            intro K2 hK2
            go_wp2_with fail
            refine (HSANE.out _).mono ?_
            rintro e w15 ⟨rfl, hB⟩
            have HBa := Lib.hid (below_undrew hB)
            clear hB
            go_wp2_with fail
            refine ⟨⟨⟨w15, HBa.out⟩, rfl⟩, hK2 _ _ ?_⟩
            clear hK2
            refine wpG_nil ?_
            repeat (go_big_quiet_step (fail))
            refine wpQuiet_nil ?_
            refine wpG_step ?_
            intro K3 hK3
            go_wp2_with fail
            refine (HEU.out _).mono ?_
            rintro e w16 ⟨rfl, hB⟩
            have HBb := Lib.hid (HBa.out.trans (hB.mono HBa.out.size))
            clear hB
            go_wp2_with fail
            refine ⟨⟨⟨w16, HBb.out⟩, rfl⟩, hK3 _ _ ?_⟩
            clear hK3
            refine wpG_nil ?_
            repeat (go_big_quiet_step (fail))
            refine wpQuiet_nil ?_
            refine wpG_nil ?_
            clear g0 g1 g2 b0 c0 c1
            go_wp2_with fail
            go_ret
            exact ⟨rfl, HB0.out.trans ((HBZ.out.trans (HBb.out.mono HBZ.out.size)).mono HB0.out.size)⟩
          · obtain ⟨q1, q2, q3, q4, q5, q6⟩ := id HER.out
            have hxx : eulOut a b c A = (0, 0) := by unfold eulOut; rw [if_neg (fun h => her0 (q1.trans h))]
            rw [hxx] at q5 q6
            subst q5 q6
            have hef : ∀ W : World, (binOp .eql 48 (.agg #[.int .i64 0, .int .i64 0]) (.agg #[.int .i64 0, .int .i64 0])).run Try.prog W = .ok (.bool true) W := fun W => by
              have := eql_frac 0 0 0 0 W
              simpa using this
            clear q1 q2 q3 q4 hxx g0 g1 g2 b0
            go_upto_region 11 with fail
            go_wp2_with fail
            refine (HSANE.out _).mono ?_
            rintro e w15 ⟨rfl, hB⟩
            have r0 := c0 ⟨w15, hB⟩
            have r1 := c1 ⟨w15, hB⟩
            simp only [] at r0 r1
            have HBa := Lib.hid hB
            clear hB c0 c1
            go_wp2_with fail
            go_ret
            exact ⟨rfl, HB0.out.trans ((HBZ.out.trans (HBa.out.mono HBZ.out.size)).mono HB0.out.size)⟩
        · have hz1 : (el == 0) = false := by simp [h0]
          repeat (go_big_quiet_step (fail))
          refine wpQuiet_nil ?_
          refine wpG_nil ?_
          go_upto_region 10 with fail
          obtain ⟨q0, q1⟩ := HBX.out w14 HBZ.out
          have hl := HBZ.out.size
          have hs1 := HS1.out
          have hbs := (Array.getElem?_eq_some_iff.1 HXX.out).1
          have g0 := fun (yy : Later w14) => ((bcell yy.h).1 w.heap.size 0 (by omega)).trans (cell_of_heap q0 0)
          have g1 := fun (yy : Later w14) => ((bcell yy.h).1 w.heap.size 1 (by omega)).trans (cell_of_heap q0 1)
          have g2 := fun (yy : Later w14) => ((bcell yy.h).1 w.heap.size 2 (by omega)).trans (cell_of_heap q0 2)
          have b0 := fun (yy : Later w14) => ((bcell yy.h).1 (w.heap.size + 1) 0 (by omega)).trans (box_at q1 (i := 0) (by omega))
          have c0 := fun (yy : Later w14) => ((bcell yy.h).1 bx 0 hbs).trans (cell_of_heap HXX.out 0)
          have c1 := fun (yy : Later w14) => ((bcell yy.h).1 bx 1 hbs).trans (cell_of_heap HXX.out 1)
          simp only [List.getElem?_toArray, List.getElem?_cons_zero, List.getElem?_cons_succ] at g0 g1 g2 c0 c1
          clear q0 q1 hl hs1 hbs
          by_cases her0 : er = 0
          · obtain ⟨q1, q2, q3, q4, q5, q6⟩ := id HER.out
            obtain ⟨hord, hsh, hwh⟩ := actErr_zero (q1.symm.trans her0)
            have HAZ := HAW.out _ HBZ.out
            obtain ⟨av, cv, hv0, -⟩ := HAZ 0 (by omega)
            have hn200 : (A 0).length ≤ 200 := hsh.1.2.1
            rw [hv0] at b0
            obtain ⟨n0, hn0⟩ : ∃ n0, n0 = (A 0).length := ⟨_, rfl⟩
            rw [← hn0] at b0 hn200
            have HEU := Lib.hid (fun W => HRE.out hord n0 hn200 W)
            have hxx : eulOut a b c A = Cov.eulS n0 [a, b, c] := by unfold eulOut; rw [if_pos (q1.symm.trans her0), ← hn0]
            rw [hxx] at q5 q6
            rw [← q5, ← q6] at HEU
            have hef : ∀ W : World, (binOp .eql 48 (.agg #[.int .i64 x1, .int .i64 x2]) (.agg #[.int .i64 x1, .int .i64 x2])).run Try.prog W = .ok (.bool true) W := fun W => by
              have := eql_frac x1 x1 x2 x2 W
              simpa using this
            clear q1 q2 q3 q4 q5 q6 hxx hn0 HAZ hsh hwh hord
            go_upto_region 12 with fail
            refine wp_region_segs [([], [0]), ([1, 2, 3, 4, 5, 6, 7], [8]), ([9], [])] 10 (fun w' => ∃ y : Later w14, w' = y.W) ⟨⟨w14.drew, (Below.refl _ _).drew⟩, rfl⟩ (by kernel_rfl) (by kernel_rfl) ?_
            simp only [List.map_cons, List.map_nil, pickOps, List.flatMap_cons, List.flatMap_nil, List.cons_append, List.nil_append, List.take_succ_cons, List.take_zero, List.drop_succ_cons, List.drop_zero, wpSegs]
            refine wpQuiet_nil ?_
            refine wpG_step ?_
            intro K2 hK2
            go_wp2_with fail
            refine (HSANE.out _).mono ?_
            rintro e w15 ⟨rfl, hB⟩
            have HBa := Lib.hid (below_undrew hB)
            clear hB
            go_wp2_with fail
            refine ⟨⟨⟨w15, HBa.out⟩, rfl⟩, hK2 _ _ ?_⟩
            clear hK2
            refine wpG_nil ?_
            repeat (go_big_quiet_step (fail))
            refine wpQuiet_nil ?_
            refine wpG_step ?_
            intro K3 hK3
            go_wp2_with fail
            refine (HEU.out _).mono ?_
            rintro e w16 ⟨rfl, hB⟩
            have HBb := Lib.hid (HBa.out.trans (hB.mono HBa.out.size))
            clear hB
            go_wp2_with fail
            refine ⟨⟨⟨w16, HBb.out⟩, rfl⟩, hK3 _ _ ?_⟩
            clear hK3
            refine wpG_nil ?_
            repeat (go_big_quiet_step (fail))
            refine wpQuiet_nil ?_
            refine wpG_nil ?_
            clear g0 g1 g2 b0 c0 c1
            go_wp2_with fail
            go_ret
            exact ⟨rfl, HB0.out.trans ((HBZ.out.trans (HBb.out.mono HBZ.out.size)).mono HB0.out.size)⟩
          · obtain ⟨q1, q2, q3, q4, q5, q6⟩ := id HER.out
            have hxx : eulOut a b c A = (0, 0) := by unfold eulOut; rw [if_neg (fun h => her0 (q1.trans h))]
            rw [hxx] at q5 q6
            subst q5 q6
            have hef : ∀ W : World, (binOp .eql 48 (.agg #[.int .i64 0, .int .i64 0]) (.agg #[.int .i64 0, .int .i64 0])).run Try.prog W = .ok (.bool true) W := fun W => by
              have := eql_frac 0 0 0 0 W
              simpa using this
            clear q1 q2 q3 q4 hxx g0 g1 g2 b0
            go_upto_region 11 with fail
            go_wp2_with fail
            refine (HSANE.out _).mono ?_
            rintro e w15 ⟨rfl, hB⟩
            have r0 := c0 ⟨w15, hB⟩
            have r1 := c1 ⟨w15, hB⟩
            simp only [] at r0 r1
            have HBa := Lib.hid hB
            clear hB c0 c1
            go_wp2_with fail
            go_ret
            exact ⟨rfl, HB0.out.trans ((HBZ.out.trans (HBa.out.mono HBZ.out.size)).mono HB0.out.size)⟩
end Go.Proofs.Ytfdklmpkienfhaa
