/- Package cover: Normal. -/
import Derived.Test.YtfdklmpkienfhaaGreatK24
namespace Go.Proofs.YtfdklmpkienfhaaGreat
set_option linter.unusedSimpArgs false
set_option linter.unusedVariables false
open Go.RowKit

/-- Have all points the same code? -/
def normA (A : Nat → List Int) : Bool := (List.range (A 0).length).all fun p => decide (canC A p = canC A 0)

set_option maxRecDepth 100000 in
set_option maxHeartbeats 4000000 in
theorem cover_Normal (a b c : Int) (V : Nat → Value) (A : Nat → List Int) (w : World) (hA : AR w.heap.size w V A) (hlen : ∀ i, i < 3 → (A i).length ≤ 1000000000) :
    Calls Tryz.prog 20 #[ordersV a b c, actV V] w fun e w' => e = .returned (.tuple #[.bool (if actErr a b c A = 0 then normA A else false), .int .i64 (actErr a b c A)]) ∧ Below w.heap.size w w' := by
  have HCH := Lib.hid (fun W hA => cover_checked a b c V A W hA hlen)
  have HNUM := Lib.hid (fun W hA hs p hp => cover_numbered V A W hA hs p hp)
  have HACT := Lib.hid (fun pv lv W hA hs p hp hpv hlv => cover_action V pv lv A W hA hs p hp hpv hlv)
  have HCODE := Lib.hid (fun V' B W hA h0 hlen hb => cover_code V' B W hA h0 hlen hb)
  obtain ⟨hs1, hB1, q0, q1, q2, q3⟩ := alloc4 w (.cells #[.int .i64 a, .int .i64 b, .int .i64 c] 23) (.cells #[V 0, V 1, V 2] 27) (.cells #[.bool false] 4) (.cells #[.int .i64 0] 39)
  obtain ⟨W1, hW1⟩ : ∃ W1, W1 = (((w.alloc (.cells #[.int .i64 a, .int .i64 b, .int .i64 c] 23)).alloc (.cells #[V 0, V 1, V 2] 27)).alloc (.cells #[.bool false] 4)).alloc (.cells #[.int .i64 0] 39) := ⟨_, rfl⟩
  rw [← hW1] at hs1 hB1 q0 q1 q2 q3
  have HQ0 := Lib.hid q0; have HQ1 := Lib.hid q1; have HQ2 := Lib.hid q2; have HQ3 := Lib.hid q3
  have HS1 := Lib.hid hs1; have HB1 := Lib.hid hB1
  have HAW := Lib.hid (show ∀ W, Below W1.heap.size W1 W → AR W.heap.size W V A from fun W hB i hi => (((hA i hi).below HB1.out).below (hB.mono HB1.out.size)).more (Nat.le_trans HB1.out.size hB.size))
  have HBX := Lib.hid (show ∀ W, Below W1.heap.size W1 W → W.heap[w.heap.size + 1]? = some (.cells #[V 0, V 1, V 2] 27) ∧ W.heap[w.heap.size + 2]? = some (.cells #[.bool false] 4) ∧ W.heap[w.heap.size + 3]? = some (.cells #[.int .i64 0] 39) from fun W hB =>
    ⟨(hB.block _ (by have := HS1.out; omega)).trans HQ1.out, (hB.block _ (by have := HS1.out; omega)).trans HQ2.out, (hB.block _ (by have := HS1.out; omega)).trans HQ3.out⟩)
  obtain ⟨a0, c0, hv0, -⟩ := hA 0 (by omega)
  obtain ⟨n, hn⟩ : ∃ n, n = (A 0).length := ⟨_, rfl⟩
  rw [← hn] at hv0
  have HV0 := Lib.hid hv0
  have HN := Lib.hid hn
  have HSH := Lib.hid (fun (h : actErr a b c A = 0) => (actErr_zero h).2.1)
  obtain ⟨er, her⟩ : ∃ er, er = actErr a b c A := ⟨_, rfl⟩
  rw [← her] at HCH HSH ⊢
  obtain ⟨nb, hnb⟩ : ∃ nb, nb = normA A := ⟨_, rfl⟩
  rw [← hnb]
  have HNB := Lib.hid hnb
  clear hA hlen q0 q1 q2 q3 hs1 hB1 hv0 hn her hnb
  unfold ordersV actV at *
  go_enter_defers Tryz.func20, Tryz.ntmps20
  go_upto_region 1 with fail
  rw [← hW1]
  clear hW1
  have k0 := cell_of_heap HQ0.out 0
  have k1 := cell_of_heap HQ0.out 1
  have k2 := cell_of_heap HQ0.out 2
  have p0 := box_at HQ1.out (i := 0) (by omega)
  have p1 := box_at HQ1.out (i := 1) (by omega)
  have p2 := box_at HQ1.out (i := 2) (by omega)
  simp only [List.getElem?_toArray, List.getElem?_cons_zero, List.getElem?_cons_succ] at k0 k1 k2
  go_wp2_with fail
  refine (HCH.out _ (HAW.out _ (Below.refl _ _))).mono ?_
  rintro e w1 ⟨hcase, hB⟩
  have HB2 := Lib.hid hB
  clear hB k0 k1 k2 p0 p1 p2
  rcases hcase with ⟨rfl, rfl⟩ | ⟨hz, rfl⟩
  · have HSP : Hid (Shaped A) := Lib.hid (HSH.out rfl)
    clear HSH
    have HNN := Lib.hid (show 1 ≤ n ∧ n ≤ 200 from by rw [HN.out]; exact ⟨HSP.out.1.1, HSP.out.1.2.1⟩)
    have HSM := Lib.hid (fun p (hp : p < n) => numA_small HSP.out (p := p) (by rw [← HN.out]; exact hp) (by rw [← HN.out]; exact HNN.out.2))
    obtain ⟨q1, -, -⟩ := HBX.out _ HB2.out
    have p0 := box_at q1 (i := 0) (by omega)
    have p1 := box_at q1 (i := 1) (by omega)
    have p2 := box_at q1 (i := 2) (by omega)
    clear q1
    go_wp2_with fail
    refine (HNUM.out _ (HAW.out _ HB2.out) HSP.out 0 (by rw [← HN.out]; have := HNN.out; omega)).mono ?_
    rintro e w2 ⟨pv, lv, rfl, hpv, hlv, hB⟩
    have HB3 := Lib.hid (HB2.out.trans (hB.mono HB2.out.size))
    have HCA := Lib.hid (HACT.out pv lv w2 (HAW.out _ HB3.out) HSP.out 0 (by rw [← HN.out]; have := HNN.out; omega) hpv hlv)
    clear hB hpv hlv p0 p1 p2
    unfold numV at *
    go_wp2_with fail
    refine HCA.out.mono ?_
    rintro e w3 ⟨V', rfl, hA3, hB, -⟩
    have HB4 := Lib.hid (HB3.out.trans (hB.mono HB3.out.size))
    obtain ⟨hc0, hc1, hc2⟩ := HSM.out 0 (by have := HNN.out; omega)
    have HCO := Lib.hid (HCODE.out V' _ w3 hA3 hc0 hc1 hc2)
    clear hB hA3 hc0 hc1 hc2 HCA
    go_wp2_with fail
    refine HCO.out.mono ?_
    rintro e w4 ⟨rfl, hB⟩
    have HB5 := Lib.hid (HB4.out.trans (hB.mono HB4.out.size))
    clear hB HCO
    change Hid _ at HB5
    obtain ⟨cz, hcz⟩ : ∃ cz, cz = codeL (numA (letters A) (A 0).length 0) := ⟨_, rfl⟩
    rw [← hcz]
    have HCZ := Lib.hid (show canC A 0 = cz from hcz.symm)
    clear hcz
    unfold str
    obtain ⟨q1, -, -⟩ := HBX.out _ HB5.out
    have p0 := box_at q1 (i := 0) (by omega)
    rw [HV0.out] at p0
    clear q1
    go_wp2_with fail
    clear p0
    go_loopw [19] (fun iv wr => ∃ i : Nat, iv = .int .i64 i ∧ i ≤ n ∧ Hid (∀ j, j < i → canC A j = cz) ∧ Hid (Below W1.heap.size W1 wr)) (fun iv _ => n - (intOf iv).toNat)
    case atStart => exact ⟨0, rfl, Nat.zero_le _, Lib.hid (fun j hj => absurd hj (Nat.not_lt_zero _)), HB5⟩
    case round =>
      obtain ⟨i, rfl, hi, HJ, HB⟩ := hrel
      obtain ⟨q1, q2, q3⟩ := HBX.out _ HB.out
      have hnn := HNN.out
      by_cases hin : i < n
      · have hii : (i : Int) < (n : Int) := by omega
        have p0 := box_at q1 (i := 0) (by omega)
        have p1 := box_at q1 (i := 1) (by omega)
        have p2 := box_at q1 (i := 2) (by omega)
        clear q1 q2 q3
        go_wp2_with fail
        refine (HNUM.out _ (HAW.out _ HB.out) HSP.out i (by rw [← HN.out]; exact hin)).mono ?_
        rintro e w5 ⟨pv, lv, rfl, hpv, hlv, hB⟩
        have HB6 := Lib.hid (HB.out.trans (hB.mono HB.out.size))
        have HCA := Lib.hid (HACT.out pv lv w5 (HAW.out _ HB6.out) HSP.out i (by rw [← HN.out]; exact hin) hpv hlv)
        clear hB hpv hlv p0 p1 p2
        unfold numV at *
        go_wp2_with fail
        refine HCA.out.mono ?_
        rintro e w6 ⟨V', rfl, hA3, hB, -⟩
        have HB7 := Lib.hid (HB6.out.trans (hB.mono HB6.out.size))
        obtain ⟨hc0, hc1, hc2⟩ := HSM.out i hin
        have HCO := Lib.hid (HCODE.out V' _ w6 hA3 hc0 hc1 hc2)
        clear hB hA3 hc0 hc1 hc2 HCA
        go_wp2_with fail
        refine HCO.out.mono ?_
        rintro e w7 ⟨rfl, hB⟩
        have HB8 := Lib.hid (HB7.out.trans (hB.mono HB7.out.size))
        clear hB HCO
        obtain ⟨ci, hci⟩ : ∃ ci, ci = codeL (numA (letters A) (A 0).length i) := ⟨_, rfl⟩
        rw [← hci]
        have HCI := Lib.hid (show canC A i = ci from hci.symm)
        clear hci
        unfold str
        by_cases hcc : ci = cz
        · subst hcc
          go_wp2_with fail
          go_roundw
          case rel => exact ⟨i + 1, by (have := HNN.out; go_num), by omega, Lib.hid (fun j hj => by
            rcases Nat.lt_or_ge j i with h | h
            · exact HJ.out j h
            · obtain rfl : j = i := by omega
              exact HCI.out), HB8⟩
          case measure => have := HNN.out; simp [intOf]; omega
        · have hne : ((⟨ci.toArray⟩ : ByteArray).toList == (⟨cz.toArray⟩ : ByteArray).toList) = false := by
            rw [ByteArray.toList_eq, ByteArray.toList_eq, beq_eq_false_iff_ne]
            exact hcc
          have hnf : (ci == cz) = false := by rw [beq_eq_false_iff_ne]; exact hcc
          have HNO := Lib.hid (show nb = false from by
            rw [HNB.out]
            unfold normA
            rw [List.all_eq_false]
            exact ⟨i, List.mem_range.2 (by rw [← HN.out]; exact hin), by simp only [decide_eq_true_eq]; rw [HCI.out, HCZ.out]; exact hcc⟩)
          obtain ⟨q1, q2, q3⟩ := HBX.out _ HB8.out
          have c1 := cell_of_heap q2 0
          have f1 := free_of_heap q2 0
          have c2 := cell_of_heap q3 0
          have f2 := free_of_heap q3 0
          simp only [List.getElem?_toArray, List.getElem?_cons_zero, List.getElem?_cons_succ] at c1 f1 c2 f2
          have HQ22 := Lib.hid q2
          have HQ33 := Lib.hid q3
          clear q1 q2 q3
          go_wp2_with fail
          refine leaves_cons (f := 64) (args := #[.pointer (some ⟨w.heap.size + 2, 0, none⟩), .pointer (some ⟨w.heap.size + 3, 0, none⟩)]) (by simp) (by simp [go_sem]) ?_
          refine (caught_bool_idle ⟨w.heap.size + 2, 0, none⟩ ⟨w.heap.size + 3, 0, none⟩ _).mono ?_
          rintro e u' w'' ⟨rfl, rfl, rfl⟩
          have h2 := heap_setCell_same w7 (w.heap.size + 2) 0 _ _ (.bool false) HQ22.out
          have h3 := (heap_setCell_other w7 ⟨w.heap.size + 2, 0, none⟩ (w.heap.size + 3) (.bool false) (by simp)).trans HQ33.out
          have d3 := heap_setCell_same _ (w.heap.size + 3) 0 _ _ (.int .i64 0) h3
          have d2 := (heap_setCell_other _ ⟨w.heap.size + 3, 0, none⟩ (w.heap.size + 2) (.int .i64 0) (by simp)).trans h2
          have e2 := cell_of_heap d2 0
          have e3 := cell_of_heap d3 0
          simp at e2 e3
          simp [Leaves, settle, results, Tryz.results20, go_sem, e2, e3]
          exact ⟨HNO.out, ((HB1.out.trans (HB8.out.mono HB1.out.size)).setCell (by dsimp only; omega) _).setCell (by dsimp only; omega) _⟩
      · obtain rfl : i = n := by omega
        have hii : ¬ (i : Int) < (i : Int) := by omega
        have HYES := Lib.hid (show nb = true from by
          rw [HNB.out]
          unfold normA
          rw [List.all_eq_true]
          intro x hx
          simp only [decide_eq_true_eq]
          rw [HJ.out x (by have := List.mem_range.1 hx; rw [HN.out]; exact this), HCZ.out])
        have c1 := cell_of_heap q2 0
        have f1 := free_of_heap q2 0
        have c2 := cell_of_heap q3 0
        have f2 := free_of_heap q3 0
        simp only [List.getElem?_toArray, List.getElem?_cons_zero, List.getElem?_cons_succ] at c1 f1 c2 f2
        have HQ22 := Lib.hid q2
        have HQ33 := Lib.hid q3
        clear q1 q2 q3
        go_wp2_with fail
        refine leaves_cons (f := 64) (args := #[.pointer (some ⟨w.heap.size + 2, 0, none⟩), .pointer (some ⟨w.heap.size + 3, 0, none⟩)]) (by simp) (by simp [go_sem]) ?_
        refine (caught_bool_idle ⟨w.heap.size + 2, 0, none⟩ ⟨w.heap.size + 3, 0, none⟩ _).mono ?_
        rintro e u' w'' ⟨rfl, rfl, rfl⟩
        have h2 := heap_setCell_same wr (w.heap.size + 2) 0 _ _ (.bool true) HQ22.out
        have h3 := (heap_setCell_other wr ⟨w.heap.size + 2, 0, none⟩ (w.heap.size + 3) (.bool true) (by simp)).trans HQ33.out
        have d3 := heap_setCell_same _ (w.heap.size + 3) 0 _ _ (.int .i64 0) h3
        have d2 := (heap_setCell_other _ ⟨w.heap.size + 3, 0, none⟩ (w.heap.size + 2) (.int .i64 0) (by simp)).trans h2
        have e2 := cell_of_heap d2 0
        have e3 := cell_of_heap d3 0
        simp at e2 e3
        simp [Leaves, settle, results, Tryz.results20, go_sem, e2, e3]
        exact ⟨HYES.out, ((HB1.out.trans (HB.out.mono HB1.out.size)).setCell (by dsimp only; omega) _).setCell (by dsimp only; omega) _⟩
  · have HZ := Lib.hid hz
    clear hz
    obtain ⟨q1, q2, q3⟩ := HBX.out _ HB2.out
    have HQ22 := Lib.hid q2
    have HQ33 := Lib.hid q3
    clear q1 q2 q3
    go_wp2_with fail
    refine leaves_cons (f := 64) (args := #[.pointer (some ⟨w.heap.size + 2, 0, none⟩), .pointer (some ⟨w.heap.size + 3, 0, none⟩)]) (by simp) (by simp [go_sem]) ?_
    refine (caught_bool_panic (w.heap.size + 2) (w.heap.size + 3) _ 0 er w1 (by omega) HQ22.out HQ33.out).mono ?_
    rintro e u' w'' ⟨rfl, rfl, h0, h1, hO⟩
    have e2 := cell_of_heap h0 0
    have e3 := cell_of_heap h1 0
    simp at e2 e3
    have hz := HZ.out
    simp [Leaves, settle, results, Tryz.results20, go_sem, e2, e3, hz]
    exact (HB1.out.trans (HB2.out.mono HB1.out.size)).trans (hO.below (fun k hk => by have := HS1.out; have := HB2.out.size; omega))
end Go.Proofs.YtfdklmpkienfhaaGreat
