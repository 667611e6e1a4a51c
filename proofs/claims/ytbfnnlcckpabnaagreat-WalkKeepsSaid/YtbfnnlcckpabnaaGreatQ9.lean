import Derived.Test.YtbfnnlcckpabnaaGreatQ7
import Derived.Test.YtbfnnlcckpabnaaGreatRel
import Derived.Test.YtbfnnlcckpabnaaGreatQ6
import Derived.Test.YtbfnnlcckpabnaaGreatQ3

/- The specification of layer 7: Way. -/
namespace Go.Proofs.YtbfnnlcckpabnaaGreat
set_option linter.unusedSimpArgs false
set_option linter.unusedVariables false
open Go.RowKit
open Hy (Lets IsNF Eqv Le)

theorem wayIn_cons (p : Word × Word) (l : Places) (g : Word) : wayIn (p :: l) g = if p.1 = g then some p.2 else wayIn l g := by
  unfold wayIn
  rw [List.find?_cons]
  by_cases h : p.1 = g
  · rw [if_pos h]; simp [h]
  · rw [if_neg h]
    have : (p.1 == g) = false := by rw [beq_eq_false_iff_ne]; exact h
    rw [this]

/-- The answer of Way. -/
def found7 : Option Word → Value
  | some p => .agg #[str p, str [], .bool true]
  | none => .agg #[str [], str [], .bool false]

set_option maxRecDepth 100000 in
set_option maxHeartbeats 8000000 in
theorem r07_Way {w : World} {mb : Nat} {o : Hy.Ord} (F : Hy.Fine o) (hS : Small o) {WL : WallList} {TL : ThingList} (h : Map7 w mb o WL TL) (hT : WL.length ≤ 1000) (hTT : TL.length ≤ 1000) {u nu v nv : List UInt8} (hu : IsNF o u nu) (hul : Lets u) (hulen : u.length ≤ 60) (hv : IsNF o v nv) (hvl : Lets v) (hvlen : v.length ≤ 60)
    {fuel : Nat} {R : Places} (hR : reach7 o (blk7 WL) (fun t => (thingPlace t TL 0).2) false nv fuel 0 [(nu, [])] 10 = some R) :
    Calls Tryz.prog 30 #[.pointer (some ⟨mb, 0, none⟩), str u, str v] w fun e w' => e = .returned (found7 (wayIn R nv)) ∧ Below w.heap.size w w' := by
  have HMAP := Lib.hid (fun W (hW : Below w.heap.size w W) => h.below hW)
  have HW0 := Lib.hid (fun W => r03_Word_nf F hS hvl (by omega) hv W)
  have HRE := Lib.hid (fun W (hW : Below w.heap.size w W) => r07_reach F hS (h.below hW) hT hTT hu hul hulen false hR)
  clear h hu hul hv hvl hR F
  unfold ordersV str at *
  go_enter Tryz.func30, Tryz.ntmps30
  go_upto_region 1 with fail
  obtain ⟨W0, hW0⟩ : ∃ W0, w.alloc (.cells #[.string ⟨#[]⟩, .string ⟨#[]⟩, .bool false] 74) = W0 := ⟨_, rfl⟩
  have hb0 : W0.heap[w.heap.size]? = some (.cells #[.string ⟨#[]⟩, .string ⟨#[]⟩, .bool false] 74 (0, 0)) := by rw [← hW0]; exact alloc_heap_new w _
  have hB0 : Below w.heap.size w W0 := by rw [← hW0]; exact (Below.refl _ _).alloc (Nat.le_refl _) _
  rw [hW0]
  clear hW0
  obtain ⟨vw, vt, hm, _, _⟩ := HMAP.out W0 hB0
  have m0 := cell_of_heap hm 0
  have m1 := cell_of_heap hm 1
  have m2 := cell_of_heap hm 2
  simp at m0 m1 m2
  have hbl : w.heap.size < W0.heap.size := (Array.getElem?_eq_some_iff.1 hb0).1
  have HB0 := Lib.hid hB0; have HBX := Lib.hid hb0
  clear hm hB0 hb0
  go_wp2_with fail
  refine (HW0.out _).mono ?_
  rintro e w1 ⟨rfl, hB1⟩
  have hx1 := (hB1.block _ hbl).trans HBX.out
  have HBX1 := Lib.hid hx1
  have hsl1 : w.heap.size < w1.heap.size := (Array.getElem?_eq_some_iff.1 hx1).1
  have HB1 := Lib.hid (HB0.out.trans (hB1.mono (by omega)))
  clear hB1 m0 m1 m2 HBX HB0 hbl hx1
  go_wp2_with fail
  refine (HRE.out _ HB1.out).mono ?_
  rintro e w2 ⟨tb, yb, tv, yv, rfl, hqt, hqy, hG, hRl, hB2⟩
  have hx2 := (hB2.block _ hsl1).trans HBX1.out
  have hB2' := HB1.out.trans (hB2.mono (by omega))
  obtain ⟨W2, hW2⟩ : ∃ W2, w2.alloc (.cells #[tv, yv] 131) = W2 := ⟨_, rfl⟩
  have hr2 : W2.heap[w2.heap.size]? = some (.cells #[tv, yv] 131 (0, 0)) := by rw [← hW2]; exact alloc_heap_new w2 _
  have hold2 : ∀ k, k < w2.heap.size → W2.heap[k]? = w2.heap[k]? := fun k hk => by rw [← hW2]; exact heap_alloc_lt _ _ hk
  have hsz2 : W2.heap.size = w2.heap.size + 1 := by rw [← hW2]; simp
  have hB3 : Below w.heap.size w W2 := by rw [← hW2]; exact hB2'.alloc hB2'.size _
  have hx3 := (hold2 _ (Array.getElem?_eq_some_iff.1 hx2).1).trans hx2
  have hqt2 : QRow W2 tb 1 tv (R.map (·.1)).length ((R.map (·.1)).map str) := by rw [List.length_map]; exact hqt.of_heap (hold2 _ hqt.lt) (by omega)
  have hqy2 : QRow W2 yb 1 yv (R.map (·.2)).length ((R.map (·.2)).map str) := by rw [List.length_map]; exact hqy.of_heap (hold2 _ hqy.lt) (by omega)
  obtain ⟨of1, cap1, rfl, ltb, ht⟩ := row_cell hqt2
  obtain ⟨of2, cap2, rfl, lyb, hy⟩ := row_cell hqy2
  have hAl : (R.map (·.1)).length = R.length := List.length_map _
  have hBl : (R.map (·.2)).length = R.length := List.length_map _
  have HT := Lib.hid ht; have HY := Lib.hid hy
  simp only [List.length_map] at hW2 hr2
  simp only [List.length_map]
  go_upto_region 3 with fail
  try rw [hW2]
  obtain ⟨rb, hrb⟩ : ∃ rb, rb = w2.heap.size := ⟨_, rfl⟩
  rw [← hrb] at hr2 hsz2 ⊢
  have r0 := cell_of_heap hr2 0
  have r1 := cell_of_heap hr2 1
  have z0 := cell_of_heap hx3 0
  have z1 := cell_of_heap hx3 1
  have z2 := cell_of_heap hx3 2
  have zf0 := free_of_heap hx3 0
  have zf1 := free_of_heap hx3 1
  have zf2 := free_of_heap hx3 2
  have lz := (Array.getElem?_eq_some_iff.1 hx3).1
  simp at r0 r1 z0 z1 z2
  have HB3 := Lib.hid hB3
  clear hW2 hr2 hold2 hB2 hB2' hx2 hx3 hB3 hqt hqy hqt2 hqy2 ht hy hAl hBl hG hrb HBX1 HB1 hsl1 hsz2
  go_wp2_with fail
  go_loop [9] (fun i => ∃ k : Nat, k ≤ R.length ∧ i = .int .i64 k ∧ Hid (wayIn (R.drop k) nv = wayIn R nv)) (fun i => 100001 - (intOf i).toNat)
  case atStart => exact ⟨0, Nat.zero_le _, rfl, rfl⟩
  case round =>
    obtain ⟨k, hk, rfl, HK⟩ := hrel
    by_cases hlt : k < R.length
    · have p1 : W2.cell? ⟨tb, of1 + k, none⟩ = some (.string ⟨R[k].1.toArray⟩) := by
        have := HT.out k (by simpa using hlt)
        simpa using this
      have p2 : W2.cell? ⟨yb, of2 + k, none⟩ = some (.string ⟨R[k].2.toArray⟩) := by
        have := HY.out k (by simpa using hlt)
        simpa using this
      have hstep := HK.out
      rw [List.drop_eq_getElem_cons hlt, wayIn_cons] at hstep
      generalize R[k] = p at p1 p2 hstep
      by_cases heq : p.1 = nv
      · rw [if_pos heq] at hstep
        have HST := Lib.hid hstep
        clear hstep
        subst heq
        go_wp2_with fail
        refine bodyPost_ret (v := .agg #[.string ⟨p.2.toArray⟩, .string ⟨#[]⟩, .bool true]) (by simp [results, Tryz.results30, go_sem, z0, z1, z2, zf0, zf1, zf2, lz]) rfl ?_
        rw [← HST.out]
        exact ⟨rfl, ((HB3.out.setCell (p := ⟨w.heap.size, 0, none⟩) (Nat.le_refl _) _).setCell (p := ⟨w.heap.size, 1, none⟩) (Nat.le_refl _) _).setCell (p := ⟨w.heap.size, 2, none⟩) (Nat.le_refl _) _⟩
      · rw [if_neg heq] at hstep
        have HST := Lib.hid hstep
        have b1 : ((⟨p.1.toArray⟩ : ByteArray) == ⟨nv.toArray⟩) = false := by rw [bytes_beq, beq_eq_false_iff_ne]; exact heq
        have b3 : ¬ ((⟨p.1.toArray⟩ : ByteArray) = ⟨nv.toArray⟩) := fun h => heq (by have := congrArg ByteArray.data h; simpa using this)
        have b0 : (p.1 == nv) = false := by rw [beq_eq_false_iff_ne]; exact heq
        clear hstep heq
        go_wp2_with fail
        go_round
        case rel => exact ⟨k + 1, by omega, by go_num, HST⟩
        case measure => simp [intOf]; omega
    · obtain rfl : k = R.length := by omega
      have HST := Lib.hid (show wayIn R nv = none from by rw [← HK.out, List.drop_length]; rfl)
      clear HK hlt hk
      go_wp2_with fail
      refine bodyPost_ret (v := .agg #[.string ⟨#[]⟩, .string ⟨#[]⟩, .bool false]) (by simp [results, Tryz.results30, go_sem, z0, z1, z2, zf0, zf1, zf2, lz]) rfl ?_
      rw [HST.out]
      exact ⟨rfl, ((HB3.out.setCell (p := ⟨w.heap.size, 0, none⟩) (Nat.le_refl _) _).setCell (p := ⟨w.heap.size, 1, none⟩) (Nat.le_refl _) _).setCell (p := ⟨w.heap.size, 2, none⟩) (Nat.le_refl _) _⟩
end Go.Proofs.YtbfnnlcckpabnaaGreat

/- The specification of layer 7: NearThing. -/
namespace Go.Proofs.YtbfnnlcckpabnaaGreat
set_option linter.unusedSimpArgs false
set_option linter.unusedVariables false
open Go.RowKit
open Hy (Lets IsNF Eqv Le)

/-- The text of a tile's thing. -/
def textOf (TL : ThingList) (t : Word) : Word := ((TL[(thingPlace t TL 0).1]?).map (·.2)).getD []
/-- The answer of Near. -/
def nearFound (TL : ThingList) (s : Bool × Nat × Word) : Value := .agg #[str s.2.2, str (if s.1 = true then textOf TL s.2.2 else []), .bool s.1]

/-- While the places are looked through. -/
structure NI (w W : World) (rb ob tb yb of1 cap1 of2 cap2 : Nat) (R : Places) (f : Bool) (e tx : Word) : Prop where
  out : W.heap[ob]? = some (.cells #[str e, str tx, .bool f] 74 (0, 0))
  res : W.heap[w.heap.size]? = some (.cells #[.string ⟨#[]⟩, .string ⟨#[]⟩, .bool false] 74 (0, 0))
  hr : W.heap[rb]? = some (.cells #[.slice (some ⟨tb, of1, none⟩) R.length cap1, .slice (some ⟨yb, of2, none⟩) R.length cap2] 131 (0, 0))
  ht : QRow W tb 1 (.slice (some ⟨tb, of1, none⟩) R.length cap1) R.length ((R.map (·.1)).map str)
  hy : QRow W yb 1 (.slice (some ⟨yb, of2, none⟩) R.length cap2) R.length ((R.map (·.2)).map str)
  d : ob ≠ w.heap.size ∧ ob ≠ rb ∧ ob ≠ tb ∧ ob ≠ yb ∧ w.heap.size ≤ ob
  below : Below w.heap.size w W

section
variable {w W W' : World} {rb ob tb yb of1 cap1 of2 cap2 : Nat} {R : Places} {f : Bool} {e tx : Word}

theorem NI.later (h : NI w W rb ob tb yb of1 cap1 of2 cap2 R f e tx) (hb : Below W.heap.size W W') : NI w W' rb ob tb yb of1 cap1 of2 cap2 R f e tx :=
  ⟨(hb.block _ (Array.getElem?_eq_some_iff.1 h.out).1).trans h.out, (hb.block _ (Array.getElem?_eq_some_iff.1 h.res).1).trans h.res, (hb.block _ (Array.getElem?_eq_some_iff.1 h.hr).1).trans h.hr,
   h.ht.of_heap (hb.block _ h.ht.lt) hb.size, h.hy.of_heap (hb.block _ h.hy.lt) hb.size, h.d, h.below.trans (hb.mono h.below.size)⟩

theorem NI.at (h : NI w W rb ob tb yb of1 cap1 of2 cap2 R f e tx) {k : Nat} (hk : k < R.length) :
    W.cell? ⟨rb, 0, none⟩ = some (.slice (some ⟨tb, of1, none⟩) R.length cap1) ∧ W.cell? ⟨rb, 1, none⟩ = some (.slice (some ⟨yb, of2, none⟩) R.length cap2) ∧ W.cell? ⟨tb, of1 + k, none⟩ = some (.string ⟨R[k].1.toArray⟩) ∧ W.cell? ⟨yb, of2 + k, none⟩ = some (.string ⟨R[k].2.toArray⟩) := by
  have h1 := h.ht
  have h2 := h.hy
  rw [show R.length = (R.map (·.1)).length from (List.length_map _).symm] at h1
  rw [show R.length = (R.map (·.2)).length from (List.length_map _).symm] at h2
  obtain ⟨o1, c1, e1, _, ht⟩ := row_cell h1
  obtain ⟨o2, c2, e2, _, hy⟩ := row_cell h2
  simp only [Value.slice.injEq, Option.some.injEq, Addr.mk.injEq, true_and, and_true] at e1 e2
  obtain ⟨rfl, _⟩ := e1
  obtain ⟨rfl, _⟩ := e2
  refine ⟨by rw [cell_of_heap h.hr 0]; rfl, by rw [cell_of_heap h.hr 1]; rfl, ?_, ?_⟩
  · have := ht k (by simpa using hk)
    simpa using this
  · have := hy k (by simpa using hk)
    simpa using this

/-- A thing is found. -/
theorem NI.set (h : NI w W rb ob tb yb of1 cap1 of2 cap2 R f e tx) (e' tx' : Word) : NI w (((W.setCell ⟨ob, 0, none⟩ (str e')).setCell ⟨ob, 1, none⟩ (str tx')).setCell ⟨ob, 2, none⟩ (.bool true)) rb ob tb yb of1 cap1 of2 cap2 R true e' tx' := by
  obtain ⟨d1, d2, d3, d4, d5⟩ := h.d
  have hk : ∀ k, k ≠ ob → (((W.setCell ⟨ob, 0, none⟩ (str e')).setCell ⟨ob, 1, none⟩ (str tx')).setCell ⟨ob, 2, none⟩ (.bool true)).heap[k]? = W.heap[k]? := fun k hk =>
    (Below.heap_setCell _ _ _ _ hk).trans ((Below.heap_setCell _ _ _ _ hk).trans (Below.heap_setCell _ _ _ _ hk))
  have hs : (((W.setCell ⟨ob, 0, none⟩ (str e')).setCell ⟨ob, 1, none⟩ (str tx')).setCell ⟨ob, 2, none⟩ (.bool true)).heap.size = W.heap.size := by simp [World.setCell]
  have h1 := heap_setCell_same _ _ 0 _ _ (str e') h.out
  have h2 := heap_setCell_same _ _ 1 _ _ (str tx') h1
  have h3 := heap_setCell_same _ _ 2 _ _ (.bool true) h2
  refine ⟨by simpa using h3, (hk _ d1.symm).trans h.res, (hk _ d2.symm).trans h.hr, h.ht.of_heap (hk _ d3.symm) (by omega), h.hy.of_heap (hk _ d4.symm) (by omega), h.d, ?_⟩
  exact ((h.below.setCell (p := ⟨ob, 0, none⟩) d5 _).setCell (p := ⟨ob, 1, none⟩) d5 _).setCell (p := ⟨ob, 2, none⟩) d5 _
end

set_option maxRecDepth 100000 in
set_option maxHeartbeats 8000000 in
theorem r07_NearThing {w : World} {mb : Nat} {o : Hy.Ord} (F : Hy.Fine o) (hS : Small o) {WL : WallList} {TL : ThingList} (h : Map7 w mb o WL TL) (hT : WL.length ≤ 1000) (hTT : TL.length ≤ 1000) {u nu : List UInt8} (hu : IsNF o u nu) (hul : Lets u) (hulen : u.length ≤ 60)
    {fuel : Nat} {R : Places} (hR : reach7 o (blk7 WL) (fun t => (thingPlace t TL 0).2) true [] fuel 0 [(nu, [])] 10 = some R) :
    Calls Tryz.prog 32 #[.pointer (some ⟨mb, 0, none⟩), str u] w fun e w' => e = .returned (nearFound TL (near7 (fun t => (thingPlace t TL 0).2) R (false, 0, []))) ∧ Below w.heap.size w w' := by
  have HMAP := Lib.hid (fun W (hW : Below w.heap.size w W) => h.below hW)
  have HRE := Lib.hid (fun W (hW : Below w.heap.size w W) => r07_reach F hS (h.below hW) hT hTT hu hul hulen true hR)
  have HTH := Lib.hid (fun W v (hW : Pairs encT0 encT1 W v TL) (t : Word) => r07_thingAt hW (by omega) t)
  have HAH := Lib.hid (fun a b W => (r07_Ahead a b W).mono fun _ _ h => And.intro h.1 h.2.symm)
  clear h hu hul hR F
  obtain ⟨isT, hisT⟩ : ∃ isT, isT = (fun t : Word => (thingPlace t TL 0).2) := ⟨_, rfl⟩
  rw [← hisT]
  have HIS := Lib.hid hisT
  clear hisT
  unfold ordersV str at *
  go_enter Tryz.func32, Tryz.ntmps32
  go_upto_region 1 with fail
  obtain ⟨W0, hW0⟩ : ∃ W0, w.alloc (.cells #[.string ⟨#[]⟩, .string ⟨#[]⟩, .bool false] 74) = W0 := ⟨_, rfl⟩
  have hb0 : W0.heap[w.heap.size]? = some (.cells #[.string ⟨#[]⟩, .string ⟨#[]⟩, .bool false] 74 (0, 0)) := by rw [← hW0]; exact alloc_heap_new w _
  have hB0 : Below w.heap.size w W0 := by rw [← hW0]; exact (Below.refl _ _).alloc (Nat.le_refl _) _
  rw [hW0]
  clear hW0
  have hbl : w.heap.size < W0.heap.size := (Array.getElem?_eq_some_iff.1 hb0).1
  have HB0 := Lib.hid hB0; have HBX := Lib.hid hb0
  clear hB0 hb0
  go_wp2_with fail
  refine (HRE.out _ HB0.out).mono ?_
  rintro e w2 ⟨tb, yb, tv, yv, rfl, hqt, hqy, hG, hRl, hB2⟩
  have hx2 := (hB2.block _ hbl).trans HBX.out
  have hB2' := HB0.out.trans (hB2.mono (by omega))
  have HB2 := Lib.hid hB2'
  have HX2 := Lib.hid hx2
  have hqt' := hqt
  have hqy' := hqy
  obtain ⟨of1, cap1, rfl, _⟩ := hqt'
  obtain ⟨of2, cap2, rfl, _⟩ := hqy'
  have HQT := Lib.hid hqt; have HQY := Lib.hid hqy
  clear hB2 hB2' hx2 hqt hqy hG HB0 HBX hbl
  go_upto_region 3 with fail
  obtain ⟨W3, hW3⟩ : ∃ W3, ((w2.alloc (.cells #[.slice (some ⟨tb, of1, none⟩) R.length cap1, .slice (some ⟨yb, of2, none⟩) R.length cap2] 131)).alloc (.cells #[.string ⟨#[]⟩, .string ⟨#[]⟩, .bool false] 74)) = W3 := ⟨_, rfl⟩
  rw [hW3]
  obtain ⟨rb, hrb⟩ : ∃ rb, rb = w2.heap.size := ⟨_, rfl⟩
  have hNI : NI w W3 rb (rb + 1) tb yb of1 cap1 of2 cap2 R false [] [] := by
    have hx2 := HX2.out
    have hqt := HQT.out
    have hqy := HQY.out
    have hB2 := HB2.out
    subst hrb
    have a1 : ∀ k, k < w2.heap.size → W3.heap[k]? = w2.heap[k]? := fun k hk => by
      rw [← hW3]
      exact (heap_alloc_lt _ _ (by simp; omega)).trans (heap_alloc_lt _ _ hk)
    have a2 : W3.heap[w2.heap.size]? = some (.cells #[.slice (some ⟨tb, of1, none⟩) R.length cap1, .slice (some ⟨yb, of2, none⟩) R.length cap2] 131 (0, 0)) := by
      rw [← hW3]
      exact (heap_alloc_lt _ _ (by simp)).trans (alloc_heap_new w2 _)
    have a3 : W3.heap[w2.heap.size + 1]? = some (.cells #[.string ⟨#[]⟩, .string ⟨#[]⟩, .bool false] 74 (0, 0)) := by
      have := alloc_heap_new (w2.alloc (.cells #[.slice (some ⟨tb, of1, none⟩) R.length cap1, .slice (some ⟨yb, of2, none⟩) R.length cap2] 131)) (.cells #[.string ⟨#[]⟩, .string ⟨#[]⟩, .bool false] 74)
      rw [World.size_alloc, hW3] at this
      exact this
    have a4 : W3.heap.size = w2.heap.size + 2 := by rw [← hW3]; simp
    have hl := (Array.getElem?_eq_some_iff.1 hx2).1
    have hsz := hB2.size
    have l1 := hqt.lt
    have l2 := hqy.lt
    refine ⟨a3, (a1 _ hl).trans hx2, a2, hqt.of_heap (a1 _ l1) (by omega), hqy.of_heap (a1 _ l2) (by omega), by omega, ?_⟩
    rw [← hW3]
    exact (hB2.alloc hsz _).alloc (by simp; omega) _
  rw [← hrb]
  have HNI := Lib.hid hNI
  clear hNI hW3 hrb HX2 HQT HQY HB2
  go_wp2_with fail
  go_loopw [7, 8] (fun st iv wr => ∃ (k far : Nat) (f : Bool) (e tx : Word), k ≤ R.length ∧ iv = .int .i64 k ∧ st = .int .i64 far ∧ Hid (near7 isT (R.drop k) (f, far, e) = near7 isT R (false, 0, [])) ∧ Hid (tx = if f = true then textOf TL e else []) ∧ Hid (NI w wr rb (rb + 1) tb yb of1 cap1 of2 cap2 R f e tx)) (fun _ iv _ => 100001 - (intOf iv).toNat)
  case atStart => exact ⟨0, 0, false, [], [], Nat.zero_le _, rfl, rfl, rfl, rfl, HNI⟩
  case round =>
    obtain ⟨k, far, f, e, tx, hk, rfl, rfl, HN, HTX, HI⟩ := hrel
    by_cases hlt : k < R.length
    · obtain ⟨r0, r1, p1, p2⟩ := HI.out.at hlt
      have hstep := HN.out
      rw [List.drop_eq_getElem_cons hlt, near7_cons] at hstep
      have hAT := fun W (hW : Below wr.heap.size wr W) => (HI.out.later hW).at hlt
      generalize hp : R[k] = p at p1 p2 hstep hAT
      have HP := Lib.hid hp; clear hp
      have HAT := Lib.hid hAT; have HST := Lib.hid hstep
      obtain ⟨vw, vt, hm, hp1, hp2⟩ := HMAP.out wr HI.out.below
      obtain ⟨pt, ct, rfl⟩ := pairs_slice hp2
      have m4 := cell_of_heap hm 4
      simp at m4
      have hmb : mb < wr.heap.size := (Array.getElem?_eq_some_iff.1 hm).1
      have HPT := Lib.hid hp2
      have hlt2 : (k : Int) < (R.length : Int) := by omega
      have hl1 := (Array.getElem?_eq_some_iff.1 HI.out.hr).1
      have hl2 := HI.out.ht.lt
      obtain ⟨pa, hpa⟩ : ∃ pa, pa = (thingPlace p.1 TL 0).1 := ⟨_, rfl⟩
      have hpi : isT p.1 = (thingPlace p.1 TL 0).2 := by rw [HIS.out]
      have HTC := Lib.hid (fun W v (hW : Pairs encT0 encT1 W v TL) => HTH.out W v hW p.1)
      obtain ⟨ib, hib⟩ : ∃ ib, ib = isT p.1 := ⟨_, rfl⟩
      rw [← hib] at hpi HST
      rw [← hpa, ← hpi] at HTC
      have HPA := Lib.hid hpa; have HPI := Lib.hid hpi
      clear hstep hAT hm hp1 hp2 hpa hpi hib
      go_upto_region 7 with fail
      go_cut [9] (fun s9 wx => ∃ pb : Nat, s9 = .pointer (some ⟨pb, 0, none⟩) ∧ Hid (Below wr.heap.size wr wx) ∧ Hid (wx.heap[pb]? = some (.cells #[.int .i64 pa, .bool ib] 93 (0, 0))) ∧ wr.heap.size ≤ pb)
      case first =>
        have HCE := Lib.hid (fun (W : World) (hW : Below wr.heap.size wr W) => (⟨((bcell hW).1 mb 4 hmb).trans m4, ((bcell hW).1 rb 0 hl1).trans r0, ((bcell hW).1 tb (of1 + k) hl2).trans p1⟩ : W.cell? ⟨mb, 4, none⟩ = some (.slice pt TL.length ct) ∧ W.cell? ⟨rb, 0, none⟩ = some (.slice (some ⟨tb, of1, none⟩) R.length cap1) ∧ W.cell? ⟨tb, of1 + k, none⟩ = some (.string ⟨p.1.toArray⟩)))
        go_region_held3 (fun w' => w'.cell? ⟨mb, 4, none⟩ = some (.slice pt TL.length ct) ∧ w'.cell? ⟨rb, 0, none⟩ = some (.slice (some ⟨tb, of1, none⟩) R.length cap1) ∧ w'.cell? ⟨tb, of1 + k, none⟩ = some (.string ⟨p.1.toArray⟩))
          (first | go_keep | (exact HCE.out _ HB2.out) | (exact HCE.out _ ((HB2.out.setCell (Nat.le_refl _) _).setCell (Nat.le_refl _) _)) | (exact HCE.out _ ((HB2.out.setCell HB2.out.size _).setCell HB2.out.size _)))
          ((first
            | (go_at_call 42; refine (HTC.out _ _ (HPT.out.below (by first | exact Below.refl _ _ | exact (Below.refl _ _).drew | exact (Below.refl _ _).alloc (Nat.le_refl _) _ | exact ((Below.refl _ _).alloc (Nat.le_refl _) _).drew))).mono ?_; rintro e w2 ⟨rfl, hB2⟩; have HX2 := Lib.hid hB2; have HB2 := Lib.hid (show Below wr.heap.size wr w2 from by first | exact hB2 | exact below_undrew hB2 | exact below_unalloc hB2 | exact ((Below.refl _ _).alloc (Nat.le_refl _) _).trans (hB2.mono (by simp))); obtain ⟨n0, n1, n2⟩ := HCE.out _ HB2.out; obtain ⟨hc2, hf2⟩ := bcell hB2; have hz2 := hB2.size; (try simp at hz2 hc2 hf2); clear hB2)))
        all_goals go_wp2_with fail
        · go_meet
          case rel => exact ⟨w2.heap.size, rfl, HB2.out.alloc HB2.out.size _, alloc_heap_new w2 _, HB2.out.size⟩
        · go_meet
          case rel =>
            have h2 : w2.heap[wr.heap.size]? = _ := (HX2.out.block wr.heap.size (by simp)).trans (alloc_heap_new wr _)
            exact ⟨wr.heap.size, rfl, (HB2.out.setCell (Nat.le_refl _) _).setCell (Nat.le_refl _) _, two_stores h2, Nat.le_refl _⟩
      case rest =>
        obtain ⟨pb, rfl, HB4, HPB, hpb⟩ := hcut
        obtain ⟨w4, hw4⟩ : ∃ w4, w4 = wc := ⟨_, rfl⟩
        subst hw4
        have HI4 := Lib.hid (HI.out.later HB4.out)
        obtain ⟨r0', r1', p1', p2'⟩ := HAT.out _ HB4.out
        have m4' := ((bcell HB4.out).1 mb 4 hmb).trans m4
        have q0 := cell_of_heap HPB.out 0
        have q1 := cell_of_heap HPB.out 1
        have o0 := cell_of_heap HI4.out.out 0
        have o2 := cell_of_heap HI4.out.out 2
        have lrb := (Array.getElem?_eq_some_iff.1 HI4.out.hr).1
        have ltb := HI4.out.ht.lt
        have lyb := HI4.out.hy.lt
        have lob := (Array.getElem?_eq_some_iff.1 HI4.out.out).1
        have lpb := (Array.getElem?_eq_some_iff.1 HPB.out).1
        have lmb : mb < w4.heap.size := Nat.lt_of_lt_of_le hmb HB4.out.size
        simp only [List.getElem?_toArray, List.getElem?_cons_zero, List.getElem?_cons_succ, str] at q0 q1 o0 o2
        obtain ⟨sk, hsk⟩ : ∃ sk : Bool, sk = (!ib || (f && (decide (far < p.2.length) || !aheadW p.1 e))) := ⟨_, rfl⟩
        have HSK := Lib.hid hsk
        have HPT4 := Lib.hid (HPT.out.below HB4.out)
        clear r0 r1 p1 p2 m4 hl1 hl2 hsk HTC HPT
        go_upto_region 8 with fail
        go_cut [58] (fun s wx => s = .bool sk ∧ Hid (Below w4.heap.size w4 wx))
        case first =>
          have l0 := fun (y : Later w4) => ((bcell y.h).1 _ _ lrb).trans r0'
          have l1 := fun (y : Later w4) => ((bcell y.h).1 _ _ lrb).trans r1'
          have l2 := fun (y : Later w4) => ((bcell y.h).1 _ _ ltb).trans p1'
          have l3 := fun (y : Later w4) => ((bcell y.h).1 _ _ lyb).trans p2'
          have l4 := fun (y : Later w4) => ((bcell y.h).1 _ _ lpb).trans q1
          have l5 := fun (y : Later w4) => ((bcell y.h).1 _ _ lob).trans o0
          have l6 := fun (y : Later w4) => ((bcell y.h).1 _ _ lob).trans o2
          clear r0' r1' p1' p2' q0 q1 o0 o2 m4'
          have HAE := Lib.hid (fun W => HAH.out p.1 e W)
          cases ib with
          | false =>
            have HS2 := Lib.hid (show sk = true from HSK.out)
            refine wp_region_later (by kernel_rfl) (by kernel_rfl) ?_
            repeat (go_big_quiet_step (fail))
            refine wpQuiet_nil ?_
            rintro _ ⟨pl, rfl⟩
            go_wp2_with fail
            go_meet
            case rel => exact ⟨by rw [HS2.out], pl.h⟩
          | true =>
            cases f with
            | false =>
              have HS2 := Lib.hid (show sk = false from HSK.out)
              refine wp_region_later (by kernel_rfl) (by kernel_rfl) ?_
              repeat (go_big_quiet_step (fail))
              refine wpQuiet_nil ?_
              rintro _ ⟨pl, rfl⟩
              go_wp2_with fail
              go_meet
              case rel => exact ⟨by rw [HS2.out], pl.h⟩
            | true =>
              by_cases hfar : far < p.2.length
              · have HS2 := Lib.hid (show sk = true from by rw [HSK.out, decide_eq_true hfar]; rfl)
                have hf2 : decide ((far : Int) < (p.2.length : Int)) = true := decide_eq_true (by omega)
                have hf3 : (far : Int) < (p.2.length : Int) := by omega
                refine wp_region_later (by kernel_rfl) (by kernel_rfl) ?_
                repeat (go_big_quiet_step (fail))
                refine wpQuiet_nil ?_
                rintro _ ⟨pl, rfl⟩
                go_wp2_with fail
                go_meet
                case rel => exact ⟨by rw [HS2.out], pl.h⟩
              · have HS2 := Lib.hid (show sk = !aheadW p.1 e from by rw [HSK.out, decide_eq_false hfar]; rfl)
                have hf2 : decide ((far : Int) < (p.2.length : Int)) = false := decide_eq_false (by omega)
                have hf3 : ¬ (far : Int) < (p.2.length : Int) := by omega
                generalize aheadW p.1 e = ah at HAE HS2
                refine wp_region_later (by kernel_rfl) (by kernel_rfl) ?_
                repeat (go_big_quiet_step ((first | (go_at_call 62; refine (HAE.out _).mono ?_; rintro e w6 ⟨rfl, rfl⟩; exact ⟨rfl, ⟨_, rfl⟩⟩))))
                refine wpQuiet_nil ?_
                rintro _ ⟨pl, rfl⟩
                go_wp2_with fail
                go_meet
                case rel => exact ⟨by rw [HS2.out], pl.h⟩
        case rest =>
          obtain ⟨rfl, HB5⟩ := hcut
          obtain ⟨w5, hw5⟩ : ∃ w5, w5 = wc := ⟨_, rfl⟩
          subst hw5
          have HI5 := Lib.hid (HI4.out.later HB5.out)
          have hst := HST.out
          cases hb : sk with
          | true =>
            have hcond : ib = false ∨ (f = true ∧ (far < p.2.length ∨ aheadW p.1 e = false)) := by
              have := HSK.out
              rw [hb] at this
              cases ib with
              | false => exact .inl rfl
              | true =>
                right
                cases f with
                | false => cases this
                | true =>
                  refine ⟨rfl, ?_⟩
                  by_cases hfar : far < p.2.length
                  · exact .inl hfar
                  · right
                    rw [decide_eq_false hfar] at this
                    cases ha : aheadW p.1 e with
                    | false => rfl
                    | true => rw [ha] at this; cases this
            rw [if_pos hcond] at hst
            have HS3 := Lib.hid hst
            clear hst hcond hb r0' r1' p1' p2' q0 q1 o0 o2 m4'
            go_wp2_with fail
            go_roundw
            case rel => exact ⟨k + 1, far, f, e, tx, by omega, by go_num, rfl, HS3, HTX, HI5⟩
            case measure => simp [intOf]; omega
          | false =>
            have hcond : ¬ (ib = false ∨ (f = true ∧ (far < p.2.length ∨ aheadW p.1 e = false))) ∧ ib = true := by
              have := HSK.out
              rw [hb] at this
              cases ib with
              | false => cases this
              | true =>
                refine ⟨?_, rfl⟩
                rintro (h | ⟨h1, h2 | h2⟩)
                · cases h
                · rw [h1, decide_eq_true h2] at this; cases this
                · rw [h1, h2] at this; simp at this
            rw [if_neg hcond.1] at hst
            have HS3 := Lib.hid hst
            have hpt : (thingPlace p.1 TL 0).2 = true := HPI.out.symm.trans hcond.2
            have hpal : pa < TL.length := by
              have := (thingPlace_lt (t := p.1) (T := TL) (i := 0)).2 hpt
              rw [HPA.out]; omega
            have htext : textOf TL p.1 = TL[pa].2 := by
              unfold textOf
              rw [← HPA.out, List.getElem?_eq_getElem hpal]
              rfl
            have HTE := Lib.hid htext
            obtain ⟨s0, s1, s2, s3⟩ := HAT.out _ (HB4.out.trans (HB5.out.mono HB4.out.size))
            have t4 := ((bcell HB5.out).1 mb 4 lmb).trans m4'
            have t0 := ((bcell HB5.out).1 pb 0 lpb).trans q0
            obtain ⟨tb', tc', hteq, hcells⟩ := HPT4.out.below HB5.out
            simp only [Value.slice.injEq, true_and] at hteq
            obtain ⟨rfl, rfl⟩ := hteq
            obtain ⟨g, off, rfl, hg, hc0, hc1⟩ := hcells pa hpal
            simp only [encT0, encT1, str] at hc0 hc1
            generalize TL[pa].2 = te at hc1 HTE
            have hpal2 : (pa : Int) < (TL.length : Int) := by omega
            have b0 := free_of_heap HI5.out.out 0
            have b1 := free_of_heap HI5.out.out 1
            have b2 := free_of_heap HI5.out.out 2
            have v0 := cell_of_heap HI5.out.out 0
            have v1 := cell_of_heap HI5.out.out 1
            have v2 := cell_of_heap HI5.out.out 2
            simp only [List.getElem?_toArray, List.getElem?_cons_zero, List.getElem?_cons_succ, str] at v0 v1 v2
            have lrb5 := (Array.getElem?_eq_some_iff.1 HI5.out.hr).1
            have ltb5 := HI5.out.ht.lt
            have lob5 := (Array.getElem?_eq_some_iff.1 HI5.out.out).1
            have lpb5 : pb < w5.heap.size := Nat.lt_of_lt_of_le lpb HB5.out.size
            have lmb5 : mb < w5.heap.size := Nat.lt_of_lt_of_le lmb HB5.out.size
            clear hst hcond hb r0' r1' p1' p2' q0 q1 o0 o2 m4' hpt htext hcells hc0 lrb ltb lyb lob lpb lmb hmb
            go_upto_region 9 with fail
            have l0 := fun (y : Later w5) => ((bcell y.h).1 _ _ lrb5).trans s0
            have l2 := fun (y : Later w5) => ((bcell y.h).1 _ _ ltb5).trans s2
            have l4 := fun (y : Later w5) => ((bcell y.h).1 _ _ lpb5).trans t0
            have l5 := fun (y : Later w5) => ((bcell y.h).1 _ _ lmb5).trans t4
            have l6 := fun (y : Later w5) => ((bcell y.h).1 _ _ hg).trans hc1
            refine wp_region_loads 14 15 (fun w' => ∃ y : Later w5, w' = y.W) ⟨⟨w5.drew, (Below.refl _ _).drew⟩, rfl⟩ (by kernel_rfl) (by kernel_rfl) ?_
            simp only [List.take_succ_cons, List.take_zero, List.drop_succ_cons, List.drop_zero]
            repeat (go_big_quiet_step (fail))
            refine wpQuiet_nil ?_
            clear l0 l2 l4 l5 l6
            refine wpG_step ?_
            intro K2 hK2
            go_wp2_with fail
            refine ⟨⟨⟨_, (Below.refl _ _).drew⟩, rfl⟩, hK2 _ _ ?_⟩
            clear hK2
            refine wpG_nil ?_
            go_upto_region 10 with fail
            have hI6 : NI w (((w5.setCell ⟨rb + 1, 0, none⟩ (.string ⟨p.1.toArray⟩)).setCell ⟨rb + 1, 1, none⟩ (.string ⟨te.toArray⟩)).setCell ⟨rb + 1, 2, none⟩ (.bool true)).drew rb (rb + 1) tb yb of1 cap1 of2 cap2 R true p.1 te :=
              (HI5.out.set p.1 te).later ((Below.refl _ _).drew)
            generalize (((w5.setCell ⟨rb + 1, 0, none⟩ (.string ⟨p.1.toArray⟩)).setCell ⟨rb + 1, 1, none⟩ (.string ⟨te.toArray⟩)).setCell ⟨rb + 1, 2, none⟩ (.bool true)).drew = w6 at hI6
            have h6 := hI6.at hlt
            rw [HP.out] at h6
            obtain ⟨_, x1, _, x3⟩ := h6
            have HI6 := Lib.hid hI6
            clear hI6 s0 s1 s2 s3 t4 t0 b0 b1 b2 v0 v1 v2 hc1
            go_wp2_with fail
            go_roundw
            case rel => exact ⟨k + 1, p.2.length, true, p.1, te, by omega, by go_num, rfl, HS3, HTE.out.symm, HI6⟩
            case measure => simp [intOf]; omega
    · obtain rfl : k = R.length := by omega
      have hfin := HN.out
      rw [List.drop_length] at hfin
      have r0 := cell_of_heap HI.out.hr 0
      have z0 := cell_of_heap HI.out.res 0
      have z1 := cell_of_heap HI.out.res 1
      have z2 := cell_of_heap HI.out.res 2
      have zf0 := free_of_heap HI.out.res 0
      have zf1 := free_of_heap HI.out.res 1
      have zf2 := free_of_heap HI.out.res 2
      have lz := (Array.getElem?_eq_some_iff.1 HI.out.res).1
      have o0 := cell_of_heap HI.out.out 0
      have o1 := cell_of_heap HI.out.out 1
      have o2 := cell_of_heap HI.out.out 2
      simp only [List.getElem?_toArray, List.getElem?_cons_zero, List.getElem?_cons_succ, str] at r0 z0 z1 z2 o0 o1 o2
      have HFIN := Lib.hid hfin
      clear hfin hlt hk
      go_wp2_with fail
      refine bodyPost_ret (v := .agg #[.string ⟨e.toArray⟩, .string ⟨tx.toArray⟩, .bool f]) (by simp [results, Tryz.results32, go_sem, z0, z1, z2, zf0, zf1, zf2, lz]) rfl ?_
      rw [← HFIN.out]
      refine ⟨by rw [HTX.out]; rfl, ((HI.out.below.setCell (p := ⟨w.heap.size, 0, none⟩) (Nat.le_refl _) _).setCell (p := ⟨w.heap.size, 1, none⟩) (Nat.le_refl _) _).setCell (p := ⟨w.heap.size, 2, none⟩) (Nat.le_refl _) _⟩
end Go.Proofs.YtbfnnlcckpabnaaGreat
