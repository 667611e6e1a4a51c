import Derived.Shelf.SlSortCmp.NoneTotal
import Derived.Test.YtfdklmpkienfhaaGreatK21
/- slices.SortFunc at actions: the shelf's layings in plain words (lay-plain.mjs's form); their order. -/
namespace Go.Proofs.YtfdklmpkienfhaaGreat
set_option linter.unusedSimpArgs false
set_option linter.unusedVariables false
open Go.RowKit
open Go.Op (bytesLess)
def sortA_ren : Go.Shelf.Ren := ⟨fun | 6 => 114 | 15 => 155 | 14 => 154 | 28 => 181 | 29 => 182 | 20 => 173 | 21 => 174 | 22 => 175 | 23 => 176 | 24 => 177 | 25 => 178 | 26 => 179 | 27 => 180 | 46 => 188 | 47 => 189 | 48 => 190 | 49 => 191 | 50 => 192 | 57 => 195 | n => n, fun | 22 => 93 | 24 => 27 | 25 => 212 | 3 => 3 | 39 => 261 | 0 => 0 | 53 => 288 | 55 => 290 | 4 => 4 | 46 => 282 | 45 => 281 | 50 => 170 | 5 => 5 | 9 => 9 | 66 => 297 | 70 => 113 | 76 => 306 | 77 => 307 | n => n, fun | n => n⟩
theorem sortA : Go.Proofs.SlLaysF0.n6 Tryz.prog sortA_ren := {
  mixed := by kernel_rfl
  f6 := ⟨Tryz.f114.name, by decide, Tryz.func114.trans (congrArg some (by kernel_rfl))⟩
  f14 := ⟨Tryz.f154.name, by decide, Tryz.func154.trans (congrArg some (by kernel_rfl))⟩
  f15 := Tryz.func155.trans (congrArg some (by kernel_rfl))
  f20 := ⟨Tryz.f173.name, by decide, Tryz.func173.trans (congrArg some (by kernel_rfl))⟩
  f21 := ⟨Tryz.f174.name, by decide, Tryz.func174.trans (congrArg some (by kernel_rfl))⟩
  f22 := ⟨Tryz.f175.name, by decide, Tryz.func175.trans (congrArg some (by kernel_rfl))⟩
  f23 := ⟨Tryz.f176.name, by decide, Tryz.func176.trans (congrArg some (by kernel_rfl))⟩
  f24 := ⟨Tryz.f177.name, by decide, Tryz.func177.trans (congrArg some (by kernel_rfl))⟩
  f25 := ⟨Tryz.f178.name, by decide, Tryz.func178.trans (congrArg some (by kernel_rfl))⟩
  f26 := ⟨Tryz.f179.name, by decide, Tryz.func179.trans (congrArg some (by kernel_rfl))⟩
  f27 := ⟨Tryz.f180.name, by decide, Tryz.func180.trans (congrArg some (by kernel_rfl))⟩
  f28 := Tryz.func181.trans (congrArg some (by kernel_rfl))
  f29 := Tryz.func182.trans (congrArg some (by kernel_rfl))
  f46 := ⟨Tryz.f188.name, by decide, Tryz.func188.trans (congrArg some (by kernel_rfl))⟩
  f47 := Tryz.func189.trans (congrArg some (by kernel_rfl))
  f48 := Tryz.func190.trans (congrArg some (by kernel_rfl))
  f49 := ⟨Tryz.f191.name, by decide, Tryz.func191.trans (congrArg some (by kernel_rfl))⟩
  f50 := ⟨Tryz.f192.name, by decide, Tryz.func192.trans (congrArg some (by kernel_rfl))⟩
  f57 := ⟨Tryz.f195.name, by decide, Tryz.func195.trans (congrArg some (by kernel_rfl))⟩
  t0 := Tryz.underlying0
  a0 := Tryz.isAgg0
  z0 := Tryz.sizeOf0
  v0 := Tryz.zeroValue0
  t3 := Tryz.underlying3
  a3 := Tryz.isAgg3
  z3 := Tryz.sizeOf3
  v3 := Tryz.zeroValue3
  t4 := Tryz.underlying4
  a4 := Tryz.isAgg4
  z4 := Tryz.sizeOf4
  v4 := Tryz.zeroValue4
  t5 := Tryz.underlying5
  a5 := Tryz.isAgg5
  z5 := Tryz.sizeOf5
  v5 := Tryz.zeroValue5
  t9 := Tryz.underlying9
  a9 := Tryz.isAgg9
  z9 := Tryz.sizeOf9
  v9 := Tryz.zeroValue9
  t22 := Tryz.underlying93
  a22 := Tryz.isAgg93
  z22 := Tryz.sizeOf93
  v22 := Tryz.zeroValue93
  t25 := Tryz.underlying212
  a25 := Tryz.isAgg212
  z25 := Tryz.sizeOf212
  v25 := Tryz.zeroValue212
  t39 := Tryz.underlying261
  a39 := Tryz.isAgg261
  z39 := Tryz.sizeOf261
  v39 := Tryz.zeroValue261
  t45 := Tryz.underlying281
  a45 := Tryz.isAgg281
  z45 := Tryz.sizeOf281
  v45 := Tryz.zeroValue281
  t46 := Tryz.underlying282
  a46 := Tryz.isAgg282
  z46 := Tryz.sizeOf282
  v46 := Tryz.zeroValue282
  t50 := Tryz.underlying170
  a50 := Tryz.isAgg170
  z50 := Tryz.sizeOf170
  v50 := Tryz.zeroValue170
  t53 := Tryz.underlying288
  a53 := Tryz.isAgg288
  z53 := Tryz.sizeOf288
  v53 := Tryz.zeroValue288
  t55 := Tryz.underlying290
  a55 := Tryz.isAgg290
  z55 := Tryz.sizeOf290
  v55 := Tryz.zeroValue290
  t66 := Tryz.underlying297
  a66 := Tryz.isAgg297
  z66 := Tryz.sizeOf297
  v66 := Tryz.zeroValue297
  t70 := Tryz.underlying113
  a70 := Tryz.isAgg113
  z70 := Tryz.sizeOf113
  v70 := Tryz.zeroValue113
  t76 := Tryz.underlying306
  a76 := Tryz.isAgg306
  z76 := Tryz.sizeOf306
  v76 := Tryz.zeroValue306
  t77 := Tryz.underlying307
  a77 := Tryz.isAgg307
  z77 := Tryz.sizeOf307
  v77 := Tryz.zeroValue307 }
theorem perm_sorted {α : Type} {r : α → α → Prop} (ha : ∀ a b, r a b → r b a → False) : ∀ {l m : List α}, l.Perm m → l.Pairwise r → m.Pairwise r → l = m
  | [], m, h, _, _ => (List.nil_perm.1 h).symm
  | a :: l, [], h, _, _ => absurd h.length_eq (by simp)
  | a :: l, b :: m, h, h1, h2 => by
    obtain ⟨p1, p2⟩ := List.pairwise_cons.1 h1
    obtain ⟨q1, q2⟩ := List.pairwise_cons.1 h2
    have hab : a = b := by
      rcases List.mem_cons.1 (h.mem_iff.1 (List.mem_cons_self)) with e | ha'
      · exact e
      · rcases List.mem_cons.1 (h.mem_iff.2 (List.mem_cons_self (a := b) (l := m))) with e | hb'
        · exact e.symm
        · exact (ha a b (p1 b hb') (q1 a ha')).elim
    subst hab
    rw [perm_sorted ha ((List.perm_cons a).1 h) p2 q2]

theorem grow_of_below {w w' : World} (h : Below w.heap.size w w') (hd : w.drawn ≤ w'.drawn) : ∃ q os', w' = Sort.grow (w.drewN q) os' := by
  refine ⟨w'.drawn - w.drawn, w'.heap.extract w.heap.size w'.heap.size, ?_⟩
  have hheap : w'.heap = w.heap ++ w'.heap.extract w.heap.size w'.heap.size := by
    apply Array.ext_getElem?
    intro k
    rw [Array.getElem?_append]
    by_cases hk : k < w.heap.size
    · rw [if_pos hk]; exact h.block k hk
    · rw [if_neg hk, Array.getElem?_extract]
      split
      · congr 1; omega
      · rw [Array.getElem?_eq_none (by have := h.size; omega)]
  obtain ⟨hp, tp, dr, os, ou⟩ := w
  obtain ⟨hp', tp', dr', os', ou'⟩ := w'
  have e1 := h.os; have e2 := h.tape; have e3 := h.output
  simp only at hd hheap e1 e2 e3
  subst e1; subst e2; subst e3
  simp only [Sort.grow, World.drewN, World.mk.injEq, and_true, true_and]
  exact ⟨hheap, by omega⟩


/-- A later world that has drawn no less. -/
structure LaterD (w : World) where
  W : World
  h : Below w.heap.size w W
  d : w.drawn ≤ W.drawn
instance (w : World) : Inhabited (LaterD w) := ⟨⟨w, Below.refl _ _, Nat.le_refl _⟩⟩

set_option maxRecDepth 100000 in
set_option maxHeartbeats 1000000 in
/-- The order of actions. -/
theorem cmp_acts (V1 V2 : Nat → Value) (A1 A2 : Nat → List Int) (w : World) (h1 : AR w.heap.size w V1 A1) (h2 : AR w.heap.size w V2 A2) (n1 : 0 < (A1 0).length) (n2 : 0 < (A2 0).length) (l1 : ∀ i, i < 3 → (A1 i).length ≤ 1000) (l2 : ∀ i, i < 3 → (A2 i).length ≤ 1000)
    (b1 : ∀ i, i < 3 → ∀ x ∈ A1 i, 0 ≤ x ∧ x < 256) (b2 : ∀ i, i < 3 → ∀ x ∈ A2 i, 0 ≤ x ∧ x < 256) :
    Calls Tryz.prog 115 #[actV V1, actV V2] w fun e w' => e = .returned (.int .i64 (if bytesLess (codeL A1) (codeL A2) then -1 else 1)) ∧ Below w.heap.size w w' ∧ w.drawn ≤ w'.drawn := by
  obtain ⟨W1, hW1⟩ : ∃ W1, W1 = (w.alloc (.cells #[V1 0, V1 1, V1 2] 27)).alloc (.cells #[V2 0, V2 1, V2 2] 27) := ⟨_, rfl⟩
  have HB1 := Lib.hid (show Below w.heap.size w W1 from by rw [hW1]; exact ((Below.refl w.heap.size w).alloc (Nat.le_refl _) _).alloc (by simp) _)
  have hs1 : W1.heap.size = w.heap.size + 2 := by rw [hW1]; simp
  have HD1 := Lib.hid (show w.drawn ≤ W1.drawn from by rw [hW1]; exact Nat.le_refl _)
  have q0 : W1.heap[w.heap.size]? = some (.cells #[V1 0, V1 1, V1 2] 27) := by
    rw [hW1, Below.heap_alloc _ _ _ (by simp)]; exact alloc_heap_new w _
  have q1 : W1.heap[w.heap.size + 1]? = some (.cells #[V2 0, V2 1, V2 2] 27) := by
    rw [hW1]
    have := alloc_heap_new (w.alloc (.cells #[V1 0, V1 1, V1 2] 27)) (.cells #[V2 0, V2 1, V2 2] 27)
    rwa [World.size_alloc] at this
  have HC1 := Lib.hid (show ∀ W, Below W1.heap.size W1 W → Calls Tryz.prog 71 #[actV V1] W fun e w' => e = .returned (str (codeL A1)) ∧ Below W.heap.size W w' ∧ W.drawn ≤ w'.drawn from fun W hB => cover_code_d V1 A1 W (fun i hi => (((h1 i hi).below HB1.out).below (hB.mono HB1.out.size)).more (Nat.le_trans HB1.out.size hB.size)) n1 l1 b1)
  have HC2 := Lib.hid (show ∀ W, Below W1.heap.size W1 W → Calls Tryz.prog 71 #[actV V2] W fun e w' => e = .returned (str (codeL A2)) ∧ Below W.heap.size W w' ∧ W.drawn ≤ w'.drawn from fun W hB => cover_code_d V2 A2 W (fun i hi => (((h2 i hi).below HB1.out).below (hB.mono HB1.out.size)).more (Nat.le_trans HB1.out.size hB.size)) n2 l2 b2)
  have p00 := box_at q0 (i := 0) (by omega)
  have p01 := box_at q0 (i := 1) (by omega)
  have p02 := box_at q0 (i := 2) (by omega)
  have p10 := box_at q1 (i := 0) (by omega)
  have p11 := box_at q1 (i := 1) (by omega)
  have p12 := box_at q1 (i := 2) (by omega)
  have l00 : w.heap.size < W1.heap.size := by omega
  have l11 : w.heap.size + 1 < W1.heap.size := by omega
  clear h1 h2 n1 n2 l1 l2 b1 b2 q0 q1
  unfold actV at *
  go_enter Tryz.func115, Tryz.ntmps115
  go_upto_region 1 with fail
  rw [← hW1]
  clear hW1 hs1
  have g00 := fun (y : LaterD W1) => ((bcell y.h).1 w.heap.size 0 l00).trans p00
  have g01 := fun (y : LaterD W1) => ((bcell y.h).1 w.heap.size 1 l00).trans p01
  have g02 := fun (y : LaterD W1) => ((bcell y.h).1 w.heap.size 2 l00).trans p02
  have g10 := fun (y : LaterD W1) => ((bcell y.h).1 (w.heap.size + 1) 0 l11).trans p10
  have g11 := fun (y : LaterD W1) => ((bcell y.h).1 (w.heap.size + 1) 1 l11).trans p11
  have g12 := fun (y : LaterD W1) => ((bcell y.h).1 (w.heap.size + 1) 2 l11).trans p12
  clear p00 p01 p02 p10 p11 p12
  refine wp_region_segs [([0, 2], [1, 3])] 4 (fun w' => ∃ y : LaterD W1, w' = y.W) ⟨⟨W1.drew, (Below.refl _ _).drew, Nat.le_succ _⟩, rfl⟩ (by kernel_rfl) (by kernel_rfl) ?_
  simp only [List.map_cons, List.map_nil, pickOps, List.flatMap_cons, List.flatMap_nil, List.cons_append, List.nil_append, List.take_succ_cons, List.take_zero, List.drop_succ_cons, List.drop_zero, wpSegs]
  repeat (go_big_quiet_step (fail))
  refine wpQuiet_nil ?_
  refine wpG_step ?_
  intro K2 hK2
  go_wp2_with fail
  refine (HC1.out _ ((Below.refl _ _).drew)).mono ?_
  rintro e w4 ⟨rfl, hB, hd⟩
  have HB4 := Lib.hid (show Below W1.heap.size W1 w4 from below_undrew hB)
  have HD4 := Lib.hid (show W1.drawn ≤ w4.drawn from Nat.le_trans (Nat.le_succ _) hd)
  clear hB hd
  unfold str
  go_wp2_with fail
  refine ⟨⟨⟨w4, HB4.out, HD4.out⟩, rfl⟩, hK2 _ _ ?_⟩
  clear hK2
  refine wpG_step ?_
  intro K3 hK3
  go_wp2_with fail
  refine (HC2.out _ HB4.out).mono ?_
  rintro e w5 ⟨rfl, hB, hd⟩
  have HB5 := Lib.hid (HB4.out.trans (hB.mono HB4.out.size))
  have HD5 := Lib.hid (Nat.le_trans HD4.out hd)
  clear hB hd
  unfold str
  go_wp2_with fail
  refine ⟨⟨⟨w5, HB5.out, HD5.out⟩, rfl⟩, hK3 _ _ ?_⟩
  clear hK3
  refine wpG_nil ?_
  clear g00 g01 g02 g10 g11 g12
  cases hlt : bytesLess (codeL A1) (codeL A2) with
  | true =>
    go_wp2_with fail
    go_ret
    exact ⟨rfl, HB1.out.trans (HB5.out.mono HB1.out.size), Nat.le_trans HD1.out HD5.out⟩
  | false =>
    go_wp2_with fail
    all_goals go_wp2_with fail
    all_goals go_ret
    all_goals exact ⟨rfl, HB1.out.trans (HB5.out.mono HB1.out.size), Nat.le_trans HD1.out HD5.out⟩
end Go.Proofs.YtfdklmpkienfhaaGreat
