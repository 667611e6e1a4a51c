import Derived.Shelf.SlSortCmp.NoneTotal
import Derived.Test.YtfdklmpkienfhaaK21
/- slices.SortFunc at actions: the shelf's layings in plain words (lay-plain.mjs's form); their order. -/
namespace Go.Proofs.Ytfdklmpkienfhaa
set_option linter.unusedSimpArgs false
set_option linter.unusedVariables false
open Go.RowKit
open Go.Op (bytesLess)
def sortA_ren : Go.Shelf.Ren := ⟨fun | 6 => 29 | 15 => 67 | 14 => 66 | 28 => 94 | 29 => 95 | 20 => 86 | 21 => 87 | 22 => 88 | 23 => 89 | 24 => 90 | 25 => 91 | 26 => 92 | 27 => 93 | 46 => 100 | 47 => 101 | 48 => 102 | 49 => 103 | 50 => 104 | 57 => 110 | n => n, fun | 22 => 24 | 24 => 36 | 25 => 67 | 3 => 3 | 39 => 123 | 0 => 0 | 53 => 150 | 55 => 152 | 4 => 4 | 46 => 143 | 45 => 142 | 50 => 147 | 5 => 5 | 9 => 9 | 66 => 168 | 70 => 69 | 76 => 181 | 77 => 182 | n => n, fun | n => n⟩
theorem sortA : Go.Proofs.SlLaysF0.n6 Try.prog sortA_ren := {
  mixed := by kernel_rfl
  f6 := ⟨Try.f29.name, by decide, Try.func29.trans (congrArg some (by kernel_rfl))⟩
  f14 := ⟨Try.f66.name, by decide, Try.func66.trans (congrArg some (by kernel_rfl))⟩
  f15 := Try.func67.trans (congrArg some (by kernel_rfl))
  f20 := ⟨Try.f86.name, by decide, Try.func86.trans (congrArg some (by kernel_rfl))⟩
  f21 := ⟨Try.f87.name, by decide, Try.func87.trans (congrArg some (by kernel_rfl))⟩
  f22 := ⟨Try.f88.name, by decide, Try.func88.trans (congrArg some (by kernel_rfl))⟩
  f23 := ⟨Try.f89.name, by decide, Try.func89.trans (congrArg some (by kernel_rfl))⟩
  f24 := ⟨Try.f90.name, by decide, Try.func90.trans (congrArg some (by kernel_rfl))⟩
  f25 := ⟨Try.f91.name, by decide, Try.func91.trans (congrArg some (by kernel_rfl))⟩
  f26 := ⟨Try.f92.name, by decide, Try.func92.trans (congrArg some (by kernel_rfl))⟩
  f27 := ⟨Try.f93.name, by decide, Try.func93.trans (congrArg some (by kernel_rfl))⟩
  f28 := Try.func94.trans (congrArg some (by kernel_rfl))
  f29 := Try.func95.trans (congrArg some (by kernel_rfl))
  f46 := ⟨Try.f100.name, by decide, Try.func100.trans (congrArg some (by kernel_rfl))⟩
  f47 := Try.func101.trans (congrArg some (by kernel_rfl))
  f48 := Try.func102.trans (congrArg some (by kernel_rfl))
  f49 := ⟨Try.f103.name, by decide, Try.func103.trans (congrArg some (by kernel_rfl))⟩
  f50 := ⟨Try.f104.name, by decide, Try.func104.trans (congrArg some (by kernel_rfl))⟩
  f57 := ⟨Try.f110.name, by decide, Try.func110.trans (congrArg some (by kernel_rfl))⟩
  t0 := Try.underlying0
  a0 := Try.isAgg0
  z0 := Try.sizeOf0
  v0 := Try.zeroValue0
  t3 := Try.underlying3
  a3 := Try.isAgg3
  z3 := Try.sizeOf3
  v3 := Try.zeroValue3
  t4 := Try.underlying4
  a4 := Try.isAgg4
  z4 := Try.sizeOf4
  v4 := Try.zeroValue4
  t5 := Try.underlying5
  a5 := Try.isAgg5
  z5 := Try.sizeOf5
  v5 := Try.zeroValue5
  t9 := Try.underlying9
  a9 := Try.isAgg9
  z9 := Try.sizeOf9
  v9 := Try.zeroValue9
  t22 := Try.underlying24
  a22 := Try.isAgg24
  z22 := Try.sizeOf24
  v22 := Try.zeroValue24
  t25 := Try.underlying67
  a25 := Try.isAgg67
  z25 := Try.sizeOf67
  v25 := Try.zeroValue67
  t39 := Try.underlying123
  a39 := Try.isAgg123
  z39 := Try.sizeOf123
  v39 := Try.zeroValue123
  t45 := Try.underlying142
  a45 := Try.isAgg142
  z45 := Try.sizeOf142
  v45 := Try.zeroValue142
  t46 := Try.underlying143
  a46 := Try.isAgg143
  z46 := Try.sizeOf143
  v46 := Try.zeroValue143
  t50 := Try.underlying147
  a50 := Try.isAgg147
  z50 := Try.sizeOf147
  v50 := Try.zeroValue147
  t53 := Try.underlying150
  a53 := Try.isAgg150
  z53 := Try.sizeOf150
  v53 := Try.zeroValue150
  t55 := Try.underlying152
  a55 := Try.isAgg152
  z55 := Try.sizeOf152
  v55 := Try.zeroValue152
  t66 := Try.underlying168
  a66 := Try.isAgg168
  z66 := Try.sizeOf168
  v66 := Try.zeroValue168
  t70 := Try.underlying69
  a70 := Try.isAgg69
  z70 := Try.sizeOf69
  v70 := Try.zeroValue69
  t76 := Try.underlying181
  a76 := Try.isAgg181
  z76 := Try.sizeOf181
  v76 := Try.zeroValue181
  t77 := Try.underlying182
  a77 := Try.isAgg182
  z77 := Try.sizeOf182
  v77 := Try.zeroValue182 }
theorem perm_sorted {α : Type} {r : α → α → Prop} (ha : ∀ a b, r a b → r b a → False) : ∀ {l m : List α}, l.Perm m → l.Pairwise r → m.Pairwise r → l = m
  | [], m, h, _, _ => (List.nil_perm.1 h).symm
  | a :: l, [], h, _, _ => absurd h.length_eq (by simp)
  | a :: l, b :: m, h, h1, h2 => by
    obtain ⟨p1, p2⟩ := List.pairwise_cons.1 h1
    obtain ⟨q1, q2⟩ := List.pairwise_cons.1 h2
    have hab : a = b := by
      rcases List.mem_cons.1 (h.mem_iff.1 (List.mem_cons_self)) with e | ha'
      · exact e
      · rcases List.mem_cons.1 (h.mem_iff.2 (List.mem_cons_self (a := b) (l := m))) with e | hb'
        · exact e.symm
        · exact (ha a b (p1 b hb') (q1 a ha')).elim
    subst hab
    rw [perm_sorted ha ((List.perm_cons a).1 h) p2 q2]

theorem grow_of_below {w w' : World} (h : Below w.heap.size w w') (hd : w.drawn ≤ w'.drawn) : ∃ q os', w' = Sort.grow (w.drewN q) os' := by
  refine ⟨w'.drawn - w.drawn, w'.heap.extract w.heap.size w'.heap.size, ?_⟩
  have hheap : w'.heap = w.heap ++ w'.heap.extract w.heap.size w'.heap.size := by
    apply Array.ext_getElem?
    intro k
    rw [Array.getElem?_append]
    by_cases hk : k < w.heap.size
    · rw [if_pos hk]; exact h.block k hk
    · rw [if_neg hk, Array.getElem?_extract]
      split
      · congr 1; omega
      · rw [Array.getElem?_eq_none (by have := h.size; omega)]
  obtain ⟨hp, tp, dr, os, ou⟩ := w
  obtain ⟨hp', tp', dr', os', ou'⟩ := w'
  have e1 := h.os; have e2 := h.tape; have e3 := h.output
  simp only at hd hheap e1 e2 e3
  subst e1; subst e2; subst e3
  simp only [Sort.grow, World.drewN, World.mk.injEq, and_true, true_and]
  exact ⟨hheap, by omega⟩


/-- A later world that has drawn no less. -/
structure LaterD (w : World) where
  W : World
  h : Below w.heap.size w W
  d : w.drawn ≤ W.drawn
instance (w : World) : Inhabited (LaterD w) := ⟨⟨w, Below.refl _ _, Nat.le_refl _⟩⟩

set_option maxRecDepth 100000 in
set_option maxHeartbeats 1000000 in
/-- The order of actions. -/
theorem cmp_acts (V1 V2 : Nat → Value) (A1 A2 : Nat → List Int) (w : World) (h1 : AR w.heap.size w V1 A1) (h2 : AR w.heap.size w V2 A2) (n1 : 0 < (A1 0).length) (n2 : 0 < (A2 0).length) (l1 : ∀ i, i < 3 → (A1 i).length ≤ 1000) (l2 : ∀ i, i < 3 → (A2 i).length ≤ 1000)
    (b1 : ∀ i, i < 3 → ∀ x ∈ A1 i, 0 ≤ x ∧ x < 256) (b2 : ∀ i, i < 3 → ∀ x ∈ A2 i, 0 ≤ x ∧ x < 256) :
    Calls Try.prog 30 #[actV V1, actV V2] w fun e w' => e = .returned (.int .i64 (if bytesLess (codeL A1) (codeL A2) then -1 else 1)) ∧ Below w.heap.size w w' ∧ w.drawn ≤ w'.drawn := by
  obtain ⟨W1, hW1⟩ : ∃ W1, W1 = (w.alloc (.cells #[V1 0, V1 1, V1 2] 36)).alloc (.cells #[V2 0, V2 1, V2 2] 36) := ⟨_, rfl⟩
  have HB1 := Lib.hid (show Below w.heap.size w W1 from by rw [hW1]; exact ((Below.refl w.heap.size w).alloc (Nat.le_refl _) _).alloc (by simp) _)
  have hs1 : W1.heap.size = w.heap.size + 2 := by rw [hW1]; simp
  have HD1 := Lib.hid (show w.drawn ≤ W1.drawn from by rw [hW1]; exact Nat.le_refl _)
  have q0 : W1.heap[w.heap.size]? = some (.cells #[V1 0, V1 1, V1 2] 36) := by
    rw [hW1, Below.heap_alloc _ _ _ (by simp)]; exact alloc_heap_new w _
  have q1 : W1.heap[w.heap.size + 1]? = some (.cells #[V2 0, V2 1, V2 2] 36) := by
    rw [hW1]
    have := alloc_heap_new (w.alloc (.cells #[V1 0, V1 1, V1 2] 36)) (.cells #[V2 0, V2 1, V2 2] 36)
    rwa [World.size_alloc] at this
  have HC1 := Lib.hid (show ∀ W, Below W1.heap.size W1 W → Calls Try.prog 28 #[actV V1] W fun e w' => e = .returned (str (codeL A1)) ∧ Below W.heap.size W w' ∧ W.drawn ≤ w'.drawn from fun W hB => cover_code_d V1 A1 W (fun i hi => (((h1 i hi).below HB1.out).below (hB.mono HB1.out.size)).more (Nat.le_trans HB1.out.size hB.size)) n1 l1 b1)
  have HC2 := Lib.hid (show ∀ W, Below W1.heap.size W1 W → Calls Try.prog 28 #[actV V2] W fun e w' => e = .returned (str (codeL A2)) ∧ Below W.heap.size W w' ∧ W.drawn ≤ w'.drawn from fun W hB => cover_code_d V2 A2 W (fun i hi => (((h2 i hi).below HB1.out).below (hB.mono HB1.out.size)).more (Nat.le_trans HB1.out.size hB.size)) n2 l2 b2)
  have p00 := box_at q0 (i := 0) (by omega)
  have p01 := box_at q0 (i := 1) (by omega)
  have p02 := box_at q0 (i := 2) (by omega)
  have p10 := box_at q1 (i := 0) (by omega)
  have p11 := box_at q1 (i := 1) (by omega)
  have p12 := box_at q1 (i := 2) (by omega)
  have l00 : w.heap.size < W1.heap.size := by omega
  have l11 : w.heap.size + 1 < W1.heap.size := by omega
  clear h1 h2 n1 n2 l1 l2 b1 b2 q0 q1
  unfold actV at *
  go_enter Try.func30, Try.ntmps30
  go_upto_region 1 with fail
  rw [← hW1]
  clear hW1 hs1
  have g00 := fun (y : LaterD W1) => ((bcell y.h).1 w.heap.size 0 l00).trans p00
  have g01 := fun (y : LaterD W1) => ((bcell y.h).1 w.heap.size 1 l00).trans p01
  have g02 := fun (y : LaterD W1) => ((bcell y.h).1 w.heap.size 2 l00).trans p02
  have g10 := fun (y : LaterD W1) => ((bcell y.h).1 (w.heap.size + 1) 0 l11).trans p10
  have g11 := fun (y : LaterD W1) => ((bcell y.h).1 (w.heap.size + 1) 1 l11).trans p11
  have g12 := fun (y : LaterD W1) => ((bcell y.h).1 (w.heap.size + 1) 2 l11).trans p12
  clear p00 p01 p02 p10 p11 p12
  refine wp_region_segs [([0, 2], [1, 3])] 4 (fun w' => ∃ y : LaterD W1, w' = y.W) ⟨⟨W1.drew, (Below.refl _ _).drew, Nat.le_succ _⟩, rfl⟩ (by kernel_rfl) (by kernel_rfl) ?_
  simp only [List.map_cons, List.map_nil, pickOps, List.flatMap_cons, List.flatMap_nil, List.cons_append, List.nil_append, List.take_succ_cons, List.take_zero, List.drop_succ_cons, List.drop_zero, wpSegs]
  repeat (go_big_quiet_step (fail))
  refine wpQuiet_nil ?_
  refine wpG_step ?_
  intro K2 hK2
  go_wp2_with fail
  refine (HC1.out _ ((Below.refl _ _).drew)).mono ?_
  rintro e w4 ⟨rfl, hB, hd⟩
  have HB4 := Lib.hid (show Below W1.heap.size W1 w4 from below_undrew hB)
  have HD4 := Lib.hid (show W1.drawn ≤ w4.drawn from Nat.le_trans (Nat.le_succ _) hd)
  clear hB hd
  unfold str
  go_wp2_with fail
  refine ⟨⟨⟨w4, HB4.out, HD4.out⟩, rfl⟩, hK2 _ _ ?_⟩
  clear hK2
  refine wpG_step ?_
  intro K3 hK3
  go_wp2_with fail
  refine (HC2.out _ HB4.out).mono ?_
  rintro e w5 ⟨rfl, hB, hd⟩
  have HB5 := Lib.hid (HB4.out.trans (hB.mono HB4.out.size))
  have HD5 := Lib.hid (Nat.le_trans HD4.out hd)
  clear hB hd
  unfold str
  go_wp2_with fail
  refine ⟨⟨⟨w5, HB5.out, HD5.out⟩, rfl⟩, hK3 _ _ ?_⟩
  clear hK3
  refine wpG_nil ?_
  clear g00 g01 g02 g10 g11 g12
  cases hlt : bytesLess (codeL A1) (codeL A2) with
  | true =>
    go_wp2_with fail
    go_ret
    exact ⟨rfl, HB1.out.trans (HB5.out.mono HB1.out.size), Nat.le_trans HD1.out HD5.out⟩
  | false =>
    go_wp2_with fail
    all_goals go_wp2_with fail
    all_goals go_ret
    all_goals exact ⟨rfl, HB1.out.trans (HB5.out.mono HB1.out.size), Nat.le_trans HD1.out HD5.out⟩
end Go.Proofs.Ytfdklmpkienfhaa
