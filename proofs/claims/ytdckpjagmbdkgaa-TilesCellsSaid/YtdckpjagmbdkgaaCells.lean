import Derived.BigRegionIn
import Derived.Test.YtdckpjagmbdkgaaRing
import Derived.Test.YtdckpjagmbdkgaaIterS

/- tiles.Cells. -/
namespace Go.Proofs.Ytdckpjagmbdkgaa
set_option linter.unusedSimpArgs false
set_option linter.unusedVariables false
open Go.RowKit
open Hy (Lev wd dnb Upto sumN aC pC sC levF)

/-- The corner opposite to a mirror is this tile's. -/
def ptsOf (o : Hy.Ord) (G : List Hy.Node) (x m : Nat) : Bool := decide (0 < o.m (fstM m) (sndM m)) && (!dnb G x (fstM m) && !dnb G x (sndM m))
def sdOf (G : List Hy.Node) (x m : Nat) : Bool := !dnb G x m
/-- The pairs of a tile, and those of the first tiles of a ring. -/
def rowP (f : Nat → Nat → Bool) (x m : Nat) : List (Nat × Nat) := ((List.range m).filter (f x)).map (x, ·)
def allP (f : Nat → Nat → Bool) (ring : List Nat) (p : Nat) : List (Nat × Nat) := (ring.take p).flatMap fun x => rowP f x 3

theorem rowP_succ (f : Nat → Nat → Bool) (x m : Nat) : rowP f x (m + 1) = if f x m = true then rowP f x m ++ [(x, m)] else rowP f x m := by
  unfold rowP
  rw [List.range_succ, List.filter_append, List.map_append]
  cases h : f x m <;> simp [h]
theorem allP_succ (f : Nat → Nat → Bool) {ring : List Nat} {p x : Nat} (h : ring[p]? = some x) : allP f ring (p + 1) = allP f ring p ++ rowP f x 3 := by
  unfold allP
  rw [List.take_add_one, List.flatMap_append, h]
  simp
theorem mem_rowP {f : Nat → Nat → Bool} {x m : Nat} {q : Nat × Nat} (h : q ∈ rowP f x m) : q.1 = x ∧ q.2 < m := by
  obtain ⟨y, hy, rfl⟩ := List.mem_map.1 h
  exact ⟨rfl, List.mem_range.1 (List.mem_filter.1 hy).1⟩
theorem mem_allP {f : Nat → Nat → Bool} {ring : List Nat} {p : Nat} {q : Nat × Nat} (h : q ∈ allP f ring p) : ∃ j, j < p ∧ ring[j]? = some q.1 := by
  obtain ⟨x, hx, h2⟩ := List.mem_flatMap.1 h
  obtain ⟨j, hj⟩ := List.getElem?_of_mem hx
  rw [(mem_rowP h2).1]
  have hjl : j < p := by
    rcases Nat.lt_or_ge j p with h | h
    · exact h
    · rw [List.getElem?_eq_none (by simp; omega)] at hj; cases hj
  rw [List.getElem?_take_of_lt hjl] at hj
  exact ⟨j, hjl, hj⟩

theorem filter_cnt {o : Hy.Ord} {G : List Hy.Node} {i : Nat} {ring : List Nat} (h : Lev o G i ring) (c : Nat → Bool) : (ring.filter c).length = Hy.cnt (fun x => Hy.ln G x == i && c x) G.length := by
  have key : ∀ x, x ∈ ring.filter c ↔ x ∈ (List.range G.length).filter (fun x => Hy.ln G x == i && c x) := fun x => by
    rw [List.mem_filter, List.mem_filter, h.mem x, List.mem_range]
    unfold Hy.ln
    simp only [Bool.and_eq_true, beq_iff_eq, and_assoc]
  have h1 := Hy.nodup_sub (List.Pairwise.filter c h.nd) (fun x hx => (key x).1 hx)
  have h2 := Hy.nodup_sub (List.Pairwise.filter (fun x => Hy.ln G x == i && c x) (List.nodup_range (n := G.length))) (fun x hx => (key x).2 hx)
  unfold Hy.cnt
  omega
theorem len_rowP (f : Nat → Nat → Bool) (x : Nat) : (rowP f x 3).length = (if f x 0 then 1 else 0) + (if f x 1 then 1 else 0) + (if f x 2 then 1 else 0) := by
  rw [rowP_succ, rowP_succ, rowP_succ]
  have : rowP f x 0 = [] := rfl
  rw [this]
  cases f x 0 <;> cases f x 1 <;> cases f x 2 <;> rfl
theorem len_allP (f : Nat → Nat → Bool) : ∀ ring : List Nat, (ring.flatMap fun x => rowP f x 3).length = (ring.filter (f · 0)).length + (ring.filter (f · 1)).length + (ring.filter (f · 2)).length
  | [] => rfl
  | x :: ring => by
    rw [List.flatMap_cons, List.length_append, len_allP f ring, len_rowP, List.filter_cons, List.filter_cons, List.filter_cons]
    cases f x 0 <;> cases f x 1 <;> cases f x 2 <;> simp <;> omega
theorem allP_all (f : Nat → Nat → Bool) (ring : List Nat) : allP f ring ring.length = ring.flatMap fun x => rowP f x 3 := by
  unfold allP; rw [List.take_length]
theorem pts_count {o : Hy.Ord} {G : List Hy.Node} {i : Nat} {ring : List Nat} (h : Lev o G i ring) : (allP (ptsOf o G) ring ring.length).length = pC o G i := by
  rw [allP_all, len_allP, filter_cnt h, filter_cnt h, filter_cnt h]
  have key : ∀ m, m < 3 → Hy.cnt (fun x => Hy.ln G x == i && ptsOf o G x m) G.length = if 0 < o.m (fstM m) (sndM m) then Hy.bC G (fstM m) (sndM m) i else 0 := fun m hm => by
    unfold ptsOf
    by_cases h0 : 0 < o.m (fstM m) (sndM m)
    · simp only [h0, decide_true, Bool.true_and, if_true]
      rfl
    · simp only [h0, decide_false, Bool.false_and, Bool.and_false, if_false]
      exact Hy.cnt_none (fun _ _ => rfl)
  rw [key 0 (by omega), key 1 (by omega), key 2 (by omega)]
  rfl
theorem sds_count {o : Hy.Ord} {G : List Hy.Node} {i : Nat} {ring : List Nat} (h : Lev o G i ring) : (allP (sdOf G) ring ring.length).length = sC G i := by
  rw [allP_all, len_allP, filter_cnt h, filter_cnt h, filter_cnt h]
  rfl

/-- What has been counted ahead of the ring i. -/
structure CellsUp (o : Hy.Ord) (i T : Nat) (P S : List (Nat × Nat)) : Prop where
  num : ∀ G, Hy.Inv o G Hy.No → Upto G i → T = sumN (aC G) i ∧ P.length = sumN (pC o G) i ∧ S.length = sumN (sC G) i
  old : ∀ G ring, levF o i = some (G, ring) → ∀ q, q ∈ P ∨ q ∈ S → q.1 < G.length ∧ (wd G q.1).length < i

theorem CellsUp.zero (o : Hy.Ord) : CellsUp o 0 0 [] [] := ⟨fun _ _ _ => ⟨rfl, rfl, rfl⟩, fun _ _ _ q hq => by simp at hq⟩

theorem CellsUp.next {o : Hy.Ord} (F : Hy.Fine o) {i T : Nat} (hi : i < 900) {P S : List (Nat × Nat)} (h : CellsUp o i T P S) {G : List Hy.Node} {ring : List Nat} (hl : levF o i = some (G, ring)) :
    CellsUp o (i + 1) (T + ring.length) (P ++ allP (ptsOf o G) ring ring.length) (S ++ allP (sdOf G) ring ring.length) := by
  have L := Hy.lev_of F (by omega) hl
  refine ⟨fun G' I' U' => ?_, fun G' ring' hl' q hq => ?_⟩
  · obtain ⟨h1, h2, h3⟩ := h.num G' I' (U'.less (by omega))
    have U1 := U'.less (show i ≤ i + 1 by omega)
    rw [List.length_append, List.length_append, pts_count L, sds_count L, L.count, Hy.same_a F L.inv I' L.upto U1, Hy.same_p F L.inv I' L.upto U1, Hy.same_s F L.inv I' L.upto U1]
    exact ⟨by rw [h1]; rfl, by rw [h2]; rfl, by rw [h3]; rfl⟩
  · obtain ⟨k1, k2⟩ := Hy.lev_next F hi hl hl'
    have hring : ∀ q : Nat × Nat, (∃ j, j < ring.length ∧ ring[j]? = some q.1) → q.1 < G'.length ∧ (wd G' q.1).length < i + 1 := fun q hq => by
      obtain ⟨j, _, hj⟩ := hq
      have h1 := (L.mem q.1).1 (List.mem_of_getElem? hj)
      exact ⟨by omega, by rw [k2 _ h1.1]; omega⟩
    have hold : ∀ q : Nat × Nat, q.1 < G.length ∧ (wd G q.1).length < i → q.1 < G'.length ∧ (wd G' q.1).length < i + 1 := fun q hq => ⟨by omega, by rw [k2 _ hq.1]; omega⟩
    rcases hq with hq | hq
    · rcases List.mem_append.1 hq with hq | hq
      · exact hold q (h.old G ring hl q (.inl hq))
      · exact hring q (mem_allP hq)
    · rcases List.mem_append.1 hq with hq | hq
      · exact hold q (h.old G ring hl q (.inr hq))
      · exact hring q (mem_allP hq)

/-- What comes next has not been counted. -/
theorem fresh_P {o : Hy.Ord} (F : Hy.Fine o) {i T : Nat} (hi : i ≤ 900) {P0 S0 : List (Nat × Nat)} (h : CellsUp o i T P0 S0) {G : List Hy.Node} {ring : List Nat} (hl : levF o i = some (G, ring)) {p x m : Nat} (hx : ring[p]? = some x) (f : Nat → Nat → Bool) {Q : List (Nat × Nat)} (hQ : Q = P0 ∨ Q = S0) :
    (x, m) ∉ Q ++ allP f ring p ++ rowP f x m := by
  have L := Hy.lev_of F hi hl
  intro hm
  rcases List.mem_append.1 hm with hm | hm
  · rcases List.mem_append.1 hm with hm | hm
    · have h1 := (h.old G ring hl (x, m) (by rcases hQ with rfl | rfl; exact .inl hm; exact .inr hm)).2
      have h2 := (L.mem x).1 (List.mem_of_getElem? hx)
      simp only at h1
      omega
    · obtain ⟨j, hj, hjx⟩ := mem_allP hm
      simp only at hjx
      have hp := (List.getElem?_eq_some_iff.1 hx).1
      have hjl := (List.getElem?_eq_some_iff.1 hjx).1
      have := (List.getElem_inj (h₀ := hjl) (h₁ := hp) L.nd).1 (by rw [(List.getElem?_eq_some_iff.1 hjx).2, (List.getElem?_eq_some_iff.1 hx).2])
      omega
  · have := (mem_rowP hm).2
    simp only at this
    omega
end Go.Proofs.Ytdckpjagmbdkgaa

/- tiles.Cells: the walk. -/
namespace Go.Proofs.Ytdckpjagmbdkgaa
set_option linter.unusedSimpArgs false
set_option linter.unusedVariables false
open Go.RowKit
open Hy (Lev wd dnb Upto sumN aC pC sC levF)

/-- What holds ahead of round i. -/
structure CeI (o : Hy.Ord) (gx tb px sx pm sm gb N : Nat) (i : Nat) (C : Nat → Prop) (W : World) : Prop where
  cg : C gx
  ct : C tb
  cp : C px
  cs : C sx
  cpm : C pm
  csm : C sm
  low : ∀ k, C k → N ≤ k
  hg : W.heap[gx]? = some (.cells #[.pointer (some ⟨gb, 0, none⟩)] 58)
  hp : W.heap[px]? = some (.cells #[.map (some pm)] 92)
  hs : W.heap[sx]? = some (.cells #[.map (some sm)] 92)
  cnt : ∃ (T : Nat) (P S : List (Nat × Nat)), W.heap[tb]? = some (.cells #[.int .i64 T] 3) ∧ MapAt W encPair Value.bool pm (metOf P) ∧ MapAt W encPair Value.bool sm (metOf S) ∧ CellsUp o i T P S

theorem CeI.stable {o : Hy.Ord} {gx tb px sx pm sm gb N : Nat} {Own : Nat → Prop} : Stable Own (CeI o gx tb px sx pm sm gb N) := by
  rintro i C W W' h hs hsz
  obtain ⟨T, P, S, h1, h2, h3, h4⟩ := h.cnt
  exact ⟨h.cg, h.ct, h.cp, h.cs, h.cpm, h.csm, h.low, (hs _ (.inl h.cg)).trans h.hg, (hs _ (.inl h.cp)).trans h.hp, (hs _ (.inl h.cs)).trans h.hs, T, P, S, (hs _ (.inl h.ct)).trans h1, h2.of_heap (hs _ (.inl h.cpm)), h3.of_heap (hs _ (.inl h.csm)), h4⟩

/-- While the pairs of a ring are counted. -/
structure CeL (pm sm : Nat) (P0 S0 : List (Nat × Nat)) (fP fS : Nat → Nat → Bool) (ring : List Nat) (W2 : World) (p m x : Nat) (wr : World) : Prop where
  on : Only (fun k => k = pm ∨ k = sm ∨ W2.heap.size ≤ k) W2 wr
  mp : MapAt wr encPair Value.bool pm (metOf (P0 ++ allP fP ring p ++ rowP fP x m))
  ms : MapAt wr encPair Value.bool sm (metOf (S0 ++ allP fS ring p ++ rowP fS x m))

/-- Behind the corner of a mirror. -/
structure CeZ (pm sm sx db : Nat) (P0 S0 : List (Nat × Nat)) (fP fS : Nat → Nat → Bool) (G : List Hy.Node) (ring : List Nat) (W4 : World) (p m x : Nat) (wz : World) : Prop where
  on : Only (fun k => k = pm ∨ k = sm ∨ W4.heap.size ≤ k) W4 wz
  mp : MapAt wz encPair Value.bool pm (metOf (P0 ++ allP fP ring p ++ rowP fP x (m + 1)))
  ms : MapAt wz encPair Value.bool sm (metOf (S0 ++ allP fS ring p ++ rowP fS x m))
  hs : wz.heap[sx]? = some (.cells #[.map (some sm)] 92)
  cell : wz.cell? ⟨db, m, none⟩ = some (.bool (dnb G x m))

theorem alloc5 (w : World) (a b c d e : Obj) : (((((w.alloc a).alloc b).alloc c).alloc d).alloc e).heap[w.heap.size]? = some a ∧ (((((w.alloc a).alloc b).alloc c).alloc d).alloc e).heap[w.heap.size + 1]? = some b ∧
    (((((w.alloc a).alloc b).alloc c).alloc d).alloc e).heap[w.heap.size + 1 + 1]? = some c ∧ (((((w.alloc a).alloc b).alloc c).alloc d).alloc e).heap[w.heap.size + 1 + 1 + 1]? = some d ∧ (((((w.alloc a).alloc b).alloc c).alloc d).alloc e).heap[w.heap.size + 1 + 1 + 1 + 1]? = some e := by
  have h1 := World.alloc_heap_new w a
  have h2 := World.alloc_heap_new (w.alloc a) b
  have h3 := World.alloc_heap_new ((w.alloc a).alloc b) c
  have h4 := World.alloc_heap_new (((w.alloc a).alloc b).alloc c) d
  have h5 := World.alloc_heap_new ((((w.alloc a).alloc b).alloc c).alloc d) e
  simp only [World.size_alloc] at h2 h3 h4 h5
  have k2 : ∀ k, k < w.heap.size + 1 → (((((w.alloc a).alloc b).alloc c).alloc d).alloc e).heap[k]? = (w.alloc a).heap[k]? := fun k hk =>
    (Below.heap_alloc _ _ _ (by simp; omega)).trans ((Below.heap_alloc _ _ _ (by simp; omega)).trans ((Below.heap_alloc _ _ _ (by simp; omega)).trans (Below.heap_alloc _ _ _ (by simp; omega))))
  have k3 : ∀ k, k < w.heap.size + 1 + 1 → (((((w.alloc a).alloc b).alloc c).alloc d).alloc e).heap[k]? = ((w.alloc a).alloc b).heap[k]? := fun k hk =>
    (Below.heap_alloc _ _ _ (by simp; omega)).trans ((Below.heap_alloc _ _ _ (by simp; omega)).trans (Below.heap_alloc _ _ _ (by simp; omega)))
  have k4 : ∀ k, k < w.heap.size + 1 + 1 + 1 → (((((w.alloc a).alloc b).alloc c).alloc d).alloc e).heap[k]? = (((w.alloc a).alloc b).alloc c).heap[k]? := fun k hk =>
    (Below.heap_alloc _ _ _ (by simp; omega)).trans (Below.heap_alloc _ _ _ (by simp; omega))
  exact ⟨(k2 _ (by omega)).trans h1, (k3 _ (by omega)).trans h2, (k4 _ (by omega)).trans h3, (Below.heap_alloc _ _ _ (by simp)).trans h4, h5⟩

theorem cells_small {o : Hy.Ord} (F : Hy.Fine o) {i T : Nat} (hi : i ≤ 14) {G : List Hy.Node} {ring : List Nat} (L : Lev o G i ring) {P S : List (Nat × Nat)} (h : CellsUp o i T P S) : T ≤ 1000000000 := by
  obtain ⟨h1, _⟩ := h.num G L.inv L.upto
  have h2 := L.small
  have h3 : 3 ^ i ≤ 3 ^ 14 := Nat.pow_le_pow_right (by omega) hi
  have h4 : 3 ^ 14 = 4782969 := by decide
  have key : ∀ n, sumN (aC G) n ≤ n * G.length := fun n => by
    induction n with
    | zero => exact Nat.zero_le _
    | succ n ih =>
      have : aC G n ≤ G.length := by
        unfold Hy.aC Hy.cnt
        refine Nat.le_trans (List.length_filter_le _ _) ?_
        rw [List.length_range]; exact Nat.le_refl _
      rw [sumN, Nat.succ_mul]
      omega
  have h5 := key i
  have h6 : i * G.length ≤ 14 * G.length := Nat.mul_le_mul_right _ hi
  omega

attribute [local go_sem] Oper.semAt_some

set_option maxRecDepth 100000 in
set_option maxHeartbeats 4000000 in
theorem t04_Cells_ok (o : Hy.Ord) (he : Hy.ordErr o.m01 o.m12 o.m02 = 0) (n : Nat) (hn : n ≤ 14) (w : World) :
    Calls Try.prog 19 #[ordersV o.m01 o.m12 o.m02, .int .i64 n] w fun e w' => ∃ (T : Nat) (P S : List (Nat × Nat)), e = .returned (.tuple #[.int .i64 P.length, .int .i64 S.length, .int .i64 T, .int .i64 0]) ∧ Below w.heap.size w w' ∧ CellsUp o (n + 1) T P S := by
  have HR := Lib.hid (fun W => t04_ranged o.m01 o.m12 o.m02 n 14 W)
  have hre : ringErr o.m01 o.m12 o.m02 n 14 = 0 := by
    unfold ringErr
    rw [if_neg (by simpa using he), if_neg (by omega), if_neg (by omega)]
  rw [hre] at HR
  have HG := Lib.hid (fun W => t04_grown o W)
  unfold GrownPost at HG
  have HI := Lib.hid (fun (W : World) (gb rb0 : Nat) (v0 : Value) (nb pb : Nat) => rings_iter (w := W) (gb := gb) (rb0 := rb0) (v0 := v0) he n nb pb hn)
  have F : Hy.Fine o := Hy.fine_of he
  have h9 := Hy.ordErr_zero he
  have HO : Small o := ⟨by omega, by omega, by omega⟩
  have HF := Lib.hid F
  have HSM := Lib.hid HO
  clear hre he F h9 HO
  unfold ordersV at *
  refine calls_of_marks Try.func19 rfl ?_
  simp only [Try.ntmps19, List.size_toArray, List.length_cons, List.length_nil, Nat.reduceAdd, Nat.reduceSub, Array.replicate_succ, Array.replicate_zero, List.push_toArray, List.append_toArray, List.nil_append, List.cons_append]
  go_upto_region 1 with fail
  have hB0 : Below w.heap.size w ((w.alloc (.cells #[.int .i64 o.m01, .int .i64 o.m12, .int .i64 o.m02] 23)).alloc (.cells #[.int .i64 0] 3)) := ((Below.refl _ _).alloc (Nat.le_refl _) _).alloc (by simp) _
  have q0 : ((w.alloc (.cells #[.int .i64 o.m01, .int .i64 o.m12, .int .i64 o.m02] 23)).alloc (.cells #[.int .i64 0] 3)).heap[w.heap.size]? = some (.cells #[.int .i64 o.m01, .int .i64 o.m12, .int .i64 o.m02] 23) :=
    (Below.heap_alloc _ _ _ (by simp)).trans (World.alloc_heap_new w _)
  have q1 : ((w.alloc (.cells #[.int .i64 o.m01, .int .i64 o.m12, .int .i64 o.m02] 23)).alloc (.cells #[.int .i64 0] 3)).heap[w.heap.size + 1]? = some (.cells #[.int .i64 0] 3) := by
    have := World.alloc_heap_new (w.alloc (.cells #[.int .i64 o.m01, .int .i64 o.m12, .int .i64 o.m02] 23)) (.cells #[.int .i64 0] 3)
    rwa [World.size_alloc] at this
  have hsz0 : ((w.alloc (.cells #[.int .i64 o.m01, .int .i64 o.m12, .int .i64 o.m02] 23)).alloc (.cells #[.int .i64 0] 3)).heap.size = w.heap.size + 2 := by simp
  have HB0 := Lib.hid hB0
  have HQ0 := Lib.hid q0
  have HQ1 := Lib.hid q1
  have HZ0 := Lib.hid hsz0
  clear hB0 q0 q1 hsz0
  generalize (w.alloc (.cells #[.int .i64 o.m01, .int .i64 o.m12, .int .i64 o.m02] 23)).alloc (.cells #[.int .i64 0] 3) = W0 at *
  have k0 := cell_of_heap HQ0.out 0
  have k1 := cell_of_heap HQ0.out 1
  have k2 := cell_of_heap HQ0.out 2
  simp at k0 k1 k2
  go_wp2_with fail
  refine (HR.out _).mono ?_
  rintro e w1 ⟨rfl, hB1⟩
  have HB1 := Lib.hid hB1
  have lk0 : w.heap.size < W0.heap.size := by have := HZ0.out; omega
  have lk1 : w.heap.size + 1 < W0.heap.size := by have := HZ0.out; omega
  have c0 := (hB1.cell (p := ⟨w.heap.size, 0, none⟩) lk0).trans k0
  have c1 := (hB1.cell (p := ⟨w.heap.size, 1, none⟩) lk0).trans k1
  have c2 := (hB1.cell (p := ⟨w.heap.size, 2, none⟩) lk0).trans k2
  clear hB1 k0 k1 k2
  go_wp2_with fail
  refine (HG.out _).mono ?_
  rintro e w2 ⟨gb, rb, v, rfl, hT, hB2⟩
  have hmm := @run_makeMap Try.prog
  have HT2 := Lib.hid hT
  have HB2 := Lib.hid hB2
  clear hT hB2
  go_upto_region 6 with fail
  clear hmm c0 c1 c2
  obtain ⟨W3, hW3⟩ : ∃ W3, W3 = (((((w2.alloc (.cells #[.pointer (some ⟨gb, 0, none⟩)] 58)).alloc (.map #[] 0)).alloc (.map #[] 0)).alloc (.cells #[.map (some (w2.heap.size + 1))] 92)).alloc (.cells #[.map (some (w2.heap.size + 1 + 1))] 92)) := ⟨_, rfl⟩
  have hsz3 : W3.heap.size = w2.heap.size + 5 := by rw [hW3]; simp
  have hB3 : Below w2.heap.size w2 W3 := by
    rw [hW3]
    exact (((((Below.refl _ _).alloc (Nat.le_refl _) _).alloc (by simp) _).alloc (by simp; omega) _).alloc (by simp; omega) _).alloc (by simp; omega) _
  obtain ⟨q3, q4, q5, q6, q7⟩ := alloc5 w2 (.cells #[.pointer (some ⟨gb, 0, none⟩)] 58) (.map #[] 0) (.map #[] 0) (.cells #[.map (some (w2.heap.size + 1))] 92) (.cells #[.map (some (w2.heap.size + 1 + 1))] 92)
  rw [← hW3] at q3 q4 q5 q6 q7
  rw [← hW3]
  obtain ⟨gx, hgx⟩ : ∃ gx, gx = w2.heap.size := ⟨_, rfl⟩
  obtain ⟨pm, hpm⟩ : ∃ pm, pm = gx + 1 := ⟨_, rfl⟩
  obtain ⟨sm, hsm⟩ : ∃ sm, sm = gx + 1 + 1 := ⟨_, rfl⟩
  obtain ⟨px, hpx⟩ : ∃ px, px = gx + 1 + 1 + 1 := ⟨_, rfl⟩
  obtain ⟨sx, hsx⟩ : ∃ sx, sx = gx + 1 + 1 + 1 + 1 := ⟨_, rfl⟩
  obtain ⟨tb, htb⟩ : ∃ tb, tb = w.heap.size + 1 := ⟨_, rfl⟩
  rw [← hgx, ← hsx, ← hpx, ← hsm, ← hpm, ← htb]
  rw [← hgx] at q3 q4 q5 q6 q7 hsz3
  rw [← hsx, ← hsm] at q7
  rw [← hpx, ← hpm] at q6
  rw [← hsm] at q5
  rw [← hpm] at q4
  have hT3 := HT2.out.heap hB3
  have HT3 := Lib.hid hT3
  have HQ3 := Lib.hid q3
  have HQ4 := Lib.hid (show MapAt W3 encPair Value.bool pm (metOf []) from ⟨#[], 0, q4, rfl, by simp [Stamps]⟩)
  have HQ5 := Lib.hid (show MapAt W3 encPair Value.bool sm (metOf []) from ⟨#[], 0, q5, rfl, by simp [Stamps]⟩)
  have HQ6 := Lib.hid q6
  have HQ7 := Lib.hid q7
  have HW := Lib.hid (show w.heap.size + 2 ≤ w1.heap.size ∧ w1.heap.size ≤ gx ∧ W3.heap.size = gx + 5 ∧ tb = w.heap.size + 1 ∧ pm = gx + 1 ∧ sm = gx + 2 ∧ px = gx + 3 ∧ sx = gx + 4 from ⟨by have := HZ0.out; have := HB1.out.size; omega, by rw [hgx]; exact HB2.out.size, by omega, htb, hpm, by omega, by omega, by omega⟩)
  have HLO := Lib.hid (show (w1.heap.size ≤ gb ∧ w1.heap.size ≤ rb) ∧ gb < gx ∧ rb < gx from ⟨HT2.out.lo, by rw [hgx]; exact HT2.out.lt⟩)
  have HQT := Lib.hid (show W3.heap[tb]? = some (.cells #[.int .i64 0] 3) from by
    rw [htb]
    exact (hB3.block _ (by have := HB2.out.size; have := HB1.out.size; omega)).trans ((HB2.out.block _ (by have := HB1.out.size; omega)).trans ((HB1.out.block _ lk1).trans HQ1.out)))
  have HB03 := Lib.hid (show Below w.heap.size w W3 from (HB0.out.trans (HB1.out.mono HB0.out.size)).trans ((HB2.out.mono (Nat.le_trans HB0.out.size HB1.out.size)).trans (hB3.mono (Nat.le_trans HB0.out.size (Nat.le_trans HB1.out.size HB2.out.size)))))
  have d1 := cell_of_heap q3 0
  simp at d1
  clear hT3 q3 q4 q5 q6 q7 hsz3 hB3 hW3 htb hgx hpm hsm hpx hsx HB0 HB1 HB2 HQ0 HQ1 HZ0 lk0 lk1 HT2
  go_wp2_with fail
  refine (t04_rings gb n _).mono ?_
  rintro e w4 ⟨rfl, hB4, hsz4, hnb, hpb⟩
  have HB4 := Lib.hid hB4
  have HSZ4 := Lib.hid hsz4
  have HNB := Lib.hid hnb
  have HPB := Lib.hid hpb
  clear hB4 hsz4 hnb hpb d1
  go_wp2_with fail
  have hltT := HT3.out.lt
  have hT4 : TG w4 o (fun k => k ≠ W3.heap.size + 1 ∧ k ≠ W3.heap.size) gb rb v Hy.start := (HT3.out.heap HB4.out).sub ⟨by omega, by omega⟩ ⟨by omega, by omega⟩
  have HIT := Lib.hid (HI.out w4 gb rb v _ _ HNB.out HPB.out hT4)
  have h1t := (HB4.out.block tb (by have := HW.out; omega)).trans HQT.out
  have h1g := (HB4.out.block gx (by have := HW.out; omega)).trans HQ3.out
  have h1p := (HB4.out.block px (by have := HW.out; omega)).trans HQ6.out
  have h1s := (HB4.out.block sx (by have := HW.out; omega)).trans HQ7.out
  have h1pm := HQ4.out.of_heap (HB4.out.block pm (by have := HW.out; omega))
  have h1sm := HQ5.out.of_heap (HB4.out.block sm (by have := HW.out; omega))
  have HB04 := Lib.hid (HB03.out.trans (HB4.out.mono HB03.out.size))
  obtain ⟨C0, hC0⟩ : ∃ C0 : Nat → Prop, C0 = fun k => k = tb ∨ (gx ≤ k ∧ k ≤ gx + 4) := ⟨_, rfl⟩
  have hc0 : ∀ k, C0 k ↔ (k = tb ∨ (gx ≤ k ∧ k ≤ gx + 4)) := fun k => by rw [hC0]
  have HI0 := Lib.hid (show CeI o gx tb px sx pm sm gb w.heap.size 0 C0 w4 from by
    have := HW.out
    exact ⟨(hc0 _).2 (.inr (by omega)), (hc0 _).2 (.inl rfl), (hc0 _).2 (.inr (by omega)), (hc0 _).2 (.inr (by omega)), (hc0 _).2 (.inr (by omega)), (hc0 _).2 (.inr (by omega)), fun k hk => by rcases (hc0 k).1 hk with rfl | h <;> omega,
      h1g, h1p, h1s, 0, [], [], h1t, h1pm, h1sm, CellsUp.zero o⟩)
  clear hltT hT4 h1t h1g h1p h1s h1pm h1sm HR HG HI HT3 HNB HPB HQ3 HQ4 HQ5 HQ6 HQ7 HQT HB03 HB4
  clear hC0
  refine wp_rangeS (gf := 51) (lb := #[.pointer (some ⟨W3.heap.size + 1, 0, none⟩), .pointer (some ⟨W3.heap.size, 0, none⟩)]) rfl (fun args w => by simp [go_sem]) HIT.out (Nat.le_refl _) ?hps
    (CeI o gx tb px sx pm sm gb w.heap.size) (fun _ _ _ _ => False) CeI.stable ?hIx C0 ?hC0 ?hOwn ?hSh HI0.out ?hround ?hdone ?hstop
  case hps =>
    rintro i C args W ⟨_, _, _, _, _, rfl, _⟩
    rfl
  case hIx => exact fun c i C W W' h _ _ => h
  case hC0 =>
    intro k hk
    have := HW.out
    have := HSZ4.out
    rcases (hc0 k).1 hk with rfl | h <;> omega
  case hOwn =>
    intro k hk
    have := HW.out
    have := HSZ4.out
    refine ⟨?_, rfl, fun h => ?_⟩
    · rcases hk with rfl | rfl <;> omega
    · rcases (hc0 k).1 h with e | e <;> rcases hk with rfl | rfl <;> omega
  case hSh =>
    intro k hk
    have h1 := HW.out
    have h2 := HLO.out
    have := HSZ4.out
    refine ⟨?_, rfl, fun h => ?_⟩
    · rcases hk with rfl | rfl <;> omega
    · rcases (hc0 k).1 h with e | e <;> rcases hk with rfl | rfl <;> omega
  case hstop => exact fun D i c C W _ _ h => h.elim
  case hdone =>
    intro D C W hD hI hO hK
    obtain ⟨T, P, S, ht, hmp, hms, hup⟩ := hI.cnt
    have HK := Lib.hid hK
    have HO := Lib.hid hO
    have HIT' := Lib.hid ht
    have HUP := Lib.hid hup
    have t0 := cell_of_heap ht 0
    have tf := free_of_heap ht 0
    have p0 := cell_of_heap hI.hp 0
    have s0 := cell_of_heap hI.hs 0
    simp only [List.getElem?_toArray, List.getElem?_cons_zero] at t0 p0 s0
    have ltb := (Array.getElem?_eq_some_iff.1 ht).1
    have lpx := (Array.getElem?_eq_some_iff.1 hI.hp).1
    have lsx := (Array.getElem?_eq_some_iff.1 hI.hs).1
    have l0 := fun (y : Later W) => ((bcell y.h).1 px 0 lpx).trans p0
    have l1 := fun (y : Later W) => ((bcell y.h).1 sx 0 lsx).trans s0
    have l2 := fun (y : Later W) => ((bcell y.h).1 tb 0 ltb).trans t0
    have l3 := fun (y : Later W) => (hmp.of_heap (y.h.block pm hmp.lt)).len Try.underlying92 3
    have l4 := fun (y : Later W) => (hms.of_heap (y.h.block sm hms.lt)).len Try.underlying92 3
    have hlp : (metOf P).length = P.length := by simp [metOf]
    have hls : (metOf S).length = S.length := by simp [metOf]
    rw [hlp] at l3
    rw [hls] at l4
    clear hI hO hK ht hmp hms hup hlp hls
    simp only [Exit.inBlock, Exit.then]
    go_upto_region 22 with fail
    have m3 := l3 ⟨W.drew, (Below.refl _ _).drew⟩
    have m4 := l4 ⟨W.drew, (Below.refl _ _).drew⟩
    simp only at m3 m4
    clear l0 l1 l2 l3 l4
    go_region
    all_goals go_wp2_with fail
    have hDt : D ≠ tb := by have := HW.out; have := HSZ4.out; omega
    obtain ⟨Wf, hWf⟩ : ∃ Wf, Wf = (W.setCell ⟨tb, 0, none⟩ (.int .i64 T)).drew := ⟨_, rfl⟩
    rw [← hWf]
    have hof : Only (fun k => k = tb) W Wf := by rw [hWf]; exact ((Only.refl (fun k => k = tb) W).setCell (p := ⟨tb, 0, none⟩) rfl _).drew
    have hKf : Wf.heap[D]? = some (.deferred (some [])) := (hof.block D hDt).trans HK.out
    have htf : Wf.heap[tb]? = some (.cells #[.int .i64 T] 3) := by
      rw [hWf]
      show (W.setCell ⟨tb, 0, none⟩ (.int .i64 T)).heap[tb]? = _
      rw [heap_setCell_same _ _ _ _ _ _ HIT'.out]; rfl
    have hf2 := (only_putObj (B := fun k => k = D) Wf rfl (.deferred none))
    have htg : (Wf.putObj D (.deferred none)).heap[tb]? = some (.cells #[.int .i64 T] 3) := (hf2.block tb (fun e => hDt e.symm)).trans htf
    have hcg := cell_of_heap htg 0
    simp only [List.getElem?_toArray, List.getElem?_cons_zero] at hcg
    have hBf : Below w.heap.size w (Wf.putObj D (.deferred none)) := HB04.out.trans ((HO.out.below (fun k hk => by
      have h1 := HW.out
      have h2 := HLO.out
      have h3 := HSZ4.out
      rcases hk with (hk | hk) | hk
      · rcases (hc0 k).1 hk with rfl | h <;> omega
      · omega
      · rcases hk with rfl | rfl <;> omega)).trans ((hof.below (fun k hk => by have := HW.out; omega)).trans (hf2.below (fun k hk => by have := HW.out; have := HSZ4.out; omega))))
    refine post_marks1 (v := .tuple #[.int .i64 P.length, .int .i64 S.length, .int .i64 T, .int .i64 0]) rfl hKf ?_ ⟨T, P, S, rfl, hBf, HUP.out⟩
    simp [results, Try.results19, go_sem, hcg]
  case hround =>
    rintro l i C args W hi ⟨rb1, v1, G, ring, rv, rfl, hT, hL, hQ, hrb, hdet⟩ hI hC hsz hCl hlW hOl
    simp only [List.zip_toArray, List.zip_cons_cons, List.zip_nil_left, List.size_toArray, List.foldl_toArray, List.foldl_cons, List.foldl_nil, List.setIfInBounds_toArray, List.set_cons_succ, List.set_cons_zero]
    have HT := Lib.hid hT; have HL := Lib.hid hL; have HQ := Lib.hid hQ; have HRB := Lib.hid hrb; have HI := Lib.hid hI; have HC := Lib.hid hC; have HDET := Lib.hid hdet
    have HLW := Lib.hid (And.intro hCl hlW)
    clear hT hL hQ hrb hI hC hsz hCl hlW hOl hdet
    gi_wp2_with fail
    refine ⟨Only.refl _ _, ?_⟩
    intro W2 hs2 hk2
    have hlt1 := HT.out.lt
    have hlo1 := HT.out.lo
    have hnl : ∀ k, C k → k ≠ l ∧ k < W.heap.size := fun k hk => ⟨fun e => HLW.out.1 (e ▸ hk), HC.out k hk⟩
    have hI2 : CeI o gx tb px sx pm sm gb w.heap.size i C W2 := (CeI.stable (Own := fun _ => False)) _ _ _ _ HI.out (fun k hk => hk2 k (hk.elim (fun hk => (hnl k hk).1) (fun h => h.elim))) (by omega)
    have hT2 : TG W2 o (fun k => ¬ C k) gb rb1 v1 G := ⟨(hk2 gb (fun e => hlo1.1 (.inr (.inr e)))).trans HT.out.graph, HT.out.row.of_heap (hk2 rb1 (fun e => hlo1.2 (.inr (.inr e)))) (by omega), HT.out.ne, ⟨fun h => hlo1.1 (.inl h), fun h => hlo1.2 (.inl h)⟩, HT.out.closed⟩
    have hQ2 : GQ W2 rv (natVs ring) := by
      rcases HQ.out with h | ⟨g, h⟩
      · exact .inl h
      · have hv : rv.ownBlock = some g := by obtain ⟨off, cap, rfl, _⟩ := h; rfl
        exact .inr ⟨g, h.of_heap (hk2 g (fun e => HRB.out g hv (.inr (.inr e)))) (by omega)⟩
    obtain ⟨T, P0, S0, ht, hmp, hms, hup⟩ := hI2.cnt
    have hrs := mid_len HL.out (by omega)
    have HRL := Lib.hid hrs
    obtain ⟨T0, hT0⟩ : ∃ T0 : Nat, T0 = T := ⟨_, rfl⟩
    have hTs : T ≤ 1000000000 := cells_small HF.out (by omega) HL.out hup
    obtain ⟨a0, c0, hrv, hcells⟩ := hQ2.open
    obtain ⟨L, hLL⟩ : ∃ L, L = (natVs ring).length := ⟨_, rfl⟩
    rw [← hLL] at hrv
    subst hrv
    have HLN := Lib.hid (show L = ring.length from by rw [hLL]; simp [natVs])
    have hLs : L ≤ 20000000 := by rw [hLL]; simp [natVs]; exact hrs
    have t0 := cell_of_heap ht 0
    have tf := free_of_heap ht 0
    simp only [List.getElem?_toArray, List.getElem?_cons_zero] at t0
    clear hLL hcells hT0
    gi_upto_region 9 with fail
    obtain ⟨W5, hW5⟩ : ∃ W5, W5 = W2.setCell ⟨tb, 0, none⟩ (.int .i64 ((T : Int) + (L : Int))) := ⟨_, rfl⟩
    have ho5 : Only (fun k => k = tb) W2 W5 := by rw [hW5]; exact (Only.refl (fun k => k = tb) W2).setCell (p := ⟨tb, 0, none⟩) rfl _
    have ht5 : W5.heap[tb]? = some (.cells #[.int .i64 (((T + L : Nat) : Nat) : Int)] 3) := by
      rw [hW5, heap_setCell_same _ _ _ _ _ _ ht, show (((T + L : Nat) : Nat) : Int) = (T : Int) + (L : Int) from by omega]; rfl
    rw [← hW5]
    have hne := HW.out
    have nC : ∀ k, ¬ C k → ¬ k = tb := fun k hk e => hk (e ▸ hI2.ct)
    have HT5 := Lib.hid (show TG W5 o (fun k => ¬ C k) gb rb1 v1 G from hT2.only ho5 (nC _ hT2.lo.1) (nC _ hT2.lo.2))
    have HQ5 := Lib.hid (show GQ W5 (.slice a0 L c0) (natVs ring) from hQ2.only ho5 (fun b hb e => HRB.out b hb (.inl (e ▸ hI2.ct))))
    have HTB5 := Lib.hid ht5
    have HG5 := Lib.hid ((ho5.block gx (by omega)).trans hI2.hg)
    have HP5 := Lib.hid ((ho5.block px (by omega)).trans hI2.hp)
    have HS5 := Lib.hid ((ho5.block sx (by omega)).trans hI2.hs)
    have HL5 := Lib.hid (show CeL pm sm P0 S0 (ptsOf o G) (sdOf G) ring W5 0 0 0 W5 from ⟨Only.refl _ _, by
      have h := hmp.of_heap (ho5.block pm (by omega)); simpa [allP, rowP] using h, by
      have h := hms.of_heap (ho5.block sm (by omega)); simpa [allP, rowP] using h⟩)
    have HO5 := Lib.hid ho5
    have HI2 := Lib.hid hI2
    have HUP := Lib.hid hup
    have HS2 := Lib.hid hs2
    have HNL := Lib.hid hnl
    clear hW5 ho5 ht5 nC hne hI2 hT2 hQ2 hmp hms hup hs2 hk2 hlt1 hlo1 ht t0 tf hnl hTs hrs
    gi_wp2_with fail
    gi_loopw [40] (fun pv wr => ∃ (p : Nat), pv = .int .i64 p ∧ p ≤ ring.length ∧ Hid (CeL pm sm P0 S0 (ptsOf o G) (sdOf G) ring W5 p 0 0 wr)) (fun pv _ => ring.length - (intOf pv).toNat)
    case atStart => exact ⟨0, rfl, Nat.zero_le _, HL5⟩
    case round =>
      clear HL5
      obtain ⟨p, rfl, hp, HS⟩ := hrel
      by_cases hlt : p < ring.length
      · have hpi : (p : Int) < (L : Int) := by have := HLN.out; omega
        obtain ⟨x, hx⟩ : ∃ x, ring[p]? = some x := ⟨ring[p], List.getElem?_eq_getElem hlt⟩
        have hlowC := HI2.out.low
        have HOW := Lib.hid (show ∀ k, ¬ C k → k < W5.heap.size → ¬ (k = pm ∨ k = sm ∨ W5.heap.size ≤ k) from fun k hk hl h => by
          rcases h with rfl | rfl | h
          · exact hk HI2.out.cpm
          · exact hk HI2.out.csm
          · omega)
        have hTr : TG wr o (fun k => ¬ C k) gb rb1 v1 G := HT5.out.only HS.out.on (HOW.out _ HT5.out.lo.1 HT5.out.lt.1) (HOW.out _ HT5.out.lo.2 HT5.out.lt.2)
        have hQr : GQ wr (.slice a0 L c0) (natVs ring) := HQ5.out.only HS.out.on (fun b hb => HOW.out b (fun h => HRB.out b hb (.inl h)) (HQ5.out.lt b hb))
        have hsz5 := HO5.out.size
        have hgr : wr.heap[gx]? = some (.cells #[.pointer (some ⟨gb, 0, none⟩)] 58) := (HS.out.on.block gx (by have := HW.out; have := (HNL.out gx HI2.out.cg).2; have := HS2.out; omega)).trans HG5.out
        obtain ⟨a1, c1, hsl, hcells⟩ := hQr.open
        obtain ⟨g, off, ha, hcell⟩ := hcells p (natV x) (by simp [natVs, hx])
        simp only [Value.slice.injEq] at hsl
        have e1 := hsl.1
        rw [← e1] at ha
        subst ha
        unfold natV at hcell
        have hx0 := (HL.out.mem x).1 (List.mem_of_getElem? hx)
        obtain ⟨nd, hnd⟩ : ∃ nd, G[x]? = some nd := ⟨G[x], List.getElem?_eq_getElem hx0.1⟩
        obtain ⟨off2, cap2, rfl, hg2, hnode2, _, lgb, lrb⟩ := hTr.opened
        have n0 := (hnode2 x nd hnd).ndown 0 (by omega)
        have n1 := (hnode2 x nd hnd).ndown 1 (by omega)
        have n2 := (hnode2 x nd hnd).ndown 2 (by omega)
        have hxi : (x : Int) < (G.length : Int) := by omega
        have HD := Lib.hid (show ∀ s, nd.down s = dnb G x s from fun s => by unfold dnb; rw [hnd])
        have g0 := cell_of_heap hgr 0
        simp only [List.getElem?_toArray, List.getElem?_cons_zero] at g0
        have HX := Lib.hid hx
        simp only [Nat.add_zero] at n0
        clear hnode2 hnd hx hcells hsl e1 hTr hQr hgr hlowC hx0
        gi_upto_region 13 with fail
        obtain ⟨W4, hW4⟩ : ∃ W4, W4 = wr.alloc (.cells #[.bool (nd.down 0), .bool (nd.down 1), .bool (nd.down 2)] 65) := ⟨_, rfl⟩
        have hb4 : Below wr.heap.size wr W4 := by rw [hW4]; exact (Below.refl _ _).alloc (Nat.le_refl _) _
        have hsz4 : W4.heap.size = wr.heap.size + 1 := by rw [hW4]; simp
        have hd4 : W4.heap[wr.heap.size]? = some (.cells #[.bool (dnb G x 0), .bool (dnb G x 1), .bool (dnb G x 2)] 65) := by
          rw [hW4, ← HD.out 0, ← HD.out 1, ← HD.out 2]; exact World.alloc_heap_new wr _
        rw [← hW4]
        obtain ⟨db, hdb⟩ : ∃ db, db = wr.heap.size := ⟨_, rfl⟩
        rw [← hdb] at hd4 hsz4 ⊢
        have HM0 := Lib.hid (show CeL pm sm P0 S0 (ptsOf o G) (sdOf G) ring W4 p 0 x W4 from ⟨Only.refl _ _, HS.out.mp.of_heap (hb4.block pm HS.out.mp.lt), HS.out.ms.of_heap (hb4.block sm HS.out.ms.lt)⟩)
        have HD4 := Lib.hid hd4
        have HB4 := Lib.hid hb4
        have HZ4 := Lib.hid (And.intro hsz4 hdb)
        have HXX := Lib.hid hxi
        clear n0 n1 n2 hg2 g0 hcell hW4 hb4 hsz4 hd4 hdb HD lgb lrb hxi
        gi_wp2_with fail
        gi_loopw [56] (fun mv wq => ∃ (m : Nat), mv = .int .i64 m ∧ m ≤ 3 ∧ Hid (CeL pm sm P0 S0 (ptsOf o G) (sdOf G) ring W4 p m x wq)) (fun mv _ => 3 - (intOf mv).toNat)
        case atStart => exact ⟨0, rfl, Nat.zero_le _, HM0⟩
        case round =>
          clear HM0
          obtain ⟨m, rfl, hm, HM⟩ := hrel
          by_cases hml : m < 3
          · have hmi : (m : Int) < 3 := by omega
            have hidx := corner_index m (by omega)
            obtain ⟨a, ha⟩ : ∃ a, a = fstM m := ⟨_, rfl⟩
            obtain ⟨b, hb⟩ : ∃ b, b = sndM m := ⟨_, rfl⟩
            rw [← ha, ← hb] at hidx
            have HAB := Lib.hid (And.intro ha hb)
            clear ha hb
            gi_upto_region 16 with fail
            have hMs := HM.out.on.size
            have hZ := HZ4.out
            have hH := HW.out
            have hS5 := HO5.out.size
            have hin : ∀ k, C k → k < db := fun k hk => by have := (HNL.out k hk).2; have := HS2.out; have := HS.out.on.size; omega
            have hnp : ∀ k, ¬ C k → k < W4.heap.size → ¬ (k = pm ∨ k = sm ∨ W4.heap.size ≤ k) := fun k hk hl h => by
              rcases h with rfl | rfl | h
              · exact hk HI2.out.cpm
              · exact hk HI2.out.csm
              · omega
            have hnq : ∀ k, k ≠ pm → k ≠ sm → k < W4.heap.size → ¬ (k = pm ∨ k = sm ∨ W4.heap.size ≤ k) := fun k h1 h2 h3 h => by omega
            obtain ⟨W6, hW6⟩ : ∃ W6, W6 = wr.alloc (.cells #[.int .i64 a, .int .i64 b] 93) := ⟨_, rfl⟩
            have hb6 : Below wr.heap.size wr W6 := by rw [hW6]; exact (Below.refl _ _).alloc (Nat.le_refl _) _
            have hp6 : W6.heap[wr.heap.size]? = some (.cells #[.int .i64 a, .int .i64 b] 93) := by rw [hW6]; exact World.alloc_heap_new wr _
            have hz6 : W6.heap.size = wr.heap.size + 1 := by rw [hW6]; simp
            rw [← hW6]
            obtain ⟨pb, hpb⟩ : ∃ pb, pb = wr.heap.size := ⟨_, rfl⟩
            rw [← hpb] at hp6 hz6 ⊢
            have hTr : TG W6 o (fun k => ¬ C k) gb rb1 _ G := ((HT5.out.only HS.out.on (fun h => by
                rcases h with h | h | h
                · exact HT5.out.lo.1 (h ▸ HI2.out.cpm)
                · exact HT5.out.lo.1 (h ▸ HI2.out.csm)
                · have := HT5.out.lt.1; omega) (fun h => by
                rcases h with h | h | h
                · exact HT5.out.lo.2 (h ▸ HI2.out.cpm)
                · exact HT5.out.lo.2 (h ▸ HI2.out.csm)
                · have := HT5.out.lt.2; omega)).heap HB4.out |>.only HM.out.on (hnp _ HT5.out.lo.1 (by have := HT5.out.lt.1; have := HS.out.on.size; omega)) (hnp _ HT5.out.lo.2 (by have := HT5.out.lt.2; have := HS.out.on.size; omega))).heap hb6
            have hgr : ∀ k, k ≠ pm → k ≠ sm → k < W5.heap.size → W6.heap[k]? = W5.heap[k]? := fun k h1 h2 h3 => by
              have h4 := HS.out.on.size
              refine (hb6.block k (by omega)).trans ((HM.out.on.block k (hnq k h1 h2 (by omega))).trans ((HB4.out.block k (by omega)).trans (HS.out.on.block k (fun h => by omega))))
            have hgx6 := (hgr gx (by omega) (by omega) (by have := hin gx HI2.out.cg; have := (HNL.out gx HI2.out.cg).2; have := HS2.out; omega)).trans HG5.out
            have hpx6 := (hgr px (by omega) (by omega) (by have := (HNL.out px HI2.out.cp).2; have := HS2.out; omega)).trans HP5.out
            have hsx6 := (hgr sx (by omega) (by omega) (by have := (HNL.out sx HI2.out.cs).2; have := HS2.out; omega)).trans HS5.out
            have hdb6 := (hb6.block db (by omega)).trans ((HM.out.on.block db (hnq db (by have := hin pm HI2.out.cpm; omega) (by have := hin sm HI2.out.csm; omega) (by omega))).trans HD4.out)
            have HORD := Lib.hid (t04_order hTr.graph a b (by rw [HAB.out.1]; unfold fstM; split <;> omega) (by rw [HAB.out.2]; unfold sndM; split <;> omega) (by rw [HAB.out.1, HAB.out.2]; unfold fstM sndM; split <;> split <;> omega))
            have hm6 := HM.out.mp.of_heap (hb6.block pm HM.out.mp.lt)
            have hs6 := HM.out.ms.of_heap (hb6.block sm HM.out.ms.lt)
            have hon6 : Only (fun k => k = pm ∨ k = sm ∨ W4.heap.size ≤ k) W4 W6 := HM.out.on.trans (by rw [hW6]; exact (Only.refl _ wr).alloc (fun k hk => .inr (.inr (by omega))) _)
            have hcell : ∀ s, s < 3 → ∀ W', Below W6.heap.size W6 W' → W'.cell? ⟨db, s, none⟩ = some (.bool (dnb G x s)) := fun s hs W' hb' => by
              rw [hb'.cell (p := ⟨db, s, none⟩) (show db < W6.heap.size by omega), cell_of_heap hdb6]
              have : s = 0 ∨ s = 1 ∨ s = 2 := by omega
              rcases this with rfl | rfl | rfl <;> rfl
            have g0 := cell_of_heap hgx6 0
            have p0 := cell_of_heap hp6 0
            have p1 := cell_of_heap hp6 1
            simp only [List.getElem?_toArray, List.getElem?_cons_zero, List.getElem?_cons_succ] at g0 p0 p1
            have ha2 : a < 3 ∧ b < 3 := by
              rw [HAB.out.1, HAB.out.2]
              constructor
              · unfold fstM; split <;> omega
              · unfold sndM; split <;> omega
            have hai : (a : Int) < 3 := by omega
            have hbi : (b : Int) < 3 := by omega
            obtain ⟨M, hM⟩ : ∃ M : Int, M = (o.m a b : Int) := ⟨_, rfl⟩
            rw [← hM] at HORD
            have HMM := Lib.hid hM
            have HC6 := Lib.hid hcell
            have HG6 := Lib.hid hgx6
            have HP6 := Lib.hid hpx6
            have HS6 := Lib.hid hsx6
            have HMP := Lib.hid hm6
            have HMS := Lib.hid hs6
            have HON := Lib.hid hon6
            have HPB := Lib.hid hp6
            have HZ6 := Lib.hid (show W6.heap.size = pb + 1 ∧ db < W4.heap.size ∧ W4.heap.size ≤ pb from ⟨hz6, by omega, by omega⟩)
            have HA3 := Lib.hid ha2
            have HIN := Lib.hid hin
            clear hM hcell hgx6 hpx6 hsx6 hm6 hs6 hon6 hp6 hz6 hdb6 hgr hTr hnq hnp hin hpb hb6 hW6 hMs hZ hH hS5 ha2
            gi_wp2_with fail
            refine ⟨trivial, rfl, (CallsIn.inRound l (callsIn_wide.2 HORD.out)).mono ?_⟩
            rintro e w7 ⟨rfl, hB7⟩
            have HB7 := Lib.hid hB7
            have ca := HC6.out a HA3.out.1 w7 hB7
            have cb := HC6.out b HA3.out.2 w7 hB7
            have lpb : pb < W6.heap.size := by have := HZ6.out; omega
            have p0 := (hB7.cell (p := ⟨pb, 0, none⟩) lpb).trans p0
            have p1 := (hB7.cell (p := ⟨pb, 1, none⟩) lpb).trans p1
            have lpx : px < W6.heap.size := (Array.getElem?_eq_some_iff.1 HP6.out).1
            have x0 := (hB7.cell (p := ⟨px, 0, none⟩) lpx).trans (cell_of_heap HP6.out 0)
            simp only [List.getElem?_toArray, List.getElem?_cons_zero] at x0
            obtain ⟨d0, hd0⟩ : ∃ d0, d0 = dnb G x a := ⟨_, rfl⟩
            obtain ⟨d1, hd1⟩ : ∃ d1, d1 = dnb G x b := ⟨_, rfl⟩
            rw [← hd0] at ca
            rw [← hd1] at cb
            have HD01 := Lib.hid (And.intro hd0 hd1)
            have hmp7 := HMP.out.of_heap (hB7.block pm HMP.out.lt)
            have HMP7 := Lib.hid hmp7
            have HMS7 := Lib.hid (HMS.out.of_heap (hB7.block sm HMS.out.lt))
            obtain ⟨ob, hput, hmput⟩ := hmp7.put keys_pair Try.underlying92 (x, m) true
            rw [put_met (fresh_P HF.out (by omega) HUP.out HDET.out HX.out _ (.inl rfl))] at hmput
            have HMPUT := Lib.hid hmput
            unfold encPair at hput
            have hcase : ¬ 0 < M ∨ (0 < M ∧ d0 = true) ∨ (0 < M ∧ d0 = false ∧ d1 = true) ∨ (0 < M ∧ d0 = false ∧ d1 = false) := by
              by_cases h1 : 0 < M
              · cases d0 <;> cases d1 <;> simp [h1]
              · exact .inl h1
            clear hB7 hd0 hd1 hmp7 hmput lpb lpx g0 hidx
            rcases hcase with hA | ⟨hA, rfl⟩ | ⟨hA, rfl, rfl⟩ | ⟨hA, rfl, rfl⟩
            all_goals gi_upto_region 18 with fail
            -- the four ways come together
            have hlsx : sx < W6.heap.size := (Array.getElem?_eq_some_iff.1 HS6.out).1
            have HZ := Lib.hid (show CeZ pm sm sx db P0 S0 (ptsOf o G) (sdOf G) G ring W4 p m x w7 from ⟨HON.out.trans (Only.of_below HB7.out (fun k hk => .inr (.inr (by have := HZ6.out; omega)))), by
                rw [rowP_succ, if_neg (by unfold ptsOf; rw [← HAB.out.1, ← HAB.out.2]; have := HMM.out; simp; omega)]; exact HMP7.out, HMS7.out, (HB7.out.block sx hlsx).trans HS6.out, HC6.out m hml w7 HB7.out⟩)
            rotate_left
            have hlsx : sx < W6.heap.size := (Array.getElem?_eq_some_iff.1 HS6.out).1
            have HZ := Lib.hid (show CeZ pm sm sx db P0 S0 (ptsOf o G) (sdOf G) G ring W4 p m x w7 from ⟨HON.out.trans (Only.of_below HB7.out (fun k hk => .inr (.inr (by have := HZ6.out; omega)))), by
                rw [rowP_succ, if_neg (by unfold ptsOf; rw [← HAB.out.1, ← HAB.out.2, ← HD01.out.1]; simp)]; exact HMP7.out, HMS7.out, (HB7.out.block sx hlsx).trans HS6.out, HC6.out m hml w7 HB7.out⟩)
            rotate_left
            have hlsx : sx < W6.heap.size := (Array.getElem?_eq_some_iff.1 HS6.out).1
            have HZ := Lib.hid (show CeZ pm sm sx db P0 S0 (ptsOf o G) (sdOf G) G ring W4 p m x w7 from ⟨HON.out.trans (Only.of_below HB7.out (fun k hk => .inr (.inr (by have := HZ6.out; omega)))), by
                rw [rowP_succ, if_neg (by unfold ptsOf; rw [← HAB.out.1, ← HAB.out.2, ← HD01.out.1, ← HD01.out.2]; simp)]; exact HMP7.out, HMS7.out, (HB7.out.block sx hlsx).trans HS6.out, HC6.out m hml w7 HB7.out⟩)
            rotate_left
            have hlsx : sx < W6.heap.size := (Array.getElem?_eq_some_iff.1 HS6.out).1
            have hopm : Only (fun k => k = pm) w7 (w7.putObj pm ob) := only_putObj (B := fun k => k = pm) w7 rfl ob
            have HZ := Lib.hid (show CeZ pm sm sx db P0 S0 (ptsOf o G) (sdOf G) G ring W4 p m x (w7.putObj pm ob) from ⟨(HON.out.trans (Only.of_below HB7.out (fun k hk => .inr (.inr (by have := HZ6.out; omega))))).trans (hopm.mono (fun k hk => .inl hk)), by
                rw [rowP_succ, if_pos (by unfold ptsOf; rw [← HAB.out.1, ← HAB.out.2, ← HD01.out.1, ← HD01.out.2]; have := HMM.out; simp; omega), ← List.append_assoc]; exact HMPUT.out, HMS7.out.of_heap (hopm.block sm (by have := HW.out; omega)), (hopm.block sx (by have := HW.out; omega)).trans ((HB7.out.block sx hlsx).trans HS6.out),
                (World.cell?_of_block (w := w7) (a := ⟨db, m, none⟩) (hopm.block db (by have := HIN.out pm HI2.out.cpm; omega))).trans (HC6.out m hml w7 HB7.out)⟩)
            generalize w7.putObj pm ob = w7 at *
            rotate_left
            all_goals clear p0 p1 ca cb x0 hput hA HMP7 HMS7 HMPUT HMP HMS HON HPB HB7 HORD HG6 HP6 HS6 HC6
            all_goals have s0 := cell_of_heap HZ.out.hs 0
            all_goals simp only [List.getElem?_toArray, List.getElem?_cons_zero] at s0
            all_goals have cm := HZ.out.cell
            all_goals obtain ⟨dm, hdm⟩ : ∃ dm, dm = dnb G x m := ⟨_, rfl⟩
            all_goals rw [← hdm] at cm
            all_goals obtain ⟨os, hput2, hm2⟩ := HZ.out.ms.put keys_pair Try.underlying92 (x, m) true
            all_goals rw [put_met (fresh_P HF.out (by omega) HUP.out HDET.out HX.out _ (.inr rfl))] at hm2
            all_goals unfold encPair at hput2
            all_goals have HM2 := Lib.hid hm2
            all_goals have HDM := Lib.hid hdm
            all_goals clear hm2 hdm
            all_goals cases dm
            all_goals gi_wp2_with fail
            all_goals go_roundw
            all_goals first | (case measure => simp [intOf]; omega) | skip
            all_goals first
              | (exact ⟨m + 1, by go_num, hml, Lib.hid ⟨HZ.out.on, HZ.out.mp, by rw [rowP_succ, if_neg (by unfold sdOf; rw [← HDM.out]; simp)]; exact HZ.out.ms⟩⟩)
              | (exact ⟨m + 1, by go_num, hml, Lib.hid ⟨HZ.out.on.trans ((only_putObj (B := fun k => k = sm) _ rfl os).mono (fun k hk => .inr (.inl hk))), HZ.out.mp.of_heap ((only_putObj (B := fun k => k = sm) _ rfl os).block pm (by have := HW.out; omega)), by rw [rowP_succ, if_pos (by unfold sdOf; rw [← HDM.out]; rfl), ← List.append_assoc]; exact HM2.out⟩⟩)
          · obtain rfl : m = 3 := by omega
            have hz0 : ∀ f : Nat → Nat → Bool, rowP f 0 0 = [] := fun f => rfl
            have HSN := Lib.hid (show CeL pm sm P0 S0 (ptsOf o G) (sdOf G) ring W5 (p + 1) 0 0 wr from ⟨HS.out.on.trans ((Only.of_below HB4.out (fun k hk => .inr (.inr (by have := HS.out.on.size; omega)))).trans (HM.out.on.mono (fun k hk => by
                rcases hk with hk | hk | hk
                · exact .inl hk
                · exact .inr (.inl hk)
                · exact .inr (.inr (by have := HS.out.on.size; have := HZ4.out; omega))))), by
                rw [allP_succ _ HX.out, hz0, List.append_nil, ← List.append_assoc]; exact HM.out.mp, by
                rw [allP_succ _ HX.out, hz0, List.append_nil, ← List.append_assoc]; exact HM.out.ms⟩)
            have hrl := HRL.out
            clear hm hml HM
            gi_wp2_with fail
            go_roundw
            case rel => exact ⟨p + 1, by go_num, hlt, HSN⟩
            case measure => simp [intOf]; omega
      · obtain rfl : p = ring.length := by omega
        have hpi : ¬ ((ring.length : Nat) : Int) < (L : Int) := by have := HLN.out; omega
        gi_wp2_with fail
        have hw1 := HW.out
        have hs5 := HO5.out.size
        have hs2 := HS2.out
        have kC : ∀ k, C k → k ≠ pm → k ≠ sm → ¬ (k = pm ∨ k = sm ∨ W5.heap.size ≤ k) := fun k hk h1 h2 h => by
          have := (HNL.out k hk).2
          omega
        refine ⟨(HO5.out.mono (fun k hk => .inl (hk ▸ HI2.out.ct))).trans (HS.out.on.mono (fun k hk => ?_)), C, fun k hk => ⟨.inl hk, by have := (HNL.out k hk).2; have := HS.out.on.size; omega⟩,
          HI2.out.cg, HI2.out.ct, HI2.out.cp, HI2.out.cs, HI2.out.cpm, HI2.out.csm, HI2.out.low, (HS.out.on.block gx (kC gx HI2.out.cg (by omega) (by omega))).trans HG5.out, (HS.out.on.block px (kC px HI2.out.cp (by omega) (by omega))).trans HP5.out, (HS.out.on.block sx (kC sx HI2.out.cs (by omega) (by omega))).trans HS5.out,
          T + L, P0 ++ allP (ptsOf o G) ring ring.length, S0 ++ allP (sdOf G) ring ring.length, (HS.out.on.block tb (kC tb HI2.out.ct (by omega) (by omega))).trans HTB5.out, ?_, ?_, ?_⟩
        · rcases hk with hk | hk | hk
          · exact .inl (hk ▸ HI2.out.cpm)
          · exact .inl (hk ▸ HI2.out.csm)
          · exact .inr (by omega)
        · have h := HS.out.mp
          rwa [show rowP (ptsOf o G) 0 0 = [] from rfl, List.append_nil] at h
        · have h := HS.out.ms
          rwa [show rowP (sdOf G) 0 0 = [] from rfl, List.append_nil] at h
        · rw [HLN.out]
          exact CellsUp.next HF.out (by omega) HUP.out HDET.out
end Go.Proofs.Ytdckpjagmbdkgaa

/- tiles.Cells: its errors. -/
namespace Go.Proofs.Ytdckpjagmbdkgaa
set_option linter.unusedSimpArgs false
set_option linter.unusedVariables false
open Go.RowKit

set_option maxRecDepth 100000 in
set_option maxHeartbeats 2000000 in
theorem t04_Cells_err (a b c n : Int) (w : World) (he : ringErr a b c n 14 ≠ 0) :
    Calls Try.prog 19 #[ordersV a b c, .int .i64 n] w fun e w' => e = .returned (.tuple #[.int .i64 0, .int .i64 0, .int .i64 0, .int .i64 (ringErr a b c n 14)]) ∧ Below w.heap.size w w' := by
  have HR := Lib.hid (fun W => t04_ranged a b c n 14 W)
  have hne : (ringErr a b c n 14 != 0) = true := by rw [bne_iff_ne]; exact he
  generalize ringErr a b c n 14 = er at *
  clear he
  unfold ordersV at *
  refine calls_of_marks Try.func19 rfl ?_
  simp only [Try.ntmps19, List.size_toArray, List.length_cons, List.length_nil, Nat.reduceAdd, Nat.reduceSub, Array.replicate_succ, Array.replicate_zero, List.push_toArray, List.append_toArray, List.nil_append, List.cons_append]
  go_upto_region 1 with fail
  have hB0 : Below w.heap.size w ((w.alloc (.cells #[.int .i64 a, .int .i64 b, .int .i64 c] 23)).alloc (.cells #[.int .i64 0] 3)) := ((Below.refl _ _).alloc (Nat.le_refl _) _).alloc (by simp) _
  have q0 : ((w.alloc (.cells #[.int .i64 a, .int .i64 b, .int .i64 c] 23)).alloc (.cells #[.int .i64 0] 3)).heap[w.heap.size]? = some (.cells #[.int .i64 a, .int .i64 b, .int .i64 c] 23) :=
    (Below.heap_alloc _ _ _ (by simp)).trans (World.alloc_heap_new w _)
  have q1 : ((w.alloc (.cells #[.int .i64 a, .int .i64 b, .int .i64 c] 23)).alloc (.cells #[.int .i64 0] 3)).heap[w.heap.size + 1]? = some (.cells #[.int .i64 0] 3) := by
    have := World.alloc_heap_new (w.alloc (.cells #[.int .i64 a, .int .i64 b, .int .i64 c] 23)) (.cells #[.int .i64 0] 3)
    rwa [World.size_alloc] at this
  have HB0 := Lib.hid hB0
  have HQ0 := Lib.hid q0
  have HQ1 := Lib.hid q1
  clear hB0 q0 q1
  generalize (w.alloc (.cells #[.int .i64 a, .int .i64 b, .int .i64 c] 23)).alloc (.cells #[.int .i64 0] 3) = W0 at *
  have k0 := cell_of_heap HQ0.out 0
  have k1 := cell_of_heap HQ0.out 1
  have k2 := cell_of_heap HQ0.out 2
  simp at k0 k1 k2
  go_wp2_with fail
  refine (HR.out _).mono ?_
  rintro e w1 ⟨rfl, hB1⟩
  have l1 : w.heap.size + 1 < W0.heap.size := (Array.getElem?_eq_some_iff.1 HQ1.out).1
  have ht := (hB1.block _ l1).trans HQ1.out
  have HT := Lib.hid ht
  have t0 := cell_of_heap ht 0
  have tf := free_of_heap ht 0
  simp only [List.getElem?_toArray, List.getElem?_cons_zero] at t0
  have HB1 := Lib.hid (HB0.out.trans (hB1.mono HB0.out.size))
  clear hB1 k0 k1 k2 ht l1
  go_wp2_with fail
  have hcg : (w1.setCell ⟨w.heap.size + 1, 0, none⟩ (.int .i64 0)).cell? ⟨w.heap.size + 1, 0, none⟩ = some (.int .i64 0) := by
    have h : (w1.setCell ⟨w.heap.size + 1, 0, none⟩ (.int .i64 0)).heap[w.heap.size + 1]? = some (.cells #[.int .i64 0] 3) := by rw [heap_setCell_same _ _ _ _ _ _ HT.out]; rfl
    exact cell_of_heap h 0
  refine post_marks0 (v := .tuple #[.int .i64 0, .int .i64 0, .int .i64 0, .int .i64 er]) (by simp [results, Try.results19, go_sem, hcg]) rfl ⟨rfl, HB1.out.setCell (p := ⟨w.heap.size + 1, 0, none⟩) (Nat.le_succ _) _⟩
end Go.Proofs.Ytdckpjagmbdkgaa
