/- Package cover: the numbering of an action from a point on. -/
import Derived.BigRegionIn
import Derived.Sort.CutIn
import Derived.Test.YtfdklmpkienfhaaGreatK4
namespace Go.Proofs.YtfdklmpkienfhaaGreat
set_option linter.unusedSimpArgs false
set_option linter.unusedVariables false
open Go.RowKit
open Cov (Fnd fst fnd fndS fndR fnd1)

theorem post_marks1 {P : Program} {fn : Func} {a : Act} {w : World} {v : Value} {D : Nat} {R : Ending → World → Prop} (hd : a.defers = [{ target := .collected D, args := #[] }]) (hK : w.heap[D]? = some (.deferred (some [])))
    (hr : (results fn a.tmps).run P (w.putObj D (.deferred none)) = .ok v (w.putObj D (.deferred none))) (hR : R (.returned v) (w.putObj D (.deferred none))) : bodyPostM Fence.wide 0 P fn R .ret a w := by
  show LeavesInM Fence.wide 0 P fn a.tmps R a.defers .returning w
  rw [hd]
  exact ⟨by simp, .inl ⟨D, _, rfl, run_takeDeferred hK, v, hr, hR⟩⟩

def onlyNormal (Q : Exit → Act → World → Prop) : Exit → Act → World → Prop
  | .normal, a, w => Q .normal a w
  | _, _, _ => False
theorem onlyNormal_imp (Q : Exit → Act → World → Prop) : ∀ e a w, onlyNormal Q e a w → Q e a w := by
  intro e a w h
  cases e <;> first | exact h | exact h.elim

theorem calls_of_marks {P : Program} {f : FuncId} {fn : Func} {c : Code} {args : Array Value} {w : World} {R : Ending → World → Prop} (hf : P.funcs[f]? = some fn) (hb : fn.body = some c)
    (h : c.wp P (bodyPostM Fence.wide 0 P fn R) { tmps := args ++ Array.replicate (fn.ntmps - args.size) undef, defers := [] } w) : Calls P f args w R :=
  (callsIn_wide (n := 0)).1 (callsIn_of_wp_marks hf hb trivial (wpIn_wide.2 h))

set_option maxRecDepth 100000 in
theorem cover_met (V : Nat → Value) (p : Int) (w : World) :
    Calls Tryz.prog 122 #[actV V, .int .i64 p] w fun e w' =>
      e = .returned (.func (.func 156) #[] #[.pointer (some ⟨w.heap.size, 0, none⟩), .pointer (some ⟨w.heap.size + 1, 0, none⟩)]) ∧ Below w.heap.size w w' ∧ w'.heap.size = w.heap.size + 2 ∧
        w'.heap[w.heap.size]? = some (.cells #[V 0, V 1, V 2] 27) ∧ w'.heap[w.heap.size + 1]? = some (.cells #[.int .i64 p] 3) := by
  unfold actV
  go_enter Tryz.func122, Tryz.ntmps122
  go_wp2_with fail
  go_ret
  refine ⟨rfl, ((Below.refl _ _).alloc (Nat.le_refl _) _).alloc (by simp) _, by simp, ?_, ?_⟩
  · exact (Below.heap_alloc _ _ _ (by simp)).trans (World.alloc_heap_new w _)
  · have := World.alloc_heap_new (w.alloc (.cells #[V 0, V 1, V 2] 27)) (.cells #[.int .i64 p] 3)
    rwa [World.size_alloc] at this

/-- The places of points as they lie in memory. -/
def placeL (n : Nat) (L : List Nat) : List Int := (List.range n).map fun x => if x ∈ L then ((L.idxOf x : Nat) : Int) else 0
theorem placeL_len (n : Nat) (L : List Nat) : (placeL n L).length = n := by simp [placeL]
theorem placeL_at {n : Nat} (L : List Nat) {x : Nat} (hx : x < n) : (placeL n L)[x]? = some (if x ∈ L then ((L.idxOf x : Nat) : Int) else 0) := by
  simp [placeL, hx]
theorem placeL_snoc {n : Nat} (L : List Nat) {y : Nat} (hy : y < n) (hn : y ∉ L) : placeL n (L ++ [y]) = (placeL n L).set y (L.length : Int) := by
  apply List.ext_getElem?
  intro i
  rw [List.getElem?_set]
  by_cases hi : i < n
  · rw [placeL_at _ hi, placeL_at _ hi]
    by_cases h : y = i
    · subst h
      simp [placeL_len, hy, List.idxOf_append, hn]
    · have h2 : (i ∈ L ++ [y]) ↔ i ∈ L := by simp [Ne.symm h]
      by_cases hm : i ∈ L
      · simp [h, hm, List.idxOf_append]
      · simp [h, hm, Ne.symm h]
  · have h1 : (placeL n (L ++ [y]))[i]? = none := List.getElem?_eq_none (by rw [placeL_len]; omega)
    have h2 : (placeL n L)[i]? = none := List.getElem?_eq_none (by rw [placeL_len]; omega)
    rw [h1, h2]
    split
    · rename_i h; subst h; rw [if_neg (by rw [placeL_len]; exact hi)]
    · rfl
theorem placeL_nil (n : Nat) : placeL n [] = List.replicate n 0 := by
  apply List.ext_getElem?
  intro i
  by_cases hi : i < n
  · rw [placeL_at _ hi, List.getElem?_replicate]
    simp [hi]
  · rw [List.getElem?_eq_none (by rw [placeL_len]; omega), List.getElem?_eq_none (by simp; omega)]

def intL (L : List Nat) : List Int := L.map Int.ofNat
def numV (V : Nat → Value) (pv lv : Value) : Value := .agg #[V 0, V 1, V 2, pv, lv]

/-- What holds ahead of round i. -/
structure NumI (V : Nat → Value) (M : List Nat) (n nb pb N : Nat) (i : Nat) (C : Nat → Prop) (W : World) : Prop where
  cn : C nb
  cp : C pb
  ne : nb ≠ pb
  low : ∀ k, C k → N ≤ k
  box : ∃ pv, W.heap[nb]? = some (.cells #[V 0, V 1, V 2, pv, .slice (some ⟨pb, 0, none⟩) n n] 121) ∧ GR W 1 pv i (nums .i64 (intL (M.take i))) ∧ (∀ b, pv.ownBlock = some b → C b ∧ b ≠ nb ∧ b ≠ pb)
  place : IQ .i64 W pb (.slice (some ⟨pb, 0, none⟩) n n) (placeL n (M.take i))
theorem NumI.stable {V : Nat → Value} {M : List Nat} {n nb pb N : Nat} {Own : Nat → Prop} : Stable Own (NumI V M n nb pb N) := by
  rintro i C W W' h hs hsz
  obtain ⟨pv, h1, h2, h3⟩ := h.box
  refine ⟨h.cn, h.cp, h.ne, h.low, ⟨pv, (hs _ (.inl h.cn)).trans h1, ?_, h3⟩, h.place.of_heap (hs _ (.inl h.cp)) hsz⟩
  exact h2.of_heap (fun b hb => hs b (.inl (h3 b hb).1)) hsz

theorem RS.ofGR {w : World} {v : Value} {n : Nat} {l : List Int} (h : GR w 1 v n (nums .i64 l)) : RS w.heap.size w v l := by
  rcases h.toGQ with ⟨rfl, h9⟩ | ⟨g, h⟩
  · obtain rfl : l = [] := List.map_eq_nil_iff.1 h9
    exact ⟨none, 0, rfl, Nat.le_refl _, fun k hk => absurd hk (Nat.not_lt_zero _)⟩
  · have hg := h.bd
    obtain ⟨off, cap, rfl, h2, _, _, h3, h4⟩ := QRow.open h
    exact ⟨some ⟨g, off, none⟩, cap, by simp [nums], by simpa [nums] using h3, fun k hk => ⟨g, off, rfl, hg, h2 k _ (nums_getD hk)⟩⟩

/-- The state behind the numbering's box. -/
structure NumS (V : Nat → Value) (n N : Nat) (w W : World) (nb pb : Nat) : Prop where
  ne : nb ≠ pb
  below : Below w.heap.size w W
  low : N ≤ nb ∧ N ≤ pb
  box : W.heap[nb]? = some (.cells #[V 0, V 1, V 2, .slice none 0 0, .slice (some ⟨pb, 0, none⟩) n n] 121)
  place : IQ .i64 W pb (.slice (some ⟨pb, 0, none⟩) n n) (List.replicate n 0)
  out : W.heap[w.heap.size + 1]? = some (.cells #[.slice none 0 0, .slice none 0 0, .slice none 0 0, .slice none 0 0, .slice none 0 0] 121)
  abox : W.heap[w.heap.size]? = some (.cells #[V 0, V 1, V 2] 27)

section
variable {V : Nat → Value} {n c0 c1 c2 : Nat} {a0 a1 a2 : Option Addr} {w W1 : World}
theorem numS_a (h0 : V 0 = .slice a0 n c0) (h1 : V 1 = .slice a1 n c1) (h2 : V 2 = .slice a2 n c2) (hs : W1.heap.size = w.heap.size + 2) (hB : Below w.heap.size w W1) (hn : n ≤ 200)
    (hr : W1.heap[w.heap.size + 1]? = some (.cells #[.slice none 0 0, .slice none 0 0, .slice none 0 0, .slice none 0 0, .slice none 0 0] 121)) (hq : W1.heap[w.heap.size]? = some (.cells #[V 0, V 1, V 2] 27)) :
    NumS V n (w.heap.size + 2) w ((W1.alloc (.cells (Array.replicate n (.int .i64 0)) 3)).alloc (.cells #[.slice a0 n c0, .slice a1 n c1, .slice a2 n c2, .slice none 0 0, .slice (some ⟨W1.heap.size, 0, none⟩) n n] 121)).drew (W1.heap.size + 1) W1.heap.size := by
  refine ⟨by omega, ((hB.alloc (by omega) _).alloc (by simp; omega) _).drew, by omega, ?_, ?_, ?_, ?_⟩
  · rw [h0, h1, h2]
    have := World.alloc_heap_new (W1.alloc (.cells (Array.replicate n (.int .i64 0)) 3)) (.cells #[.slice a0 n c0, .slice a1 n c1, .slice a2 n c2, .slice none 0 0, .slice (some ⟨W1.heap.size, 0, none⟩) n n] 121)
    rw [World.size_alloc] at this
    exact this
  · exact ((IQ.zeros .i64 W1 n 3 (by omega)).of_heap (Below.heap_alloc _ _ _ (by simp)) (by simp)).later ((Below.refl _ _).drew)
  · exact (Below.heap_alloc _ _ _ (by simp; omega)).trans ((Below.heap_alloc _ _ _ (by omega)).trans hr)
  · exact (Below.heap_alloc _ _ _ (by simp; omega)).trans ((Below.heap_alloc _ _ _ (by omega)).trans hq)
theorem numS_b (h0 : V 0 = .slice a0 n c0) (h1 : V 1 = .slice a1 n c1) (h2 : V 2 = .slice a2 n c2) (hs : W1.heap.size = w.heap.size + 2) (hB : Below w.heap.size w W1) (hn : n ≤ 200)
    (hr : W1.heap[w.heap.size + 1]? = some (.cells #[.slice none 0 0, .slice none 0 0, .slice none 0 0, .slice none 0 0, .slice none 0 0] 121)) (hq : W1.heap[w.heap.size]? = some (.cells #[V 0, V 1, V 2] 27)) :
    NumS V n (w.heap.size + 2) w ((W1.alloc (.cells #[.slice a0 n c0, .slice a1 n c1, .slice a2 n c2, .slice none 0 0, .slice (some ⟨W1.heap.size + 1, 0, none⟩) n n] 121)).alloc (.cells (Array.replicate n (.int .i64 0)) 3)).drew W1.heap.size (W1.heap.size + 1) := by
  refine ⟨by omega, ((hB.alloc (by omega) _).alloc (by simp; omega) _).drew, by omega, ?_, ?_, ?_, ?_⟩
  · rw [h0, h1, h2]
    exact (Below.heap_alloc _ _ _ (by simp)).trans (World.alloc_heap_new W1 _)
  · have := (IQ.zeros .i64 (W1.alloc (.cells #[.slice a0 n c0, .slice a1 n c1, .slice a2 n c2, .slice none 0 0, .slice (some ⟨W1.heap.size + 1, 0, none⟩) n n] 121)) n 3 (by omega)).later ((Below.refl _ _).drew)
    rw [World.size_alloc] at this
    exact this
  · exact (Below.heap_alloc _ _ _ (by simp; omega)).trans ((Below.heap_alloc _ _ _ (by omega)).trans hr)
  · exact (Below.heap_alloc _ _ _ (by simp; omega)).trans ((Below.heap_alloc _ _ _ (by omega)).trans hq)
end

theorem only_five (W : World) (b : Nat) (v0 v1 v2 v3 v4 : Value) : Only (fun x => x = b) W (((((W.setCell ⟨b, 0, none⟩ v0).setCell ⟨b, 1, none⟩ v1).setCell ⟨b, 2, none⟩ v2).setCell ⟨b, 3, none⟩ v3).setCell ⟨b, 4, none⟩ v4) :=
  ((((only_one W b 0 v0).trans (only_one _ b 1 v1)).trans (only_one _ b 2 v2)).trans (only_one _ b 3 v3)).trans (only_one _ b 4 v4)
theorem heap_five (W : World) (b : Nat) (v0 v1 v2 v3 v4 : Value) {x0 x1 x2 x3 x4 : Value} {t : TypeId} (h : W.heap[b]? = some (.cells #[x0, x1, x2, x3, x4] t)) :
    (((((W.setCell ⟨b, 0, none⟩ v0).setCell ⟨b, 1, none⟩ v1).setCell ⟨b, 2, none⟩ v2).setCell ⟨b, 3, none⟩ v3).setCell ⟨b, 4, none⟩ v4).heap[b]? = some (.cells #[v0, v1, v2, v3, v4] t) := by
  have h0 := heap_setCell_same W b 0 _ t v0 h
  have h1 := heap_setCell_same _ b 1 _ t v1 h0
  have h2 := heap_setCell_same _ b 2 _ t v2 h1
  have h3 := heap_setCell_same _ b 3 _ t v3 h2
  have h4 := heap_setCell_same _ b 4 _ t v4 h3
  simpa using h4

attribute [local go_sem] Oper.semAt_some

set_option maxRecDepth 100000 in
set_option maxHeartbeats 4000000 in
theorem cover_numbered (V : Nat → Value) (A : Nat → List Int) (w : World) (hA : AR w.heap.size w V A) (hs : Shaped A) (p : Nat) (hp : p < (A 0).length) :
    Calls Tryz.prog 67 #[actV V, .int .i64 p] w fun e w' => ∃ pv lv, e = .returned (numV V pv lv) ∧ RS w'.heap.size w' pv (intL (Cov.met (letters A) (A 0).length p)) ∧ RS w'.heap.size w' lv (placeL (A 0).length (Cov.met (letters A) (A 0).length p)) ∧ Below w.heap.size w w' := by
  have HMET := Lib.hid (fun W => cover_met V (p : Int) W)
  have HIT := Lib.hid (fun (W : World) (hN : w.heap.size ≤ W.heap.size) hW0 ab pb => met_iter (w := W) (W0 := w) hA hs hN hW0 hp ab pb)
  obtain ⟨n, hn⟩ : ∃ n, n = (A 0).length := ⟨_, rfl⟩
  obtain ⟨f, hf⟩ : ∃ f, f = letters A := ⟨_, rfl⟩
  rw [← hf, ← hn] at HIT ⊢
  have HNN := Lib.hid (show 1 ≤ n ∧ n ≤ 200 from by rw [hn]; exact ⟨hs.1.1, hs.1.2.1⟩)
  have HIN := Lib.hid (show Cov.Into f n from by rw [hf, hn]; exact hs.into)
  obtain ⟨a0, c0, hv0, -⟩ := hA 0 (by omega)
  obtain ⟨a1, c1, hv1, -⟩ := hA 1 (by omega)
  obtain ⟨a2, c2, hv2, -⟩ := hA 2 (by omega)
  rw [← hn] at hv0
  rw [hs.len (i := 1) (by omega), ← hn] at hv1
  rw [hs.len (i := 2) (by omega), ← hn] at hv2
  have hpn : p < n := by omega
  have q0 := alloc_heap_new w (.cells #[V 0, V 1, V 2] 27)
  have HQ0 := Lib.hid q0
  have HV0 := Lib.hid hv0
  have HV1 := Lib.hid hv1
  have HV2 := Lib.hid hv2
  have HNF := Lib.hid (And.intro hn hf)
  clear hA hs hp hn hf q0 hv0 hv1 hv2
  unfold actV at *
  refine calls_of_marks Tryz.func67 rfl ?_
  simp only [Tryz.ntmps67, List.size_toArray, List.length_cons, List.length_nil, Nat.reduceAdd, Nat.reduceSub, Array.replicate_succ, Array.replicate_zero, List.push_toArray, List.append_toArray, List.nil_append, List.cons_append]
  go_upto_region 1 with fail
  obtain ⟨W1, hW1⟩ : ∃ W1, W1 = (w.alloc (.cells #[V 0, V 1, V 2] 27)).alloc (.cells #[.slice none 0 0, .slice none 0 0, .slice none 0 0, .slice none 0 0, .slice none 0 0] 121) := ⟨_, rfl⟩
  have hs1 : W1.heap.size = w.heap.size + 2 := by rw [hW1]; simp
  have HB1 := Lib.hid (show Below w.heap.size w W1 from by rw [hW1]; exact ((Below.refl w.heap.size w).alloc (Nat.le_refl _) _).alloc (by simp) _)
  have HQ1 := Lib.hid (show W1.heap[w.heap.size]? = some (.cells #[V 0, V 1, V 2] 27) from by rw [hW1, Below.heap_alloc _ _ _ (by simp)]; exact alloc_heap_new w _)
  have HR1 := Lib.hid (show W1.heap[w.heap.size + 1]? = some (.cells #[.slice none 0 0, .slice none 0 0, .slice none 0 0, .slice none 0 0, .slice none 0 0] 121) from by
    rw [hW1]
    have := World.alloc_heap_new (w.alloc (.cells #[V 0, V 1, V 2] 27)) (.cells #[.slice none 0 0, .slice none 0 0, .slice none 0 0, .slice none 0 0, .slice none 0 0] 121)
    rwa [World.size_alloc] at this)
  rw [← hW1]
  have HS1 := Lib.hid hs1
  clear hW1 hs1
  have k0 := box_at HQ1.out (i := 0) (by omega)
  have k1 := box_at HQ1.out (i := 1) (by omega)
  have k2 := box_at HQ1.out (i := 2) (by omega)
  rw [HV0.out] at k0
  rw [HV1.out] at k1
  rw [HV2.out] at k2
  have hmk := fun W => make_ints W n (by have := HNN.out; omega)
  have hl0 : w.heap.size < W1.heap.size := by have := HS1.out; omega
  go_cut [5] from 7 to 13 (fun v wx => ∃ nb pb, v = .pointer (some ⟨nb, 0, none⟩) ∧ Hid (NumS V n (w.heap.size + 2) w wx nb pb))
  case first =>
    refine Code.wp_mono (onlyNormal_imp _) ?_
    have ka := fun ob => (World.cell?_alloc_lt W1 ob ⟨w.heap.size, 0, none⟩ hl0).trans k0
    have kb := fun ob => (World.cell?_alloc_lt W1 ob ⟨w.heap.size, 1, none⟩ hl0).trans k1
    have kc := fun ob => (World.cell?_alloc_lt W1 ob ⟨w.heap.size, 2, none⟩ hl0).trans k2
    go_region_held3 (fun w' => w'.cell? ⟨w.heap.size, 0, none⟩ = some (.slice a0 n c0) ∧ w'.cell? ⟨w.heap.size, 1, none⟩ = some (.slice a1 n c1) ∧ w'.cell? ⟨w.heap.size, 2, none⟩ = some (.slice a2 n c2)) (first | go_keep | exact ⟨ka _, kb _, kc _⟩ | exact ka _ | exact kb _ | exact kc _) (fail)
    all_goals simp only [onlyNormal]
    all_goals go_wp2_with fail
    all_goals go_meet
    all_goals first
      | exact ⟨_, _, rfl, Lib.hid (numS_a HV0.out HV1.out HV2.out HS1.out HB1.out HNN.out.2 HR1.out HQ1.out)⟩
      | exact ⟨_, _, rfl, Lib.hid (numS_b HV0.out HV1.out HV2.out HS1.out HB1.out HNN.out.2 HR1.out HQ1.out)⟩
  case rest =>
    obtain ⟨nb, pb, rfl, HN⟩ := hcut
    clear k0 k1 k2 hmk
    have k0 := box_at HN.out.abox (i := 0) (by omega)
    have k1 := box_at HN.out.abox (i := 1) (by omega)
    have k2 := box_at HN.out.abox (i := 2) (by omega)
    go_wp2_with fail
    refine (HMET.out _).mono ?_
    rintro e w4 ⟨rfl, hB4, hsz4, hab, hpb⟩
    have HB4 := Lib.hid hB4
    have HSZ4 := Lib.hid hsz4
    have HIT4 := Lib.hid (HIT.out w4 (Nat.le_trans HN.out.below.size hB4.size) (fun k hk => (hB4.block k (Nat.lt_of_lt_of_le hk HN.out.below.size)).trans (HN.out.below.block k hk)) _ _ hab hpb)
    clear hB4 hsz4 hab hpb k0 k1 k2 HIT HMET
    go_wp2_with fail
    obtain ⟨M, hM⟩ : ∃ M, M = Cov.met f n p := ⟨_, rfl⟩
    have HM := Lib.hid hM
    have HX := Lib.hid (show ∀ (i : Nat) x, (fndX f n p)[i]? = some x → i < M.length ∧ x.1 = i ∧ M[i]? = some x.2.1 ∧ x.2.1 < n ∧ x.2.1 ∉ M.take i from fun i x hx => by
      rw [fndX_at] at hx
      obtain ⟨e, he, rfl⟩ := Option.map_eq_some_iff.1 hx
      have hmi : M[i]? = some e.1 := by
        rw [hM, ← Cov.fnd_fst, Cov.fst, List.getElem?_map, he]; rfl
      have hpt : Cov.Pts n M := by rw [hM]; exact Cov.pts_met HIN.out (by omega)
      have hil := (List.getElem?_eq_some_iff.1 hmi).1
      refine ⟨hil, rfl, hmi, hpt.lt _ (List.mem_of_getElem? hmi), fun hin => ?_⟩
      obtain ⟨j, hj⟩ := List.getElem?_of_mem hin
      rw [List.getElem?_take] at hj
      split at hj
      · have := (List.getElem?_inj hil hpt.nd).1 (hmi.trans hj.symm)
        omega
      · cases hj)
    have HML := Lib.hid (show M.length ≤ n from by rw [hM]; exact (Cov.pts_met HIN.out (by omega)).len)
    have HXL := Lib.hid (show (fndX f n p).length = M.length from by rw [fndX_len, hM, ← Cov.fnd_fst, Cov.fst_len])
    have HZ := Lib.hid (show w.heap.size + 2 ≤ nb ∧ w.heap.size + 2 ≤ pb ∧ nb < wc.heap.size ∧ pb < wc.heap.size ∧ w4.heap.size = wc.heap.size + 2 from ⟨HN.out.low.1, HN.out.low.2, (Array.getElem?_eq_some_iff.1 HN.out.box).1, HN.out.place.lt, HSZ4.out⟩)
    clear hM
    refine wp_range (gf := 156) (lb := #[.pointer (some ⟨wc.heap.size, 0, none⟩), .pointer (some ⟨wc.heap.size + 1, 0, none⟩)]) rfl (fun args w => by simp [go_sem]) HIT4.out (Nat.le_refl _) ?hps
      (NumI V M n nb pb (w.heap.size + 2)) (fun _ _ _ _ => False) NumI.stable ?hIx (fun k => k = nb ∨ k = pb) ?hC0 ?hOwn ?h0 ?hround ?hdone ?hstop
    case hps => intro x; rfl
    case hIx => exact fun c i C W W' h _ _ => h
    case hC0 =>
      intro k hk
      have := HZ.out
      rcases hk with rfl | rfl <;> omega
    case hOwn =>
      intro k hk
      have h1 := HZ.out
      have h2 := HN.out.below.size
      refine ⟨?_, rfl, ?_⟩
      · rcases hk with h | h | h <;> omega
      · rintro (h3 | h3) <;> rcases hk with h | h | h <;> omega
    case h0 =>
      have hz := HZ.out
      refine ⟨.inl rfl, .inr rfl, HN.out.ne, fun k hk => by rcases hk with rfl | rfl <;> omega, ⟨.slice none 0 0, (HB4.out.block _ hz.2.2.1).trans HN.out.box, .inl ⟨rfl, rfl, rfl⟩, fun b hb => by simp [Value.ownBlock] at hb⟩, ?_⟩
      have h := HN.out.place.of_heap (HB4.out.block _ hz.2.2.2.1) HB4.out.size
      rw [List.take_zero, placeL_nil]
      exact h
    case hstop => exact fun D i c C W _ _ h => h.elim
    case hdone =>
      intro D C W hD hI hO hK
      have hz := HZ.out
      have htk : M.take (fndX f n p).length = M := by rw [HXL.out, List.take_length]
      obtain ⟨pv, hbox, hgr, hpv⟩ := hI.box
      have hpl := hI.place
      rw [htk] at hgr hpl
      obtain ⟨a3, c3, hpe, -⟩ := hgr.open
      rw [HXL.out] at hgr hpe
      subst hpe
      have hout : W.heap[w.heap.size + 1]? = some (.cells #[.slice none 0 0, .slice none 0 0, .slice none 0 0, .slice none 0 0, .slice none 0 0] 121) := by
        have h1 := HN.out.below.size
        refine (hO.block _ ?_).trans ((HB4.out.block _ (by omega)).trans HN.out.out)
        rintro ((h | h) | h) <;> omega
      rw [HV0.out, HV1.out, HV2.out] at hbox
      have b0 := cell_of_heap hbox 0
      have b1 := cell_of_heap hbox 1
      have b2 := cell_of_heap hbox 2
      have b3 := cell_of_heap hbox 3
      have b4 := cell_of_heap hbox 4
      have r0 := cell_of_heap hout 0
      have r1 := cell_of_heap hout 1
      have r2 := cell_of_heap hout 2
      have r3 := cell_of_heap hout 3
      have r4 := cell_of_heap hout 4
      have f0 := free_of_heap hout 0
      have f1 := free_of_heap hout 1
      have f2 := free_of_heap hout 2
      have f3 := free_of_heap hout 3
      have f4 := free_of_heap hout 4
      simp only [List.getElem?_toArray, List.getElem?_cons_zero, List.getElem?_cons_succ] at b0 b1 b2 b3 b4 r0 r1 r2 r3 r4 f0 f1 f2 f3 f4
      have HOUT := Lib.hid hout
      have HPL := Lib.hid hpl
      have HGR := Lib.hid hgr
      have HO := Lib.hid hO
      have HD := Lib.hid hD
      have HK := Lib.hid hK
      have HPV := Lib.hid hpv
      have HLOW := Lib.hid hI.low
      have HPBC := Lib.hid hI.cp
      clear hout hpl hgr hO hD hK hpv hI hbox htk hz
      simp only [Exit.inBlock, Exit.then]
      go_wp2_with fail
      have hone := only_five W (w.heap.size + 1) (.slice a0 n c0) (.slice a1 n c1) (.slice a2 n c2) (.slice a3 M.length c3) (.slice (some ⟨pb, 0, none⟩) n n)
      have h9 := heap_five W (w.heap.size + 1) (.slice a0 n c0) (.slice a1 n c1) (.slice a2 n c2) (.slice a3 M.length c3) (.slice (some ⟨pb, 0, none⟩) n n) HOUT.out
      generalize ((((W.setCell ⟨w.heap.size + 1, 0, none⟩ (.slice a0 n c0)).setCell ⟨w.heap.size + 1, 1, none⟩ (.slice a1 n c1)).setCell ⟨w.heap.size + 1, 2, none⟩ (.slice a2 n c2)).setCell ⟨w.heap.size + 1, 3, none⟩ (.slice a3 M.length c3)).setCell ⟨w.heap.size + 1, 4, none⟩ (.slice (some ⟨pb, 0, none⟩) n n) = W9 at hone h9 ⊢
      clear b0 b1 b2 b3 b4 r0 r1 r2 r3 r4 f0 f1 f2 f3 f4
      have hz := HZ.out
      have hd := HD.out
      have hnD : D ≠ w.heap.size + 1 := by have := HN.out.below.size; omega
      have hDW : D < W.heap.size := (Array.getElem?_eq_some_iff.1 HK.out).1
      have hK9 := (hone.block D hnD).trans HK.out
      have hnone : Only (fun x => x = D) W9 (W9.putObj D (.deferred none)) := only_putObj (B := fun x => x = D) W9 rfl _
      have q9 := (hnone.block (w.heap.size + 1) (Ne.symm hnD)).trans h9
      have r0 := cell_of_heap q9 0
      have r1 := cell_of_heap q9 1
      have r2 := cell_of_heap q9 2
      have r3 := cell_of_heap q9 3
      have r4 := cell_of_heap q9 4
      simp only [List.getElem?_toArray, List.getElem?_cons_zero, List.getElem?_cons_succ] at r0 r1 r2 r3 r4
      refine post_marks1 (v := .agg #[.slice a0 n c0, .slice a1 n c1, .slice a2 n c2, .slice a3 M.length c3, .slice (some ⟨pb, 0, none⟩) n n]) rfl hK9 (by simp [results, Tryz.results67, go_sem, r0, r1, r2, r3, r4]) ?_
      have hall := (hone.mono (fun x (hx : x = w.heap.size + 1) => Or.inl hx)).trans (hnone.mono (fun x (hx : x = D) => (Or.inr hx : x = w.heap.size + 1 ∨ x = D)))
      have hrow : ∀ b, (Value.slice a3 M.length c3).ownBlock = some b → ¬ (b = w.heap.size + 1 ∨ b = D) := fun b hb => by
        have h1 := HLOW.out b (HPV.out b hb).1
        have h2 := HGR.out.lt b hb
        rintro (h | h)
        · omega
        · subst h
          rcases HGR.out with ⟨h3, _, _⟩ | ⟨g, h3⟩
          · rw [h3] at hb; simp [Value.ownBlock] at hb
          · obtain ⟨off, cap, h4, h5, _, h6, h7, _, h8⟩ := h3
            rw [h4] at hb
            simp [Value.ownBlock] at hb
            subst hb
            have h9 : 0 < M.length := by rw [HM.out]; exact List.length_pos_of_mem (Cov.met_self f n p)
            obtain ⟨u, hu⟩ : ∃ u, (nums .i64 (intL M))[0]? = some u := ⟨_, List.getElem?_eq_getElem (by simp [nums, intL]; omega)⟩
            have := h7 0 u hu
            simp [World.cell?, HK.out] at this
      have hpd : ¬ (pb = w.heap.size + 1 ∨ pb = D) := by
        rintro (h | h)
        · omega
        · subst h
          have := HPL.out.lt
          omega
      refine ⟨.slice a3 M.length c3, .slice (some ⟨pb, 0, none⟩) n n, by unfold numV; rw [HV0.out, HV1.out, HV2.out], ?_, ?_, ?_⟩
      · rw [← HM.out]
        exact RS.ofGR (HGR.out.only hall hrow)
      · rw [← HM.out]
        have h := HPL.out.of_heap (hall.block pb hpd) hall.size
        have h' : GR (W9.putObj D (.deferred none)) 1 (.slice (some ⟨pb, 0, none⟩) n n) n (nums .i64 (placeL n M)) := by
          refine .inr ⟨pb, ?_⟩
          have := h
          unfold IQ at this
          rw [placeL_len] at this
          exact this
        exact RS.ofGR h'
      · exact (((HN.out.below.trans (HB4.out.mono HN.out.below.size)).trans (HO.out.below (fun x hx => by
          have := HN.out.below.size
          rcases hx with (hx | hx) | hx <;> omega))).trans (hall.below (fun x hx => by
          have := HN.out.below.size
          rcases hx with hx | hx <;> omega)))
    case hround =>
      intro l i C x W hx hI hC hsz hCl hlW hOl
      obtain ⟨hiM, hxk, hMi, hyn, hnew⟩ := HX.out i x hx
      obtain ⟨k, y, fr, le⟩ := x
      simp only at hxk hMi hyn hnew
      subst hxk
      simp only [encF, List.zip_toArray, List.zip_cons_cons, List.zip_nil_left, List.size_toArray, List.foldl_toArray, List.foldl_cons, List.foldl_nil, List.setIfInBounds_toArray, List.set_cons_succ, List.set_cons_zero]
      have HI := Lib.hid hI; have HC := Lib.hid hC
      have HLW := Lib.hid (And.intro hCl hlW)
      have HNEW := Lib.hid hnew
      have HMI := Lib.hid hMi
      clear hI hC hsz hCl hlW hOl hx hnew hMi
      gi_wp2_with fail
      refine ⟨(Only.refl _ W).alloc (fun k hk => .inr hk) _, ?_⟩
      intro W2 hs2 hk2
      have hnl : ∀ x, C x → x ≠ l ∧ x < W.heap.size := fun x hx => ⟨fun e => HLW.out.1 (e ▸ hx), HC.out x hx⟩
      have hfb : W2.heap[W.heap.size]? = some (.cells #[.int .i64 k, .int .i64 y, .int .i64 fr, .int .i64 le] 224) := (hk2 _ (by have := HLW.out.2; omega)).trans (World.alloc_heap_new W _)
      have hsz2 : W2.heap.size = W.heap.size + 1 := by simpa using hs2
      have hI2 : NumI V M n nb pb (w.heap.size + 2) k C W2 := (NumI.stable (Own := fun _ => False)) _ _ _ _ HI.out (fun x hx => (hk2 x (hx.elim (fun hx => (hnl x hx).1) (fun h => h.elim))).trans (Below.heap_alloc _ _ _ (hx.elim (fun hx => (hnl x hx).2) (fun h => h.elim)))) (by omega)
      obtain ⟨pv, hbox, hgr, hpv⟩ := hI2.box
      have d0 := cell_of_heap hfb 0
      have d1 := cell_of_heap hfb 1
      have b3 := cell_of_heap hbox 3
      have b4 := cell_of_heap hbox 4
      have bf := free_of_heap hbox 3
      obtain ⟨-, p2, p3⟩ := hI2.place.at
      have hyl : y < (placeL n (M.take k)).length := by rw [placeL_len]; exact hyn
      have e4 := p2 y hyl
      have ef := p3 y hyl
      have hyi : (y : Int) < (n : Int) := by omega
      simp only [List.getElem?_toArray, List.getElem?_cons_zero, List.getElem?_cons_succ, Nat.zero_add] at d0 d1 b3 b4 bf e4 ef
      obtain ⟨z, hz⟩ : ∃ z, z = (placeL n (M.take k)).getD y 0 := ⟨_, rfl⟩
      rw [← hz] at e4
      clear hz
      have HX1 := Lib.hid (And.intro hiM hyn)
      clear hiM
      obtain ⟨a3, c3, hpe, -⟩ := hgr.open
      subst hpe
      have HI2 := Lib.hid hI2
      have HS2 := Lib.hid hsz2
      have HBOX := Lib.hid hbox
      have HGR := Lib.hid hgr
      have HPV := Lib.hid hpv
      have HNL := Lib.hid hnl
      have HYL := Lib.hid hyl
      have HFB := Lib.hid hfb
      clear hI2 hsz2 hbox hgr hpv hnl hyl hfb p2 p3 hs2 hk2
      gi_upto_region 5 with fail
      have hlen : (M.take k).length = k := by rw [List.length_take]; have := HX1.out.1; omega
      have hI3 : IQ .i64 (W2.setCell ⟨pb, y, none⟩ (.int .i64 k)) pb (.slice (some ⟨pb, 0, none⟩) n n) (placeL n (M.take (k + 1))) := by
        have h := HI2.out.place.set HYL.out (k : Int)
        rw [Nat.zero_add] at h
        have he : M.take (k + 1) = M.take k ++ [y] := by rw [List.take_add_one, HMI.out]; rfl
        rw [he, placeL_snoc _ HX1.out.2 HNEW.out, hlen]
        exact h
      have HI3 := Lib.hid hI3
      have HBOX3 := Lib.hid (((only_one W2 pb y (.int .i64 k)).block nb HI2.out.ne).trans HBOX.out)
      have HGR3 := Lib.hid (HGR.out.only (only_one W2 pb y (.int .i64 k)) (fun b hb => (HPV.out b hb).2.2))
      have HO3 := Lib.hid (only_one W2 pb y (.int .i64 k))
      have g1 := cell_of_heap ((HO3.out.block W.heap.size (by have := HI2.out.place.lt; have := HNL.out pb HI2.out.cp; omega)).trans HFB.out) 1
      have g3 := cell_of_heap HBOX3.out 3
      have gf := free_of_heap HBOX3.out 3
      simp only [List.getElem?_toArray, List.getElem?_cons_zero, List.getElem?_cons_succ] at g1 g3 gf
      clear hI3 hlen d0 d1 b3 b4 bf e4 ef
      generalize W2.setCell ⟨pb, y, none⟩ (.int .i64 k) = W3 at HI3 HBOX3 HGR3 HO3 g1 g3 gf ⊢
      have hkb : k ≤ 900000000 := by have := HX1.out.1; have := HML.out; have := HNN.out; omega
      have HKB := Lib.hid hkb
      clear hkb
      gi_wp2_with (gi_at_builtin; refine wpListIn_gr W3 rowInt rfl _ _ rfl (v := .slice a3 k c3) (xs := nums .i64 (intL (M.take k))) rfl HGR3.out _ [.int .i64 y] rfl rfl (by intro u hu; simp at hu; subst hu; rfl) HKB.out ?_)
      intro v9 w9 hq9 ho9 hv9
      obtain ⟨a9, c9, hv9e, -⟩ := hq9.open
      subst hv9e
      have hnbl : nb < W3.heap.size := (Array.getElem?_eq_some_iff.1 HBOX3.out).1
      have hnb9 : ¬ ((Value.slice a3 k c3).ownBlock = some nb ∨ W3.heap.size ≤ nb) := by
        rintro (h | h)
        · exact (HPV.out nb h).2.1 rfl
        · omega
      have hbox9 := (ho9.block nb hnb9).trans HBOX3.out
      have h3 := cell_of_heap hbox9 3
      have h3f := free_of_heap hbox9 3
      simp only [List.getElem?_toArray, List.getElem?_cons_zero, List.getElem?_cons_succ] at h3 h3f
      have HQ9 := Lib.hid hq9
      have HO9 := Lib.hid ho9
      have HV9 := Lib.hid hv9
      have HBOX9 := Lib.hid hbox9
      have HNBL := Lib.hid hnbl
      clear hq9 ho9 hv9 hbox9 hnb9 hnbl g1 g3 gf
      gi_wp2_with fail
      have hs39 := HO3.out.size
      have hs99 := HO9.out.size
      have hs2 := HS2.out
      have hne9 : ∀ b, (Value.slice a9 (k + 1) c9).ownBlock = some b → b ≠ nb ∧ b ≠ pb ∧ (C b ∨ W.heap.size ≤ b) := fun b hb => by
        have h2 := HNBL.out
        have h5 := (HNL.out pb HI2.out.cp).2
        rcases HV9.out b hb with h | h
        · exact ⟨(HPV.out b h).2.1, (HPV.out b h).2.2, .inl (HPV.out b h).1⟩
        · exact ⟨by omega, by omega, .inr (by omega)⟩
      have hone : Only (fun x => x = nb) w9 (w9.setCell ⟨nb, 3, none⟩ (.slice a9 (k + 1) c9)) := only_one w9 nb 3 _
      refine ⟨?_, fun x => C x ∨ (Value.slice a9 (k + 1) c9).ownBlock = some x, ?_, ?_⟩
      · refine ((HO3.out.mono (fun x hx => ?_)).trans (HO9.out.mono (fun x hx => ?_))).trans (hone.mono (fun x hx => ?_))
        · subst hx; exact .inl HI2.out.cp
        · rcases hx with hx | hx
          · exact .inl (HPV.out x hx).1
          · exact .inr (by omega)
        · subst hx; exact .inl HI2.out.cn
      · rintro x (hx | hx)
        · exact ⟨.inl hx, by have := (HNL.out x hx).2; rw [World.size_setCell]; omega⟩
        · exact ⟨by rcases (hne9 x hx).2.2 with h | h; (· exact .inl h); (· exact .inr h), by rw [World.size_setCell]; exact HQ9.out.lt x hx⟩
      · refine ⟨.inl HI2.out.cn, .inl HI2.out.cp, HI2.out.ne, fun x hx => ?_, ⟨.slice a9 (k + 1) c9, ?_, ?_, fun b hb => ⟨.inr hb, (hne9 b hb).1, (hne9 b hb).2.1⟩⟩, ?_⟩
        · rcases hx with hx | hx
          · exact HI2.out.low x hx
          · rcases (hne9 x hx).2.2 with h | h
            · exact HI2.out.low x h
            · have := HI2.out.low nb HI2.out.cn
              have := (HNL.out nb HI2.out.cn).2
              omega
        · have h := heap_setCell_same w9 nb 3 _ _ (.slice a9 (k + 1) c9) HBOX9.out
          simpa using h
        · have he : nums .i64 (intL (M.take (k + 1))) = nums .i64 (intL (M.take k)) ++ [.int .i64 y] := by
            rw [List.take_add_one, HMI.out]
            simp [intL, nums]
          rw [he]
          exact HQ9.out.only hone (fun b hb => (hne9 b hb).1)
        · have hpl := HI2.out.place.lt
          refine HI3.out.of_heap ((hone.block pb (Ne.symm HI2.out.ne)).trans (HO9.out.block pb ?_)) (by rw [World.size_setCell]; exact hs99)
          rintro (h | h)
          · exact (HPV.out pb h).2.2 rfl
          · omega
end Go.Proofs.YtfdklmpkienfhaaGreat
