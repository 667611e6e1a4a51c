/- Package cover: the points to which words lead, as an iterator. -/
import Derived.RangeFuncNested
import Derived.RangeFuncCalls
import Derived.OwnWalkIn
import Derived.LoopIn
import Derived.Test.YtfdklmpkienfhaaGreatK3
import Derived.Test.YtfdklmpkienfhaaGreatMet
import Derived.Test.YtfdklmpkienfhaaGreatGr
import Derived.Test.YtfdklmpkienfhaaGreatIter
namespace Go.Proofs.YtfdklmpkienfhaaGreat
set_option linter.unusedSimpArgs false
set_option linter.unusedVariables false
open Go.RowKit
open Cov (Fnd fst fnd fndS fndR fnd1)

attribute [local go_sem] Oper.semAt_some

/-- Which points have been seen, as they lie in memory. -/
def seenL (n : Nat) (L : List Nat) : List Value := (List.range n).map fun x => .bool (decide (x ∈ L))
theorem seenL_len (n : Nat) (L : List Nat) : (seenL n L).length = n := by simp [seenL]
theorem seenL_at {n : Nat} (L : List Nat) {x : Nat} (hx : x < n) : (seenL n L)[x]? = some (.bool (decide (x ∈ L))) := by
  simp [seenL, hx]
theorem seenL_snoc {n : Nat} (L : List Nat) {y : Nat} (hy : y < n) : seenL n (L ++ [y]) = (seenL n L).set y (.bool true) := by
  apply List.ext_getElem?
  intro i
  rw [List.getElem?_set]
  by_cases hi : i < n
  · rw [seenL_at _ hi, seenL_at _ hi]
    by_cases h : y = i
    · subst h; simp [seenL_len, hy]
    · simp [h, Ne.symm h]
  · have h1 : (seenL n (L ++ [y]))[i]? = none := List.getElem?_eq_none (by rw [seenL_len]; omega)
    have h2 : (seenL n L)[i]? = none := List.getElem?_eq_none (by rw [seenL_len]; omega)
    rw [h1, h2]
    split
    · rename_i h; subst h; rw [if_neg (by rw [seenL_len]; exact hi)]
    · rfl
theorem seenL_nil (n : Nat) : seenL n [] = List.replicate n (.bool false) := by
  apply List.ext_getElem?
  intro i
  by_cases hi : i < n
  · rw [seenL_at _ hi, List.getElem?_replicate]
    simp [hi]
  · rw [List.getElem?_eq_none (by rw [seenL_len]; omega), List.getElem?_eq_none (by simp; omega)]

theorem seen_first (n p : Nat) (hp : p < n) : (Array.replicate n (Value.bool false)).setIfInBounds p (.bool true) = (seenL n [p]).toArray := by
  have h := seenL_snoc (n := n) [] hp
  rw [List.nil_append] at h
  rw [h, seenL_nil]
  apply Array.ext'
  simp

/-- A point that is found, as a value; the cells of a list of them. -/
def encF (s : Nat) (p : Fnd) : List Value := [.int .i64 s, .int .i64 p.1, .int .i64 p.2.1, .int .i64 p.2.2]
def fcells : Nat → List Fnd → List Value
  | _, [] => []
  | s, p :: r => encF s p ++ fcells (s + 1) r
theorem fcells_append (M : List Fnd) : ∀ (s : Nat) (L : List Fnd), fcells s (L ++ M) = fcells s L ++ fcells (s + L.length) M
  | s, [] => by simp [fcells]
  | s, p :: r => by
    rw [List.cons_append, fcells, fcells, fcells_append M (s + 1) r, List.append_assoc, List.length_cons]
    congr 3
    omega
theorem fcells_len : ∀ (s : Nat) (L : List Fnd), (fcells s L).length = L.length * 4
  | _, [] => rfl
  | s, p :: r => by rw [fcells, List.length_append, fcells_len (s + 1) r, List.length_cons]; simp [encF]; omega
theorem fcells_get {j : Nat} (hj : j < 4) : ∀ (s : Nat) (L : List Fnd) (k : Nat) (p : Fnd), L[k]? = some p → (fcells s L)[k * 4 + j]? = (encF (s + k) p)[j]?
  | s, [], k, p, h => by simp at h
  | s, q :: r, 0, p, h => by
    simp at h
    subst h
    rw [fcells, Nat.zero_mul, Nat.zero_add, List.getElem?_append_left (by simp [encF]; exact hj)]
    rfl
  | s, q :: r, k + 1, p, h => by
    rw [fcells, List.getElem?_append_right (by simp [encF]; omega)]
    have := fcells_get hj (s + 1) r k p (by simpa using h)
    rw [show (k + 1) * 4 + j - (encF s q).length = k * 4 + j by simp [encF]; omega, this]
    congr 2
    omega
/-- The elements that are yielded. -/
def fndX (f : Cov.Fn) (n p : Nat) : List (Nat × Fnd) := (fnd f n p).zipIdx.map fun x => (x.2, x.1)
theorem fndX_len (f : Cov.Fn) (n p : Nat) : (fndX f n p).length = (fnd f n p).length := by simp [fndX]
theorem fndX_at (f : Cov.Fn) (n p k : Nat) : (fndX f n p)[k]? = ((fnd f n p)[k]?).map fun x => (k, x) := by
  unfold fndX
  rw [List.getElem?_map, List.getElem?_zipIdx]
  cases (fnd f n p)[k]? <;> simp

theorem run_make_bools {P : Program} (w : World) (t e : TypeId) (i : TypeInfo) (ht : P.underlying t = some (.slice e)) (hi : P.info? e = some i) (hz : i.zero = some (.bool false)) (hs : i.size = 1) (hb : i.bytes ≤ 8) (n : Nat) (hn : n ≤ 1000000000) :
    (Instr.makeSlice t (.int .i64 n) (.int .i64 n)).run P w = .ok (.slice (some ⟨w.heap.size, 0, none⟩) n n) (w.alloc (.cells (Array.replicate n (.bool false)) e)) := by
  have hbytes : (i.bytes : Int) * (n : Int) ≤ 281474976710656 := by
    have h1 : i.bytes * n ≤ 8 * 1000000000 := Nat.mul_le_mul hb hn
    have h2 : ((i.bytes * n : Nat) : Int) = (i.bytes : Int) * (n : Int) := by simp
    omega
  have h := run_make (P := P) w t e i (.bool false) ht hi hz .i64 .i64 (n : Int) (n : Int) (by omega) (by omega) hbytes (by omega)
  rw [Int.toNat_natCast, hs] at h
  rw [h]
  congr 3
  show madeCells #[.bool false] (n * 1) = _
  rw [made_nums]
  simp
theorem infoBool : (Tryz.prog.info? 4).map (fun i => (i.zero, i.size, i.bytes)) = some (some (.bool false), 1, 1) := by kernel_rfl
theorem make_bools (w : World) (n : Nat) (hn : n ≤ 1000000000) :
    (Instr.makeSlice 86 (.int .i64 n) (.int .i64 n)).run Tryz.prog w = .ok (.slice (some ⟨w.heap.size, 0, none⟩) n n) (w.alloc (.cells (Array.replicate n (.bool false)) 4)) := by
  obtain ⟨i, hi, hz, hs, hb⟩ := info_parts infoBool
  exact run_make_bools w _ _ i Tryz.underlying86 hi hz hs (by omega) n hn
theorem rowFound : RowType Tryz.prog 263 224 4 := rowType_of (z := .agg #[.int .i64 0, .int .i64 0, .int .i64 0, .int .i64 0]) Tryz.underlying263 (bytes := 32) (by kernel_rfl) rfl (by decide) (by decide)

/-- The blocks that the iterator reads: old memory and the captured variables. -/
def MetOwn (N ab pb : Nat) (k : Nat) : Prop := k < N ∨ k = ab ∨ k = pb

/-- Behind k rounds. -/
structure MetInv (J : Nat → (Nat → Prop) → World → Prop) (C : Nat → Prop) (W : World) (f : Cov.Fn) (n p : Nat) (k : Nat) (v : Value) (wr : World) (C' : Nat → Prop) (g : Nat) : Prop where
  j : J k C' wr
  foot : ∀ x, C' x → Mine C W.heap.size x ∧ x < wr.heap.size
  on : Only (Mine C W.heap.size) W wr
  ng : ¬ C' g
  ns : ¬ C' W.heap.size
  gs : g ≠ W.heap.size
  gw : W.heap.size ≤ g
  q : QRow wr g 4 v (fndS f p k).length (fcells 0 (fndS f p k))
  s : QRow wr W.heap.size 1 (.slice (some ⟨W.heap.size, 0, none⟩) n n) n (seenL n (fst (fndS f p k)))


set_option maxRecDepth 100000 in
set_option maxHeartbeats 4000000 in
theorem met_iter {w : World} {N : Nat} {V : Nat → Value} {A : Nat → List Int} {W0 : World} (hA : AR N W0 V A) (hs : Shaped A) (hN : N ≤ w.heap.size) (hW0 : ∀ k, k < N → w.heap[k]? = W0.heap[k]?) {p : Nat} (hp : p < (A 0).length) (ab pb : Nat)
    (hab : w.heap[ab]? = some (.cells #[V 0, V 1, V 2] 27)) (hpb : w.heap[pb]? = some (.cells #[.int .i64 p] 3)) :
    Iter Tryz.prog 156 #[.pointer (some ⟨ab, 0, none⟩), .pointer (some ⟨pb, 0, none⟩)] (fun x => #[.agg (encF x.1 x.2).toArray]) (fndX (letters A) (A 0).length p) (MetOwn N ab pb) w := by
  intro l J Jx C W hW hOwn hJ hJx hY h0 hC
  refine callsIn_wide.2 ?_
  obtain ⟨n, hn⟩ : ∃ n, n = (A 0).length := ⟨_, rfl⟩
  obtain ⟨f, hf⟩ : ∃ f, f = letters A := ⟨_, rfl⟩
  rw [← hf, ← hn] at hY ⊢
  have HNN := Lib.hid (show 1 ≤ n ∧ n ≤ 200 from by rw [hn]; exact ⟨hs.1.1, hs.1.2.1⟩)
  have HAT := Lib.hid (show ∀ i x, i < 3 → x < n → (A i).getD x 0 = ((letters A i x : Nat) : Int) from fun i x hi hx => hs.at hi (by omega))
  have HIN := Lib.hid (show Cov.Into (letters A) n from by rw [hn]; exact hs.into)
  have hpn : p < n := by omega
  have HAB := Lib.hid (show ∀ W' : World, W'.heap[ab]? = W.heap[ab]? → W'.heap[ab]? = some (.cells #[V 0, V 1, V 2] 27) from fun W' hh => hh.trans ((hOwn ab (.inr (.inl rfl))).2.1.trans hab))
  have HPB := Lib.hid (show ∀ W' : World, W'.heap[pb]? = W.heap[pb]? → W'.heap[pb]? = some (.cells #[.int .i64 p] 3) from fun W' hh => hh.trans ((hOwn pb (.inr (.inr rfl))).2.1.trans hpb))
  have HL := Lib.hid (show ∀ i, i < 3 → ∃ g off cap, V i = .slice (some ⟨g, off, none⟩) n cap ∧ ∀ (W' : World), (∀ k, MetOwn N ab pb k → W'.heap[k]? = W.heap[k]?) → W'.cell? ⟨ab, i, none⟩ = some (.slice (some ⟨g, off, none⟩) n cap) ∧ ∀ x, x < n → W'.cell? ⟨g, off + x, none⟩ = some (.int .i64 ((letters A i x : Nat) : Int)) from fun i hi => by
    obtain ⟨a, cap, h1, h2, h3⟩ := hA i hi
    have hl : (A i).length = n := by rw [hn]; exact hs.len hi
    rw [hl] at h1 h3
    obtain ⟨g, off, rfl, hg, _⟩ := h3 0 (by have := HNN.out; omega)
    refine ⟨g, off, cap, h1, fun W' hB => ⟨?_, fun x hx => ?_⟩⟩
    · rw [box_at (HAB.out W' (hB ab (.inr (.inl rfl)))) hi, h1]
    · obtain ⟨g', off', e, hg', hc⟩ := h3 x hx
      simp only [Option.some.injEq, Addr.mk.injEq, and_true] at e
      obtain ⟨rfl, rfl⟩ := e
      rw [World.cell?_of_block (w := W0) (a := ⟨g, off + x, none⟩) (((hB g (.inl hg)).trans (hOwn g (.inl hg)).2.1).trans (hW0 g hg)), hc, HAT.out i x hi hx])
  rw [← hf] at HL HIN
  have hal : ab < W.heap.size := Nat.lt_of_lt_of_le (hOwn ab (.inr (.inl rfl))).1 hW
  have hpl : pb < W.heap.size := Nat.lt_of_lt_of_le (hOwn pb (.inr (.inr rfl))).1 hW
  have HOWN := Lib.hid hOwn
  have HJ := Lib.hid hJ; have HJX := Lib.hid hJx; have HY := Lib.hid hY; have HJ0 := Lib.hid h0; have HC := Lib.hid hC
  have HNF := Lib.hid (And.intro hn hf)
  have HWS := Lib.hid hW
  obtain ⟨g0, off0, cap0, _, hm0⟩ := HL.out 0 (by omega)
  have z0 := (hm0 W (fun k _ => rfl)).1
  have z1 : W.cell? ⟨pb, 0, none⟩ = some (.int .i64 p) := cell_of_heap (HPB.out W rfl) 0
  have hmk := make_bools W n (by have := HNN.out; omega)
  clear hm0 HAT hs hA hn hf hW0 hab hpb hOwn hJ hJx hY h0 hC hp hW hN
  have hpi : (p : Int) < (n : Int) := by omega
  have hpl1 : pb < W.heap.size + 1 := by omega
  go_enter Tryz.func156, Tryz.ntmps156
  refine (wpIn_wide (n := 0)).1 ?_
  gi_wp2_with fail
  have hinv : MetInv J C W f n p 0 (.slice (some ⟨W.heap.size + 1, 0, none⟩) 1 1) ((W.alloc (.cells ((Array.replicate n (.bool false)).setIfInBounds p (.bool true)) 4)).alloc (.cells #[.int .i64 0, .int .i64 p, .int .i64 (-1), .int .i64 (-1)] 224)) C (W.heap.size + 1) := by
    have hCs := HC.out
    have hO : Only (Mine C W.heap.size) W ((W.alloc (.cells ((Array.replicate n (.bool false)).setIfInBounds p (.bool true)) 4)).alloc (.cells #[.int .i64 0, .int .i64 p, .int .i64 (-1), .int .i64 (-1)] 224)) :=
      ((Only.refl _ W).alloc (fun k hk => .inr hk) _).alloc (fun k hk => .inr hk) _
    refine ⟨HJ.out 0 C W _ HJ0.out (fun k hk => ?_) hO.size, fun k hk => ⟨.inl hk, Nat.lt_of_lt_of_le (hCs k hk) hO.size⟩, hO, fun hk => by have := hCs _ hk; omega, fun hk => by have := hCs _ hk; omega, by omega, by omega, ?_, ?_⟩
    · have h1 := hk.elim (hCs k) (fun h => Nat.lt_of_lt_of_le (HOWN.out k h).1 HWS.out)
      rw [Below.heap_alloc _ _ _ (by simp; omega), Below.heap_alloc _ _ _ h1]
    · have h := QRow.new (W.alloc (.cells ((Array.replicate n (.bool false)).setIfInBounds p (.bool true)) 4)) [.int .i64 0, .int .i64 p, .int .i64 (-1), .int .i64 (-1)] 1 4 224 rfl (by simp [maxLen])
      rw [World.size_alloc] at h
      exact h
    · have h := QRow.new W (seenL n [p]) n 1 4 (by rw [seenL_len]; omega) (by have := HNN.out; unfold maxLen; omega)
      rw [seen_first n p (by omega)]
      exact h.of_heap (Below.heap_alloc _ _ _ (by simp)) (by simp)
  have HINV := Lib.hid hinv
  clear hinv HJ0 z0 z1 hmk
  gi_loopw [6, 5] (fun kv v wr => ∃ k : Nat, kv = .int .i64 k ∧ k ≤ (fndS f p k).length ∧ ∃ C' g, Hid (MetInv J C W f n p k v wr C' g)) (fun kv _ _ => n - (intOf kv).toNat)
  case atStart => exact ⟨0, rfl, by simp, C, W.heap.size + 1, HINV⟩
  case round =>
    clear HINV
    obtain ⟨k, rfl, hkl, C', g, HM⟩ := hrel
    obtain ⟨m, hm⟩ : ∃ m, m = (fndS f p k).length := ⟨_, rfl⟩
    have hmn : m ≤ n := by
      have := (Cov.pts_metS HIN.out (p := p) (by omega) k).len
      rw [hm, Cov.fndS_len]; exact this
    have hnn := HNN.out.2
    have HQ := HM.out.q
    obtain ⟨off, cap, rfl, hnc, -, -, hcell, -, hgl⟩ := HQ
    rw [← hm] at hkl hnc ⊢
    have HMM := Lib.hid hm
    have HGL := Lib.hid hgl
    have HCELL := Lib.hid hcell
    clear hm hcell hgl
    by_cases hk : k < m
    · have hki : (k : Int) < (m : Int) := by omega
      obtain ⟨e, he⟩ : ∃ e, (fndS f p k)[k]? = some e := ⟨_, List.getElem?_eq_getElem (by rw [← HMM.out]; exact hk)⟩
      have hc := fun j (hj : j < 4) => HCELL.out (k * 4 + j)
      have c0 : wr.cell? ⟨g, off + k * 4, none⟩ = some (.int .i64 k) := HCELL.out (k * 4 + 0) _ ((fcells_get (by omega) 0 _ k e he).trans (by simp [encF]))
      have c1 : wr.cell? ⟨g, off + k * 4 + 1, none⟩ = some (.int .i64 e.1) := by rw [Nat.add_assoc]; exact HCELL.out (k * 4 + 1) _ ((fcells_get (by omega) 0 _ k e he).trans (by simp [encF]))
      have c2 : wr.cell? ⟨g, off + k * 4 + 2, none⟩ = some (.int .i64 e.2.1) := by rw [Nat.add_assoc]; exact HCELL.out (k * 4 + 2) _ ((fcells_get (by omega) 0 _ k e he).trans (by simp [encF]))
      have c3 : wr.cell? ⟨g, off + k * 4 + 3, none⟩ = some (.int .i64 e.2.2) := by rw [Nat.add_assoc]; exact HCELL.out (k * 4 + 3) _ ((fcells_get (by omega) 0 _ k e he).trans (by simp [encF]))
      have hxi : (fndX f n p)[k]? = some (k, e) := by
        rw [fndX_at, Cov.fnd_at HIN.out (by omega) (by rw [← HMM.out]; exact hk), he]; rfl
      obtain ⟨fn, tmps, assign, body, hyl, hRd⟩ := HY.out k C' (k, e) wr hxi HM.out.j (fun x hx => (HM.out.foot x hx).2)
      have HRD := Lib.hid hRd
      have HE := Lib.hid he
      have HXI := Lib.hid hxi
      clear hRd he hxi hc
      obtain ⟨y, fr, le⟩ := e
      simp only [encF] at hyl
      gi_wp2_with fail
      refine ⟨rfl, HRD.out.mono ?_⟩
      rintro e W3 ⟨hO3, C'', hC'', hend⟩
      clear c0 c1 c2 c3
      have hold : ∀ x, x < wr.heap.size → ¬ C' x → W3.heap[x]? = wr.heap[x]? := fun x hx hn => hO3.block x (by
        rintro (h | h)
        · exact hn h
        · omega)
      have hs3 := hO3.size
      have hsl := HM.out.s.bd
      have hQ3 := HM.out.q.of_heap (hold g HGL.out HM.out.ng) hs3
      have hS3 := HM.out.s.of_heap (hold _ hsl HM.out.ns) hs3
      have hWr := HM.out.on.size
      have hOW : ∀ x, MetOwn N ab pb x → W3.heap[x]? = W.heap[x]? ∧ x < W.heap.size ∧ ¬ C' x := fun x hx => by
        obtain ⟨h1, h2, h3⟩ := HOWN.out x hx
        have h4 : x < W.heap.size := Nat.lt_of_lt_of_le h1 HWS.out
        have h5 : ¬ Mine C W.heap.size x := by
          rintro (h | h)
          · exact h3 h
          · omega
        exact ⟨(hold x (by omega) (fun h => h5 (HM.out.foot x h).1)).trans (HM.out.on.block x h5), h4, fun h => h5 (HM.out.foot x h).1⟩
      have HOW := Lib.hid hOW; have HQ3 := Lib.hid hQ3; have HS3 := Lib.hid hS3; have HO3 := Lib.hid hO3; have HC2 := Lib.hid hC''
      have HWR := Lib.hid hWr; have HSL := Lib.hid hsl; have HS3Z := Lib.hid hs3
      clear hOW hQ3 hS3 hO3 hC'' hWr hsl hs3 hold hyl HRD
      rcases hend with ⟨rfl, hJ3⟩ | ⟨rfl, hJx3⟩
      · have HJ3 := Lib.hid hJ3
        clear hJ3
        gi_wp2_with fail
        obtain ⟨L, hL⟩ : ∃ L, L = fndS f p k := ⟨_, rfl⟩
        have HLL := Lib.hid hL
        rw [← hL] at HQ3 HS3 HE HMM
        have hpt : ∀ i, i ≤ 3 → Cov.Pts n (fst (fndR f L k i)) := fun i hi => by
          rw [Cov.fndR_fst, hL, Cov.fndS_fst]
          exact (Cov.pts_metS HIN.out (by omega) k).metR HIN.out (by rw [← Cov.fndS_len, ← hL, ← HMM.out]; exact hk) i hi
        have HPT := Lib.hid hpt
        clear hL hpt
        have hown3 : ∀ W' : World, Only (fun x => x = g ∨ x = W.heap.size ∨ W3.heap.size ≤ x) W3 W' → ∀ x, MetOwn N ab pb x → W'.heap[x]? = W.heap[x]? := fun W' hO x hx => by
          obtain ⟨h1, h2, h3⟩ := HOW.out x hx
          have h4 := HM.out.gw
          have h5 := HS3Z.out
          have h6 := HWR.out
          exact (hO.block x (by omega)).trans h1
        have HOWN3 := Lib.hid hown3
        clear hown3
        refine wpIn_wide.2 ?_
        go_loopw [33, 5] (fun iv v wi => ∃ i : Nat, iv = .int .i64 i ∧ i ≤ 3 ∧ ∃ g', Hid (g' = g ∨ W3.heap.size ≤ g') ∧ Hid (QRow wi g' 4 v (fndR f L k i).length (fcells 0 (fndR f L k i))) ∧
          Hid (QRow wi W.heap.size 1 (.slice (some ⟨W.heap.size, 0, none⟩) n n) n (seenL n (fst (fndR f L k i)))) ∧ Hid (Only (fun x => x = g ∨ x = W.heap.size ∨ W3.heap.size ≤ x) W3 wi)) (fun iv _ _ => 3 - (intOf iv).toNat)
        case atStart => exact ⟨0, rfl, by omega, g, Lib.hid (.inl rfl), by simpa only [fndR, HMM.out] using HQ3, by simpa only [fndR] using HS3, Lib.hid (Only.refl _ _)⟩
        case round =>
          clear HQ3 HS3
          obtain ⟨wi, hwi⟩ : ∃ wi, wi = wr := ⟨wr, rfl⟩
          subst hwi
          obtain ⟨i, rfl, hi, g', HG, HQ, HS, HO⟩ := hrel
          by_cases hi3 : i < 3
          · have hii : (i : Int) < 3 := by omega
            obtain ⟨Li, hLi⟩ : ∃ Li, Li = fndR f L k i := ⟨_, rfl⟩
            have hPt := HPT.out i (by omega)
            have hnx := Cov.fndR.eq_2 f L k i
            rw [← hLi] at HQ HS hPt hnx
            have hek : Li[k]? = some (y, fr, le) := by
              obtain ⟨T, hT⟩ := Cov.fndR_pre f L k i
              rw [hLi, hT, List.getElem?_append_left (by rw [← HMM.out]; exact hk)]
              exact HE.out
            have hyn : y < n := by
              refine hPt.lt y ?_
              have := List.mem_of_getElem? hek
              exact List.mem_map.2 ⟨_, this, rfl⟩
            have hli : Li.length ≤ n := by
              have := hPt.len
              rwa [Cov.fst_len] at this
            have hkm : k < Li.length := (List.getElem?_eq_some_iff.1 hek).1
            have hgd : (Li.getD k (0, 0, 0)).1 = y := by rw [List.getD, hek]; rfl
            unfold Cov.fnd1 at hnx
            rw [hgd] at hnx
            obtain ⟨off1, cap1, rfl, hnc1, -, -, hcell1, -, hgl1⟩ := HQ.out
            have c1 : wi.cell? ⟨g', off1 + k * 4 + 1, none⟩ = some (.int .i64 y) := by
              rw [Nat.add_assoc]; exact hcell1 (k * 4 + 1) _ ((fcells_get (by omega) 0 _ k _ hek).trans (by simp [encF]))
            obtain ⟨gi, offi, capi, _, hmi⟩ := HL.out i hi3
            obtain ⟨m1, m2⟩ := hmi wi (HOWN3.out wi HO.out)
            have m3 := m2 y hyn
            have hfy : f i y < n := HIN.out i y hi3 hyn
            have hyi : (y : Int) < (n : Int) := by omega
            have hfyi : ((f i y : Nat) : Int) < (n : Int) := by omega
            obtain ⟨_, _, e5, s2, s3, _⟩ := QRow.open HS.out
            simp only [Value.slice.injEq, Option.some.injEq, Addr.mk.injEq, true_and, and_true] at e5
            obtain ⟨rfl, rfl⟩ := e5
            have s4 := s2 (f i y) _ (seenL_at _ hfy)
            have s5 := s3 (f i y) hfy
            obtain ⟨ml, hml⟩ : ∃ ml, ml = Li.length := ⟨_, rfl⟩
            rw [← hml] at hkm hnc1 hli ⊢
            have hkmi : (k : Int) < (ml : Int) := by omega
            have HML := Lib.hid hml
            have HNX := Lib.hid hnx
            have HLI := Lib.hid hLi
            have HGL1 := Lib.hid hgl1
            clear hml hnx hLi hmi m2 hPt hek hgd hcell1 s2 s3 hgl1
            simp only [Nat.zero_add] at s4 s5
            by_cases hmem : f i y ∈ fst Li
            · have hd : decide (f i y ∈ fst Li) = true := decide_eq_true hmem
              rw [hd] at s4
              have HMEM := Lib.hid hmem
              clear hmem hd
              go_upto_region 10 with fail
              go_region
              all_goals go_wp2_with fail
              have hnx : fndR f L k (i + 1) = Li := by rw [HNX.out, if_pos HMEM.out]
              go_roundw
              case rel => exact ⟨i + 1, by go_num, by omega, g', HG, by rw [hnx]; have h := HQ.out.later ((Below.refl _ _).drew); rw [← HML.out] at h ⊢; exact Lib.hid h, by rw [hnx]; exact Lib.hid (HS.out.later (Below.refl _ _).drew), Lib.hid HO.out.drew⟩
              case measure => simp [intOf]; omega
            · have hd : decide (f i y ∈ fst Li) = false := decide_eq_false hmem
              rw [hd] at s4
              have HMEM := Lib.hid hmem
              clear hmem hd
              have hgs8 : g' ≠ W.heap.size := by
                have := HG.out; have := HM.out.gs; have := HWR.out; have := HSL.out; have := HS3Z.out
                omega
              have HQ8 := Lib.hid (show QRow ((wi.setCell ⟨W.heap.size, f i y, none⟩ (.bool true)).drew) g' 4 (.slice (some ⟨g', off1, none⟩) ml cap1) ml (fcells 0 Li) from by
                have h := HQ.out
                rw [← HML.out] at h
                exact (h.of_heap (only_one wi W.heap.size (f i y) (.bool true) |>.block g' hgs8) (by simp [World.setCell])).later ((Below.refl _ _).drew))
              clear hgs8
              have hml9 : ml + 1 ≤ 1000000000 := by omega
              have HML9 := Lib.hid hml9
              clear hml9
              have HS8 := Lib.hid (show QRow ((wi.setCell ⟨W.heap.size, f i y, none⟩ (.bool true)).drew) W.heap.size 1 (.slice (some ⟨W.heap.size, 0, none⟩) n n) n (seenL n (fst Li ++ [f i y])) from by
                rw [seenL_snoc _ hfy]
                have h := QRow.set HS.out rfl (j := f i y) (by rw [seenL_len]; exact hfy) (.bool true)
                rw [Nat.zero_add] at h
                exact h.later ((Below.refl _ _).drew))
              have HO8 := Lib.hid (show Only (fun x => x = g ∨ x = W.heap.size ∨ W3.heap.size ≤ x) W3 ((wi.setCell ⟨W.heap.size, f i y, none⟩ (.bool true)).drew) from HO.out.trans ((only_one wi W.heap.size (f i y) (.bool true)).mono (fun x hx => .inr (.inl hx))).drew)
              go_upto_region 10 with fail
              go_region
              all_goals go_upto_region 13 with fail
              generalize (wi.setCell ⟨W.heap.size, f i y, none⟩ (.bool true)).drew = w8 at HQ8 HS8 HO8 ⊢
              clear c1 m1 m3 s4 s5
              go_wp2_with (at_builtin; refine wpList_queueSrc_grow1 rowFound rfl _ _ rfl (v := .slice (some ⟨g', off1, none⟩) ml cap1) (xs := fcells 0 Li) rfl HQ8.out 1 [.int .i64 ml, .int .i64 (f i y), .int .i64 k, .int .i64 i] _ rfl rfl (by intro u hu; simp at hu; rcases hu with rfl | rfl | rfl | rfl <;> rfl) HML9.out ?_)
              intro v9 w9 g9 hq9 ho9 hg9
              have hO9 : Only (fun x => x = g ∨ x = W.heap.size ∨ W3.heap.size ≤ x) W3 w9 := HO8.out.trans (ho9.mono (by
                have h1 := HG.out
                have h2 := HO8.out.size
                rintro x (rfl | hx)
                · rcases h1 with h1 | h1
                  · exact .inl h1
                  · exact .inr (.inr h1)
                · exact .inr (.inr (by omega))))
              have hg10 : g9 = g ∨ W3.heap.size ≤ g9 := by
                have h1 := HG.out
                have h2 := HO8.out.size
                rcases hg9 with h | h
                · rw [h]; exact h1
                · exact .inr (by omega)
              have hgs8 : g' ≠ W.heap.size := by
                have := HG.out; have := HM.out.gs; have := HWR.out; have := HSL.out; have := HS3Z.out
                omega
              have hS9 := HS8.out.of_heap (ho9.block _ (by
                have h2 := HO8.out.size
                have := HSL.out; have := HS3Z.out
                rintro (h | h)
                · exact hgs8 h.symm
                · omega)) ho9.size
              have hnx : fndR f L k (i + 1) = Li ++ [(f i y, (k : Int), (i : Int))] := by rw [HNX.out, if_neg HMEM.out]
              have hfst : fst (Li ++ [(f i y, (k : Int), (i : Int))]) = fst Li ++ [f i y] := by rw [Cov.fst_append]; rfl
              have hq10 : QRow w9 g9 4 v9 (Li ++ [(f i y, (k : Int), (i : Int))]).length (fcells 0 (Li ++ [(f i y, (k : Int), (i : Int))])) := by
                rw [fcells_append, List.length_append, ← HML.out]
                simpa [fcells, encF] using hq9
              have HS9 := Lib.hid hS9; have HQ9 := Lib.hid hq10; have HO9 := Lib.hid hO9; have HG9 := Lib.hid hg10
              have HNX9 := Lib.hid (And.intro hnx hfst)
              clear hS9 hq10 hO9 hg10 hnx hfst hq9 ho9 hg9 hgs8
              go_wp2_with fail
              go_roundw
              case rel => exact ⟨i + 1, by go_num, by omega, g9, HG9, by rw [HNX9.out.1]; exact HQ9, by rw [HNX9.out.1, HNX9.out.2]; exact HS9, HO9⟩
              case measure => simp [intOf]; omega
          · obtain rfl : i = 3 := by omega
            have hii : ¬ ((3 : Nat) : Int) < 3 := by omega
            go_wp2_with fail
            gi_wp2_with fail
            have hs9 := HO.out.size
            have hgw := HM.out.gw
            have hne : ∀ x, C'' x → x ≠ g ∧ x ≠ W.heap.size ∧ x < W3.heap.size := fun x hx => by
              obtain ⟨h4, h5⟩ := HC2.out x hx
              have h6 := HGL.out
              have h7 := HSL.out
              refine ⟨?_, ?_, h5⟩
              · rintro rfl
                rcases h4 with h4 | h4
                · exact HM.out.ng h4
                · omega
              · rintro rfl
                rcases h4 with h4 | h4
                · exact HM.out.ns h4
                · omega
            have hmine : ∀ x, Mine C' wr.heap.size x → Mine C W.heap.size x := by
              rintro x (h | h)
              · exact (HM.out.foot x h).1
              · exact .inr (by have := HWR.out; omega)
            have hnext : fndS f p (k + 1) = fndR f L k 3 := by
              rw [HLL.out, Cov.fndS, if_pos (by rw [← HLL.out, ← HMM.out]; exact hk)]
            have hg9 := HG.out
            have hfin : MetInv J C W f n p (k + 1) _ wi C'' g' := ⟨HJ.out (k + 1) C'' W3 wi HJ3.out (fun x hx => HO.out.block x (by
                rcases hx with hx | hx
                · have := hne x hx; omega
                · have := HOW.out x hx; have := HWR.out; have := HS3Z.out; omega)) hs9, fun x hx => ⟨hmine x (HC2.out x hx).1, Nat.lt_of_lt_of_le (hne x hx).2.2 hs9⟩,
              (HM.out.on.trans (HO3.out.mono hmine)).trans (HO.out.mono (by
                rintro x (rfl | rfl | h)
                · exact .inr hgw
                · exact .inr (Nat.le_refl _)
                · exact .inr (by have := HWR.out; have := HS3Z.out; omega))),
              fun hx => by rcases hg9 with h | h; (· exact (hne _ hx).1 h); (· have := (hne _ hx).2.2; omega), fun hx => (hne _ hx).2.1 rfl, by rcases hg9 with h | h; (· rw [h]; exact HM.out.gs); (· have := HWR.out; have := HSL.out; have := HS3Z.out; omega), by rcases hg9 with h | h; (· omega); (· have := HWR.out; have := HS3Z.out; omega), by rw [hnext]; exact HQ.out, by rw [hnext]; exact HS.out⟩
            go_roundw
            case rel => exact ⟨k + 1, by go_num, by
              rw [hnext]
              obtain ⟨T, hT⟩ := Cov.fndR_pre f L k 3
              rw [hT, List.length_append, ← HMM.out]; omega, C'', g', Lib.hid hfin⟩
            case measure => simp [intOf]; omega
      · gi_wp2_with fail
        refine bodyPost_ret (results_none rfl _ _ _) rfl ?_
        have hmine : ∀ x, Mine C' wr.heap.size x → Mine C W.heap.size x := by
          rintro x (h | h)
          · exact (HM.out.foot x h).1
          · exact .inr (by have := HWR.out; omega)
        refine ⟨⟨_, rfl⟩, HM.out.on.trans (HO3.out.mono hmine), C'', fun x hx => ⟨hmine x (HC2.out x hx).1, (HC2.out x hx).2⟩, .inr ⟨k + 1, ?_, hJx3⟩⟩
        have := (List.getElem?_eq_some_iff.1 HXI.out).1
        omega
    · obtain rfl : k = m := by omega
      have hki : ¬ (k : Int) < (k : Int) := by omega
      gi_wp2_with fail
      go_end0
      refine ⟨⟨_, rfl⟩, HM.out.on, C', HM.out.foot, .inl ?_⟩
      have h1 := Cov.fnd_end HIN.out (by omega) HMM.out.symm
      rw [fndX_len, ← h1, ← HMM.out]
      exact HM.out.j
end Go.Proofs.YtfdklmpkienfhaaGreat
