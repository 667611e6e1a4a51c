/- Package cover: the action of a numbering. -/
import Derived.Test.YtfdklmpkienfhaaGreatK5
import Derived.BigRegion
import Derived.Test.YtfdklmpkienfhaaGreatPln
namespace Go.Proofs.YtfdklmpkienfhaaGreat
set_option linter.unusedSimpArgs false
set_option linter.unusedVariables false
open Go.RowKit

/-- The lists of an action that is numbered from a point on. -/
def numA (f : Cov.Fn) (n p : Nat) (i : Nat) : List Int := (List.range (Cov.met f n p).length).map fun k => ((Cov.num f n p i k : Nat) : Int)
theorem numA_len (f : Cov.Fn) (n p i : Nat) : (numA f n p i).length = (Cov.met f n p).length := by simp [numA]
theorem numA_at (f : Cov.Fn) (n p i : Nat) {k : Nat} (hk : k < (Cov.met f n p).length) : (numA f n p i)[k]? = some ((Cov.num f n p i k : Nat) : Int) := by simp [numA, hk]

/-- How many elements the lists have ahead of the j-th of the i-th. -/
def cntA (m i j : Nat) (x : Nat) : Nat := if x < i then m else if x = i then j else 0

structure ActI (w W1 : World) (ob : Nat) (B : Nat → List Int) (m i j : Nat) (wr : World) (R : Nat → Value) : Prop where
  on : Only (fun x => x = ob ∨ W1.heap.size ≤ x) W1 wr
  box : wr.heap[ob]? = some (.cells #[R 0, R 1, R 2] 27)
  rows : ∀ x, x < 3 → GR wr 1 (R x) (cntA m i j x) (nums .i64 ((B x).take (cntA m i j x)))
  own : ∀ x, x < 3 → ∀ b, (R x).ownBlock = some b → W1.heap.size ≤ b
  dis : ∀ x y, x < 3 → y < 3 → x ≠ y → ∀ b, (R x).ownBlock = some b → (R y).ownBlock ≠ some b

theorem cntA_next {m i x : Nat} : cntA m i m x = cntA m (i + 1) 0 x := by
  unfold cntA
  by_cases h1 : x < i
  · rw [if_pos h1, if_pos (by omega)]
  · rw [if_neg h1]
    by_cases h2 : x = i
    · rw [if_pos h2, if_pos (by omega)]
    · rw [if_neg h2, if_neg (by omega)]
      split <;> rfl
theorem ActI.next {w W1 : World} {ob : Nat} {B : Nat → List Int} {m i : Nat} {wr : World} {R : Nat → Value} (h : ActI w W1 ob B m i m wr R) : ActI w W1 ob B m (i + 1) 0 wr R :=
  ⟨h.on, h.box, fun x hx => by rw [← cntA_next]; exact h.rows x hx, h.own, h.dis⟩

/-- One element more. -/
theorem ActI.snoc {w W1 : World} {ob : Nat} {B : Nat → List Int} {m i j : Nat} {wr w9 : World} {R : Nat → Value} (h : ActI w W1 ob B m i j wr R) (hob : ob < W1.heap.size) (hi : i < 3) (hm : (B i).length = m) (hj : j < m) {v9 : Value} (hq : GR w9 1 v9 (j + 1) (nums .i64 ((B i).take j) ++ [.int .i64 ((B i).getD j 0)]))
    (ho : Only (fun k => (R i).ownBlock = some k ∨ wr.heap.size ≤ k) wr w9) (hv : ∀ b, v9.ownBlock = some b → (R i).ownBlock = some b ∨ wr.heap.size ≤ b) :
    w9.heap[ob]? = some (.cells #[R 0, R 1, R 2] 27) ∧ ActI w W1 ob B m i (j + 1) (w9.setCell ⟨ob, i, none⟩ v9) (fun x => if x = i then v9 else R x) := by
  have hs1 := h.on.size
  have hs9 := ho.size
  have hobR : ¬ ((R i).ownBlock = some ob ∨ wr.heap.size ≤ ob) := by
    rintro (h1 | h1)
    · have := h.own i hi ob h1; omega
    · omega
  have hb9 := (ho.block ob hobR).trans h.box
  have hone : Only (fun x => x = ob) w9 (w9.setCell ⟨ob, i, none⟩ v9) := only_one w9 ob i v9
  have hv9 : ∀ b, v9.ownBlock = some b → W1.heap.size ≤ b := fun b hb => by
    rcases hv b hb with h1 | h1
    · exact h.own i hi b h1
    · omega
  refine ⟨hb9, (h.on.trans (ho.mono (fun k hk => ?_))).trans (hone.mono (fun k hk => .inl hk)), ?_, fun x hx => ?_, fun x hx b hb => ?_, fun x y hx hy hxy b hb => ?_⟩
  · rcases hk with hk | hk
    · exact .inr (h.own i hi k hk)
    · exact .inr (by omega)
  · have h2 := heap_setCell_same w9 ob i _ _ v9 hb9
    rw [h2]
    obtain rfl | rfl | rfl : i = 0 ∨ i = 1 ∨ i = 2 := by omega
    all_goals simp
  · by_cases hxi : x = i
    · subst hxi
      simp only [if_pos]
      have e : nums .i64 ((B x).take (cntA m x (j + 1) x)) = nums .i64 ((B x).take j) ++ [.int .i64 ((B x).getD j 0)] := by
        have : cntA m x (j + 1) x = j + 1 := by unfold cntA; rw [if_neg (by omega), if_pos rfl]
        rw [this, List.take_add_one, List.getElem?_eq_getElem (show j < (B x).length by omega)]
        simp only [nums, List.map_append, Option.toList, List.map_cons, List.map_nil, List.getD, List.getElem?_eq_getElem (show j < (B x).length by omega), Option.getD_some]
      have e2 : cntA m x (j + 1) x = j + 1 := by unfold cntA; rw [if_neg (by omega), if_pos rfl]
      rw [e, e2]
      exact hq.only hone (fun b hb e => by have := hv9 b hb; omega)
    · simp only [if_neg hxi]
      have e2 : cntA m i (j + 1) x = cntA m i j x := by unfold cntA; rw [if_neg hxi, if_neg hxi]
      rw [e2]
      refine ((h.rows x hx).only ho (fun b hb => ?_)).only hone (fun b hb e => by have := h.own x hx b hb; omega)
      rintro (h1 | h1)
      · exact h.dis x i hx hi hxi b hb h1
      · have := (h.rows x hx).lt b hb; omega
  · by_cases hxi : x = i
    · rw [if_pos hxi] at hb; exact hv9 b hb
    · rw [if_neg hxi] at hb; exact h.own x hx b hb
  · by_cases hxi : x = i
    · rw [if_pos hxi] at hb
      rw [if_neg (by omega)]
      rcases hv b hb with h1 | h1
      · exact h.dis i y hi hy (by omega) b h1
      · intro h2
        have := (h.rows y hy).lt b h2; omega
    · rw [if_neg hxi] at hb
      by_cases hyi : y = i
      · rw [if_pos hyi]
        intro h2
        rcases hv b h2 with h1 | h1
        · exact h.dis x i hx hi hxi b hb h1
        · have := (h.rows x hx).lt b hb; omega
      · rw [if_neg hyi]
        exact h.dis x y hx hy hxy b hb

theorem heap_three (W : World) (b : Nat) (v0 v1 v2 : Value) {x0 x1 x2 : Value} {t : TypeId} (h : W.heap[b]? = some (.cells #[x0, x1, x2] t)) :
    (((W.setCell ⟨b, 0, none⟩ v0).setCell ⟨b, 1, none⟩ v1).setCell ⟨b, 2, none⟩ v2).heap[b]? = some (.cells #[v0, v1, v2] t) := by
  have h0 := heap_setCell_same W b 0 _ t v0 h
  have h1 := heap_setCell_same _ b 1 _ t v1 h0
  have h2 := heap_setCell_same _ b 2 _ t v2 h1
  simpa using h2
theorem box5_at {w : World} {b : Nat} {V : Nat → Value} {x y : Value} {t : TypeId} (h : w.heap[b]? = some (.cells #[V 0, V 1, V 2, x, y] t)) {i : Nat} (hi : i < 3) : w.cell? ⟨b, i, none⟩ = some (V i) := by
  rw [cell_of_heap h]
  obtain rfl | rfl | rfl : i = 0 ∨ i = 1 ∨ i = 2 := by omega
  all_goals rfl

set_option maxRecDepth 100000 in
set_option maxHeartbeats 4000000 in
theorem cover_action (V : Nat → Value) (pv lv : Value) (A : Nat → List Int) (w : World) (hA : AR w.heap.size w V A) (hs : Shaped A) (p : Nat) (hp : p < (A 0).length) (hpv : RS w.heap.size w pv (intL (Cov.met (letters A) (A 0).length p))) (hlv : RS w.heap.size w lv (placeL (A 0).length (Cov.met (letters A) (A 0).length p))) :
    Calls Tryz.prog 68 #[numV V pv lv] w fun e w' => ∃ V', e = .returned (actV V') ∧ AR w'.heap.size w' V' (numA (letters A) (A 0).length p) ∧ Below w.heap.size w w' ∧ ∀ x, x < 3 → ∀ b, (V' x).ownBlock = some b → w.heap.size ≤ b := by
  obtain ⟨n, hn⟩ : ∃ n, n = (A 0).length := ⟨_, rfl⟩
  obtain ⟨f, hf⟩ : ∃ f, f = letters A := ⟨_, rfl⟩
  rw [← hf, ← hn] at hpv hlv ⊢
  have HNN := Lib.hid (show 1 ≤ n ∧ n ≤ 200 from by rw [hn]; exact ⟨hs.1.1, hs.1.2.1⟩)
  have HIN := Lib.hid (show Cov.Into f n from by rw [hf, hn]; exact hs.into)
  have HAT := Lib.hid (show ∀ i x, i < 3 → x < n → (A i).getD x 0 = ((letters A i x : Nat) : Int) from fun i x hi hx => hs.at hi (by omega))
  obtain ⟨M, hM⟩ : ∃ M, M = Cov.met f n p := ⟨_, rfl⟩
  obtain ⟨m, hm⟩ : ∃ m, m = M.length := ⟨_, rfl⟩
  rw [← hM] at hpv hlv
  have hpt : Cov.Pts n M := by rw [hM]; exact Cov.pts_met HIN.out (by omega)
  have hmn : m ≤ n := by rw [hm]; exact hpt.len
  have hm0 : 0 < m := by rw [hm, hM]; exact List.length_pos_of_mem (Cov.met_self f n p)
  have HPT := Lib.hid hpt
  have HCL := Lib.hid (show ∀ i x, i < 3 → x ∈ M → f i x ∈ M from fun i x hi hx => by rw [hM] at hx ⊢; exact Cov.met_closed HIN.out (by omega) hx hi)
  have HL := Lib.hid (show ∀ i, i < 3 → ∃ g off cap, V i = .slice (some ⟨g, off, none⟩) n cap ∧ g < w.heap.size ∧ ∀ x, x < n → w.cell? ⟨g, off + x, none⟩ = some (.int .i64 ((f i x : Nat) : Int)) from fun i hi => by
    obtain ⟨a, cap, h1, h2, h3⟩ := hA i hi
    have hl : (A i).length = n := by rw [hn]; exact hs.len hi
    rw [hl] at h1 h3
    obtain ⟨g, off, rfl, hg, _⟩ := h3 0 (by have := HNN.out; omega)
    refine ⟨g, off, cap, h1, hg, fun x hx => ?_⟩
    obtain ⟨g', off', e, hg', hc⟩ := h3 x hx
    simp only [Option.some.injEq, Addr.mk.injEq, and_true] at e
    obtain ⟨rfl, rfl⟩ := e
    rw [hc, HAT.out i x hi hx, hf])
  obtain ⟨ap, cp, hpve, -, hpc⟩ := hpv
  have hl1 : (intL M).length = m := by rw [hm]; simp [intL]
  rw [hl1] at hpve hpc
  obtain ⟨gp, op, hap, hgp, -⟩ := hpc 0 hm0
  subst hap
  have HP := Lib.hid (show ∀ k, k < m → w.cell? ⟨gp, op + k, none⟩ = some (.int .i64 (M.getD k 0 : Nat)) from fun k hk => by
    obtain ⟨g', off', e, hg', hc⟩ := hpc k hk
    simp only [Option.some.injEq, Addr.mk.injEq, and_true] at e
    obtain ⟨rfl, rfl⟩ := e
    rw [hc]
    simp [intL, List.getD, List.getElem?_map]
    rw [List.getElem?_eq_getElem (by omega)]
    simp)
  obtain ⟨al, cl, hlve, -, hlc⟩ := hlv
  rw [placeL_len] at hlve hlc
  obtain ⟨gl, ol, hal, hgl, -⟩ := hlc 0 (by have := HNN.out; omega)
  subst hal
  have HPL := Lib.hid (show ∀ x, x < n → x ∈ M → w.cell? ⟨gl, ol + x, none⟩ = some (.int .i64 (M.idxOf x : Nat)) from fun x hx hxM => by
    obtain ⟨g', off', e, hg', hc⟩ := hlc x hx
    simp only [Option.some.injEq, Addr.mk.injEq, and_true] at e
    obtain ⟨rfl, rfl⟩ := e
    rw [hc, List.getD, placeL_at _ hx, if_pos hxM]
    rfl)
  have HNUM := Lib.hid (show ∀ i k, i < 3 → k < m → (numA f n p i).getD k 0 = ((M.idxOf (f i (M.getD k 0)) : Nat) : Int) from fun i k hi hk => by
    rw [List.getD, numA_at _ _ _ _ (by rw [← hM]; omega)]
    simp [Cov.num, Cov.place, hM])
  have HNL := Lib.hid (show ∀ i, (numA f n p i).length = m from fun i => by rw [numA_len, ← hM, hm])
  have HML := Lib.hid hm
  have HMM := Lib.hid hM
  have HNF := Lib.hid (And.intro hn hf)
  obtain ⟨W1, hW1⟩ : ∃ W1, W1 = ((w.alloc (.cells #[V 0, V 1, V 2, .slice (some ⟨gp, op, none⟩) m cp, .slice (some ⟨gl, ol, none⟩) n cl] 121)).alloc (.cells #[.slice none 0 0, .slice none 0 0, .slice none 0 0] 27)).alloc (.cells #[.slice none 0 0, .slice none 0 0, .slice none 0 0] 27) := ⟨_, rfl⟩
  have hs1 : W1.heap.size = w.heap.size + 3 := by rw [hW1]; simp
  have HB1 := Lib.hid (show Below w.heap.size w W1 from by rw [hW1]; exact (((Below.refl w.heap.size w).alloc (Nat.le_refl _) _).alloc (by simp) _).alloc (by simp; omega) _)
  have HQ1 := Lib.hid (show W1.heap[w.heap.size]? = some (.cells #[V 0, V 1, V 2, .slice (some ⟨gp, op, none⟩) m cp, .slice (some ⟨gl, ol, none⟩) n cl] 121) from by
    rw [hW1, Below.heap_alloc _ _ _ (by simp; omega), Below.heap_alloc _ _ _ (by simp)]; exact alloc_heap_new w _)
  have HR1 := Lib.hid (show W1.heap[w.heap.size + 1]? = some (.cells #[.slice none 0 0, .slice none 0 0, .slice none 0 0] 27) from by
    rw [hW1, Below.heap_alloc _ _ _ (by simp)]
    have := alloc_heap_new (w.alloc (.cells #[V 0, V 1, V 2, .slice (some ⟨gp, op, none⟩) m cp, .slice (some ⟨gl, ol, none⟩) n cl] 121)) (.cells #[.slice none 0 0, .slice none 0 0, .slice none 0 0] 27)
    rwa [World.size_alloc] at this)
  have HO1 := Lib.hid (show W1.heap[w.heap.size + 2]? = some (.cells #[.slice none 0 0, .slice none 0 0, .slice none 0 0] 27) from by
    rw [hW1]
    have := alloc_heap_new ((w.alloc (.cells #[V 0, V 1, V 2, .slice (some ⟨gp, op, none⟩) m cp, .slice (some ⟨gl, ol, none⟩) n cl] 121)).alloc (.cells #[.slice none 0 0, .slice none 0 0, .slice none 0 0] 27)) (.cells #[.slice none 0 0, .slice none 0 0, .slice none 0 0] 27)
    rwa [World.size_alloc, World.size_alloc] at this)
  have HS1 := Lib.hid hs1
  subst hpve hlve
  have hm200 : m ≤ 200 := by have := HNN.out; omega
  clear hpc hlc hl1 hA hs hp hn hf hM hm hpt HAT hs1
  unfold numV
  go_enter Tryz.func68, Tryz.ntmps68
  go_upto_region 2 with fail
  rw [← hW1]
  clear hW1
  go_wp2_with fail
  go_loopw [7] (fun iv wr => ∃ i : Nat, iv = .int .i64 i ∧ i ≤ 3 ∧ ∃ R, Hid (ActI w W1 (w.heap.size + 2) (numA f n p) m i 0 wr R)) (fun iv _ => 3 - (intOf iv).toNat)
  case atStart => exact ⟨0, rfl, Nat.zero_le _, fun _ => .slice none 0 0, Lib.hid ⟨Only.refl _ _, HO1.out, fun x _ => .inl ⟨rfl, by unfold cntA; simp, by unfold cntA; simp⟩, fun x _ b hb => by simp [Value.ownBlock] at hb, fun x y _ _ _ b hb => by simp [Value.ownBlock] at hb⟩⟩
  case round =>
    obtain ⟨i, rfl, hi, R, HI⟩ := hrel
    by_cases hi3 : i < 3
    · have hii : (i : Int) < 3 := by omega
      have kb := (HI.out.on.block w.heap.size (by have := HS1.out; omega)).trans HQ1.out
      have k3 := cell_of_heap kb 3
      simp only [List.getElem?_toArray, List.getElem?_cons_zero, List.getElem?_cons_succ] at k3
      clear kb
      go_wp2_with fail
      clear k3
      go_loopw [13] (fun jv wr => ∃ j : Nat, jv = .int .i64 j ∧ j ≤ m ∧ ∃ R, Hid (ActI w W1 (w.heap.size + 2) (numA f n p) m i j wr R)) (fun jv _ => m - (intOf jv).toNat)
      case atStart => exact ⟨0, rfl, Nat.zero_le _, R, HI⟩
      case round =>
        clear HI
        obtain ⟨j, rfl, hj, R, HI⟩ := hrel
        by_cases hjm : j < m
        · have hji : (j : Int) < (m : Int) := by omega
          obtain ⟨a3, c3, hre, -⟩ := (HI.out.rows i hi3).open
          have hcnt : cntA m i j i = j := by unfold cntA; rw [if_neg (by omega), if_pos rfl]
          rw [hcnt] at hre
          obtain ⟨gi, offi, capi, hVi, hgi, hmi⟩ := HL.out i hi3
          obtain ⟨x, hx⟩ : ∃ x, x = M.getD j 0 := ⟨_, rfl⟩
          have hjM : j < M.length := by rw [← HML.out]; exact hjm
          have hxM : x ∈ M := by rw [hx, List.getD, List.getElem?_eq_getElem hjM]; exact List.getElem_mem hjM
          have hxn : x < n := HPT.out.lt x hxM
          have hyM : f i x ∈ M := HCL.out i x hi3 hxM
          have hyn : f i x < n := HPT.out.lt _ hyM
          have hsz := HI.out.on.size
          have hs1 := HS1.out
          have kb := (HI.out.on.block w.heap.size (by omega)).trans HQ1.out
          have hold : ∀ (b o : Nat), b < w.heap.size → wr.cell? ⟨b, o, none⟩ = w.cell? ⟨b, o, none⟩ := fun b o hb => World.cell?_of_block (w := w) (a := ⟨b, o, none⟩) ((HI.out.on.block b (by omega)).trans (HB1.out.block b hb))
          have m1 : wr.cell? ⟨gp, op + j, none⟩ = some (.int .i64 (x : Nat)) := by rw [hold _ _ hgp, HP.out j hjm, ← hx]
          have lob : w.heap.size + 2 < wr.heap.size := by omega
          have lab : w.heap.size < wr.heap.size := by omega
          have lgi : gi < wr.heap.size := by omega
          have lgl : gl < wr.heap.size := by omega
          obtain ⟨B, hB⟩ : ∃ B : Nat → Prop, B = fun b => (R i).ownBlock = some b := ⟨_, rfl⟩
          have hnB : ∀ b, b ≤ w.heap.size + 2 → ¬ B b := fun b hb h => by rw [hB] at h; have := HI.out.own i hi3 b h; omega
          have l1 := fun (y : LaterB B wr) => (y.cell (w.heap.size + 2) i lob (hnB _ (by omega))).trans ((box_at HI.out.box hi3).trans (congrArg some hre))
          have l2 := fun (y : LaterB B wr) => (y.cell w.heap.size 4 lab (hnB _ (by omega))).trans (cell_of_heap kb 4)
          have l3 := fun (y : LaterB B wr) => (y.cell w.heap.size i lab (hnB _ (by omega))).trans ((box5_at kb hi3).trans (congrArg some hVi))
          have l4 := fun (y : LaterB B wr) => (y.cell gi (offi + x) lgi (hnB _ (by omega))).trans ((hold _ _ hgi).trans (hmi x hxn))
          have l5 := fun (y : LaterB B wr) => (y.cell gl (ol + f i x) lgl (hnB _ (by omega))).trans ((hold _ _ hgl).trans (HPL.out _ hyn hyM))
          simp only [List.getElem?_toArray, List.getElem?_cons_zero, List.getElem?_cons_succ] at l2
          obtain ⟨y, hy⟩ : ∃ y, y = f i x := ⟨_, rfl⟩
          obtain ⟨z, hz⟩ : ∃ z, z = M.idxOf y := ⟨_, rfl⟩
          rw [← hy] at l4 l5 hyn
          rw [← hz] at l5
          have hxi : (x : Int) < (n : Int) := by omega
          have hyi : (y : Int) < (n : Int) := by omega
          have HX := Lib.hid hx
          have HY := Lib.hid (And.intro hy hz)
          have HRE := Lib.hid hre
          have HGR := Lib.hid (show GR wr 1 (.slice a3 j c3) j (nums .i64 ((numA f n p i).take j)) from by have := HI.out.rows i hi3; rw [hcnt, hre] at this; exact this)
          have HBB := Lib.hid hB
          clear hx hy hz hre hVi hmi hjM hxM hyM hcnt kb hold hgi hsz hs1 hB hnB
          go_upto_region 8 with fail
          clear m1
          refine wp_region_pick [0, 1, 2, 3, 4, 5, 6, 7, 8, 9, 10, 11, 12, 13, 14, 15, 16, 19] [17, 18] 20 (fun w' => ∃ y : LaterB B wr, w' = y.W) ⟨⟨wr.drew, (Only.refl _ _).drew⟩, rfl⟩ (by kernel_rfl) (by kernel_rfl) ?_
          simp only [List.flatMap_cons, List.flatMap_nil, List.cons_append, List.nil_append, List.take_succ_cons, List.take_zero, List.drop_succ_cons, List.drop_zero]
          repeat (go_big_quiet_step (fail))
          refine wpQuiet_nil ?_
          clear l1 l2 l3 l4 l5
          refine wpG_step ?_
          intro K2 hK2
          go_wp2_with fail
          refine ⟨⟨⟨_, ((Only.refl _ _).alloc (fun k hk => .inr hk) _).drew⟩, rfl⟩, hK2 _ _ ?_⟩
          clear hK2
          obtain ⟨xs, hxs⟩ : ∃ xs, xs = nums .i64 ((numA f n p i).take j) := ⟨_, rfl⟩
          have HGD := Lib.hid (show GR wr.drew 1 (.slice a3 j c3) j xs from by rw [hxs]; exact HGR.out.later ((Below.refl _ _).drew))
          have HXS := Lib.hid hxs
          clear hxs
          have HJB := Lib.hid (show j ≤ 900000000 by omega)
          refine wpG_step ?_
          intro K3 hK3
          go_wp2_with (at_builtin; refine wpList_gr wr.drew rowInt rfl _ _ rfl (v := .slice a3 j c3) (xs := xs) rfl HGD.out _ [.int .i64 z] rfl rfl (by intro u hu; simp at hu; subst hu; rfl) HJB.out ?_)
          intro v9 w9 hq9 ho9 hv9
          obtain ⟨a9, c9, hv9e, -⟩ := hq9.open
          subst hv9e
          have hze : z = (numA f n p i).getD j 0 := by rw [HNUM.out i j hi3 hjm, HY.out.2, HY.out.1, HX.out]
          obtain ⟨hb9, hI9⟩ := HI.out.snoc (by have := HS1.out; omega) hi3 (HNL.out i) hjm (by rw [← hze, ← HXS.out]; exact hq9) (by rw [HRE.out]; exact ((Only.refl _ wr).drew).trans ho9) (by rw [HRE.out]; exact hv9)
          go_wp2_with fail
          refine ⟨⟨⟨w9, ?_⟩, rfl⟩, hK3 _ _ ?_⟩
          · rw [HBB.out, HRE.out]
            exact ((Only.refl _ wr).drew).trans ho9
          clear hK3
          refine wpG_nil ?_
          have p9 := box_at hb9 hi3
          have f9 := free_of_heap hb9 i
          have HI9 := Lib.hid hI9
          clear hq9 ho9 hv9 hze hb9 hI9 HGD HGR
          go_wp2_with fail
          go_roundw
          case rel => exact ⟨j + 1, by go_num, hjm, _, HI9⟩
          case measure => simp [intOf]; omega
        · obtain rfl : j = m := by omega
          have hji : ¬ (j : Int) < (j : Int) := by omega
          go_wp2_with fail
          go_roundw
          case rel => exact ⟨i + 1, by go_num, by omega, R, Lib.hid HI.out.next⟩
          case measure => simp [intOf]; omega
    · obtain rfl : i = 3 := by omega
      have hii : ¬ ((3 : Nat) : Int) < 3 := by omega
      have hc3 : ∀ x, x < 3 → cntA m 3 0 x = m := fun x hx => by unfold cntA; rw [if_pos hx]
      obtain ⟨a0, c0, h0, -⟩ := (HI.out.rows 0 (by omega)).open
      obtain ⟨a1, c1, h1, -⟩ := (HI.out.rows 1 (by omega)).open
      obtain ⟨a2, c2, h2, -⟩ := (HI.out.rows 2 (by omega)).open
      rw [hc3 _ (by omega)] at h0 h1 h2
      have hbox := HI.out.box
      rw [h0, h1, h2] at hbox
      have hs1 := HS1.out
      have hres := (HI.out.on.block (w.heap.size + 1) (by omega)).trans HR1.out
      have k0 := cell_of_heap hbox 0
      have k1 := cell_of_heap hbox 1
      have k2 := cell_of_heap hbox 2
      have r0 := cell_of_heap hres 0
      have r1 := cell_of_heap hres 1
      have r2 := cell_of_heap hres 2
      have f0 := free_of_heap hres 0
      have f1 := free_of_heap hres 1
      have f2 := free_of_heap hres 2
      simp only [List.getElem?_toArray, List.getElem?_cons_zero, List.getElem?_cons_succ] at k0 k1 k2 r0 r1 r2 f0 f1 f2
      have HRES := Lib.hid hres
      have HV := Lib.hid (And.intro h0 (And.intro h1 h2))
      have HC3 := Lib.hid hc3
      clear hbox hres h0 h1 h2 hc3 hs1
      go_wp2_with fail
      have hone : Only (fun x => x = w.heap.size + 1) wr (((wr.setCell ⟨w.heap.size + 1, 0, none⟩ (.slice a0 m c0)).setCell ⟨w.heap.size + 1, 1, none⟩ (.slice a1 m c1)).setCell ⟨w.heap.size + 1, 2, none⟩ (.slice a2 m c2)) :=
        ((only_one wr _ 0 _).trans (only_one _ _ 1 _)).trans (only_one _ _ 2 _)
      have h9 := heap_three wr (w.heap.size + 1) (.slice a0 m c0) (.slice a1 m c1) (.slice a2 m c2) HRES.out
      generalize ((wr.setCell ⟨w.heap.size + 1, 0, none⟩ (.slice a0 m c0)).setCell ⟨w.heap.size + 1, 1, none⟩ (.slice a1 m c1)).setCell ⟨w.heap.size + 1, 2, none⟩ (.slice a2 m c2) = W9 at hone h9 ⊢
      clear k0 k1 k2 r0 r1 r2 f0 f1 f2
      have r0 := cell_of_heap h9 0
      have r1 := cell_of_heap h9 1
      have r2 := cell_of_heap h9 2
      simp only [List.getElem?_toArray, List.getElem?_cons_zero, List.getElem?_cons_succ] at r0 r1 r2
      refine bodyPost_ret (v := .agg #[.slice a0 m c0, .slice a1 m c1, .slice a2 m c2]) (by simp [results, Tryz.results68, go_sem, r0, r1, r2]) rfl ?_
      have hs1 := HS1.out
      refine ⟨R, by unfold actV; rw [HV.out.1, HV.out.2.1, HV.out.2.2], fun i hi => ?_, (HB1.out.trans (HI.out.on.below (fun x hx => by rcases hx with hx | hx <;> omega))).trans (hone.below (fun x hx => by omega)), fun x hx b hb => by have := HI.out.own x hx b hb; omega⟩
      have h := HI.out.rows i hi
      rw [HC3.out i hi, List.take_of_length_le (by rw [HNL.out]; omega)] at h
      exact RS.ofGR (h.only hone (fun b hb e => by have := HI.out.own i hi b hb; omega))
end Go.Proofs.YtfdklmpkienfhaaGreat
