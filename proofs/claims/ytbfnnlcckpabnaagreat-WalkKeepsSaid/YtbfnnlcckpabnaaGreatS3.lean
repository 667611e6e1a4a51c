import Derived.Test.YtbfnnlcckpabnaaGreatS1
import Derived.BigQuiet

/- The places of things in the lists of the specification of layer 7. -/
namespace Go.Proofs.YtbfnnlcckpabnaaGreat
set_option linter.unusedSimpArgs false
set_option linter.unusedVariables false
open Go.RowKit

/-- A slice of pairs of cells. -/
def Pairs {α : Type} (e0 e1 : α → Value) (w : World) (v : Value) (T : List α) : Prop :=
  ∃ (base : Option Addr) (cap : Nat), v = .slice base T.length cap ∧ ∀ (k : Nat) (hk : k < T.length), ∃ g off, base = some ⟨g, off, none⟩ ∧ g < w.heap.size ∧ w.cell? ⟨g, off + k * 2, none⟩ = some (e0 T[k]) ∧ w.cell? ⟨g, off + k * 2 + 1, none⟩ = some (e1 T[k])

theorem Pairs.below {α : Type} {e0 e1 : α → Value} {w w' : World} {v : Value} {T : List α} (h : Pairs e0 e1 w v T) (hb : Below w.heap.size w w') : Pairs e0 e1 w' v T := by
  obtain ⟨base, cap, h1, h2⟩ := h
  refine ⟨base, cap, h1, fun k hk => ?_⟩
  obtain ⟨g, off, h3, h4, h5, h6⟩ := h2 k hk
  have hc := (bcell hb).1
  exact ⟨g, off, h3, Nat.lt_of_lt_of_le h4 hb.size, (hc _ _ h4).trans h5, (hc _ _ h4).trans h6⟩

abbrev ThingList := List (List UInt8 × List UInt8)

/-- Where a thing stands, or would be put, counted from i on; whether it is there. -/
def thingPlace (t : List UInt8) : ThingList → Nat → Nat × Bool
  | [], i => (i, false)
  | (k, _) :: r, i => if k = t then (i, true) else if aheadW t k then (i, false) else thingPlace t r (i + 1)

theorem thingPlace_drop {t : List UInt8} {T : ThingList} {k : Nat} (hk : k < T.length) : thingPlace t (T.drop k) k = if T[k].1 = t then (k, true) else if aheadW t T[k].1 then (k, false) else thingPlace t (T.drop (k + 1)) (k + 1) := by
  rw [List.drop_eq_getElem_cons hk]
  rfl

set_option maxRecDepth 100000 in
set_option maxHeartbeats 2000000 in
theorem r07_thingAt {w : World} {v : Value} {T : ThingList} (h : Pairs (fun p => str p.1) (fun p => str p.2) w v T) (hT : T.length ≤ 100000) (t : List UInt8) :
    Calls Tryz.prog 42 #[v, str t] w fun e w' => e = .returned (.agg #[.int .i64 (thingPlace t T 0).1, .bool (thingPlace t T 0).2]) ∧ Below w.heap.size w w' := by
  obtain ⟨base, cap, rfl, hcells⟩ := h
  have HC := Lib.hid hcells; clear hcells
  have HA := Lib.hid (fun a W => (r07_Ahead t a W).mono fun _ _ h => And.intro h.1 h.2.symm)
  unfold str at *
  go_enter Tryz.func42, Tryz.ntmps42
  go_wp2_with fail
  obtain ⟨W0, hW0⟩ : ∃ W0, w.alloc (.cells #[.int .i64 0, .bool false] 93) = W0 := ⟨_, rfl⟩
  have hr0 : W0.heap[w.heap.size]? = some (.cells #[.int .i64 0, .bool false] 93 (0, 0)) := by rw [← hW0]; exact alloc_heap_new w _
  have hB0 : Below w.heap.size w W0 := by rw [← hW0]; exact (Below.refl _ _).alloc (Nat.le_refl _) _
  rw [hW0]
  clear hW0
  have c0 := cell_of_heap hr0 0
  have c1 := cell_of_heap hr0 1
  have f0 := free_of_heap hr0 0
  have f1 := free_of_heap hr0 1
  simp at c0 c1
  have HR0 := Lib.hid hr0; clear hr0
  have HB0 := Lib.hid hB0; clear hB0
  go_loop [5] (fun i => ∃ k : Nat, k ≤ T.length ∧ i = .int .i64 k ∧ Hid (thingPlace t (T.drop k) k = thingPlace t T 0)) (fun i => T.length - (intOf i).toNat)
  case atStart => exact ⟨0, Nat.zero_le _, rfl, rfl⟩
  case round =>
    obtain ⟨k, hk, rfl, HK⟩ := hrel
    by_cases hlt : k < T.length
    · obtain ⟨g, off, rfl, hgl, hc0, hc1⟩ := HC.out k hlt
      have hd := thingPlace_drop (t := t) hlt
      rw [HK.out] at hd
      have e0 := ((bcell HB0.out).1 g (off + k * 2) hgl).trans hc0
      clear hc0 hc1
      by_cases heq : T[k].1 = t
      · rw [if_pos heq] at hd
        have HD := Lib.hid hd; clear hd
        rw [heq] at e0
        clear heq
        go_wp2_with fail
        have hfin := two_stores (u := .int .i64 k) (v := .bool true) HR0.out
        have d0 := cell_of_heap hfin 0
        have d1 := cell_of_heap hfin 1
        simp at d0 d1
        refine bodyPost_ret (v := .agg #[.int .i64 (thingPlace t T 0).1, .bool (thingPlace t T 0).2]) (by simp [results, Tryz.results42, go_sem, d0, d1, HD.out]) rfl ⟨rfl, (HB0.out.setCell (p := ⟨w.heap.size, 0, none⟩) (Nat.le_refl _) _).setCell (p := ⟨w.heap.size, 1, none⟩) (Nat.le_refl _) _⟩
      · rw [if_neg heq] at hd
        have g1 : ((⟨T[k].1.toArray⟩ : ByteArray) == ⟨t.toArray⟩) = false := by rw [bytes_beq, beq_eq_false_iff_ne]; exact heq
        have g2 : (T[k].1 == t) = false := by rw [beq_eq_false_iff_ne]; exact heq
        have g3 : ¬ ((⟨T[k].1.toArray⟩ : ByteArray) = ⟨t.toArray⟩) := fun h => heq (by have := congrArg ByteArray.data h; simpa using this)
        have HA' := Lib.hid (HA.out T[k].1)
        cases ha : aheadW t T[k].1 with
        | true =>
          rw [ha, if_pos rfl] at hd
          rw [ha] at HA'
          have HD := Lib.hid hd; clear hd
          clear ha
          go_wp2_with fail
          refine (HA'.out _).mono ?_
          rintro e w2 ⟨rfl, rfl⟩
          go_wp2_with fail
          have hfin := two_stores (u := .int .i64 k) (v := .bool false) HR0.out
          have d0 := cell_of_heap hfin 0
          have d1 := cell_of_heap hfin 1
          simp at d0 d1
          refine bodyPost_ret (v := .agg #[.int .i64 (thingPlace t T 0).1, .bool (thingPlace t T 0).2]) (by simp [results, Tryz.results42, go_sem, d0, d1, HD.out]) rfl ⟨rfl, (HB0.out.setCell (p := ⟨w.heap.size, 0, none⟩) (Nat.le_refl _) _).setCell (p := ⟨w.heap.size, 1, none⟩) (Nat.le_refl _) _⟩
        | false =>
          rw [ha] at hd HA'
          simp only [Bool.false_eq_true, if_false] at hd
          have HD := Lib.hid hd.symm; clear hd
          clear ha
          go_wp2_with fail
          refine (HA'.out _).mono ?_
          rintro e w2 ⟨rfl, rfl⟩
          go_wp2_with fail
          go_round
          case rel => exact ⟨k + 1, by omega, by go_num, HD⟩
          case measure => simp [intOf]; omega
    · obtain rfl : k = T.length := by omega
      have hd := HK.out
      rw [List.drop_length] at hd
      have hd2 : thingPlace t T 0 = (T.length, false) := hd.symm
      have HD := Lib.hid hd2; clear hd hd2 hlt hk
      go_wp2_with fail
      have hfin := two_stores (u := .int .i64 (T.length : Nat)) (v := .bool false) HR0.out
      have d0 := cell_of_heap hfin 0
      have d1 := cell_of_heap hfin 1
      simp at d0 d1
      refine bodyPost_ret (v := .agg #[.int .i64 (thingPlace t T 0).1, .bool (thingPlace t T 0).2]) (by simp [results, Tryz.results42, go_sem, d0, d1, HD.out]) rfl ⟨rfl, (HB0.out.setCell (p := ⟨w.heap.size, 0, none⟩) (Nat.le_refl _) _).setCell (p := ⟨w.heap.size, 1, none⟩) (Nat.le_refl _) _⟩
end Go.Proofs.YtbfnnlcckpabnaaGreat

/- The places of walls in the lists of the specification of layer 7. -/
namespace Go.Proofs.YtbfnnlcckpabnaaGreat
set_option linter.unusedSimpArgs false
set_option linter.unusedVariables false
open Go.RowKit

abbrev WallList := List (List UInt8 × Int)

/-- Is the wall of the tile t and the mirror m ahead of another one? -/
def wallAhead (t : List UInt8) (m : Int) (k : List UInt8) (n : Int) : Bool := aheadW t k || (t == k && decide (m < n))

/-- Where a wall stands, or would be put, counted from i on; whether it is there. -/
def wallPlace (t : List UInt8) (m : Int) : WallList → Nat → Nat × Bool
  | [], i => (i, false)
  | (k, n) :: r, i => if k = t ∧ n = m then (i, true) else if wallAhead t m k n then (i, false) else wallPlace t m r (i + 1)

theorem wallPlace_drop {t : List UInt8} {m : Int} {T : WallList} {k : Nat} (hk : k < T.length) : wallPlace t m (T.drop k) k = if T[k].1 = t ∧ T[k].2 = m then (k, true) else if wallAhead t m T[k].1 T[k].2 then (k, false) else wallPlace t m (T.drop (k + 1)) (k + 1) := by
  rw [List.drop_eq_getElem_cons hk]
  rfl

set_option maxRecDepth 100000 in
set_option maxHeartbeats 4000000 in
theorem r07_wallAt {w : World} {v : Value} {T : WallList} (h : Pairs (fun p => str p.1) (fun p => .int .i64 p.2) w v T) (hT : T.length ≤ 100000) (t : List UInt8) (m : Int) :
    Calls Tryz.prog 39 #[v, .agg #[str t, .int .i64 m]] w fun e w' => e = .returned (.agg #[.int .i64 (wallPlace t m T 0).1, .bool (wallPlace t m T 0).2]) ∧ Below w.heap.size w w' := by
  obtain ⟨base, cap, rfl, hcells⟩ := h
  have HC := Lib.hid hcells; clear hcells
  have HA := Lib.hid (fun a W => (r07_Ahead t a W).mono fun _ _ h => And.intro h.1 h.2.symm)
  unfold str at *
  go_enter Tryz.func39, Tryz.ntmps39
  go_wp2_with fail
  obtain ⟨W0, hW0⟩ : ∃ W0, (w.alloc (.cells #[.string ⟨t.toArray⟩, .int .i64 m] 83)).alloc (.cells #[.int .i64 0, .bool false] 93) = W0 := ⟨_, rfl⟩
  have hb0 : W0.heap[w.heap.size]? = some (.cells #[.string ⟨t.toArray⟩, .int .i64 m] 83 (0, 0)) := by
    rw [← hW0, heap_alloc_lt _ _ (by simp)]; exact alloc_heap_new w _
  have hr0 : W0.heap[w.heap.size + 1]? = some (.cells #[.int .i64 0, .bool false] 93 (0, 0)) := by
    rw [← hW0]
    have h := alloc_heap_new (w.alloc (.cells #[.string ⟨t.toArray⟩, .int .i64 m] 83)) (.cells #[.int .i64 0, .bool false] 93)
    rwa [World.size_alloc] at h
  have hB0 : Below w.heap.size w W0 := by rw [← hW0]; exact ((Below.refl _ _).alloc (Nat.le_refl _) _).alloc (by simp) _
  rw [hW0]
  clear hW0
  have b0 := cell_of_heap hb0 0
  have b1 := cell_of_heap hb0 1
  have c0 := cell_of_heap hr0 0
  have c1 := cell_of_heap hr0 1
  have f0 := free_of_heap hr0 0
  have f1 := free_of_heap hr0 1
  simp at b0 b1 c0 c1
  have HR0 := Lib.hid hr0; clear hr0
  have HB0 := Lib.hid hB0; clear hB0
  clear b0 b1 c0 c1 f0 f1
  have hcell := fun wr (hB : Below W0.heap.size W0 wr) => And.intro ((hB.block w.heap.size (by have := (Array.getElem?_eq_some_iff.1 HR0.out).1; omega)).trans hb0) ((hB.block (w.heap.size + 1) (Array.getElem?_eq_some_iff.1 HR0.out).1).trans HR0.out)
  have HCELL := Lib.hid hcell; clear hcell hb0
  go_loopw [5] (fun i wr => ∃ k : Nat, k ≤ T.length ∧ i = .int .i64 k ∧ Hid (wallPlace t m (T.drop k) k = wallPlace t m T 0) ∧ Hid (Below W0.heap.size W0 wr)) (fun i _ => T.length - (intOf i).toNat)
  case atStart => exact ⟨0, Nat.zero_le _, rfl, rfl, Below.refl _ _⟩
  case round =>
    obtain ⟨k, hk, rfl, HK, HBr⟩ := hrel
    obtain ⟨hbr, hrr⟩ := HCELL.out _ HBr.out
    have b0 := cell_of_heap hbr 0
    have b1 := cell_of_heap hbr 1
    have c0 := cell_of_heap hrr 0
    have c1 := cell_of_heap hrr 1
    have f0 := free_of_heap hrr 0
    have f1 := free_of_heap hrr 1
    simp at b0 b1 c0 c1
    have HRR := Lib.hid hrr; clear hrr hbr
    by_cases hlt : k < T.length
    · obtain ⟨g, off, rfl, hgl, hc0, hc1⟩ := HC.out k hlt
      have hd := wallPlace_drop (t := t) (m := m) hlt
      rw [HK.out] at hd
      have hB := HB0.out.trans (HBr.out.mono HB0.out.size)
      have e0 := ((bcell hB).1 g (off + k * 2) hgl).trans hc0
      have e1 := ((bcell hB).1 g (off + k * 2 + 1) hgl).trans hc1
      have HBB := Lib.hid hB; clear hB hc0 hc1
      have HD := Lib.hid hd; clear hd
      by_cases h1 : T[k].1 = t ∧ T[k].2 = m
      · have hd := HD.out
        rw [if_pos h1] at hd
        have HD := Lib.hid hd; clear hd
        obtain ⟨h1, h2⟩ := h1
        rw [h1] at e0
        rw [h2] at e1
        clear h1 h2
        go_wp2_with fail
        go_region
        all_goals go_wp2_with fail
        have hfin := two_stores (u := .int .i64 k) (v := .bool true) HRR.out
        have d0 := cell_of_heap hfin 0
        have d1 := cell_of_heap hfin 1
        simp at d0 d1
        refine bodyPost_ret (v := .agg #[.int .i64 (wallPlace t m T 0).1, .bool (wallPlace t m T 0).2]) (by simp [results, Tryz.results39, go_sem, d0, d1, HD.out]) rfl ⟨rfl, ?_⟩
        have hset := ((HB0.out.trans (HBr.out.mono HB0.out.size)).setCell (p := ⟨w.heap.size + 1, 0, none⟩) (Nat.le_succ _) (.int .i64 k)).setCell (p := ⟨w.heap.size + 1, 1, none⟩) (Nat.le_succ _) (.bool true)
        first | exact hset | exact hset.drew | exact hset.drew.drew
      · have hd := HD.out
        rw [if_neg h1] at hd
        have HA' := Lib.hid (HA.out T[k].1)
        by_cases heq : T[k].1 = t
        · have hne : ¬ T[k].2 = m := fun h => h1 ⟨heq, h⟩
          have hirr : aheadW t t = false := aheadW_le.2 (Hy.Le.refl t)
          rw [heq] at e0 hd
          rw [heq, hirr] at HA'
          have hw : wallAhead t m t T[k].2 = decide (m < T[k].2) := by unfold wallAhead; rw [hirr]; simp
          rw [hw] at hd
          have HNE := Lib.hid hne; clear h1 heq hw hirr HD
          generalize hq : T[k].2 = q at *
          have hne2 := HNE.out
          clear HNE hq
          have g0 : (q == m) = false := by rw [beq_eq_false_iff_ne]; exact hne2
          by_cases hmq : m < q
          · rw [decide_eq_true hmq, if_pos rfl] at hd
            have HD := Lib.hid hd; clear hd
            have g1 : decide (m < q) = true := decide_eq_true hmq
            go_wp2_with fail
            go_region
            all_goals go_wp2_with fail
            all_goals go_quiet (first | (go_at_call 62; refine (HA'.out _).mono ?_; rintro e w'' ⟨rfl, rfl⟩; exact ⟨rfl, _, rfl⟩))
            all_goals go_wp2_with fail
            have hfin := two_stores (w := wr.drewN (1 + nq)) (u := .int .i64 k) (v := .bool false) HRR.out
            have d0 := cell_of_heap hfin 0
            have d1 := cell_of_heap hfin 1
            simp at d0 d1
            refine bodyPost_ret (v := .agg #[.int .i64 (wallPlace t m T 0).1, .bool (wallPlace t m T 0).2]) (by simp [results, Tryz.results39, go_sem, d0, d1, HD.out]) rfl ⟨rfl, ?_⟩
            exact ((below_drewN HBB.out (1 + nq)).setCell (p := ⟨w.heap.size + 1, 0, none⟩) (Nat.le_succ _) (.int .i64 k)).setCell (p := ⟨w.heap.size + 1, 1, none⟩) (Nat.le_succ _) (.bool false)
          · rw [decide_eq_false hmq] at hd
            simp only [Bool.false_eq_true, if_false] at hd
            have HD := Lib.hid hd.symm; clear hd
            have g1 : decide (m < q) = false := decide_eq_false hmq
            go_wp2_with fail
            go_region
            all_goals go_wp2_with fail
            all_goals go_quiet (first | (go_at_call 62; refine (HA'.out _).mono ?_; rintro e w'' ⟨rfl, rfl⟩; exact ⟨rfl, _, rfl⟩))
            all_goals go_wp2_with fail
            go_roundw
            case rel => exact ⟨k + 1, by omega, by go_num, HD, below_drewN HBr.out _⟩
            case measure => simp [intOf]; omega
        · have hw : wallAhead t m T[k].1 T[k].2 = aheadW t T[k].1 := by
            unfold wallAhead
            rw [show (t == T[k].1) = false by rw [beq_eq_false_iff_ne]; exact fun h => heq h.symm]
            simp
          rw [hw] at hd
          clear hw h1 HD
          have g1 : ((⟨T[k].1.toArray⟩ : ByteArray) == ⟨t.toArray⟩) = false := by rw [bytes_beq, beq_eq_false_iff_ne]; exact heq
          have g2 : (T[k].1 == t) = false := by rw [beq_eq_false_iff_ne]; exact heq
          have g3 : ¬ ((⟨T[k].1.toArray⟩ : ByteArray) = ⟨t.toArray⟩) := fun h => heq (by have := congrArg ByteArray.data h; simpa using this)
          have g4 : (t == T[k].1) = false := by rw [beq_eq_false_iff_ne]; exact fun h => heq h.symm
          have g5 : ¬ ((⟨t.toArray⟩ : ByteArray) = ⟨T[k].1.toArray⟩) := fun h => g3 h.symm
          have g6 : ((⟨t.toArray⟩ : ByteArray) == ⟨T[k].1.toArray⟩) = false := by rw [bytes_beq, beq_eq_false_iff_ne]; exact fun h => heq h.symm
          cases ha : aheadW t T[k].1 with
          | true =>
            rw [ha, if_pos rfl] at hd
            rw [ha] at HA'
            have HD := Lib.hid hd; clear hd ha
            go_wp2_with fail
            go_region
            all_goals go_wp2_with fail
            all_goals go_quiet (first | (go_at_call 62; refine (HA'.out _).mono ?_; rintro e w'' ⟨rfl, rfl⟩; exact ⟨rfl, _, rfl⟩))
            all_goals go_wp2_with fail
            have hfin := two_stores (w := wr.drewN (1 + nq)) (u := .int .i64 k) (v := .bool false) HRR.out
            have d0 := cell_of_heap hfin 0
            have d1 := cell_of_heap hfin 1
            simp at d0 d1
            refine bodyPost_ret (v := .agg #[.int .i64 (wallPlace t m T 0).1, .bool (wallPlace t m T 0).2]) (by simp [results, Tryz.results39, go_sem, d0, d1, HD.out]) rfl ⟨rfl, ?_⟩
            exact ((below_drewN HBB.out (1 + nq)).setCell (p := ⟨w.heap.size + 1, 0, none⟩) (Nat.le_succ _) (.int .i64 k)).setCell (p := ⟨w.heap.size + 1, 1, none⟩) (Nat.le_succ _) (.bool false)
          | false =>
            rw [ha] at hd HA'
            simp only [Bool.false_eq_true, if_false] at hd
            have HD := Lib.hid hd.symm; clear hd ha
            go_wp2_with fail
            go_region
            all_goals go_wp2_with fail
            all_goals go_quiet (first | (go_at_call 62; refine (HA'.out _).mono ?_; rintro e w'' ⟨rfl, rfl⟩; exact ⟨rfl, _, rfl⟩))
            all_goals go_wp2_with fail
            go_roundw
            case rel => exact ⟨k + 1, by omega, by go_num, HD, below_drewN HBr.out _⟩
            case measure => simp [intOf]; omega
    · obtain rfl : k = T.length := by omega
      have hd := HK.out
      rw [List.drop_length] at hd
      have hd2 : wallPlace t m T 0 = (T.length, false) := hd.symm
      have HD := Lib.hid hd2; clear hd hd2 hlt hk
      go_wp2_with fail
      have hfin := two_stores (u := .int .i64 (T.length : Nat)) (v := .bool false) HRR.out
      have d0 := cell_of_heap hfin 0
      have d1 := cell_of_heap hfin 1
      simp at d0 d1
      refine bodyPost_ret (v := .agg #[.int .i64 (wallPlace t m T 0).1, .bool (wallPlace t m T 0).2]) (by simp [results, Tryz.results39, go_sem, d0, d1, HD.out]) rfl ⟨rfl, ?_⟩
      have hset := ((HB0.out.trans (HBr.out.mono HB0.out.size)).setCell (p := ⟨w.heap.size + 1, 0, none⟩) (Nat.le_succ _) (.int .i64 (T.length : Nat))).setCell (p := ⟨w.heap.size + 1, 1, none⟩) (Nat.le_succ _) (.bool false)
      first | exact hset | exact hset.drew | exact hset.drew.drew
end Go.Proofs.YtbfnnlcckpabnaaGreat
