/- Package cover: the action, its three lists of numbers, and what they hold. -/
import Derived.Test.YtfdklmpkienfhaaGreatR1
import Derived.Test.YtfdklmpkienfhaaGreatLds
import Derived.Test.YtfdklmpkienfhaaGreatAct

/- Package cover: refusals, orders, the shape of lists. -/
namespace Go.Proofs.YtfdklmpkienfhaaGreat
set_option linter.unusedSimpArgs false
set_option linter.unusedVariables false
open Go.RowKit

/-- A refusal. -/
def refusal (e : Int) : Value := .iface 127 (.int .i64 e)

/-- v is a slice of the numbers l in blocks below N. -/
def RS (N : Nat) (w : World) (v : Value) (l : List Int) : Prop :=
  ∃ (a : Option Addr) (cap : Nat), v = .slice a l.length cap ∧ l.length ≤ cap ∧
    ∀ (k : Nat), k < l.length → ∃ g off, a = some ⟨g, off, none⟩ ∧ g < N ∧ w.cell? ⟨g, off + k, none⟩ = some (.int .i64 (l.getD k 0))

theorem RS.below {N : Nat} {w w' : World} {v : Value} {l : List Int} (h : RS N w v l) (hb : Below N w w') : RS N w' v l := by
  obtain ⟨a, cap, h1, h2, h3⟩ := h
  refine ⟨a, cap, h1, h2, fun k hk => ?_⟩
  obtain ⟨g, off, h4, h5, h6⟩ := h3 k hk
  exact ⟨g, off, h4, h5, (hb.cell (p := ⟨g, off + k, none⟩) h5).trans h6⟩
theorem RS.more {N N' : Nat} {w : World} {v : Value} {l : List Int} (h : RS N w v l) (hN : N ≤ N') : RS N' w v l := by
  obtain ⟨a, cap, h1, h2, h3⟩ := h
  refine ⟨a, cap, h1, h2, fun k hk => ?_⟩
  obtain ⟨g, off, h4, h5, h6⟩ := h3 k hk
  exact ⟨g, off, h4, Nat.lt_of_lt_of_le h5 hN, h6⟩

/-- Three lists in memory. -/
def AR (N : Nat) (w : World) (V : Nat → Value) (A : Nat → List Int) : Prop := ∀ i, i < 3 → RS N w (V i) (A i)
theorem AR.below {N : Nat} {w w' : World} {V : Nat → Value} {A : Nat → List Int} (h : AR N w V A) (hb : Below N w w') : AR N w' V A := fun i hi => (h i hi).below hb
/-- Their value. -/
def actV (V : Nat → Value) : Value := .agg #[V 0, V 1, V 2]
theorem box_at {w : World} {b : Nat} {V : Nat → Value} {t : TypeId} (h : w.heap[b]? = some (.cells #[V 0, V 1, V 2] t)) {i : Nat} (hi : i < 3) : w.cell? ⟨b, i, none⟩ = some (V i) := by
  rw [cell_of_heap h]
  obtain rfl | rfl | rfl : i = 0 ∨ i = 1 ∨ i = 2 := by omega
  all_goals rfl

theorem cover_must_ok (e : Int) (w : World) : Calls Tryz.prog 70 #[.bool true, .int .i64 e] w fun en w' => en = .returned (.tuple #[]) ∧ w' = w := by
  go_enter Tryz.func70, Tryz.ntmps70
  go_wp2_with fail
  go_end0
  exact ⟨rfl, rfl⟩
theorem cover_must_no (e : Int) (w : World) : Calls Tryz.prog 70 #[.bool false, .int .i64 e] w fun en w' => en = .panicked [{ v := refusal e, recovered := false }] ∧ w' = w := by
  unfold refusal
  go_enter Tryz.func70, Tryz.ntmps70
  go_wp2_with fail
  exact ⟨rfl, rfl, rfl⟩

/-- Orders that are not allowed are refused. -/
theorem cover_orders_ok (a b c : Int) (he : Hy.ordErr a b c = 0) (w : World) : Calls Tryz.prog 75 #[ordersV a b c] w fun e w' => e = .returned (.tuple #[]) ∧ Below w.heap.size w w' := by
  have HCHK := Lib.hid (fun W => grow_Check a b c W)
  have HM := Lib.hid (fun W => cover_must_ok 0 W)
  rw [he] at HCHK
  unfold ordersV at *
  go_enter Tryz.func75, Tryz.ntmps75
  go_wp2_with fail
  refine (HCHK.out _).mono ?_
  rintro e w1 ⟨rfl, hB⟩
  have HB1 := Lib.hid (((Below.refl w.heap.size w).alloc (Nat.le_refl _) _).trans (hB.mono (by simp)))
  clear hB
  go_wp2_with fail
  refine (HM.out _).mono ?_
  rintro e w2 ⟨rfl, rfl⟩
  go_wp2_with fail
  go_end0
  exact ⟨rfl, HB1.out⟩
theorem cover_orders_no (a b c : Int) (he : Hy.ordErr a b c ≠ 0) (w : World) : Calls Tryz.prog 75 #[ordersV a b c] w fun e w' => e = .panicked [{ v := refusal (Hy.ordErr a b c), recovered := false }] ∧ Below w.heap.size w w' := by
  have HCHK := Lib.hid (fun W => grow_Check a b c W)
  have HM := Lib.hid (fun W => cover_must_no (Hy.ordErr a b c) W)
  have hne : (Hy.ordErr a b c == 0) = false := by rw [beq_eq_false_iff_ne]; exact he
  clear he
  generalize Hy.ordErr a b c = er at *
  unfold ordersV at *
  go_enter Tryz.func75, Tryz.ntmps75
  go_wp2_with fail
  refine (HCHK.out _).mono ?_
  rintro e w1 ⟨rfl, hB⟩
  have HB1 := Lib.hid (((Below.refl w.heap.size w).alloc (Nat.le_refl _) _).trans (hB.mono (by simp)))
  clear hB
  go_wp2_with fail
  refine (HM.out _).mono ?_
  rintro e w2 ⟨rfl, rfl⟩
  go_wp2_with fail
  exact ⟨rfl, rfl, HB1.out⟩

theorem run_index4 (a b c d m : Int) (k : Nat) (h : [a, b, c, d][k]? = some m) (w : World) : (Instr.index 269 (.agg #[.int .i64 a, .int .i64 b, .int .i64 c, .int .i64 d]) (.int .i64 k)).run Tryz.prog w = .ok (.int .i64 m) w := by
  obtain rfl | rfl | rfl | rfl : k = 0 ∨ k = 1 ∨ k = 2 ∨ k = 3 := by have := (List.getElem?_eq_some_iff.1 h).1; simp at this; omega
  all_goals
    simp at h
    subst h
    kernel_rfl

set_option maxRecDepth 100000 in
/-- The order of two letters. -/
theorem cover_order (o : Hy.Ord) (i j : Nat) (hi : i < 3) (hj : j < i) (w : World) : Calls Tryz.prog 129 #[ordersV o.m01 o.m12 o.m02, .int .i64 i, .int .i64 j] w fun e w' => e = .returned (.int .i64 (o.m i j)) ∧ Below w.heap.size w w' := by
  unfold ordersV
  have hc : (i = 1 ∧ j = 0) ∨ (i = 2 ∧ j = 0) ∨ (i = 2 ∧ j = 1) := by omega
  have h1 : ∀ W : World, (Instr.index 269 (.agg #[.int .i64 0, .int .i64 o.m01, .int .i64 o.m02, .int .i64 o.m12]) (.int .i64 1)).run Tryz.prog W = .ok (.int .i64 o.m01) W := run_index4 0 o.m01 o.m02 o.m12 _ 1 rfl
  have h2 : ∀ W : World, (Instr.index 269 (.agg #[.int .i64 0, .int .i64 o.m01, .int .i64 o.m02, .int .i64 o.m12]) (.int .i64 2)).run Tryz.prog W = .ok (.int .i64 o.m02) W := run_index4 0 o.m01 o.m02 o.m12 _ 2 rfl
  have h3 : ∀ W : World, (Instr.index 269 (.agg #[.int .i64 0, .int .i64 o.m01, .int .i64 o.m02, .int .i64 o.m12]) (.int .i64 3)).run Tryz.prog W = .ok (.int .i64 o.m12) W := run_index4 0 o.m01 o.m02 o.m12 _ 3 rfl
  rcases hc with ⟨rfl, rfl⟩ | ⟨rfl, rfl⟩ | ⟨rfl, rfl⟩
  all_goals go_enter Tryz.func129, Tryz.ntmps129
  all_goals go_wp2_with fail
  all_goals go_ret
  all_goals exact ⟨rfl, (Below.refl _ _).alloc (Nat.le_refl _) _⟩
end Go.Proofs.YtfdklmpkienfhaaGreat

/- Package cover: the shape of lists. -/
namespace Go.Proofs.YtfdklmpkienfhaaGreat
set_option linter.unusedSimpArgs false
set_option linter.unusedVariables false
open Go.RowKit

/-- Lists of numbers of some points. -/
def Shaped (A : Nat → List Int) : Prop := (1 ≤ (A 0).length ∧ (A 0).length ≤ 200 ∧ (A 1).length = (A 0).length ∧ (A 2).length = (A 0).length) ∧ ∀ i, i < 3 → ∀ k, k < (A i).length → 0 ≤ (A i).getD k 0 ∧ (A i).getD k 0 < ((A 0).length : Int)

theorem run_index_lists (V : Nat → Value) (i : Nat) (hi : i < 3) (w : World) : (Instr.index 25 (.agg #[V 0, V 1, V 2]) (.int .i64 i)).run Tryz.prog w = .ok (V i) w := by
  obtain rfl | rfl | rfl : i = 0 ∨ i = 1 ∨ i = 2 := by omega
  all_goals kernel_rfl

set_option maxRecDepth 100000 in
set_option maxHeartbeats 2000000 in
theorem cover_shaped (V : Nat → Value) (A : Nat → List Int) (w : World) (hA : AR w.heap.size w V A) (hlen : ∀ i, i < 3 → (A i).length ≤ 1000000000) :
    Calls Tryz.prog 120 #[actV V] w fun e w' => ((Shaped A ∧ e = .returned (.tuple #[])) ∨ (¬ Shaped A ∧ e = .panicked [{ v := refusal 1, recovered := false }])) ∧ Below w.heap.size w w' := by
  have HOK := Lib.hid (fun W => cover_must_ok 1 W)
  have HNO := Lib.hid (fun W => cover_must_no 1 W)
  have HIX := Lib.hid (fun i hi W => run_index_lists V i hi W)
  obtain ⟨a0, c0, hv0, _⟩ := hA 0 (by omega)
  obtain ⟨a1, c1, hv1, _⟩ := hA 1 (by omega)
  obtain ⟨a2, c2, hv2, _⟩ := hA 2 (by omega)
  have q0 := alloc_heap_new w (.cells #[V 0, V 1, V 2] 27)
  have HQ0 := Lib.hid q0
  have HB0 := Lib.hid ((Below.refl w.heap.size w).alloc (Nat.le_refl _) (.cells #[V 0, V 1, V 2] 27))
  have HA := Lib.hid hA
  have HLEN := Lib.hid hlen
  have hl0 := hlen 0 (by omega)
  have hl1 := hlen 1 (by omega)
  have hl2 := hlen 2 (by omega)
  have HV := Lib.hid (And.intro hv0 (And.intro hv1 hv2))
  clear q0 hA hlen hv0 hv1 hv2
  unfold actV
  go_enter Tryz.func120, Tryz.ntmps120
  go_upto_region 1 with fail
  generalize w.alloc (.cells #[V 0, V 1, V 2] 27) = W0 at *
  have k0 := box_at HQ0.out (i := 0) (by omega)
  have k1 := box_at HQ0.out (i := 1) (by omega)
  have k2 := box_at HQ0.out (i := 2) (by omega)
  rw [HV.out.1] at k0
  rw [HV.out.2.1] at k1
  rw [HV.out.2.2] at k2
  obtain ⟨n, hn⟩ : ∃ n, n = (A 0).length := ⟨_, rfl⟩
  obtain ⟨n1, hn1⟩ : ∃ n1, n1 = (A 1).length := ⟨_, rfl⟩
  obtain ⟨n2, hn2⟩ : ∃ n2, n2 = (A 2).length := ⟨_, rfl⟩
  rw [← hn] at k0 hl0
  rw [← hn1] at k1 hl1
  rw [← hn2] at k2 hl2
  have HN := Lib.hid (And.intro hn (And.intro hn1 hn2))
  clear hn hn1 hn2
  by_cases g0 : 1 ≤ n
  · have g0i : (1 : Int) ≤ (n : Int) := by omega
    by_cases g1 : n ≤ 200
    · have g1i : (n : Int) ≤ 200 := by omega
      by_cases g2 : n1 = n
      · have g2i : ((n1 : Int) == (n : Int)) = true := by rw [beq_iff_eq]; omega
        by_cases g3 : n2 = n
        · have g3i : ((n2 : Int) == (n : Int)) = true := by rw [beq_iff_eq]; omega
          go_wp2_with fail
          refine (HOK.out _).mono ?_
          rintro e w1 ⟨rfl, rfl⟩
          go_upto_region 4 with fail
          have HLN := Lib.hid (show ∀ i, i < 3 → (A i).length = n from fun i hi => by
            have := HN.out
            obtain rfl | rfl | rfl : i = 0 ∨ i = 1 ∨ i = 2 := by omega
            all_goals omega)
          have HX := Lib.hid (show ∀ (i : Nat), i < 3 → ∀ W : World, (Instr.index 25 (.agg #[.slice a0 n c0, .slice a1 n c1, .slice a2 n c2]) (.int .i64 i)).run Tryz.prog W = .ok (V i) W from fun i hi W => by
            have h := HIX.out i hi W
            rw [HV.out.1, HV.out.2.1, HV.out.2.2, ← HN.out.1, ← HN.out.2.1, ← HN.out.2.2, g2, g3] at h
            exact h)
          clear k0 k1 k2
          go_loopw [36] (fun iv wr => ∃ i : Nat, iv = .int .i64 i ∧ i ≤ 3 ∧ w1 = wr ∧ Hid (∀ i', i' < i → ∀ k, k < (A i').length → 0 ≤ (A i').getD k 0 ∧ (A i').getD k 0 < (n : Int))) (fun iv _ => 3 - (intOf iv).toNat)
          case atStart => exact ⟨0, rfl, Nat.zero_le _, rfl, Lib.hid (fun i' h => by omega)⟩
          case round =>
            obtain ⟨i, rfl, hi, rfl, HP⟩ := hrel
            by_cases hi3 : i < 3
            · have hii : (i : Int) < 3 := by omega
              have hix := HX.out i hi3
              obtain ⟨ai, ci, hvi, hci, hcell⟩ := HA.out i hi3
              have hli := HLN.out i hi3
              rw [hli] at hvi hcell
              rw [hvi] at hix
              have HC := Lib.hid hcell
              clear hcell hvi
              go_wp2_with fail
              go_loopw [41] (fun kv wr => ∃ k : Nat, kv = .int .i64 k ∧ k ≤ n ∧ w1 = wr ∧ Hid (∀ j, j < k → 0 ≤ (A i).getD j 0 ∧ (A i).getD j 0 < (n : Int))) (fun kv _ => n - (intOf kv).toNat)
              case atStart => exact ⟨0, rfl, Nat.zero_le _, rfl, Lib.hid (fun j h => by omega)⟩
              case round =>
                obtain ⟨k, rfl, hk, rfl, HQ⟩ := hrel
                by_cases hkn : k < n
                · have hki : (k : Int) < (n : Int) := by omega
                  obtain ⟨g, off, rfl, hg, hc⟩ := HC.out k hkn
                  have ck := (HB0.out.cell (p := ⟨g, off + k, none⟩) hg).trans hc
                  obtain ⟨x, hx⟩ : ∃ x, x = (A i).getD k 0 := ⟨_, rfl⟩
                  rw [← hx] at ck
                  have HX2 := Lib.hid hx
                  clear hc hx
                  by_cases h0 : 0 ≤ x
                  · by_cases h1 : x < (n : Int)
                    · go_wp2_with fail
                      refine (HOK.out _).mono ?_
                      rintro e w3 ⟨rfl, rfl⟩
                      go_wp2_with fail
                      go_roundw
                      case rel => exact ⟨k + 1, by go_num, by omega, trivial, Lib.hid (fun j hj => by
                        rcases Nat.lt_or_ge j k with h | h
                        · exact HQ.out j h
                        · obtain rfl : j = k := by omega
                          rw [← HX2.out]; exact ⟨h0, h1⟩)⟩
                      case measure => simp [intOf]; omega
                    · go_wp2_with fail
                      refine (HNO.out _).mono ?_
                      rintro e w3 ⟨rfl, rfl⟩
                      go_wp2_with fail
                      exact ⟨rfl, .inr ⟨fun h => by have := (h.2 i hi3 k (by rw [hli]; exact hkn)).2; rw [← HX2.out, ← HN.out.1] at this; omega, rfl⟩, HB0.out⟩
                  · go_wp2_with fail
                    refine (HNO.out _).mono ?_
                    rintro e w3 ⟨rfl, rfl⟩
                    go_wp2_with fail
                    exact ⟨rfl, .inr ⟨fun h => by have := (h.2 i hi3 k (by rw [hli]; exact hkn)).1; rw [← HX2.out] at this; omega, rfl⟩, HB0.out⟩
                · obtain rfl : k = n := by omega
                  go_wp2_with fail
                  go_roundw
                  case rel => exact ⟨i + 1, by go_num, by omega, trivial, Lib.hid (fun i' hi' j hj => by
                    rcases Nat.lt_or_ge i' i with h | h
                    · exact HP.out i' h j hj
                    · obtain rfl : i' = i := by omega
                      exact HQ.out j (by omega))⟩
                  case measure => simp [intOf]; omega
            · obtain rfl : i = 3 := by omega
              go_wp2_with fail
              go_end0
              exact ⟨.inl ⟨⟨by have := HN.out; omega, fun i hi k hk => by rw [← HN.out.1]; exact HP.out i hi k hk⟩, rfl⟩, HB0.out⟩
        · have g3i : ((n2 : Int) == (n : Int)) = false := by rw [beq_eq_false_iff_ne]; omega
          go_wp2_with fail
          refine (HNO.out _).mono ?_
          rintro e w1 ⟨rfl, rfl⟩
          go_wp2_with fail
          exact ⟨rfl, .inr ⟨fun h => by have := h.1; have := HN.out; omega, rfl⟩, HB0.out⟩
      · have g2i : ((n1 : Int) == (n : Int)) = false := by rw [beq_eq_false_iff_ne]; omega
        go_wp2_with fail
        refine (HNO.out _).mono ?_
        rintro e w1 ⟨rfl, rfl⟩
        go_wp2_with fail
        exact ⟨rfl, .inr ⟨fun h => by have := h.1; have := HN.out; omega, rfl⟩, HB0.out⟩
    · have g1i : ¬ (n : Int) ≤ 200 := by omega
      go_wp2_with fail
      refine (HNO.out _).mono ?_
      rintro e w1 ⟨rfl, rfl⟩
      go_wp2_with fail
      exact ⟨rfl, .inr ⟨fun h => by have := h.1; have := HN.out; omega, rfl⟩, HB0.out⟩
  · have g0i : ¬ (1 : Int) ≤ (n : Int) := by omega
    go_wp2_with fail
    refine (HNO.out _).mono ?_
    rintro e w1 ⟨rfl, rfl⟩
    go_wp2_with fail
    exact ⟨rfl, .inr ⟨fun h => by have := h.1; have := HN.out; omega, rfl⟩, HB0.out⟩
end Go.Proofs.YtfdklmpkienfhaaGreat

/- Package cover: the conditions of an action. -/
namespace Go.Proofs.YtfdklmpkienfhaaGreat
set_option linter.unusedSimpArgs false
set_option linter.unusedVariables false
open Go.RowKit

/-- The letters of lists. -/
def letters (A : Nat → List Int) : Cov.Fn := fun i x => ((A i).getD x 0).toNat
theorem Shaped.into {A : Nat → List Int} (h : Shaped A) : Cov.Into (letters A) (A 0).length := fun i x hi hx => by
  have hl : (A i).length = (A 0).length := by
    obtain ⟨⟨_, _, h1, h2⟩, _⟩ := h
    obtain rfl | rfl | rfl : i = 0 ∨ i = 1 ∨ i = 2 := by omega
    · rfl
    · exact h1
    · exact h2
  have := h.2 i hi x (by omega)
  unfold letters
  omega
theorem Shaped.len {A : Nat → List Int} (h : Shaped A) {i : Nat} (hi : i < 3) : (A i).length = (A 0).length := by
  obtain ⟨⟨_, _, h1, h2⟩, _⟩ := h
  obtain rfl | rfl | rfl : i = 0 ∨ i = 1 ∨ i = 2 := by omega
  · rfl
  · exact h1
  · exact h2
theorem Shaped.at {A : Nat → List Int} (h : Shaped A) {i x : Nat} (hi : i < 3) (hx : x < (A 0).length) : (A i).getD x 0 = ((letters A i x : Nat) : Int) := by
  have := h.2 i hi x (by rw [h.len hi]; exact hx)
  unfold letters
  omega

theorem ord_m_le (o : Hy.Ord) (hS : o.m01 ≤ 12 ∧ o.m12 ≤ 12 ∧ o.m02 ≤ 12) {i j : Nat} (hi : i < 3) (hj : j < i) : o.m i j ≤ 12 := by
  have h : (i = 1 ∧ j = 0) ∨ (i = 2 ∧ j = 0) ∨ (i = 2 ∧ j = 1) := by omega
  rcases h with ⟨rfl, rfl⟩ | ⟨rfl, rfl⟩ | ⟨rfl, rfl⟩
  · exact hS.1
  · exact hS.2.2
  · exact hS.2.1

set_option maxRecDepth 100000 in
set_option maxHeartbeats 4000000 in
theorem cover_holds (o : Hy.Ord) (hS : o.m01 ≤ 12 ∧ o.m12 ≤ 12 ∧ o.m02 ≤ 12) (V : Nat → Value) (A : Nat → List Int) (w : World) (hA : AR w.heap.size w V A) (hs : Shaped A) :
    Calls Tryz.prog 79 #[ordersV o.m01 o.m12 o.m02, actV V] w fun e w' => ((Cov.Holds o (letters A) (A 0).length ∧ e = .returned (.bool true)) ∨ (¬ Cov.Holds o (letters A) (A 0).length ∧ e = .returned (.bool false))) ∧ Below w.heap.size w w' := by
  have HORD := Lib.hid (fun i j hi hj W => cover_order o i j hi hj W)
  obtain ⟨W0, hW0⟩ : ∃ W0, W0 = w.alloc (.cells #[.int .i64 o.m01, .int .i64 o.m12, .int .i64 o.m02] 23) := ⟨_, rfl⟩
  obtain ⟨W1, hW1⟩ : ∃ W1, W1 = W0.alloc (.cells #[V 0, V 1, V 2] 27) := ⟨_, rfl⟩
  have hs0 : W0.heap.size = w.heap.size + 1 := by rw [hW0]; simp
  have hs1 : W1.heap.size = w.heap.size + 2 := by rw [hW1]; simp [hs0]
  have HB0 := Lib.hid (show Below w.heap.size w W1 from by
    rw [hW1, hW0]
    exact ((Below.refl w.heap.size w).alloc (Nat.le_refl _) _).alloc (by simp) _)
  have q0 : W1.heap[w.heap.size]? = some (.cells #[.int .i64 o.m01, .int .i64 o.m12, .int .i64 o.m02] 23) := by
    rw [hW1, Below.heap_alloc _ _ _ (by omega), hW0]
    exact alloc_heap_new w _
  have q1 : W1.heap[w.heap.size + 1]? = some (.cells #[V 0, V 1, V 2] 27) := by
    rw [hW1, ← hs0]
    exact alloc_heap_new W0 _
  have HQ0 := Lib.hid q0
  have HQ1 := Lib.hid q1
  clear q0 q1
  obtain ⟨n, hn⟩ : ∃ n, n = (A 0).length := ⟨_, rfl⟩
  obtain ⟨f, hf⟩ : ∃ f, f = letters A := ⟨_, rfl⟩
  rw [← hf, ← hn]
  unfold ordersV actV at *
  go_enter Tryz.func79, Tryz.ntmps79
  go_upto_region 1 with fail
  rw [← hW0, ← hW1]
  have HS1 := Lib.hid hs1
  clear hW0 hW1 hs0 hs1
  have HNN := Lib.hid (show 1 ≤ n ∧ n ≤ 200 from by rw [hn]; exact ⟨hs.1.1, hs.1.2.1⟩)
  have HAT := Lib.hid (show ∀ i x, i < 3 → x < n → (A i).getD x 0 = ((letters A i x : Nat) : Int) from fun i x hi hx => hs.at hi (by omega))
  have HIN := Lib.hid (show Cov.Into (letters A) n from by rw [hn]; exact hs.into)
  -- a list's place in memory, in each later world
  have HL := Lib.hid (show ∀ i, i < 3 → ∃ g off cap, V i = .slice (some ⟨g, off, none⟩) n cap ∧ ∀ (W : World), Below W1.heap.size W1 W → W.cell? ⟨w.heap.size + 1, i, none⟩ = some (.slice (some ⟨g, off, none⟩) n cap) ∧ ∀ x, x < n → W.cell? ⟨g, off + x, none⟩ = some (.int .i64 ((letters A i x : Nat) : Int)) from fun i hi => by
    obtain ⟨a, cap, h1, h2, h3⟩ := hA i hi
    have hl : (A i).length = n := by rw [hn]; exact hs.len hi
    rw [hl] at h1 h3
    obtain ⟨g, off, rfl, hg, _⟩ := h3 0 (by have := HNN.out; omega)
    refine ⟨g, off, cap, h1, fun W hB => ⟨?_, fun x hx => ?_⟩⟩
    · have := (hB.cell (p := ⟨w.heap.size + 1, i, none⟩) (by have := HS1.out; show w.heap.size + 1 < _; omega)).trans (box_at HQ1.out hi)
      rw [this, h1]
    · obtain ⟨g', off', e, hg', hc⟩ := h3 x hx
      simp only [Option.some.injEq, Addr.mk.injEq, and_true] at e
      obtain ⟨rfl, rfl⟩ := e
      have hBw := HB0.out.trans (hB.mono HB0.out.size)
      rw [hBw.cell (p := ⟨g, off + x, none⟩) hg, hc, HAT.out i x hi hx])
  obtain ⟨g0, off0, cap0, hV0, hm0⟩ := HL.out 0 (by omega)
  have z0 := (hm0 W1 (Below.refl _ _)).1
  rw [← hf] at HL HIN
  have HN := Lib.hid hn
  have HF := Lib.hid hf
  have HM12 := Lib.hid (show ∀ i j, i < 3 → j < i → o.m i j ≤ 12 from fun i j hi hj => ord_m_le o hS hi hj)
  clear hm0 hV0 HAT hs hA hn hf hS
  go_wp2_with fail
  clear z0
  go_loopw [13] (fun iv wr => ∃ x : Nat, iv = .int .i64 x ∧ x ≤ n ∧ Hid (∀ x', x' < x → ∀ i, i < 3 → f i (f i x') = x' ∧ ∀ j, j < i → Cov.rounds f i j (o.m i j) x' = x') ∧ Hid (Below W1.heap.size W1 wr)) (fun iv _ => n - (intOf iv).toNat)
  case atStart => exact ⟨0, rfl, Nat.zero_le _, Lib.hid (fun x h => by omega), Lib.hid (Below.refl _ _)⟩
  case round =>
    obtain ⟨x, rfl, hx, HP, HB⟩ := hrel
    have hnb := HNN.out.2
    by_cases hxn : x < n
    · have hxi : (x : Int) < (n : Int) := by omega
      go_wp2_with fail
      go_loopw [16] (fun iv wx => ∃ i : Nat, iv = .int .i64 i ∧ i ≤ 3 ∧ Hid (∀ i', i' < i → f i' (f i' x) = x ∧ ∀ j, j < i' → Cov.rounds f i' j (o.m i' j) x = x) ∧ Hid (Below W1.heap.size W1 wx)) (fun iv _ => 3 - (intOf iv).toNat)
      case atStart => exact ⟨0, rfl, Nat.zero_le _, Lib.hid (fun i h => by omega), HB⟩
      case round =>
        clear HB
        obtain ⟨i, rfl, hi, HI, HB⟩ := hrel
        by_cases hi3 : i < 3
        · have hii : (i : Int) < 3 := by omega
          obtain ⟨g, off, cap, hVi, hm⟩ := HL.out i hi3
          obtain ⟨m1, m2⟩ := hm wr HB.out
          have hfx : f i x < n := HIN.out i x hi3 hxn
          have m3 := m2 x hxn
          have m4 := m2 (f i x) hfx
          have hfi : ((f i x : Nat) : Int) < (n : Int) := by omega
          go_upto_region 7 with fail
          by_cases hinv : f i (f i x) = x
          · have hne : (((f i (f i x) : Nat) : Int) != (x : Int)) = false := by rw [hinv]; simp
            have HINV := Lib.hid hinv
            clear hinv
            go_region
            all_goals go_wp2_with fail
            all_goals clear m1 m3 m4
            all_goals have HB2 := Lib.hid (show Below W1.heap.size W1 wr.drew from HB.out.drew)
            go_loopw [35] (fun jv wy => ∃ j : Nat, jv = .int .i64 j ∧ j ≤ i ∧ Hid (∀ j', j' < j → Cov.rounds f i j' (o.m i j') x = x) ∧ Hid (Below W1.heap.size W1 wy)) (fun jv _ => i - (intOf jv).toNat)
            case atStart => exact ⟨0, rfl, Nat.zero_le _, Lib.hid (fun j h => by omega), HB2⟩
            case round =>
              clear HB HB2
              obtain ⟨j, rfl, hj, HJ, HB⟩ := hrel
              by_cases hji : j < i
              · have hjc : (j : Int) < (i : Int) := by omega
                have kh := (HB.out.block w.heap.size (by have := HS1.out; omega)).trans HQ0.out
                have kc0 := cell_of_heap kh 0
                have kc1 := cell_of_heap kh 1
                have kc2 := cell_of_heap kh 2
                simp only [List.getElem?_toArray, List.getElem?_cons_zero, List.getElem?_cons_succ] at kc0 kc1 kc2
                clear kh
                go_wp2_with fail
                refine (HORD.out i j hi3 hji _).mono ?_
                rintro e w6 ⟨rfl, hB6⟩
                have HB6 := Lib.hid (HB.out.trans (hB6.mono HB.out.size))
                clear kc0 kc1 kc2 hB6
                obtain ⟨m, hm⟩ : ∃ m, m = o.m i j := ⟨_, rfl⟩
                have hm12 : m ≤ 12 := by rw [hm]; exact HM12.out i j hi3 hji
                rw [← hm]
                have HMM := Lib.hid hm
                clear hm
                go_wp2_with fail
                go_loopw [43, 8] (fun cv yv wz => ∃ c : Nat, cv = .int .i64 c ∧ yv = .int .i64 ((Cov.rounds f i j c x : Nat) : Int) ∧ c ≤ m ∧ Hid (Below W1.heap.size W1 wz)) (fun cv _ _ => m - (intOf cv).toNat)
                case atStart => exact ⟨0, rfl, rfl, Nat.zero_le _, HB6⟩
                case round =>
                  clear HB HB6
                  obtain ⟨c, rfl, rfl, hc, HB⟩ := hrel
                  obtain ⟨y, hy⟩ : ∃ y, y = Cov.rounds f i j c x := ⟨_, rfl⟩
                  rw [← hy]
                  have hyn : y < n := by rw [hy]; exact Cov.rounds_lt HIN.out hi3 (by omega) c hxn
                  have HY := Lib.hid hy
                  clear hy
                  by_cases hcm : c < m
                  · have hcc : (c : Int) < (m : Int) := by omega
                    have hj3 : j < 3 := by omega
                    have hj3i : (j : Int) < 3 := by omega
                    have hyi : (y : Int) < (n : Int) := by omega
                    obtain ⟨m1, m2⟩ := hm wr HB.out
                    obtain ⟨gj, offj, capj, hVj, hmj⟩ := HL.out j hj3
                    obtain ⟨n1, n2⟩ := hmj wr HB.out
                    have hfy : f i y < n := HIN.out i y hi3 hyn
                    have hfyi : ((f i y : Nat) : Int) < (n : Int) := by omega
                    have m3 := m2 y hyn
                    have n3 := n2 (f i y) hfy
                    clear m2 n2 hmj hVj
                    go_upto_region 15 with fail
                    go_region
                    all_goals go_wp2_with fail
                    go_roundw
                    case rel => exact ⟨c + 1, by go_num, by rw [Cov.rounds_succ, ← HY.out], hcm, Lib.hid HB.out.drew⟩
                    case measure => simp [intOf]; omega
                  · obtain rfl : c = m := by omega
                    by_cases hyx : y = x
                    · have hne2 : ((y : Int) != (x : Int)) = false := by rw [hyx]; simp
                      have HYX := Lib.hid hyx
                      clear hyx
                      go_wp2_with fail
                      go_roundw
                      case rel => exact ⟨j + 1, by go_num, hji, Lib.hid (fun j' hj' => by
                        rcases Nat.lt_or_ge j' j with h | h
                        · exact HJ.out j' h
                        · obtain rfl : j' = j := by omega
                          rw [← HMM.out, ← HY.out]
                          exact HYX.out), HB⟩
                      case measure => simp [intOf]; omega
                    · have hne2 : ((y : Int) != (x : Int)) = true := by rw [bne_iff_ne]; omega
                      have HYX := Lib.hid hyx
                      clear hyx
                      go_wp2_with fail
                      go_ret
                      exact ⟨.inr ⟨fun h => HYX.out (by rw [HY.out, HMM.out]; exact (h x hxn i hi3).2 j hji), rfl⟩, HB0.out.trans (HB.out.mono HB0.out.size)⟩
              · obtain rfl : j = i := by omega
                go_wp2_with fail
                go_roundw
                case rel => exact ⟨j + 1, by go_num, by omega, Lib.hid (fun i' hi' => by
                  rcases Nat.lt_or_ge i' j with h | h
                  · exact HI.out i' h
                  · obtain rfl : i' = j := by omega
                    exact ⟨HINV.out, HJ.out⟩), HB⟩
                case measure => simp [intOf]; omega
          · have hne : (((f i (f i x) : Nat) : Int) != (x : Int)) = true := by rw [bne_iff_ne]; omega
            have HINV := Lib.hid hinv
            clear hinv
            go_region
            all_goals go_wp2_with fail
            all_goals go_ret
            all_goals exact ⟨.inr ⟨fun h => HINV.out (h x hxn i hi3).1, rfl⟩, HB0.out.trans (HB.out.drew.mono HB0.out.size)⟩
        · obtain rfl : i = 3 := by omega
          go_wp2_with fail
          go_roundw
          case rel => exact ⟨x + 1, by go_num, by omega, Lib.hid (fun x' hx' i hi => by
            rcases Nat.lt_or_ge x' x with h | h
            · exact HP.out x' h i hi
            · obtain rfl : x' = x := by omega
              exact HI.out i hi), HB⟩
          case measure => simp [intOf]; omega
    · obtain rfl : x = n := by omega
      go_wp2_with fail
      go_ret
      exact ⟨.inl ⟨fun x hx i hi => HP.out x hx i hi, rfl⟩, HB0.out.trans (HB.out.mono HB0.out.size)⟩
end Go.Proofs.YtfdklmpkienfhaaGreat
