/- The reference's small functions: Refused, Same, SameWords. -/
import Derived.Test.YtdckpjagmbdkgaaT8
import Derived.Test.YtdckpjagmbdkgaaP7
import Derived.Test.YtdckpjagmbdkgaaR1
namespace Go.Proofs.Ytdckpjagmbdkgaa
set_option linter.unusedSimpArgs false
set_option linter.unusedVariables false
open Go.RowKit

set_option maxRecDepth 100000 in
theorem r04_Refused (a b c n most : Int) (w : World) :
    Calls Try.prog 8 #[ordersV a b c, .int .i64 n, .int .i64 most] w fun e w' => e = .returned (.int .i64 (ringErr a b c n most)) ∧ Below w.heap.size w w' := by
  have HN := Lib.hid (fun W => r03_Allowed a b c W)
  unfold ringErr
  unfold ordersV at *
  generalize Hy.ordErr a b c = er at *
  by_cases he : er = 0
  · subst he
    rw [if_neg (by simp)]
    by_cases h1 : n < 0
    · rw [if_pos h1]
      go_enter Try.func8, Try.ntmps8
      go_wp2_with fail
      refine (HN.out _).mono ?_
      rintro e w1 ⟨rfl, hB1⟩
      have HB1 := Lib.hid (show Below w.heap.size w w1 from ((Below.refl _ w).alloc (Nat.le_refl _) _).trans (hB1.mono (by simp)))
      clear hB1
      go_wp2_with fail
      go_ret
      exact ⟨rfl, HB1.out⟩
    · rw [if_neg h1]
      by_cases h2 : most < n
      · rw [if_pos h2]
        go_enter Try.func8, Try.ntmps8
        go_wp2_with fail
        refine (HN.out _).mono ?_
        rintro e w1 ⟨rfl, hB1⟩
        have HB1 := Lib.hid (show Below w.heap.size w w1 from ((Below.refl _ w).alloc (Nat.le_refl _) _).trans (hB1.mono (by simp)))
        clear hB1
        go_wp2_with fail
        go_ret
        exact ⟨rfl, HB1.out⟩
      · rw [if_neg h2]
        go_enter Try.func8, Try.ntmps8
        go_wp2_with fail
        refine (HN.out _).mono ?_
        rintro e w1 ⟨rfl, hB1⟩
        have HB1 := Lib.hid (show Below w.heap.size w w1 from ((Below.refl _ w).alloc (Nat.le_refl _) _).trans (hB1.mono (by simp)))
        clear hB1
        go_wp2_with fail
        go_ret
        exact ⟨rfl, HB1.out⟩
  · rw [if_pos he]
    have g1 : (er == 0) = false := by rw [beq_eq_false_iff_ne]; exact he
    have g2 : (er != 0) = true := by rw [bne_iff_ne]; exact he
    go_enter Try.func8, Try.ntmps8
    go_wp2_with fail
    refine (HN.out _).mono ?_
    rintro e w1 ⟨rfl, hB1⟩
    have HB1 := Lib.hid (show Below w.heap.size w w1 from ((Below.refl _ w).alloc (Nat.le_refl _) _).trans (hB1.mono (by simp)))
    clear hB1
    go_wp2_with fail
    go_ret
    exact ⟨rfl, HB1.out⟩

theorem str_inj {a b : List UInt8} (h : (⟨a.toArray⟩ : ByteArray) = ⟨b.toArray⟩) : a = b := by
  have := congrArg ByteArray.data h
  simpa using this

set_option maxRecDepth 100000 in
set_option maxHeartbeats 1000000 in
theorem r04_SameWords {w : World} {va vb : Value} {l m : List (List UInt8)} (ha : GQ w va (l.map str)) (hb : GQ w vb (m.map str)) (hl : l.length ≤ 1000000000) (hm : m.length ≤ 1000000000) :
    Calls Try.prog 25 #[va, vb] w fun e w' => e = .returned (.bool (decide (l = m))) ∧ Below w.heap.size w w' := by
  obtain ⟨a1, c1, h1, hc1⟩ := ha.open
  obtain ⟨a2, c2, h2, hc2⟩ := hb.open
  have hlt1 := ha.lt
  have hlt2 := hb.lt
  rw [List.length_map] at h1 h2
  subst h1 h2
  have HC1 := Lib.hid (show ∀ i (hi : i < l.length), ∃ g off, a1 = some ⟨g, off, none⟩ ∧ g < w.heap.size ∧ w.cell? ⟨g, off + i, none⟩ = some (.string ⟨l[i].toArray⟩) from fun i hi => by
    obtain ⟨g, off, e1, e2⟩ := hc1 i (str l[i]) (by simp [List.getElem?_eq_getElem hi])
    exact ⟨g, off, e1, hlt1 g (by rw [e1]; rfl), e2⟩)
  have HC2 := Lib.hid (show ∀ i (hi : i < m.length), ∃ g off, a2 = some ⟨g, off, none⟩ ∧ g < w.heap.size ∧ w.cell? ⟨g, off + i, none⟩ = some (.string ⟨m[i].toArray⟩) from fun i hi => by
    obtain ⟨g, off, e1, e2⟩ := hc2 i (str m[i]) (by simp [List.getElem?_eq_getElem hi])
    exact ⟨g, off, e1, hlt2 g (by rw [e1]; rfl), e2⟩)
  clear ha hb hc1 hc2 hlt1 hlt2
  go_enter Try.func25, Try.ntmps25
  by_cases hlen : l.length = m.length
  · have HLEN := Lib.hid hlen
    rw [← hlen]
    clear hlen hm
    go_wp2_with fail
    go_loopw [5] (fun iv wr => ∃ i : Nat, iv = .int .i64 i ∧ i ≤ l.length ∧ Hid (l.take i = m.take i) ∧ Hid (Below w.heap.size w wr)) (fun iv _ => l.length - (intOf iv).toNat)
    case atStart => exact ⟨0, rfl, Nat.zero_le _, Lib.hid rfl, Lib.hid (Below.refl _ _)⟩
    case round =>
      obtain ⟨i, rfl, hi, HT, HB⟩ := hrel
      by_cases hil : i < l.length
      · obtain ⟨g1, o1, rfl, hg1, e1⟩ := HC1.out i hil
        obtain ⟨g2, o2, rfl, hg2, e2⟩ := HC2.out i (by rw [← HLEN.out]; exact hil)
        have d1 := (HB.out.cell (p := ⟨g1, o1 + i, none⟩) hg1).trans e1
        have d2 := (HB.out.cell (p := ⟨g2, o2 + i, none⟩) hg2).trans e2
        have hii : (i : Int) < (l.length : Int) := by omega
        obtain ⟨x, hx⟩ : ∃ x, x = l[i] := ⟨_, rfl⟩
        obtain ⟨y, hy⟩ : ∃ y, y = m[i]'(by rw [← HLEN.out]; exact hil) := ⟨_, rfl⟩
        rw [← hx] at d1
        rw [← hy] at d2
        have HX := Lib.hid hx
        have HY := Lib.hid hy
        clear hx hy e1 e2
        by_cases hxy : x = y
        · have HT2 := Lib.hid (show l.take (i + 1) = m.take (i + 1) from by
            rw [List.take_succ_eq_append_getElem hil, List.take_succ_eq_append_getElem (show i < m.length by rw [← HLEN.out]; exact hil), HT.out, ← HX.out, ← HY.out, hxy])
          subst hxy
          go_wp2_with fail
          go_region
          all_goals go_wp2_with fail
          all_goals go_roundw
          case rel => exact ⟨i + 1, by go_num, by omega, HT2, Lib.hid HB.out.drew⟩
          case measure => simp [intOf]; omega
        · have hne : (x == y) = false := by rw [beq_eq_false_iff_ne]; exact hxy
          have hlm : ¬ l = m := fun h => hxy (by rw [HX.out, HY.out]; subst h; rfl)
          have HLM := Lib.hid hlm
          clear hlm hxy
          go_wp2_with fail
          go_region
          all_goals go_wp2_with fail
          all_goals go_ret
          all_goals exact ⟨by rw [decide_eq_false HLM.out]; rfl, HB.out.drew⟩
      · obtain rfl : i = l.length := by omega
        have hlm : l = m := by
          have h := HT.out
          rw [List.take_of_length_le (Nat.le_refl _), List.take_of_length_le (by rw [HLEN.out]; exact Nat.le_refl _)] at h
          exact h
        have HLM := Lib.hid hlm
        clear hlm
        go_wp2_with fail
        go_ret
        exact ⟨by rw [decide_eq_true HLM.out]; rfl, HB.out⟩
  · have hli : ¬ (l.length : Int) = (m.length : Int) := by omega
    have hlm : ¬ l = m := fun h => hlen (by rw [h])
    have HLM := Lib.hid hlm
    clear hlm hlen
    go_wp2_with fail
    go_ret
    exact ⟨by rw [decide_eq_false HLM.out]; rfl, Below.refl _ _⟩
set_option maxRecDepth 100000 in
set_option maxHeartbeats 1000000 in
theorem r04_Same {w : World} {va vb : Value} {l m : List Int} (ha : PR .i64 w va l) (hb : PR .i64 w vb m) (hl : l.length ≤ 1000000000) (hm : m.length ≤ 1000000000) :
    Calls Try.prog 32 #[va, vb] w fun e w' => e = .returned (.bool (decide (l = m))) ∧ Below w.heap.size w w' := by
  obtain ⟨g1, o1, c1, rfl, _, hg1, hc1⟩ := ha
  obtain ⟨g2, o2, c2, rfl, _, hg2, hc2⟩ := hb
  have HC1 := Lib.hid hc1
  have HC2 := Lib.hid hc2
  have HG := Lib.hid (And.intro hg1 hg2)
  clear hc1 hc2 hg1 hg2
  go_enter Try.func32, Try.ntmps32
  by_cases hlen : l.length = m.length
  · have HLEN := Lib.hid hlen
    rw [← hlen]
    clear hlen hm
    go_wp2_with fail
    go_loopw [5] (fun iv wr => ∃ i : Nat, iv = .int .i64 i ∧ i ≤ l.length ∧ Hid (l.take i = m.take i) ∧ Hid (Below w.heap.size w wr)) (fun iv _ => l.length - (intOf iv).toNat)
    case atStart => exact ⟨0, rfl, Nat.zero_le _, Lib.hid rfl, Lib.hid (Below.refl _ _)⟩
    case round =>
      obtain ⟨i, rfl, hi, HT, HB⟩ := hrel
      by_cases hil : i < l.length
      · have d1 := (HB.out.cell (p := ⟨g1, o1 + i, none⟩) HG.out.1).trans (HC1.out i hil)
        have d2 := (HB.out.cell (p := ⟨g2, o2 + i, none⟩) HG.out.2).trans (HC2.out i (by rw [← HLEN.out]; exact hil))
        have hii : (i : Int) < (l.length : Int) := by omega
        obtain ⟨x, hx⟩ : ∃ x, x = l.getD i 0 := ⟨_, rfl⟩
        obtain ⟨y, hy⟩ : ∃ y, y = m.getD i 0 := ⟨_, rfl⟩
        have HX2 := Lib.hid (show l[i] = l.getD i 0 from by simp [List.getD, List.getElem?_eq_getElem hil])
        have HY2 := Lib.hid (show m[i]'(by rw [← HLEN.out]; exact hil) = m.getD i 0 from by simp [List.getD, List.getElem?_eq_getElem (show i < m.length by rw [← HLEN.out]; exact hil)])
        rw [← hx] at d1
        rw [← hy] at d2
        have HX := Lib.hid hx
        have HY := Lib.hid hy
        clear hx hy
        by_cases hxy : x = y
        · have HT2 := Lib.hid (show l.take (i + 1) = m.take (i + 1) from by
            rw [List.take_succ_eq_append_getElem hil, List.take_succ_eq_append_getElem (show i < m.length by rw [← HLEN.out]; exact hil), HT.out, HX2.out, HY2.out, ← HX.out, ← HY.out, hxy])
          subst hxy
          go_wp2_with fail
          go_region
          all_goals go_wp2_with fail
          all_goals go_roundw
          case rel => exact ⟨i + 1, by go_num, by omega, HT2, Lib.hid HB.out.drew⟩
          case measure => simp [intOf]; omega
        · have hne : (x == y) = false := by rw [beq_eq_false_iff_ne]; exact hxy
          have hlm : ¬ l = m := fun h => hxy (by rw [HX.out, HY.out]; subst h; rfl)
          have HLM := Lib.hid hlm
          clear hlm hxy
          go_wp2_with fail
          go_region
          all_goals go_wp2_with fail
          all_goals go_ret
          all_goals exact ⟨by rw [decide_eq_false HLM.out]; rfl, HB.out.drew⟩
      · obtain rfl : i = l.length := by omega
        have hlm : l = m := by
          have h := HT.out
          rw [List.take_of_length_le (Nat.le_refl _), List.take_of_length_le (by rw [HLEN.out]; exact Nat.le_refl _)] at h
          exact h
        have HLM := Lib.hid hlm
        clear hlm
        go_wp2_with fail
        go_ret
        exact ⟨by rw [decide_eq_true HLM.out]; rfl, HB.out⟩
  · have hli : ¬ (l.length : Int) = (m.length : Int) := by omega
    have hlm : ¬ l = m := fun h => hlen (by rw [h])
    have HLM := Lib.hid hlm
    clear hlm hlen
    go_wp2_with fail
    go_ret
    exact ⟨by rw [decide_eq_false HLM.out]; rfl, Below.refl _ _⟩
end Go.Proofs.Ytdckpjagmbdkgaa
