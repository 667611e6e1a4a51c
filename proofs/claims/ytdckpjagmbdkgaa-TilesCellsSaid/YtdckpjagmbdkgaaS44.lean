/- The reference's fraction. -/
import Derived.Test.YtdckpjagmbdkgaaS43
namespace Go.Proofs.Ytdckpjagmbdkgaa
set_option linter.unusedSimpArgs false
set_option linter.unusedVariables false
open Go.RowKit
open HySer (addAt timesGo ptimes pplus ones prodAll fracD refDen)

theorem prod_succ (ms : List Nat) {k : Nat} (hk : k < ms.length) : prodAll (ms.take (k + 1)) = ptimes (prodAll (ms.take k)) (ones ms[k]) := by
  rw [List.take_succ_eq_append_getElem hk, HySer.prod_snoc]

/-- The sum over the first orders, as the reference makes it. -/
def refGo (ms : List Nat) (i : Nat) : List Int := (List.range i).foldl (fun a j => pplus a (HySer.restAll ms j) 1) (pplus (fracD ms) (prodAll ms) (-3))
theorem refGo_succ (ms : List Nat) (i : Nat) : refGo ms (i + 1) = pplus (refGo ms i) (HySer.restAll ms i) 1 := by
  unfold refGo
  rw [List.range_succ, List.foldl_append]
  rfl
theorem refGo_all (ms : List Nat) : refGo ms ms.length = HySer.refA ms := rfl
theorem refGo_len {ms : List Nat} (h : Good ms) : ∀ i, i ≤ ms.length → (refGo ms i).length = (prodAll ms).length + 1 ∧ HySer.AllOk (refGo ms i)
  | 0, _ => by
    unfold refGo
    rw [List.range_zero, List.foldl_nil, HySer.length_pplus, h.fracD]
    exact ⟨by omega, HySer.AllOk.plus HySer.AllOk.times⟩
  | i + 1, hi => by
    obtain ⟨h1, h2⟩ := refGo_len h i (by omega)
    obtain ⟨h3, h4⟩ := rest_len h.two (show i < ms.length by omega)
    rw [refGo_succ, HySer.length_pplus, h1]
    exact ⟨by omega, HySer.AllOk.plus h2⟩
/-- The product of the first orders but for one. -/
def restGo (ms : List Nat) (i k : Nat) : List Nat := (ms.take k).eraseIdx i
theorem restGo_same {ms : List Nat} {i : Nat} (hi : i < ms.length) : restGo ms i (i + 1) = restGo ms i i := by
  unfold restGo
  have hl : (ms.take i).length = i := by simp; omega
  have e : (ms.take i ++ [ms[i]]).eraseIdx i = ms.take i := by
    have h := List.eraseIdx_append_of_length_le (l := ms.take i) (k := i) (by rw [hl]; exact Nat.le_refl _) [ms[i]]
    rw [hl, Nat.sub_self] at h
    simpa using h
  rw [List.take_succ_eq_append_getElem hi, e, List.eraseIdx_of_length_le (by rw [hl]; exact Nat.le_refl _)]
theorem restGo_succ {ms : List Nat} {i k : Nat} (hk : k < ms.length) (hne : k ≠ i) : restGo ms i (k + 1) = restGo ms i k ++ [ms[k]] := by
  unfold restGo
  have hl : (ms.take k).length = k := by simp; omega
  rw [List.take_succ_eq_append_getElem hk]
  rcases Nat.lt_or_ge i k with h | h
  · rw [List.eraseIdx_append_of_lt_length (by rw [hl]; exact h)]
  · rw [List.eraseIdx_of_length_le (by rw [List.length_append, hl]; simp; omega), List.eraseIdx_of_length_le (by rw [hl]; exact h)]
theorem restGo_all (ms : List Nat) (i : Nat) : prodAll (restGo ms i ms.length) = HySer.restAll ms i := by
  unfold restGo HySer.restAll
  rw [List.take_of_length_le (Nat.le_refl _)]
theorem restGo_good {ms : List Nat} (h : Good ms) (i k : Nat) : Good (restGo ms i k) := by
  have hs : (restGo ms i k).Sublist ms := (List.eraseIdx_sublist _ _).trans (List.take_sublist _ _)
  exact ⟨fun m hm => h.two m (hs.subset hm), fun m hm => h.le m (hs.subset hm), Nat.le_trans hs.length_le h.len⟩

/-- A row is not the block of the result. -/
theorem PR.beside {k : IntKind} {w : World} {v : Value} {l : List Int} (h : PR k w v l) (hl : 0 < l.length) {b : Nat} {t : TypeId} (hb : w.heap[b]? = some (.cells #[.slice none 0 0, .slice none 0 0] t)) (x y : Value) : PR k ((w.setCell ⟨b, 0, none⟩ x).setCell ⟨b, 1, none⟩ y) v l := by
  have ho : Only (fun k => k = b) w ((w.setCell ⟨b, 0, none⟩ x).setCell ⟨b, 1, none⟩ y) := ((Only.refl (fun k => k = b) w).setCell (p := ⟨b, 0, none⟩) rfl x).setCell (p := ⟨b, 1, none⟩) rfl y
  obtain ⟨g, off, cap, h1, h2, h3, h4⟩ := h
  have hne : g ≠ b := by
    rintro rfl
    have h5 := h4 0 hl
    rw [cell_of_heap hb] at h5
    simp only [Nat.add_zero] at h5
    match off, h5 with
    | 0, h5 => simp at h5
    | 1, h5 => simp at h5
    | n + 2, h5 => simp at h5
  exact ⟨g, off, cap, h1, h2, Nat.lt_of_lt_of_le h3 ho.size, fun j hj => by rw [World.cell?_of_block (w := w) (a := ⟨g, off + j, none⟩) (ho.block g hne)]; exact h4 j hj⟩

set_option maxRecDepth 100000 in
set_option maxHeartbeats 4000000 in
theorem r04_Fraction (o : Hy.Ord) (he : Hy.ordErr o.m01 o.m12 o.m02 = 0) (w : World) : Calls Try.prog 33 #[ordersV o.m01 o.m12 o.m02] w fun e w' =>
    ∃ vn vd, e = .returned (.agg #[vn, vd]) ∧ PR .i64 w' vn (fracD (Hy.orders o)) ∧ PR .i64 w' vd (refDen (Hy.orders o)) ∧ Below w.heap.size w w' := by
  have hg := (good_some he 3 (by omega)).1
  rw [someOrd_all] at hg
  have HG := Lib.hid hg
  have HOR := Lib.hid (fun W => r04_orders o W)
  have HROW := Lib.hid (fun (k : Nat) (hk : k ≤ 1000) W => r04_row k hk W)
  have q0 := alloc_heap_new w (.cells #[.int .i64 o.m01, .int .i64 o.m12, .int .i64 o.m02] 23)
  have HQ0 := Lib.hid q0
  obtain ⟨ms, hms⟩ : ∃ ms, ms = Hy.orders o := ⟨_, rfl⟩
  rw [← hms] at HG HOR ⊢
  unfold ordersV NewI at *
  clear he hg q0 hms
  go_enter Try.func33, Try.ntmps33
  go_upto_region 1 with fail
  obtain ⟨W0, hW0⟩ : ∃ W0, W0 = (w.alloc (.cells #[.int .i64 o.m01, .int .i64 o.m12, .int .i64 o.m02] 23)).alloc (.cells #[.slice none 0 0, .slice none 0 0] 76) := ⟨_, rfl⟩
  have hb0 : Below w.heap.size w W0 := by rw [hW0]; exact ((Below.refl _ _).alloc (Nat.le_refl _) _).alloc (by simp) _
  have hq1 : W0.heap[w.heap.size]? = some (.cells #[.int .i64 o.m01, .int .i64 o.m12, .int .i64 o.m02] 23) := by
    rw [hW0]
    exact (Below.heap_alloc _ _ _ (by simp)).trans HQ0.out
  have hq2 : W0.heap[w.heap.size + 1]? = some (.cells #[.slice none 0 0, .slice none 0 0] 76) := by
    have := alloc_heap_new (w.alloc (.cells #[.int .i64 o.m01, .int .i64 o.m12, .int .i64 o.m02] 23)) (.cells #[.slice none 0 0, .slice none 0 0] 76)
    rw [hW0]
    simpa using this
  rw [← hW0]
  have HB0 := Lib.hid hb0
  have HQ2 := Lib.hid hq2
  have k0 := cell_of_heap hq1 0
  have k1 := cell_of_heap hq1 1
  have k2 := cell_of_heap hq1 2
  simp at k0 k1 k2
  have hl0 : w.heap.size + 1 < W0.heap.size := (Array.getElem?_eq_some_iff.1 hq2).1
  have HL0 := Lib.hid hl0
  clear hW0 hb0 hq1 hq2 HQ0 hl0
  go_wp2_with fail
  refine (HOR.out _).mono ?_
  rintro e w1 ⟨g1, v1, rfl, hq1, hg1, hB1⟩
  have HOQ := Lib.hid hq1
  have HB1 := Lib.hid (HB0.out.trans (hB1.mono HB0.out.size))
  have HR1 := Lib.hid ((hB1.block _ HL0.out).trans HQ2.out)
  obtain ⟨off, cap, rfl, hcell, -⟩ := hq1.open
  have hgl := hq1.lt
  obtain ⟨L, hL⟩ : ∃ L, L = (ints ms).length := ⟨_, rfl⟩
  rw [← hL]
  have HL := Lib.hid (show L = ms.length from by rw [hL]; simp [ints])
  have HC := Lib.hid (show ∀ k (hk : k < ms.length), w1.cell? ⟨g1, off + k, none⟩ = some (.int .i64 ((ms[k] : Nat) : Int)) from fun k hk => by
    have := hcell k (by simp [ints, hk])
    rw [this]
    simp [ints, List.getD, List.getElem?_map, List.getElem?_eq_getElem hk])
  have HGL := Lib.hid hgl
  have HW1 := Lib.hid (show w.heap.size + 1 < w1.heap.size from Nat.lt_of_lt_of_le HL0.out hB1.size)
  have H0 := Lib.hid (show PR .i64 (w1.alloc (.cells #[.int .i64 1] 3)) (.slice (some ⟨w1.heap.size, 0, none⟩) 1 1) (prodAll (ms.take 0)) from (IQ.of_block (k := .i64) (l := [1]) (t := 3) (alloc_heap_new w1 _) 1 rfl (by decide)).pr)
  have H0b := Lib.hid ((Below.refl _ w1).alloc (Nat.le_refl _) (.cells #[.int .i64 1] 3))
  clear hq1 hg1 hB1 hcell hgl hL k0 k1 k2 HOR HOQ HB0 HQ2 HL0
  go_wp2_with fail
  generalize w1.alloc (.cells #[.int .i64 1] 3) = w2 at *
  go_loopw [4, 5] (fun v iv wr => ∃ k : Nat, iv = .int .i64 k ∧ k ≤ ms.length ∧ Hid (PR .i64 wr v (prodAll (ms.take k))) ∧ Hid (Below w1.heap.size w1 wr)) (fun _ iv _ => ms.length - (intOf iv).toNat)
  case atStart => exact ⟨0, rfl, Nat.zero_le _, H0, H0b⟩
  case round =>
    clear H0 H0b
    obtain ⟨k, rfl, hk, HP, HB⟩ := hrel
    have hms3 := HG.out.len
    by_cases hlt : k < ms.length
    · have hki : (k : Int) < (L : Int) := by have := HL.out; omega
      have c1 := (HB.out.cell (p := ⟨g1, off + k, none⟩) HGL.out).trans (HC.out k hlt)
      have hm2 := HG.out.two _ (List.getElem_mem hlt)
      have hm12 := HG.out.le _ (List.getElem_mem hlt)
      have hsucc := prod_succ ms hlt
      obtain ⟨m, hm⟩ : ∃ m, m = ms[k] := ⟨_, rfl⟩
      rw [← hm] at c1 hm2 hm12 hsucc
      have HSU := Lib.hid hsucc
      have HR := Lib.hid (HROW.out m (by omega) wr)
      have HGT := Lib.hid (HG.out.take k).prod
      have HM := Lib.hid (And.intro hm2 hm12)
      have HKL := Lib.hid hlt
      clear hm hsucc hm2 hm12
      go_wp2_with fail
      refine HR.out.mono ?_
      rintro e w3 ⟨g3, v3, rfl, hq3, hg3, hB3⟩
      have HT := Lib.hid (r04_Times (HP.out.later hB3) hq3.pr (by have := HGT.out; omega) (by simp [ones]; have := HM.out; omega) HGT.out.1 (by simp [ones]; have := HM.out; omega))
      unfold NewI at HT
      have HB3 := Lib.hid (HB.out.trans (hB3.mono HB.out.size))
      clear hq3 hg3 hB3 HR
      go_wp2_with fail
      refine HT.out.mono ?_
      rintro e w4 ⟨g4, v4, rfl, hq4, hg4, hB4⟩
      have HN := Lib.hid (show PR .i64 w4 v4 (prodAll (ms.take (k + 1))) from by rw [HSU.out]; exact hq4.pr)
      have HB4 := Lib.hid (HB3.out.trans (hB4.mono HB3.out.size))
      clear hq4 hg4 hB4
      go_wp2_with fail
      go_roundw
      case rel => exact ⟨k + 1, by go_num, HKL.out, HN, HB4⟩
      case measure => have := HKL.out; simp [intOf]; omega
    · obtain rfl : k = ms.length := by omega
      rw [List.take_of_length_le (Nat.le_refl _)] at HP
      have hpr := HG.out.prod
      have hfd := HG.out.fracD
      have HPR := Lib.hid (And.intro hpr hfd)
      have hki : ¬ ((ms.length : Nat) : Int) < (L : Int) := by have := HL.out; omega
      have H11 := Lib.hid (show PR .i64 (wr.alloc (.cells #[.int .i64 1, .int .i64 1] 3)) (.slice (some ⟨wr.heap.size, 0, none⟩) 2 2) [1, 1] from (IQ.of_block (k := .i64) (l := [1, 1]) (t := 3) (alloc_heap_new wr _) 2 rfl (by decide)).pr)
      have hBa := (Below.refl _ wr).alloc (Nat.le_refl _) (.cells #[.int .i64 1, .int .i64 1] 3)
      have HT := Lib.hid (r04_Times (HP.out.later hBa) H11.out (by omega) (by simp) hpr.1 (by simp))
      unfold NewI at HT
      have HBA := Lib.hid hBa
      clear hBa hpr hfd hlt hk
      go_wp2_with fail
      refine HT.out.mono ?_
      rintro e w3 ⟨g3, v3, rfl, hq3, hg3, hB3⟩
      have HB3 := Lib.hid (HBA.out.trans (hB3.mono HBA.out.size))
      have HD := Lib.hid (show PR .i64 w3 v3 (fracD ms) from hq3.pr)
      have HP3 := Lib.hid (HP.out.later HB3.out)
      have HS := Lib.hid (r04_plus HD.out HP3.out (by have := HPR.out; omega) (by have := HPR.out; omega) HySer.AllOk.times (-3))
      unfold NewI at HS
      clear hq3 hg3 hB3 HT H11 HBA HP
      go_wp2_with fail
      refine HS.out.mono ?_
      rintro e w4 ⟨g4, v4, rfl, hq4, hg4, hB4⟩
      have HN0 := Lib.hid (show PR .i64 w4 v4 (refGo ms 0) from hq4.pr)
      have HD4 := Lib.hid (HD.out.later hB4)
      have HB4 := Lib.hid (HB.out.trans ((HB3.out.trans (hB4.mono HB3.out.size)).mono HB.out.size))
      have HC4 := Lib.hid (show ∀ k (hk : k < ms.length), w4.cell? ⟨g1, off + k, none⟩ = some (.int .i64 ((ms[k] : Nat) : Int)) from fun k hk => (HB4.out.cell (p := ⟨g1, off + k, none⟩) HGL.out).trans (HC.out k hk))
      have HGL4 := Lib.hid (show g1 < w4.heap.size from Nat.lt_of_lt_of_le HGL.out HB4.out.size)
      clear hq4 hg4 hB4 HS HP3 HD HB3 HB HC
      go_wp2_with fail
      go_loopw [7, 8] (fun v iv wr => ∃ i : Nat, iv = .int .i64 i ∧ i ≤ ms.length ∧ Hid (PR .i64 wr v (refGo ms i)) ∧ Hid (Below w4.heap.size w4 wr)) (fun _ iv _ => ms.length - (intOf iv).toNat)
      case atStart => exact ⟨0, rfl, Nat.zero_le _, HN0, Lib.hid (Below.refl _ _)⟩
      case round =>
        clear HN0
        obtain ⟨i, rfl, hi, HN, HW⟩ := hrel
        have hms3 := HG.out.len
        by_cases hil : i < ms.length
        · have hii : (i : Int) < (L : Int) := by have := HL.out; omega
          have HIL := Lib.hid hil
          have H0 := Lib.hid (show PR .i64 (wr.alloc (.cells #[.int .i64 1] 3)) (.slice (some ⟨wr.heap.size, 0, none⟩) 1 1) (prodAll (restGo ms i 0)) from (IQ.of_block (k := .i64) (l := [1]) (t := 3) (alloc_heap_new wr _) 1 rfl (by decide)).pr)
          have hb := (Below.refl _ wr).alloc (Nat.le_refl _) (.cells #[.int .i64 1] 3)
          have HN1 := Lib.hid (HN.out.later hb)
          have HWB := Lib.hid (HW.out.trans (hb.mono HW.out.size))
          clear hb HN HW
          go_wp2_with fail
          generalize wr.alloc (.cells #[.int .i64 1] 3) = w5 at *
          go_loopw [9, 10] (fun v kv wq => ∃ k : Nat, kv = .int .i64 k ∧ k ≤ ms.length ∧ Hid (PR .i64 wq v (prodAll (restGo ms i k))) ∧ Hid (Below w5.heap.size w5 wq)) (fun _ kv _ => ms.length - (intOf kv).toNat)
          case atStart => exact ⟨0, rfl, Nat.zero_le _, H0, Lib.hid (Below.refl _ _)⟩
          case round =>
            clear H0
            obtain ⟨k, rfl, hk, HP, HB⟩ := hrel
            by_cases hlt : k < ms.length
            · have hki : (k : Int) < (L : Int) := by have := HL.out; omega
              have HKL := Lib.hid hlt
              by_cases hne : k = i
              · subst hne
                have HP2 := Lib.hid (show PR .i64 wr u9 (prodAll (restGo ms k (k + 1))) from by rw [restGo_same hlt]; exact HP.out)
                clear HP
                go_wp2_with fail
                go_roundw
                case rel => exact ⟨k + 1, by go_num, HKL.out, HP2, HB⟩
                case measure => have := HKL.out; simp [intOf]; omega
              · have hnei : ¬ (k : Int) = (i : Int) := by omega
                obtain ⟨m, hm⟩ : ∃ m, m = ms[k]'hlt := ⟨_, rfl⟩
                have c1 : wr.cell? ⟨g1, off + k, none⟩ = some (.int .i64 (m : Int)) := by
                  rw [hm]
                  exact ((HWB.out.trans (HB.out.mono HWB.out.size)).cell (p := ⟨g1, off + k, none⟩) HGL4.out).trans (HC4.out k hlt)
                have hm2 : 2 ≤ m := by rw [hm]; exact HG.out.two _ (List.getElem_mem hlt)
                have hm12 : m ≤ 12 := by rw [hm]; exact HG.out.le _ (List.getElem_mem hlt)
                have hsucc : prodAll (restGo ms i (k + 1)) = ptimes (prodAll (restGo ms i k)) (ones m) := by rw [hm, restGo_succ hlt hne]; exact HySer.prod_snoc _ _
                have HSU := Lib.hid hsucc
                have HR := Lib.hid (HROW.out m (by omega) wr)
                have HGT := Lib.hid (restGo_good HG.out i k).prod
                have HM := Lib.hid (And.intro hm2 hm12)
                clear hm hsucc hm2 hm12 hne
                go_wp2_with fail
                refine HR.out.mono ?_
                rintro e w6 ⟨g6, v6, rfl, hq6, hg6, hB6⟩
                have HT := Lib.hid (r04_Times (HP.out.later hB6) hq6.pr (by have := HGT.out; omega) (by simp [ones]; have := HM.out; omega) HGT.out.1 (by simp [ones]; have := HM.out; omega))
                unfold NewI at HT
                have HB6 := Lib.hid (HB.out.trans (hB6.mono HB.out.size))
                clear hq6 hg6 hB6 HR
                go_wp2_with fail
                refine HT.out.mono ?_
                rintro e w7 ⟨g7, v7, rfl, hq7, hg7, hB7⟩
                have HN7 := Lib.hid (show PR .i64 w7 v7 (prodAll (restGo ms i (k + 1))) from by rw [HSU.out]; exact hq7.pr)
                have HB7 := Lib.hid (HB6.out.trans (hB7.mono HB6.out.size))
                clear hq7 hg7 hB7
                go_wp2_with fail
                go_roundw
                case rel => exact ⟨k + 1, by go_num, HKL.out, HN7, HB7⟩
                case measure => have := HKL.out; simp [intOf]; omega
            · obtain rfl : k = ms.length := by omega
              have hki : ¬ ((ms.length : Nat) : Int) < (L : Int) := by have := HL.out; omega
              rw [restGo_all] at HP
              have HS := Lib.hid (r04_plus (HN1.out.later HB.out) HP.out (by have := (refGo_len HG.out i hi).1; have := HPR.out; omega) (by have := (refGo_len HG.out i hi).1; have := rest_len HG.out.two HIL.out; omega) (refGo_len HG.out i hi).2 1)
              rw [← refGo_succ] at HS
              unfold NewI at HS
              clear hlt hk
              go_wp2_with fail
              refine HS.out.mono ?_
              rintro e w8 ⟨g8, v8, rfl, hq8, hg8, hB8⟩
              have HN8 := Lib.hid hq8.pr
              have HB8 := Lib.hid (HWB.out.trans ((HB.out.trans (hB8.mono HB.out.size)).mono HWB.out.size))
              clear hq8 hg8 hB8
              go_wp2_with fail
              go_roundw
              case rel => exact ⟨i + 1, by go_num, HIL.out, HN8, HB8⟩
              case measure => have := HIL.out; simp [intOf]; omega
        · obtain rfl : i = ms.length := by omega
          have hii : ¬ ((ms.length : Nat) : Int) < (L : Int) := by have := HL.out; omega
          obtain ⟨hl1, -⟩ := refGo_len HG.out ms.length (Nat.le_refl _)
          rw [refGo_all] at HN hl1
          obtain ⟨A, hA⟩ : ∃ A, A = HySer.refA ms := ⟨_, rfl⟩
          rw [← hA] at HN hl1
          have HA := Lib.hid hA
          obtain ⟨gA, oA, cA, rfl, -, hgA, hcA⟩ := HN.out
          have HCA := Lib.hid hcA
          have HAL := Lib.hid (show 0 < A.length ∧ A.length ≤ 41 from by have := HPR.out; omega)
          have hal := HAL.out
          have H0 := Lib.hid (Own1.nil wr 3)
          obtain ⟨n, hn⟩ : ∃ n, n = A.length := ⟨_, rfl⟩
          have HNL := Lib.hid hn
          rw [← hn] at hal ⊢
          clear hA hl1 hcA hil hi hn HN
          go_wp2_with fail
          go_loopw [11, 12] (fun v iv wq => ∃ j g : Nat, iv = .int .i64 ((n : Int) - 1 - j) ∧ j ≤ n ∧ Hid (Own1 wr wq g v (A.reverse.take j))) (fun _ iv _ => (intOf iv + 1).toNat)
          case atStart => exact ⟨0, _, by simp, Nat.zero_le _, H0⟩
          case round =>
            clear H0
            obtain ⟨j, g, rfl, hj, HQ⟩ := hrel
            by_cases hlt : j < n
            · obtain ⟨q, hq⟩ : ∃ q, q = n - 1 - j := ⟨_, rfl⟩
              have hqi : (n : Int) - 1 - (j : Int) = (q : Int) := by omega
              have hqn : (q : Int) < (n : Int) := by omega
              have hqA : q < A.length := by rw [← HNL.out]; omega
              have c1 := (HQ.out.below.cell (p := ⟨gA, oA + q, none⟩) hgA).trans (HCA.out q hqA)
              obtain ⟨x, hx⟩ : ∃ x, x = A.getD q 0 := ⟨_, rfl⟩
              rw [← hx] at c1
              have HSU := Lib.hid (show A.reverse.take (j + 1) = A.reverse.take j ++ [x] from by
                have hjr : j < A.reverse.length := by rw [List.length_reverse, ← HNL.out]; exact hlt
                rw [List.take_succ_eq_append_getElem hjr, List.getElem_reverse, hx]
                have e : A.length - 1 - j = q := by rw [← HNL.out]; exact hq.symm
                simp only [e]
                simp [List.getD, List.getElem?_eq_getElem hqA])
              obtain ⟨l, hl⟩ : ∃ l, l = A.reverse.take j := ⟨_, rfl⟩
              rw [← hl] at HQ HSU
              have hll : l.length = j := by rw [hl, List.length_take, List.length_reverse, ← HNL.out]; omega
              obtain ⟨off9, cap9, rfl, -⟩ := HQ.out.q.open
              rw [hll] at HQ ⊢
              have HQR := Lib.hid (show QRow wr g 1 (.slice (some ⟨g, off9, none⟩) j cap9) j (nums .i64 l) from by have h := HQ.out.q; unfold IQ at h; rw [hll] at h; exact h)
              have HLL := Lib.hid hll
              rw [hqi]
              have HKQ := Lib.hid hqi
              clear hqi hx hl hll hqA hq
              go_wp2_with (at_builtin; refine wpList_queueSrc_grow1 rowInt rfl _ _ rfl (v := .slice (some ⟨g, off9, none⟩) j cap9) (xs := nums .i64 l) (n := j) rfl HQR.out 1 [.int .i64 x] 3 rfl rfl (fun u hu => by simp at hu; subst hu; rfl) ?c3 ?_)
              case c3 => omega
              intro v' w' g' h2 h3 h4
              have HN := Lib.hid (show Own1 _ w' g' v' (A.reverse.take (j + 1)) from by rw [HSU.out]; exact HQ.out.push (by rw [HLL.out]; exact h2) h3 h4)
              clear h2 h3 h4 HQ HQR
              go_wp2_with fail
              go_roundw
              case rel => exact ⟨j + 1, g', by have h := HKQ.out; (first | (go_num; done) | (congr 1; omega)), by omega, HN⟩
              case measure => (have := HKQ.out; simp [intOf]; try omega)
            · obtain rfl : j = n := by omega
              have HR := Lib.hid (show PR .i64 wr u11 A.reverse from by
                have h := HQ.out.q.pr
                rw [List.take_of_length_le (by rw [List.length_reverse, ← HNL.out]; exact Nat.le_refl _)] at h
                exact h)
              have HBQ := Lib.hid HQ.out.below
              have H1 := Lib.hid (show A.reverse.getD 0 0 ≠ 0 from by
                have h1 := (HySer.refA_len HG.out.two).2.2
                have h2 := (refGo_len HG.out ms.length (Nat.le_refl _)).1
                rw [refGo_all] at h2
                rw [← HG.out.fracD] at h2
                rw [← h2, ← HA.out] at h1
                have h3 := HAL.out.1
                intro h0
                have e : A.reverse.getD 0 0 = A.getD (A.length - 1) 0 := by
                  simp [List.getD, List.getElem?_reverse h3]
                rw [e] at h0
                unfold HySer.cf at h1
                rw [h0] at h1
                revert h1
                decide)
              clear HQ hlt hj
              have hneg : ¬ (0 : Int) ≤ (j : Int) - 1 - (j : Int) := by omega
              go_wp2_with fail
              have HRL := Lib.hid (show A.reverse.length = A.length from List.length_reverse)
              go_loopw [11] (fun v wq => ∃ (l : List Int) (f : Nat), Hid (Below wr.heap.size wr wq) ∧ Hid (PR .i64 wq v l) ∧ l.length ≤ f ∧ 0 < l.length ∧ l.length ≤ 41 ∧ Hid (l.getD 0 0 ≠ 0) ∧ Hid (HySer.trimGo f l = refDen ms)) (fun v _ => lenOf v)
              case atStart => exact ⟨A.reverse, A.reverse.length, Lib.hid (Below.refl _ _), HR, Nat.le_refl _, by rw [HRL.out]; exact HAL.out.1, by rw [HRL.out]; exact HAL.out.2, H1, Lib.hid (by rw [HA.out]; rfl)⟩
              case round =>
                obtain ⟨l, f, HBR, HP, hlf, hl0, hl41, HH, HT⟩ := hrel
                obtain ⟨g, off3, cap3, rfl, hcap3, hg3, hc3⟩ := HP.out
                obtain ⟨n3, hn3⟩ : ∃ n3, l.length = n3 + 1 := ⟨l.length - 1, by omega⟩
                have hni : (l.length : Int) - 1 = (n3 : Int) := by omega
                have c1 := hc3 n3 (by omega)
                have hnl : (n3 : Int) < (l.length : Int) := by omega
                have HN3 := Lib.hid hn3
                by_cases h2 : l.getD n3 0 = 0
                · have h1 : 1 < l.length := by
                    rcases Nat.eq_zero_or_pos n3 with h | h
                    · rw [h] at h2; exact absurd h2 HH.out
                    · omega
                  obtain ⟨f', rfl⟩ : ∃ f', f = f' + 1 := ⟨f - 1, by omega⟩
                  have ht := HT.out
                  rw [HySer.trimGo, if_pos ⟨h1, by rw [show l.length - 1 = n3 from by omega]; exact h2⟩] at ht
                  have HFR := Lib.hid (show PR .i64 _ (.slice (some ⟨g, off3, none⟩) n3 cap3) l.dropLast from by
                    have h := HP.out.front (by omega)
                    rw [show l.length - 1 = n3 from by omega] at h
                    exact h)
                  have HH2 := Lib.hid (show l.dropLast.getD 0 0 ≠ 0 from by
                    have e : l.dropLast.getD 0 0 = l.getD 0 0 := by
                      rw [List.getD_eq_getElem?_getD, List.getD_eq_getElem?_getD, List.getElem?_dropLast, if_pos (by omega)]
                    rw [e]; exact HH.out)
                  have HT2 := Lib.hid ht
                  rw [h2] at c1
                  have hnc : (n3 : Int) ≤ (cap3 : Int) := by omega
                  have hdl : l.dropLast.length = n3 := by rw [List.length_dropLast]; omega
                  have HDL := Lib.hid hdl
                  have h13 : 0 < n3 := by omega
                  clear hc3 ht h2 h1 HP HH HT hn3 hdl
                  go_wp2_with fail
                  go_roundw
                  case rel => exact ⟨l.dropLast, f', HBR, HFR, by have := HDL.out; have := HN3.out; omega, by have := HDL.out; omega, by have := HDL.out; have := HN3.out; omega, HH2, HT2⟩
                  case measure => have := HN3.out; simp [lenOf]; omega
                · have hfin : l = refDen ms := by
                    have ht := HT.out
                    cases f with
                    | zero => omega
                    | succ f =>
                      rw [HySer.trimGo, if_neg (by rw [show l.length - 1 = n3 from by omega]; exact fun h => h2 h.2)] at ht
                      exact ht
                  obtain ⟨y, hy⟩ : ∃ y, y = l.getD n3 0 := ⟨_, rfl⟩
                  rw [← hy] at c1 h2
                  have h2' : (y == 0) = false := by rw [beq_eq_false_iff_ne]; exact h2
                  have HFI := Lib.hid hfin
                  have HPF := Lib.hid HP.out
                  obtain ⟨gD, oD, cD, hv3, hcD, hgD, hcellD⟩ := HD4.out
                  obtain ⟨LD, hLD⟩ : ∃ LD, LD = (fracD ms).length := ⟨_, rfl⟩
                  rw [← hLD] at hv3
                  subst hv3
                  have HBA4 := Lib.hid (HW.out.trans ((HBQ.out.trans (HBR.out.mono HBQ.out.size)).mono HW.out.size))
                  have HBA1 := Lib.hid (HB4.out.trans (HBA4.out.mono HB4.out.size))
                  have hRb := (HBA1.out.block (w.heap.size + 1) HW1.out).trans HR1.out
                  have r0 := cell_of_heap hRb 0
                  have r1 := cell_of_heap hRb 1
                  have rf0 := free_of_heap hRb 0
                  have rf1 := free_of_heap hRb 1
                  simp only [List.getElem?_toArray, List.getElem?_cons_zero, List.getElem?_cons_succ] at r0 r1
                  have HRB := Lib.hid hRb
                  have HPD := Lib.hid (HD4.out.later HBA4.out)
                  have HLD := Lib.hid hLD
                  clear hc3 hfin hy h2 HH HT HP hcD hgD hcellD hLD hRb
                  go_wp2_with fail
                  have k1 := HPD.out.beside (by rw [HPR.out.2]; omega) HRB.out (.slice (some ⟨gD, oD, none⟩) LD cD) (.slice (some ⟨g, off3, none⟩) (n3 + 1) cap3)
                  have k2 := HPF.out.beside hl0 HRB.out (.slice (some ⟨gD, oD, none⟩) LD cD) (.slice (some ⟨g, off3, none⟩) (n3 + 1) cap3)
                  have hb1 : (wr.setCell ⟨w.heap.size + 1, 0, none⟩ (.slice (some ⟨gD, oD, none⟩) LD cD)).heap[w.heap.size + 1]? = some (.cells #[.slice (some ⟨gD, oD, none⟩) LD cD, .slice none 0 0] 76) := by rw [heap_setCell_same _ _ _ _ _ _ HRB.out]; rfl
                  have hb2 : ((wr.setCell ⟨w.heap.size + 1, 0, none⟩ (.slice (some ⟨gD, oD, none⟩) LD cD)).setCell ⟨w.heap.size + 1, 1, none⟩ (.slice (some ⟨g, off3, none⟩) (n3 + 1) cap3)).heap[w.heap.size + 1]? = some (.cells #[.slice (some ⟨gD, oD, none⟩) LD cD, .slice (some ⟨g, off3, none⟩) (n3 + 1) cap3] 76) := by rw [heap_setCell_same _ _ _ _ _ _ hb1]; rfl
                  have z0 := cell_of_heap hb2 0
                  have z1 := cell_of_heap hb2 1
                  have zf0 := free_of_heap hb2 0
                  have zf1 := free_of_heap hb2 1
                  have lz := (Array.getElem?_eq_some_iff.1 hb2).1
                  simp at z0 z1
                  refine bodyPost_ret (v := .agg #[.slice (some ⟨gD, oD, none⟩) LD cD, .slice (some ⟨g, off3, none⟩) (n3 + 1) cap3]) (by simp [results, Try.results33, go_sem, z0, z1, zf0, zf1, lz]) rfl ?_
                  refine ⟨_, _, rfl, ?_, ?_, ?_⟩
                  · exact k1
                  · rw [← HFI.out]
                    have h := k2
                    first | exact h | (rw [HN3.out] at h; exact h)
                  · exact ((HB1.out.trans (HBA1.out.mono HB1.out.size)).setCell (p := ⟨w.heap.size + 1, 0, none⟩) (Nat.le_succ _) _).setCell (p := ⟨w.heap.size + 1, 1, none⟩) (Nat.le_succ _) _
end Go.Proofs.Ytdckpjagmbdkgaa
