/- The specification of layer 4: the coefficients of the series. -/
import Derived.Test.YtdckpjagmbdkgaaS44
import Derived.Test.YtdckpjagmbdkgaaP7
namespace Go.Proofs.Ytdckpjagmbdkgaa
set_option linter.unusedSimpArgs false
set_option linter.unusedVariables false
open Go.RowKit
open HySer (addAt timesGo ptimes pplus ones prodAll fracD refDen coefs coefAt coefSub wrapU)

theorem rowU64 : RowType Try.prog 31 30 1 := rowType_of (z := .int .u64 0) Try.underlying31 (bytes := 8) (by kernel_rfl) rfl (by decide) (by decide)

theorem coefSub_zero (num den l : List Int) (k : Nat) : coefSub num den l k 0 = if k < num.length then wrapU (num.getD k 0) else 0 := rfl

set_option maxRecDepth 100000 in
set_option maxHeartbeats 4000000 in
theorem r04_Counts (o : Hy.Ord) (he : Hy.ordErr o.m01 o.m12 o.m02 = 0) (n : Nat) (hn : n ≤ 1000) (w : World) :
    Calls Try.prog 11 #[ordersV o.m01 o.m12 o.m02, .int .i64 n] w fun e w' => ∃ v, e = .returned v ∧ GQ w' v (nums .u64 (coefs (fracD (Hy.orders o)) (refDen (Hy.orders o)) (n + 1))) ∧ Below w.heap.size w w' := by
  have HFR := Lib.hid (fun W => r04_Fraction o he W)
  have hg := (good_some he 3 (by omega)).1
  rw [someOrd_all] at hg
  have hpr := hg.prod
  have hfd := hg.fracD
  have hrd : 0 < (refDen (Hy.orders o)).length ∧ (refDen (Hy.orders o)).length ≤ 41 := by
    have h1 := HySer.refA_len hg.two
    have h2 := HySer.trimGo_len (HySer.refA (Hy.orders o)).reverse.length (l := (HySer.refA (Hy.orders o)).reverse)
    rw [List.length_reverse, h1.1, hfd] at h2
    unfold HySer.refDen HySer.ptrim
    rw [List.length_reverse, h1.1, hfd]
    exact ⟨h2.2 (by omega), by omega⟩
  obtain ⟨N, hN⟩ : ∃ N, N = fracD (Hy.orders o) := ⟨_, rfl⟩
  obtain ⟨D, hD⟩ : ∃ D, D = refDen (Hy.orders o) := ⟨_, rfl⟩
  rw [← hN, ← hD] at HFR ⊢
  have HLN := Lib.hid (show 0 < N.length ∧ N.length ≤ 41 ∧ 0 < D.length ∧ D.length ≤ 41 from by rw [hN, hD, hfd]; omega)
  have q0 := alloc_heap_new w (.cells #[.int .i64 o.m01, .int .i64 o.m12, .int .i64 o.m02] 23)
  have HQ0 := Lib.hid q0
  have HB0 := Lib.hid ((Below.refl w.heap.size w).alloc (Nat.le_refl _) (.cells #[.int .i64 o.m01, .int .i64 o.m12, .int .i64 o.m02] 23))
  clear q0 he hg hpr hfd hrd hN hD
  unfold ordersV at *
  go_enter Try.func11, Try.ntmps11
  go_upto_region 1 with fail
  generalize w.alloc (.cells #[.int .i64 o.m01, .int .i64 o.m12, .int .i64 o.m02] 23) = W0 at *
  have k0 := cell_of_heap HQ0.out 0
  have k1 := cell_of_heap HQ0.out 1
  have k2 := cell_of_heap HQ0.out 2
  simp at k0 k1 k2
  go_wp2_with fail
  refine (HFR.out _).mono ?_
  rintro e w2 ⟨vn, vd, rfl, h1, h2, h3⟩
  have HB2 := Lib.hid (HB0.out.trans (h3.mono HB0.out.size))
  obtain ⟨gn, on, cn, rfl, hcapn, hgn, hcelln⟩ := h1
  obtain ⟨gd, od, cd, rfl, hcapd, hgd, hcelld⟩ := h2
  have HCN := Lib.hid (And.intro hgn hcelln)
  have HCD := Lib.hid (And.intro hgd hcelld)
  clear h3 hgn hcelln hgd hcelld hcapn hcapd k0 k1 k2
  go_upto_region 2 with fail
  obtain ⟨fb, hfb⟩ : ∃ fb, fb = w2.heap.size := ⟨_, rfl⟩
  obtain ⟨W3, hW3⟩ : ∃ W3, W3 = w2.alloc (.cells #[.slice (some ⟨gn, on, none⟩) N.length cn, .slice (some ⟨gd, od, none⟩) D.length cd] 76) := ⟨_, rfl⟩
  have hb3 : Below w2.heap.size w2 W3 := by rw [hW3]; exact (Below.refl _ _).alloc (Nat.le_refl _) _
  have hq3 : W3.heap[fb]? = some (.cells #[.slice (some ⟨gn, on, none⟩) N.length cn, .slice (some ⟨gd, od, none⟩) D.length cd] 76) := by rw [hW3, hfb]; exact World.alloc_heap_new w2 _
  rw [← hfb, ← hW3]
  have HQ3 := Lib.hid hq3
  have HB3 := Lib.hid (HB2.out.trans (hb3.mono HB2.out.size))
  have HCN3 := Lib.hid (show gn < W3.heap.size ∧ ∀ j, j < N.length → W3.cell? ⟨gn, on + j, none⟩ = some (.int .i64 (N.getD j 0)) from ⟨Nat.lt_of_lt_of_le HCN.out.1 hb3.size, fun j hj => (hb3.cell (p := ⟨gn, on + j, none⟩) HCN.out.1).trans (HCN.out.2 j hj)⟩)
  have HCD3 := Lib.hid (show gd < W3.heap.size ∧ ∀ j, j < D.length → W3.cell? ⟨gd, od + j, none⟩ = some (.int .i64 (D.getD j 0)) from ⟨Nat.lt_of_lt_of_le HCD.out.1 hb3.size, fun j hj => (hb3.cell (p := ⟨gd, od + j, none⟩) HCD.out.1).trans (HCD.out.2 j hj)⟩)
  have lfb : fb < W3.heap.size := (Array.getElem?_eq_some_iff.1 hq3).1
  clear hW3 hfb hb3 hq3 HCN HCD HB2
  obtain ⟨LN, hLN⟩ : ∃ LN, LN = N.length := ⟨_, rfl⟩
  obtain ⟨LD, hLD⟩ : ∃ LD, LD = D.length := ⟨_, rfl⟩
  rw [← hLN, ← hLD] at HQ3
  have HLL := Lib.hid (And.intro hLN hLD)
  clear hLN hLD
  go_upto_region 3 with fail
  have HE0 := Lib.hid (show GQ (W3.alloc (.cells #[] 30)) (.slice (some ⟨W3.heap.size, 0, none⟩) 0 0) (nums .u64 (coefs N D 0)) from .inr ⟨W3.heap.size, QRow.new W3 [] 0 1 30 rfl (by decide)⟩)
  have HE1 := Lib.hid ((Below.refl W3.heap.size W3).alloc (Nat.le_refl _) (.cells #[] 30))
  have HE2 := Lib.hid (show ∀ b, Value.ownBlock (.slice (some ⟨W3.heap.size, 0, none⟩) 0 0) = some b → W3.heap.size ≤ b from fun b hb => by simp [Value.ownBlock] at hb; omega)
  generalize W3.alloc (.cells #[] 30) = W4 at *
  go_wp2_with fail
  go_loopw [6, 7] (fun vo kv wr => ∃ (k : Nat), kv = .int .i64 k ∧ k ≤ n + 1 ∧ Hid (GQ wr vo (nums .u64 (coefs N D k))) ∧ Hid (∀ b, vo.ownBlock = some b → W3.heap.size ≤ b) ∧ Hid (Below W3.heap.size W3 wr)) (fun _ kv _ => n + 1 - (intOf kv).toNat)
  case atStart => exact ⟨0, rfl, Nat.zero_le _, HE0, HE2, HE1⟩
  case round =>
    clear HE0 HE1 HE2
    obtain ⟨k, rfl, hk, HG, HW, HB⟩ := hrel
    by_cases hlt : k ≤ n
    · have hki : (k : Int) ≤ (n : Int) := by omega
      have f0 := (HB.out.cell (p := ⟨fb, 0, none⟩) lfb).trans (cell_of_heap HQ3.out 0)
      have f1 := (HB.out.cell (p := ⟨fb, 1, none⟩) lfb).trans (cell_of_heap HQ3.out 1)
      simp only [List.getElem?_toArray, List.getElem?_cons_zero, List.getElem?_cons_succ] at f0 f1
      have HF1 := Lib.hid f1
      obtain ⟨bb, hbb⟩ : ∃ bb, bb = decide (k < LN) := ⟨_, rfl⟩
      have HBBB := Lib.hid hbb
      have hbb2 : decide (k < LN) = bb := hbb.symm
      clear hbb
      go_upto_if 22 with fail
      go_cut [8] (fun s wx => s = .int .u64 (coefSub N D (coefs N D k) k 0) ∧ wr = wx)
      case first =>
        have hbb := HBBB.out
        by_cases hkn : k < LN
        · have hkni : (k : Int) < (LN : Int) := by omega
          have c1 := (HB.out.cell (p := ⟨gn, on + k, none⟩) HCN3.out.1).trans (HCN3.out.2 k (by have := HLL.out.1; omega))
          have HZ := Lib.hid (show coefSub N D (coefs N D k) k 0 = IntKind.u64.wrap (N.getD k 0) from by rw [coefSub_zero, if_pos (by have := HLL.out.1; omega), wrapU_is])
          generalize N.getD k 0 = x at c1 HZ
          rw [decide_eq_true hkn] at hbb
          subst hbb
          clear HBBB
          go_wp2_with fail
          go_meet
          exact ⟨by rw [HZ.out], rfl⟩
        · have hkni : ¬ (k : Int) < (LN : Int) := by omega
          have HZ := Lib.hid (show coefSub N D (coefs N D k) k 0 = 0 from by rw [coefSub_zero, if_neg (by have := HLL.out.1; omega)])
          rw [decide_eq_false hkn] at hbb
          subst hbb
          clear HBBB
          go_wp2_with fail
          go_meet
          exact ⟨by rw [HZ.out], rfl⟩
      case rest =>
        obtain ⟨rfl, rfl⟩ := hcut
        clear HBBB hbb2
        have HKN := Lib.hid hlt
        go_wp2_with fail
        go_loopw [8, 9] (fun sv iv wx => ∃ i : Nat, sv = .int .u64 (coefSub N D (coefs N D k) k i) ∧ iv = .int .i64 ((i + 1 : Nat) : Int) ∧ i ≤ min (D.length - 1) k ∧ Hid (Below wr.heap.size wr wx)) (fun _ iv _ => k + 1 - (intOf iv).toNat)
        case atStart => exact ⟨0, rfl, rfl, Nat.zero_le _, Lib.hid (Below.refl _ _)⟩
        case round =>
          obtain ⟨i, rfl, rfl, hi, HX⟩ := hrel
          have hi1 := Nat.le_min.1 hi
          obtain ⟨hid1, hik⟩ := hi1
          obtain ⟨i1, hi1⟩ : ∃ i1, i1 = i + 1 := ⟨_, rfl⟩
          have HI1 := Lib.hid hi1
          have HBX := Lib.hid (HB.out.trans (HX.out.mono HB.out.size))
          have f1 := (HX.out.cell (p := ⟨fb, 1, none⟩) (Nat.lt_of_lt_of_le lfb HB.out.size)).trans HF1.out
          rw [← hi1]
          have hLD := HLL.out.2
          by_cases g2 : i1 ≤ k
          · have g2i : (i1 : Int) ≤ (k : Int) := by omega
            by_cases g1 : i1 < LD
            · have g1i : (i1 : Int) < (LD : Int) := by omega
              obtain ⟨m, hm⟩ : ∃ m, m = k - i1 := ⟨_, rfl⟩
              have hmi : (k : Int) - (i1 : Int) = (m : Int) := by omega
              have hmk : m < k := by omega
              have hmki : (m : Int) < (k : Int) := by omega
              have c1 := (HBX.out.cell (p := ⟨gd, od + i1, none⟩) HCD3.out.1).trans (HCD3.out.2 i1 (by omega))
              obtain ⟨a0, c0, hv0, hat⟩ := (HG.out.later HX.out).open
              have hL0 : (nums .u64 (coefs N D k)).length = k := by simp [nums, HySer.length_coefs]
              rw [hL0] at hv0
              subst hv0
              obtain ⟨g0, o0, rfl, d2⟩ := hat m (.int .u64 ((coefs N D k).getD m 0)) (by simp [nums, List.getD, HySer.length_coefs, List.getElem?_eq_getElem, hmk])
              have hs := Lib.hid (show coefSub N D (coefs N D k) k i1 = IntKind.u64.wrap (coefSub N D (coefs N D k) k i - IntKind.u64.wrap (IntKind.u64.wrap (D.getD i1 0) * (coefs N D k).getD m 0)) from by simp only [wrapU_is]; rw [hi1, hm, hi1]; rfl)
              generalize D.getD i1 0 = x at c1 hs
              generalize coefSub N D (coefs N D k) k i = y at hs ⊢
              generalize (coefs N D k).getD m 0 = z at d2 hs
              clear hm hi1 hat hL0 hLD
              go_wp2_with fail
              go_region
              all_goals go_wp2_with fail
              all_goals go_roundw
              case rel => exact ⟨i1, by rw [hs.out], by go_num, by have := HI1.out; have := HLL.out.2; omega, Lib.hid HX.out.drew⟩
              case measure => simp [intOf]; omega
            · have g1i : ¬ (i1 : Int) < (LD : Int) := by omega
              have HX1 := Lib.hid (show coefs N D (k + 1) = coefs N D k ++ [coefSub N D (coefs N D k) k i] from by
                have : i = min (D.length - 1) k := by have := HI1.out; have := HLL.out.2; omega
                rw [coefs, this]; rfl)
              have HGQ := Lib.hid (HG.out.later HX.out)
              obtain ⟨y, hy⟩ : ∃ y, y = coefSub N D (coefs N D k) k i := ⟨_, rfl⟩
              rw [← hy] at HX1 ⊢
              have HXL := Lib.hid (show (nums .u64 (coefs N D k)).length ≤ 900000000 from by have := HKN.out; simp [nums, HySer.length_coefs]; omega)
              clear hi1 hLD hy HG
              obtain ⟨a0, c0, hv0, _⟩ := HGQ.out.open
              generalize hL0 : (nums .u64 (coefs N D k)).length = L0 at hv0
              subst hv0
              go_wp2_with (at_builtin; refine wpList_gq1 wr rowU64 rfl _ _ rfl (v := .slice a0 L0 c0) (xs := nums .u64 (coefs N D k)) rfl HGQ.out _ (.int .u64 y) rfl rfl HXL.out ?_)
              intro vo' w4 hq4 ho4 hv4
              have HG4 := Lib.hid (show GQ w4 vo' (nums .u64 (coefs N D (k + 1))) from by
                rw [HX1.out]
                simp only [nums, List.map_append] at hq4 ⊢
                exact hq4)
              have HW4 := Lib.hid (show ∀ b, vo'.ownBlock = some b → W3.heap.size ≤ b from fun b hb => by
                rcases hv4 b hb with h | h
                · exact HW.out b h
                · have := HBX.out.size; omega)
              have HB4 := Lib.hid (HBX.out.trans (ho4.below (fun k hk => by
                rcases hk with hk | hk
                · exact HW.out k hk
                · have := HBX.out.size; omega)))
              clear hq4 ho4 hv4 HGQ HXL HW
              go_wp2_with fail
              go_roundw
              case rel => exact ⟨k + 1, by go_num, by omega, HG4, HW4, HB4⟩
              case measure => simp [intOf]; omega
          · have g2i : ¬ (i1 : Int) ≤ (k : Int) := by omega
            have HX1 := Lib.hid (show coefs N D (k + 1) = coefs N D k ++ [coefSub N D (coefs N D k) k i] from by
              have : i = min (D.length - 1) k := by have := HI1.out; have := HLL.out.2; omega
              rw [coefs, this]; rfl)
            have HGQ := Lib.hid (HG.out.later HX.out)
            obtain ⟨y, hy⟩ : ∃ y, y = coefSub N D (coefs N D k) k i := ⟨_, rfl⟩
            rw [← hy] at HX1 ⊢
            have HXL := Lib.hid (show (nums .u64 (coefs N D k)).length ≤ 900000000 from by have := HKN.out; simp [nums, HySer.length_coefs]; omega)
            clear hi1 hLD hy HG
            obtain ⟨a0, c0, hv0, _⟩ := HGQ.out.open
            generalize hL0 : (nums .u64 (coefs N D k)).length = L0 at hv0
            subst hv0
            go_wp2_with (at_builtin; refine wpList_gq1 wr rowU64 rfl _ _ rfl (v := .slice a0 L0 c0) (xs := nums .u64 (coefs N D k)) rfl HGQ.out _ (.int .u64 y) rfl rfl HXL.out ?_)
            intro vo' w4 hq4 ho4 hv4
            have HG4 := Lib.hid (show GQ w4 vo' (nums .u64 (coefs N D (k + 1))) from by
              rw [HX1.out]
              simp only [nums, List.map_append] at hq4 ⊢
              exact hq4)
            have HW4 := Lib.hid (show ∀ b, vo'.ownBlock = some b → W3.heap.size ≤ b from fun b hb => by
              rcases hv4 b hb with h | h
              · exact HW.out b h
              · have := HBX.out.size; omega)
            have HB4 := Lib.hid (HBX.out.trans (ho4.below (fun k hk => by
              rcases hk with hk | hk
              · exact HW.out k hk
              · have := HBX.out.size; omega)))
            clear hq4 ho4 hv4 HGQ HXL HW
            go_wp2_with fail
            go_roundw
            case rel => exact ⟨k + 1, by go_num, by omega, HG4, HW4, HB4⟩
            case measure => simp [intOf]; omega
    · obtain rfl : k = n + 1 := by omega
      have hki : ¬ ((n + 1 : Nat) : Int) ≤ (n : Int) := by omega
      go_wp2_with fail
      go_returns
      exact ⟨_, rfl, HG.out, HB3.out.trans (HB.out.mono HB3.out.size)⟩
end Go.Proofs.Ytdckpjagmbdkgaa
