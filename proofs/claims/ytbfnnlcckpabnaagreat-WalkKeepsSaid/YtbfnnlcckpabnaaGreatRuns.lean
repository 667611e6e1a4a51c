/- The law WalkRuns. -/
import Derived.Test.YtbfnnlcckpabnaaGreatFl1
import Derived.Test.YtbfnnlcckpabnaaGreatSane
import Derived.Test.YtbfnnlcckpabnaaGreatR1
namespace Go.Proofs.YtbfnnlcckpabnaaGreat
set_option linter.unusedSimpArgs false
set_option linter.unusedVariables false
open Go.RowKit
open Hy (Lets IsNF Eqv Le)

/-- A call as the law is handed it. -/
structure OpD where
  kind : Int
  m : Int
  is : Bool
  u : List UInt8
  v : List UInt8
  t : List UInt8

/-- A slice of calls in old memory. -/
def OpsAt (w : World) (v : Value) (L : List OpD) : Prop :=
  ∃ (base : Option Addr) (cap : Nat), v = .slice base L.length cap ∧ (∀ p ∈ L, p.u.length ≤ 9223372036854775807 ∧ p.v.length ≤ 9223372036854775807 ∧ p.t.length ≤ 9223372036854775807) ∧
    ∀ (k : Nat) (hk : k < L.length), ∃ g off, base = some ⟨g, off, none⟩ ∧ g < w.heap.size ∧ w.cell? ⟨g, off + k * 6, none⟩ = some (.int .i64 L[k].kind) ∧ w.cell? ⟨g, off + k * 6 + 1, none⟩ = some (.int .i64 L[k].m) ∧ w.cell? ⟨g, off + k * 6 + 2, none⟩ = some (.bool L[k].is) ∧
      w.cell? ⟨g, off + k * 6 + 3, none⟩ = some (str L[k].u) ∧ w.cell? ⟨g, off + k * 6 + 4, none⟩ = some (str L[k].v) ∧ w.cell? ⟨g, off + k * 6 + 5, none⟩ = some (str L[k].t)

theorem OpsAt.grow {w w' : World} {v : Value} {L : List OpD} (h : OpsAt w v L) (hb : Below w.heap.size w w') : OpsAt w' v L := by
  obtain ⟨base, cap, rfl, h2, h3⟩ := h
  refine ⟨base, cap, rfl, h2, fun k hk => ?_⟩
  obtain ⟨g, off, h4, h5, c0, c1, c2, c3, c4, c5⟩ := h3 k hk
  have hc := (bcell hb).1
  exact ⟨g, off, h4, Nat.lt_of_lt_of_le h5 hb.size, (hc _ _ h5).trans c0, (hc _ _ h5).trans c1, (hc _ _ h5).trans c2, (hc _ _ h5).trans c3, (hc _ _ h5).trans c4, (hc _ _ h5).trans c5⟩

/-- .. while blocks of the maps change, which are no older. -/
theorem OpsAt.only {w w1 w' : World} {v : Value} {L : List OpD} (h : OpsAt w v L) {B : Nat → Prop} (ho : Only B w w') (hB : ∀ k, B k → w.heap.size ≤ k) : OpsAt w' v L := h.grow (ho.below hB)

theorem stand_below {w0 w1 w2 : World} {o : Hy.Ord} {mb wb tb mb7 : Nat} (h : Stand w1 o mb wb tb mb7 w2) (hb : Below w0.heap.size w0 w1) (h1 : w0.heap.size ≤ wb) (h2 : w0.heap.size ≤ tb) (h3 : w0.heap.size ≤ mb7) : Below w0.heap.size w0 w2 :=
  hb.trans (h.1.below (fun k hk => by
    have := hb.size
    rcases hk with (rfl | rfl | rfl) | hk
    · exact h1
    · exact h2
    · exact h3
    · omega))

set_option maxRecDepth 100000 in
set_option maxHeartbeats 8000000 in
theorem law_runs {w : World} (a b c walls things : Int) {v : Value} {L : List OpD} (h : OpsAt w v L) :
    Calls Tryz.prog 3 #[ordersV a b c, .int .i64 walls, .int .i64 things, v] w fun e w' => e = .returned (.bool true) ∧ Below w.heap.size w w' := by
  obtain ⟨base, cap, hv⟩ : ∃ base cap, v = .slice base L.length cap := by obtain ⟨x, y, h1, _⟩ := h; exact ⟨x, y, h1⟩
  have HO := Lib.hid h
  clear h
  subst hv
  unfold ordersV
  by_cases h1 : 30 < L.length
  · go_enter Tryz.func3, Tryz.ntmps3
    go_wp2_with fail
    go_ret
    exact ⟨rfl, (Below.refl _ _).alloc (Nat.le_refl _) _⟩
  by_cases h2 : 400 < walls
  · go_enter Tryz.func3, Tryz.ntmps3
    go_wp2_with fail
    go_ret
    exact ⟨rfl, (Below.refl _ _).alloc (Nat.le_refl _) _⟩
  by_cases h3 : 400 < things
  · go_enter Tryz.func3, Tryz.ntmps3
    go_wp2_with fail
    go_ret
    exact ⟨rfl, (Below.refl _ _).alloc (Nat.le_refl _) _⟩
  have HLONG := Lib.hid (fun W1 (p : OpD) (hp : p ∈ L) => law_long (w := W1) p.kind p.m p.is p.u p.v p.t (by obtain ⟨_, _, _, h4, _⟩ := HO.out; exact (h4 p hp).1) (by obtain ⟨_, _, _, h4, _⟩ := HO.out; exact (h4 p hp).2.1) (by obtain ⟨_, _, _, h4, _⟩ := HO.out; exact (h4 p hp).2.2))
  have HSANE := Lib.hid (fun W1 => sane7 W1)
  have HALL := Lib.hid (fun W1 => r03_Allowed a b c W1)
  unfold ordersV str at *
  go_enter Tryz.func3, Tryz.ntmps3
  go_upto_region 4 with fail
  obtain ⟨W0, hW0⟩ : ∃ W0, w.alloc (.cells #[.int .i64 a, .int .i64 b, .int .i64 c] 23) = W0 := ⟨_, rfl⟩
  have hb0 : Below w.heap.size w W0 := by rw [← hW0]; exact (Below.refl _ _).alloc (Nat.le_refl _) _
  have q1 : W0.heap[w.heap.size]? = some (.cells #[.int .i64 a, .int .i64 b, .int .i64 c] 23 (0, 0)) := by rw [← hW0]; exact alloc_heap_new w _
  have k0 := cell_of_heap q1 0
  have k1 := cell_of_heap q1 1
  have k2 := cell_of_heap q1 2
  simp at k0 k1 k2
  have hlt0 : w.heap.size < W0.heap.size := (Array.getElem?_eq_some_iff.1 q1).1
  have HO0 := Lib.hid (HO.out.grow hb0)
  have HB0 := Lib.hid hb0
  rw [hW0]
  clear hW0 hb0 q1
  go_loopw [9] (fun i wr => ∃ k : Nat, i = .int .i64 k ∧ k ≤ L.length ∧ Hid (∀ j (hj : j < L.length), j < k → L[j].u.length ≤ 200 ∧ L[j].v.length ≤ 200 ∧ L[j].t.length ≤ 200) ∧ Hid (Below W0.heap.size W0 wr)) (fun i _ => 30 - (intOf i).toNat)
  case atStart => exact ⟨0, rfl, Nat.zero_le _, Lib.hid (fun j _ hj => absurd hj (Nat.not_lt_zero _)), Lib.hid (Below.refl _ _)⟩
  case round =>
    obtain ⟨k, rfl, hk, HF, HI⟩ := hrel
    by_cases hlt : k < L.length
    · obtain ⟨base', cap', heq, _, hcells⟩ := HO0.out
      simp only [Value.slice.injEq, true_and] at heq
      obtain ⟨rfl, rfl⟩ := heq
      obtain ⟨g, off, rfl, hg, c0, c1, c2, c3, c4, c5⟩ := hcells k hlt
      have hc := (bcell HI.out).1
      have d0 := (hc _ _ hg).trans c0
      have d1 := (hc _ _ hg).trans c1
      have d2 := (hc _ _ hg).trans c2
      have d3 := (hc _ _ hg).trans c3
      have d4 := (hc _ _ hg).trans c4
      have d5 := (hc _ _ hg).trans c5
      have HLG := Lib.hid (fun W1 => HLONG.out W1 L[k] (List.getElem_mem hlt))
      have HFN := Lib.hid (fun (hn : ¬ (200 < L[k].u.length ∨ 200 < L[k].v.length ∨ 200 < L[k].t.length)) => (show ∀ j (hj : j < L.length), j < k + 1 → L[j].u.length ≤ 200 ∧ L[j].v.length ≤ 200 ∧ L[j].t.length ≤ 200 from fun j hj hjk => by
        by_cases hjj : j < k
        · exact HF.out j hj hjj
        · obtain rfl : j = k := by omega
          omega))
      generalize L[k] = p at *
      obtain ⟨pk, pm, pis, pu, pv, pt⟩ := p
      unfold str at *
      simp only at d0 d1 d2 d3 d4 d5
      clear c0 c1 c2 c3 c4 c5 hc hcells
      have hk30 : k < 30 := by omega
      have hint : (k : Int) < (L.length : Int) := by omega
      go_wp2_with fail
      refine (HLG.out _).mono ?_
      rintro e w1 ⟨rfl, hB1⟩
      have HB1 := Lib.hid (HI.out.trans (hB1.mono HI.out.size))
      clear hB1
      by_cases hlong : 200 < pu.length ∨ 200 < pv.length ∨ 200 < pt.length
      · have hd : decide (200 < pu.length ∨ 200 < pv.length ∨ 200 < pt.length) = true := decide_eq_true hlong
        rw [hd]
        clear hd hlong
        go_wp2_with fail
        go_ret
        exact ⟨rfl, HB0.out.trans (HB1.out.mono HB0.out.size)⟩
      · have hd : decide (200 < pu.length ∨ 200 < pv.length ∨ 200 < pt.length) = false := decide_eq_false hlong
        have HFN1 := Lib.hid (HFN.out hlong)
        rw [hd]
        clear hd hlong HFN
        go_wp2_with fail
        go_roundw
        case rel => exact ⟨k + 1, by go_num, by omega, HFN1, HB1⟩
        case measure => simp [intOf]; omega
    · obtain rfl : k = L.length := by omega
      have HF1 := Lib.hid (fun j (hj : j < L.length) => HF.out j hj hj)
      have e0 := ((bcell HI.out).1 _ _ hlt0).trans k0
      have e1 := ((bcell HI.out).1 _ _ hlt0).trans k1
      have e2 := ((bcell HI.out).1 _ _ hlt0).trans k2
      have HBr := Lib.hid (HB0.out.trans (HI.out.mono HB0.out.size))
      have hlr : w.heap.size < wr.heap.size := Nat.lt_of_lt_of_le hlt0 HI.out.size
      have HOr := Lib.hid (HO0.out.grow HI.out)
      clear HF HLONG k0 k1 k2 HB0 HI HO0 hlt hk HO
      by_cases ho : Hy.ordErr a b c = 0
      case neg =>
        have HNEW := Lib.hid (fun W1 => walk_New_bad a b c W1 ho)
        have g1 : (Hy.ordErr a b c != 0) = true := by rw [bne_iff_ne]; exact ho
        generalize Hy.ordErr a b c = er at *
        clear ho
        unfold ordersV at *
        go_wp2_with fail
        refine (HNEW.out _).mono ?_
        rintro e w1 ⟨rfl, hB1⟩
        have HB1 := Lib.hid (HBr.out.trans (hB1.mono HBr.out.size))
        have f0 := ((bcell hB1).1 _ _ hlr).trans e0
        have f1 := ((bcell hB1).1 _ _ hlr).trans e1
        have f2 := ((bcell hB1).1 _ _ hlr).trans e2
        clear hB1
        go_wp2_with fail
        refine (HALL.out _).mono ?_
        rintro e w2 ⟨rfl, hB2⟩
        have HB2 := Lib.hid (HB1.out.trans (hB2.mono HB1.out.size))
        clear hB2
        go_wp2_with fail
        refine (HSANE.out _).mono ?_
        rintro e w3 ⟨rfl, hB3⟩
        have HB3 := Lib.hid (HB2.out.trans (hB3.mono HB2.out.size))
        clear hB3
        go_wp2_with fail
        go_ret
        exact ⟨by simp, HB3.out⟩
      case pos =>
        obtain ⟨z1, z2, z3⟩ := Hy.ordErr_zero ho
        have F := Hy.fine_of ho
        have hS := small_of ho
        have HALL0 := Lib.hid (fun W1 => by have := HALL.out W1; rw [ho] at this; exact this)
        obtain ⟨o, hoo⟩ : ∃ o, o = Hy.toOrd a b c := ⟨_, rfl⟩
        have ha : a = (o.m01 : Int) := by rw [hoo]; exact (Int.toNat_of_nonneg z1.1).symm
        have hb : b = (o.m12 : Int) := by rw [hoo]; exact (Int.toNat_of_nonneg z2.1).symm
        have hc : c = (o.m02 : Int) := by rw [hoo]; exact (Int.toNat_of_nonneg z3.1).symm
        rw [← hoo] at F hS
        clear hoo z1 z2 z3 HALL
        subst ha hb hc
        have HNEW := Lib.hid (fun W1 => walk_New o hS W1 ho)
        unfold ordersV NewMapPost at *
        clear ho
        go_wp2_with fail
        refine (HNEW.out _).mono ?_
        rintro e w1 ⟨mb, wb, tb, rfl, hM1, hmb, hwb, htb, hB1⟩
        have HB1 := Lib.hid hB1
        have HM1 := Lib.hid hM1
        have f0 := ((bcell hB1).1 _ _ hlr).trans e0
        have f1 := ((bcell hB1).1 _ _ hlr).trans e1
        have f2 := ((bcell hB1).1 _ _ hlr).trans e2
        have hl1 := Nat.lt_of_lt_of_le hlr hB1.size
        clear hB1 hM1
        go_wp2_with fail
        refine (HALL0.out _).mono ?_
        rintro e w2 ⟨rfl, hB2⟩
        have HB2 := Lib.hid (HB1.out.trans (hB2.mono HB1.out.size))
        have HM2 := Lib.hid (HM1.out.grow hB2)
        have g0 := ((bcell hB2).1 _ _ hl1).trans f0
        have g1 := ((bcell hB2).1 _ _ hl1).trans f1
        have g2 := ((bcell hB2).1 _ _ hl1).trans f2
        clear hB2 HM1 HB1 f0 f1 f2
        go_upto_region 15 with fail
        have hnew := alloc_heap_new w2 (.cells #[.int .i64 o.m01, .int .i64 o.m12, .int .i64 o.m02, .slice none 0 0, .slice none 0 0] 38)
        have hB5 : Below w2.heap.size w2 (w2.alloc (.cells #[.int .i64 o.m01, .int .i64 o.m12, .int .i64 o.m02, .slice none 0 0, .slice none 0 0] 38)) := (Below.refl _ _).alloc (Nat.le_refl _) _
        have hM5 := HM2.out.grow hB5
        have hm7 : w2.heap.size ≥ wr.heap.size := HB2.out.size
        generalize w2.alloc (.cells #[.int .i64 o.m01, .int .i64 o.m12, .int .i64 o.m02, .slice none 0 0, .slice none 0 0] 38) = W5 at *
        have HB5 := Lib.hid (HB2.out.trans (hB5.mono HB2.out.size))
        have H5 := Lib.hid (show Stand W5 o mb wb tb w2.heap.size W5 from ⟨Only.refl _ _, [], [], [], [], hM5, ⟨_, _, hnew, ⟨none, 0, rfl, fun k hk => absurd hk (Nat.not_lt_zero _)⟩, ⟨none, 0, rfl, fun k hk => absurd hk (Nat.not_lt_zero _)⟩⟩, ⟨by simp, by simp, by simp⟩, ⟨by simp, by simp [SortedT]⟩, Few.nil⟩)
        have HBL := Lib.hid (fun W (hW : Stand W5 o mb wb tb w2.heap.size W) => stand_below hW HB5.out hwb htb hm7)
        have HFILL := Lib.hid (fun W (hW : Stand W5 o mb wb tb w2.heap.size W) => law_filled F hS hW walls things (by omega) (by omega))
        have HAG := Lib.hid (fun W1 (h : Stand W5 o mb wb tb w2.heap.size W1) kind m is u v t hu hv ht => h.agrees F hS kind m is u v t hu hv ht)
        have HS := Lib.hid hS
        generalize w2.heap.size = mb7 at *
        clear hB5 hM5 hnew HM2 g0 g1 g2 HNEW HALL0 F hS
        go_wp2_with fail
        refine (HFILL.out _ H5.out).mono ?_
        rintro e w6 ⟨rfl, hS6⟩
        have HS6 := Lib.hid hS6
        clear hS6
        go_upto_region 18 with fail
        go_loopw [14] (fun i wx => ∃ k : Nat, i = .int .i64 k ∧ k ≤ L.length ∧ Hid (Stand W5 o mb wb tb mb7 wx)) (fun i _ => 30 - (intOf i).toNat)
        case atStart => exact ⟨0, rfl, Nat.zero_le _, HS6⟩
        case round =>
          clear HS6
          rename_i wx _
          obtain ⟨k, rfl, hk, HI⟩ := hrel
          have HBx := Lib.hid (HBL.out _ HI.out)
          by_cases hlt : k < L.length
          · obtain ⟨base', cap', heq, _, hcells⟩ := HOr.out
            simp only [Value.slice.injEq, true_and] at heq
            obtain ⟨rfl, rfl⟩ := heq
            obtain ⟨g, off, rfl, hg, c0, c1, c2, c3, c4, c5⟩ := hcells k hlt
            have hc := (bcell HBx.out).1
            have d0 := (hc _ _ hg).trans c0
            have d1 := (hc _ _ hg).trans c1
            have d2 := (hc _ _ hg).trans c2
            have d3 := (hc _ _ hg).trans c3
            have d4 := (hc _ _ hg).trans c4
            have d5 := (hc _ _ hg).trans c5
            have HLN := Lib.hid (HF1.out k hlt)
            generalize L[k] = p at *
            obtain ⟨pk, pm, pis, pu, pv, pt⟩ := p
            unfold opV str at *
            simp only at d0 d1 d2 d3 d4 d5
            clear c0 c1 c2 c3 c4 c5 hc hcells
            have hk30 : k < 30 := by omega
            have hint : (k : Int) < (L.length : Int) := by omega
            go_wp2_with fail
            refine (HAG.out _ HI.out pk pm pis pu pv pt (by have := HLN.out; omega) (by have := HLN.out; omega) (by have := HLN.out; omega)).mono ?_
            rintro e w7 ⟨rfl, hS7⟩
            have HS7 := Lib.hid hS7
            clear hS7
            go_wp2_with fail
            go_roundw
            case rel => exact ⟨k + 1, by go_num, by omega, HS7⟩
            case measure => simp [intOf]; omega
          · obtain rfl : k = L.length := by omega
            clear HFILL HAG HF1 HOr
            go_upto_region 22 with fail
            go_wp2_with fail
            refine (HSANE.out _).mono ?_
            rintro e w8 ⟨rfl, hB8⟩
            have H8 := Lib.hid (HI.out.below hB8)
            clear hB8
            go_wp2_with fail
            obtain ⟨W, T, WL, TL, hB⟩ := H8.out.2
            have HIW := Lib.hid (hB.image HS.out)
            have HI7 := Lib.hid (fun W1 (hb : Below w8.heap.size w8 W1) => (hB.below hb).image7 HS.out)
            have HEQ := Lib.hid (fun W1 (v1 v2 : Value) (h1 : BSlice W1.heap.size W1 v1 (imageOf o WL TL)) (h2 : BSlice W1.heap.size W1 v2 (imageOf o WL TL)) => law_equal h1 h2)
            generalize imageOf o WL TL = im at *
            clear hB
            refine HIW.out.mono ?_
            rintro e w9 ⟨v1, g1, rfl, hI1⟩
            have HB9 := Lib.hid hI1.below
            have HI1 := Lib.hid hI1
            clear hI1
            go_wp2_with fail
            refine (HI7.out _ HB9.out).mono ?_
            rintro e w10 ⟨v2, g2, rfl, hI2⟩
            have HB10 := Lib.hid (HB9.out.trans (hI2.below.mono HB9.out.size))
            have HI2 := Lib.hid hI2.bytes
            have HI1' := Lib.hid (HI1.out.bytes.grow hI2.below)
            clear hI2
            go_wp2_with fail
            refine (HEQ.out _ _ _ HI1'.out HI2.out).mono ?_
            rintro e w11 ⟨rfl, hB11⟩
            have HB11 := Lib.hid (HB10.out.trans (hB11.mono HB10.out.size))
            clear hB11
            go_wp2_with fail
            go_ret
            exact ⟨by simp, HBr.out.trans ((HBL.out _ (H8.out.below HB11.out)).mono HBr.out.size)⟩
end Go.Proofs.YtbfnnlcckpabnaaGreat
