/- The law WalkLoads. -/
import Derived.Test.YtbfnnlcckpabnaaGreatOps
import Derived.Test.YtbfnnlcckpabnaaGreatS10
import Derived.Test.YtbfnnlcckpabnaaGreatLd8
namespace Go.Proofs.YtbfnnlcckpabnaaGreat
set_option linter.unusedSimpArgs false
set_option linter.unusedVariables false
open Go.RowKit
open Hy (Lets IsNF Eqv Le)

/-- What an image says, in both maps. -/
theorem both_of_parse {L : List UInt8} {o : Hy.Ord} {W : WallList} {T : ThingList} (h : parse L = some (o, W, T)) : WRel (W.map fun e => (e, true)) W ∧ TRel T T ∧ Few W T := by
  obtain ⟨h1, h2, h3, h4, h5, h6⟩ := parse_lists h
  refine ⟨⟨?_, ?_, h1⟩, ⟨List.Perm.refl _, h4⟩, ⟨h3, h6, fun p hp => ?_, fun p hp => ?_⟩⟩
  · have e : ((W.map fun e => (e, true)).map (·.1)) = W := by rw [List.map_map]; exact List.map_id W
    rw [e]
  · intro p hp
    obtain ⟨e, _, rfl⟩ := List.mem_map.1 hp
    rfl
  · obtain ⟨a1, _, m, a2, _⟩ := h2 p hp
    have := (Hy.wordErr_letters a1).2
    exact ⟨by omega, by omega⟩
  · obtain ⟨a1, _, _, a2⟩ := h5 p hp
    have := (Hy.wordErr_letters a1).2
    unfold Hy.isThing at a2
    simp only [Bool.and_eq_true, decide_eq_true_eq] at a2
    exact ⟨by omega, by omega⟩

theorem fine_small {o : Hy.Ord} (h : Hy.ordErr o.m01 o.m12 o.m02 = 0) : Hy.Fine o ∧ Small o := by
  have h1 := Hy.fine_of h
  have h2 := small_of h
  have h3 : Hy.toOrd o.m01 o.m12 o.m02 = o := by cases o; simp [Hy.toOrd]
  rw [h3] at h1 h2
  exact ⟨h1, h2⟩

theorem BSlice.src {N : Nat} {w : World} {v : Value} {l : List UInt8} (h : BSlice N w v l) (W' : World) (hW : ∀ g, g < N → W'.heap[g]? = w.heap[g]?) : Src Tryz.prog 1 42 v l.length (bcells l) W' := by
  obtain ⟨a, cap, rfl, h2, h3⟩ := h
  cases a with
  | none =>
    have hl : l = [] := by
      cases l with
      | nil => rfl
      | cons x r => obtain ⟨g, off, h4, _⟩ := h3 0 (by simp); cases h4
    subst hl
    exact Src.ofNil W' Tryz.underlying42 cap
  | some ad =>
    refine Src.ofSlice W' Tryz.underlying42 ad l.length cap (bcells l) (by rw [bcells_length, Nat.mul_one]) (fun j u hj => ?_) (bcells_one l)
    have hjl : j < l.length := by
      have := (List.getElem?_eq_some_iff.1 hj).1
      rwa [bcells_length] at this
    obtain ⟨g, off, h4, h5, h6⟩ := h3 j hjl
    cases h4
    rw [Addr.add_lit, World.cell?_of_block (w := w) (a := ⟨g, off + j, none⟩) (hW g h5), h6]
    have h7 : (bcells l)[j]? = some (.int .u8 (l[j].toNat : Int)) := by simp [bcells, List.getElem?_map, List.getElem?_eq_getElem hjl]
    rw [← hj, h7]

/-- Bytes that may be written over. -/
def Scrib (w : World) (g off n : Nat) : Prop := ∀ j, j < n → ∃ x : Int, w.cell? ⟨g, off + j, none⟩ = some (.int .u8 x) ∧ w.frozen? ⟨g, off + j, none⟩ = false

theorem Scrib.set {w : World} {g off n : Nat} (h : Scrib w g off n) {k : Nat} (hk : k < n) (x : Int) : Scrib (w.setCell ⟨g, off + k, none⟩ (.int .u8 x)) g off n := by
  intro j hj
  obtain ⟨y, h1, h2⟩ := h j hj
  by_cases hjk : k = j
  · subst hjk
    exact ⟨x, World.cell?_setCell_same _ _ _ h1, by rw [World.frozen?_setCell]; exact h2⟩
  · refine ⟨y, ?_, by rw [World.frozen?_setCell]; exact h2⟩
    rw [World.cell?_setCell_other _ _ _ _ (by intro h; simp only [Addr.mk.injEq, true_and, and_true] at h; omega)]
    exact h1

theorem QRow.scrib {w : World} {g : Nat} {v : Value} {L : List UInt8} (h : QRow w g 1 v L.length (bcells L)) : ∃ off cap, v = .slice (some ⟨g, off, none⟩) L.length cap ∧ Scrib w g off L.length := by
  obtain ⟨off, cap, h1, h2, h3, h4, h5, h6, h7⟩ := h
  refine ⟨off, cap, h1, fun j hj => ⟨(L[j].toNat : Int), h5 j _ ?_, (h6 j (by omega)).2⟩⟩
  simp [bcells, List.getElem?_map, List.getElem?_eq_getElem hj]

/-- A map stays when a younger or another block is written. -/
theorem MRep.other {w w' : World} {o : Hy.Ord} {mb wb tb : Nat} {W : Walls} {T : Things} (h : MRep w o mb wb tb W T) {g : Nat} (ho : Only (fun k => k = g) w w') (h1 : mb ≠ g) (h2 : wb ≠ g) (h3 : tb ≠ g) : MRep w' o mb wb tb W T :=
  ⟨(ho.block mb h1).trans h.cells, h.walls.of_heap (ho.block wb h2), h.things.of_heap (ho.block tb h3), h.apart, h.ok⟩

set_option maxRecDepth 100000 in
set_option maxHeartbeats 8000000 in
theorem law_loads {w : World} {v : Value} {L : List UInt8} (h : BSlice w.heap.size w v L) (hL : L.length ≤ 9223372036854775807) (q : OpD) (hq : q.fine) (at' : Int) :
    Calls Tryz.prog 4 #[v, opV q.kind q.m q.is q.u q.v q.t, .int .i64 at'] w fun e w' => e = .returned (.bool true) ∧ Below w.heap.size w w' := by
  obtain ⟨base, cap, hv, hcap, _⟩ := id h
  have H := Lib.hid h
  clear h
  obtain ⟨f1, f2, f3⟩ := hq
  have HLONG := Lib.hid (fun W1 => law_long (w := W1) q.kind q.m q.is q.u q.v q.t f1 f2 f3)
  have HSANE := Lib.hid (fun W1 => sane7 W1)
  have HFQ := Lib.hid (And.intro f1 (And.intro f2 f3))
  obtain ⟨pk, pm, pis, pu, pv, pt⟩ := q
  simp only at HLONG HFQ f1 f2 f3
  subst hv
  unfold opV str at *
  by_cases h1 : 25000 < L.length
  · have h1' : (25000 : Int) < (L.length : Int) := by omega
    go_enter Tryz.func4, Tryz.ntmps4
    go_wp2_with fail
    go_ret
    exact ⟨rfl, (Below.refl _ _).alloc (Nat.le_refl _) _⟩
  by_cases hlong : 200 < pu.length ∨ 200 < pv.length ∨ 200 < pt.length
  · have hd : decide (200 < pu.length ∨ 200 < pv.length ∨ 200 < pt.length) = true := decide_eq_true hlong
    rw [hd] at HLONG
    clear hd hlong f1 f2 f3
    go_enter Tryz.func4, Tryz.ntmps4
    go_wp2_with fail
    refine (HLONG.out _).mono ?_
    rintro e w1 ⟨rfl, hB1⟩
    have HB1 := Lib.hid (((Below.refl _ w).alloc (Nat.le_refl _) _).trans (hB1.mono (by simp)))
    clear hB1
    go_wp2_with fail
    go_ret
    exact ⟨rfl, HB1.out⟩
  have hd : decide (200 < pu.length ∨ 200 < pv.length ∨ 200 < pt.length) = false := decide_eq_false hlong
  rw [hd] at HLONG
  have HFINE := Lib.hid hlong
  clear hd hlong f1 f2 f3
  have HLEN := Lib.hid h1
  have h1' : ¬ (25000 : Int) < (L.length : Int) := by omega
  go_enter Tryz.func4, Tryz.ntmps4
  go_upto_region 1 with fail
  obtain ⟨W0, hW0⟩ : ∃ W0, w.alloc (.cells #[.int .i64 pk, .int .i64 pm, .bool pis, .string ⟨pu.toArray⟩, .string ⟨pv.toArray⟩, .string ⟨pt.toArray⟩] 27) = W0 := ⟨_, rfl⟩
  have hb0 : Below w.heap.size w W0 := by rw [← hW0]; exact (Below.refl _ _).alloc (Nat.le_refl _) _
  have q1 : W0.heap[w.heap.size]? = some (.cells #[.int .i64 pk, .int .i64 pm, .bool pis, .string ⟨pu.toArray⟩, .string ⟨pv.toArray⟩, .string ⟨pt.toArray⟩] 27 (0, 0)) := by rw [← hW0]; exact alloc_heap_new w _
  have k0 := cell_of_heap q1 0
  have k1 := cell_of_heap q1 1
  have k2 := cell_of_heap q1 2
  have k3 := cell_of_heap q1 3
  have k4 := cell_of_heap q1 4
  have k5 := cell_of_heap q1 5
  simp at k0 k1 k2 k3 k4 k5
  have hlt0 : w.heap.size < W0.heap.size := (Array.getElem?_eq_some_iff.1 q1).1
  have H0 := Lib.hid (H.out.grow hb0)
  have HB0 := Lib.hid hb0
  have HK := Lib.hid q1
  rw [hW0]
  clear hW0 hb0 q1
  go_wp2_with fail
  refine (HLONG.out _).mono ?_
  rintro e w1 ⟨rfl, hB1⟩
  have HB1 := Lib.hid (HB0.out.trans (hB1.mono HB0.out.size))
  have H1 := Lib.hid (H0.out.grow hB1)
  have HK1 := Lib.hid ((hB1.block w.heap.size hlt0).trans HK.out)
  clear hB1 HLONG k0 k1 k2 k3 k4 k5 HB0 H0 HK
  have HR7 := Lib.hid (r07_Load H1.out (by have := HLEN.out; omega))
  unfold LoadPost7 at HR7
  go_wp2_with fail
  refine HR7.out.mono ?_
  rintro e w2 ⟨mb7, rfl, hB2, hmb7, hMap⟩
  have HB2 := Lib.hid (HB1.out.trans (hB2.mono HB1.out.size))
  have H2 := Lib.hid (H1.out.grow hB2)
  have hl1 : w.heap.size < w1.heap.size := (Array.getElem?_eq_some_iff.1 HK1.out).1
  have HK2 := Lib.hid ((hB2.block w.heap.size hl1).trans HK1.out)
  have HMAP := Lib.hid hMap
  have HG7 := Lib.hid (show w.heap.size ≤ mb7 from by have := HB1.out.size; omega)
  clear hB2 hMap hmb7 HR7
  go_upto_region 4 with fail
  have hq0 : QRow (w2.alloc (.cells #[] 5)) w2.heap.size 1 (.slice (some ⟨w2.heap.size, 0, none⟩) 0 0) 0 [] := QRow.new w2 [] 0 1 5 rfl (by unfold maxLen; omega)
  have HQ0 := Lib.hid hq0
  have HSRC := Lib.hid (H2.out.src (w2.alloc (.cells #[] 5)) (fun g hg => ((Below.refl _ w2).alloc (Nat.le_refl _) _).block g hg))
  clear hq0
  go_wp2_with (at_builtin; refine wpList_queueSrc rowU8 rfl _ _ rfl rfl HQ0.out rfl HSRC.out ?c3 ?_)
  case c3 => have := HLEN.out; omega
  intro v3 w3 g3 hq3 ho3 hn3
  try rw [List.nil_append, Nat.zero_add] at hq3
  have HB3 := Lib.hid (show Below w2.heap.size w2 w3 from ((Below.refl _ w2).alloc (Nat.le_refl _) _).trans (ho3.below (fun k hk => hk.elim (fun h => by omega) (fun h => by omega))))
  have hg3 : w2.heap.size ≤ g3 := hn3.elim (fun h => by omega) (fun h => by omega)
  have HQ3 := Lib.hid hq3
  clear hq3 ho3 hn3 HSRC HQ0
  have HI3 := Lib.hid (show IS w2 w3 g3 v3 L from ⟨HQ3.out, hg3, HB3.out⟩)
  have HLD := Lib.hid (walk_Load HI3.out.bytes)
  unfold LoadPost at HLD
  go_wp2_with fail
  refine HLD.out.mono ?_
  intro e w4 hP
  cases hpl : parse L with
  | none =>
    rw [hpl] at hP
    simp only [hpl, Option.isSome_none]
    obtain ⟨rfl, hB4⟩ := hP
    have HB4 := Lib.hid (HB2.out.trans (((HB3.out.trans (hB4.mono HB3.out.size))).mono HB2.out.size))
    clear hB4 HMAP
    go_wp2_with fail
    refine (HSANE.out _).mono ?_
    rintro e w5 ⟨rfl, hB5⟩
    have HB5 := Lib.hid (HB4.out.trans (hB5.mono HB4.out.size))
    clear hB5
    go_wp2_with fail
    go_ret
    exact ⟨by simp, HB5.out⟩
  | some P =>
    obtain ⟨o, W, T⟩ := P
    rw [hpl] at hP
    simp only [hpl, Option.isSome_some]
    obtain ⟨mb, wb, tb, rfl, hM, hmb, hwb, htb, hB4⟩ := hP
    unfold mptr
    have HM7 := Lib.hid (HMAP.out o W T hpl)
    have HPL := Lib.hid hpl
    obtain ⟨F, hS⟩ := fine_small hM.ok
    obtain ⟨b1, b2, b3⟩ := both_of_parse hpl
    have HREL := Lib.hid (And.intro b1 (And.intro b2 b3))
    have HF := Lib.hid F; have HS := Lib.hid hS
    have HM := Lib.hid hM
    have HB24 := Lib.hid (HB3.out.trans (hB4.mono HB3.out.size))
    have hg3l : g3 < w3.heap.size := by obtain ⟨_, _, _, _, _, _, _, _, h⟩ := HQ3.out; exact h
    have HQ4 := Lib.hid (HQ3.out.of_heap (hB4.block g3 hg3l) hB4.size)
    have HI4 := Lib.hid (HI3.out.later hB4)
    have H4 := Lib.hid (H2.out.grow HB24.out)
    have hne : mb ≠ g3 ∧ wb ≠ g3 ∧ tb ≠ g3 := by omega
    have HGW := Lib.hid (show w.heap.size ≤ wb ∧ w.heap.size ≤ tb from ⟨by have := HB2.out.size; have := HB3.out.size; omega, by have := HB2.out.size; have := HB3.out.size; omega⟩)
    have hg4l := Nat.lt_of_lt_of_le hg3l hB4.size
    clear hM hB4 HMAP b1 b2 b3 F hS HLD HQ3 HI3 H1 H2
    have HEQ := Lib.hid (law_equal HI4.out.bytes H4.out)
    rw [decide_eq_true (rfl : L = L)] at HEQ
    go_wp2_with fail
    refine HEQ.out.mono ?_
    rintro e w5 ⟨rfl, hB5⟩
    have HB25 := Lib.hid (HB24.out.trans (hB5.mono HB24.out.size))
    have HQ5 := Lib.hid (HQ4.out.of_heap (hB5.block g3 hg4l) hB5.size)
    have H5 := Lib.hid (H4.out.grow hB5)
    have HM5 := Lib.hid (HM.out.grow hB5)
    clear hB5 HEQ HQ4 H4 HM HI4
    obtain ⟨off, cp, rfl, hscr⟩ := HQ5.out.scrib
    have HSC5 := Lib.hid hscr
    clear hscr
    go_upto_region 11 with fail
    go_loopw [12] (fun i wr => ∃ k : Nat, i = .int .i64 k ∧ k ≤ L.length ∧ Hid (Only (fun k => k = g3) w5 wr) ∧ Hid (Scrib wr g3 off L.length)) (fun i _ => L.length - (intOf i).toNat)
    case atStart => exact ⟨0, rfl, Nat.zero_le _, Lib.hid (Only.refl _ _), HSC5⟩
    case round =>
      obtain ⟨k, rfl, hk, HO, HSC⟩ := hrel
      by_cases hlt : k < L.length
      · obtain ⟨x, hx1, hx2⟩ := HSC.out k hlt
        have hint : (k : Int) < (L.length : Int) := by omega
        go_wp2_with fail
        go_roundw
        case rel => exact ⟨k + 1, by go_num, by omega, Lib.hid (HO.out.setCell (p := ⟨g3, off + k, none⟩) rfl _), Lib.hid (HSC.out.set hlt _)⟩
        case measure => simp [intOf]; omega
      · obtain rfl : k = L.length := by omega
        have HW2 := Lib.hid (show Below w2.heap.size w2 wr from HB25.out.trans (HO.out.below (fun k hk => by omega)))
        have HBW := Lib.hid (HB2.out.trans (HW2.out.mono HB2.out.size))
        have HBOTH := Lib.hid (show Both wr o mb wb tb mb7 (W.map fun e => (e, true)) T W T from ⟨HM5.out.other HO.out hne.1 hne.2.1 hne.2.2, HM7.out.below HW2.out, HREL.out.1, HREL.out.2.1, HREL.out.2.2⟩)
        have HIM := Lib.hid (show BSlice wr.heap.size wr (.slice base L.length cap) L from H.out.grow HBW.out)
        have HKr := Lib.hid ((HW2.out.block w.heap.size (Array.getElem?_eq_some_iff.1 HK2.out).1).trans HK2.out)
        have HIMG := Lib.hid (HBOTH.out.image HS.out)
        rw [parse_image HPL.out] at HIMG
        clear HSC HSC5 HM5 HQ5 HM7 HB25 HB24 HB2 HB3 HB1 H5 HO HW2 HK2 hlt hk hne HREL HK1
        go_wp2_with fail
        refine HIMG.out.mono ?_
        rintro e w6 ⟨v6, g6, rfl, hI6⟩
        have HB6 := Lib.hid hI6.below
        have HI6 := Lib.hid hI6
        clear hI6 HIMG
        have HEQ := Lib.hid (law_equal HI6.out.bytes (HIM.out.grow HB6.out))
        rw [decide_eq_true (rfl : L = L)] at HEQ
        go_wp2_with fail
        refine HEQ.out.mono ?_
        rintro e w7 ⟨rfl, hB7⟩
        have HB7 := Lib.hid (HB6.out.trans (hB7.mono HB6.out.size))
        have hg6 : wr.heap.size ≤ g6 := HI6.out.ge
        have hq7 := HI6.out.row.of_heap (hB7.block g6 (by obtain ⟨_, _, _, _, _, _, _, _, h⟩ := HI6.out.row; exact h)) hB7.size
        clear hB7 HEQ HI6
        obtain ⟨of6, cp6, rfl, hscr⟩ := hq7.scrib
        have HSC7 := Lib.hid hscr
        clear hscr hq7
        -- the arms
        by_cases h0 : 0 ≤ at'
        · by_cases h9 : at' < (L.length : Int)
          · obtain ⟨n, rfl⟩ : ∃ n : Nat, at' = (n : Int) := ⟨at'.toNat, by omega⟩
            have hn : n < L.length := by omega
            obtain ⟨x, hx1, hx2⟩ := HSC7.out n hn
            have HB8f := Lib.hid (fun u => HB7.out.setCell (p := ⟨g6, of6 + n, none⟩) hg6 u)
            go_wp2_with fail
            have HB8 := Lib.hid (HB8f.out (.int .u8 (bits BinOp.xor IntKind.u8 x 1)))
            generalize w7.setCell ⟨g6, of6 + n, none⟩ (.int .u8 (bits BinOp.xor IntKind.u8 x 1)) = w8 at *
            clear hx1 hx2 HB8f HSC7 h0 h9 hn
            refine (HSANE.out _).mono ?_
            rintro e w9 ⟨rfl, hB9⟩
            have HB9 := Lib.hid (HB8.out.trans (hB9.mono HB8.out.size))
            have HBO9 := Lib.hid (HBOTH.out.below HB9.out)
            have HIM9 := Lib.hid (HIM.out.grow HB9.out)
            have HIMG9 := Lib.hid (HBO9.out.image HS.out)
            rw [parse_image HPL.out] at HIMG9
            clear hB9 HBO9
            go_wp2_with fail
            refine HIMG9.out.mono ?_
            rintro e w10 ⟨v10, g10, rfl, hI10⟩
            have HB10 := Lib.hid hI10.below
            have HEQ := Lib.hid (law_equal hI10.bytes (HIM9.out.grow hI10.below))
            rw [decide_eq_true (rfl : L = L)] at HEQ
            clear hI10 HIMG9 HIM9
            go_wp2_with fail
            refine HEQ.out.mono ?_
            rintro e w11 ⟨rfl, hB11⟩
            have HB11 := Lib.hid (HB9.out.trans ((HB10.out.trans (hB11.mono HB10.out.size)).mono HB9.out.size))
            have hkc := (HB11.out.block w.heap.size (Array.getElem?_eq_some_iff.1 HKr.out).1).trans HKr.out
            have j0 := cell_of_heap hkc 0
            have j1 := cell_of_heap hkc 1
            have j2 := cell_of_heap hkc 2
            have j3 := cell_of_heap hkc 3
            have j4 := cell_of_heap hkc 4
            have j5 := cell_of_heap hkc 5
            simp at j0 j1 j2 j3 j4 j5
            have HAG := Lib.hid (law_agrees HF.out HS.out (HBOTH.out.below HB11.out) pk pm pis pu pv pt (by have := HFINE.out; omega) (by have := HFINE.out; omega) (by have := HFINE.out; omega))
            unfold opV str at HAG
            clear hkc hB11 HEQ HB10 HB9
            go_wp2_with fail
            refine HAG.out.mono ?_
            rintro e w12 ⟨rfl, hO12, W', T', hB12⟩
            generalize (nextOf o W T pk pm pis pu pt).1 = WL' at hB12
            generalize (nextOf o W T pk pm pis pu pt).2 = TL' at hB12
            have HO12 := Lib.hid hO12
            have HIW := Lib.hid (hB12.image HS.out)
            have HI7 := Lib.hid (fun W1 (hb : Below w12.heap.size w12 W1) => (hB12.below hb).image7 HS.out)
            have HEQ := Lib.hid (fun W1 (v1 v2 : Value) (h1 : BSlice W1.heap.size W1 v1 (imageOf o WL' TL')) (h2 : BSlice W1.heap.size W1 v2 (imageOf o WL' TL')) => law_equal h1 h2)
            clear hB12 hO12 HAG j0 j1 j2 j3 j4 j5
            generalize imageOf o WL' TL' = im at *
            go_wp2_with fail
            refine HIW.out.mono ?_
            rintro e w13 ⟨v13, g13, rfl, hI13⟩
            have HB13 := Lib.hid hI13.below
            have HI13 := Lib.hid hI13
            clear hI13
            go_wp2_with fail
            refine (HI7.out _ HB13.out).mono ?_
            rintro e w14 ⟨v14, g14, rfl, hI14⟩
            have HB14 := Lib.hid (HB13.out.trans (hI14.below.mono HB13.out.size))
            have HI14 := Lib.hid hI14.bytes
            have HI13' := Lib.hid (HI13.out.bytes.grow hI14.below)
            clear hI14
            go_wp2_with fail
            refine (HEQ.out _ _ _ HI13'.out HI14.out).mono ?_
            rintro e w15 ⟨rfl, hB15⟩
            have HB15 := Lib.hid (HB14.out.trans (hB15.mono HB14.out.size))
            clear hB15
            go_wp2_with fail
            go_ret
            exact ⟨by simp, (HBW.out.trans (HB11.out.mono HBW.out.size)).trans ((only3_below HO12.out HB15.out).below (fun k hk => by
              have z1 := HG7.out; have z2 := HGW.out; have z3 := HBW.out.size; have z4 := HB11.out.size
              rcases hk with (rfl | rfl | rfl) | hk <;> omega))⟩
          · have HB8 := HB7
            clear HSC7
            go_wp2_with fail
            refine (HSANE.out _).mono ?_
            rintro e w9 ⟨rfl, hB9⟩
            have HB9 := Lib.hid (HB8.out.trans (hB9.mono HB8.out.size))
            have HBO9 := Lib.hid (HBOTH.out.below HB9.out)
            have HIM9 := Lib.hid (HIM.out.grow HB9.out)
            have HIMG9 := Lib.hid (HBO9.out.image HS.out)
            rw [parse_image HPL.out] at HIMG9
            clear hB9 HBO9
            go_wp2_with fail
            refine HIMG9.out.mono ?_
            rintro e w10 ⟨v10, g10, rfl, hI10⟩
            have HB10 := Lib.hid hI10.below
            have HEQ := Lib.hid (law_equal hI10.bytes (HIM9.out.grow hI10.below))
            rw [decide_eq_true (rfl : L = L)] at HEQ
            clear hI10 HIMG9 HIM9
            go_wp2_with fail
            refine HEQ.out.mono ?_
            rintro e w11 ⟨rfl, hB11⟩
            have HB11 := Lib.hid (HB9.out.trans ((HB10.out.trans (hB11.mono HB10.out.size)).mono HB9.out.size))
            have hkc := (HB11.out.block w.heap.size (Array.getElem?_eq_some_iff.1 HKr.out).1).trans HKr.out
            have j0 := cell_of_heap hkc 0
            have j1 := cell_of_heap hkc 1
            have j2 := cell_of_heap hkc 2
            have j3 := cell_of_heap hkc 3
            have j4 := cell_of_heap hkc 4
            have j5 := cell_of_heap hkc 5
            simp at j0 j1 j2 j3 j4 j5
            have HAG := Lib.hid (law_agrees HF.out HS.out (HBOTH.out.below HB11.out) pk pm pis pu pv pt (by have := HFINE.out; omega) (by have := HFINE.out; omega) (by have := HFINE.out; omega))
            unfold opV str at HAG
            clear hkc hB11 HEQ HB10 HB9
            go_wp2_with fail
            refine HAG.out.mono ?_
            rintro e w12 ⟨rfl, hO12, W', T', hB12⟩
            generalize (nextOf o W T pk pm pis pu pt).1 = WL' at hB12
            generalize (nextOf o W T pk pm pis pu pt).2 = TL' at hB12
            have HO12 := Lib.hid hO12
            have HIW := Lib.hid (hB12.image HS.out)
            have HI7 := Lib.hid (fun W1 (hb : Below w12.heap.size w12 W1) => (hB12.below hb).image7 HS.out)
            have HEQ := Lib.hid (fun W1 (v1 v2 : Value) (h1 : BSlice W1.heap.size W1 v1 (imageOf o WL' TL')) (h2 : BSlice W1.heap.size W1 v2 (imageOf o WL' TL')) => law_equal h1 h2)
            clear hB12 hO12 HAG j0 j1 j2 j3 j4 j5
            generalize imageOf o WL' TL' = im at *
            go_wp2_with fail
            refine HIW.out.mono ?_
            rintro e w13 ⟨v13, g13, rfl, hI13⟩
            have HB13 := Lib.hid hI13.below
            have HI13 := Lib.hid hI13
            clear hI13
            go_wp2_with fail
            refine (HI7.out _ HB13.out).mono ?_
            rintro e w14 ⟨v14, g14, rfl, hI14⟩
            have HB14 := Lib.hid (HB13.out.trans (hI14.below.mono HB13.out.size))
            have HI14 := Lib.hid hI14.bytes
            have HI13' := Lib.hid (HI13.out.bytes.grow hI14.below)
            clear hI14
            go_wp2_with fail
            refine (HEQ.out _ _ _ HI13'.out HI14.out).mono ?_
            rintro e w15 ⟨rfl, hB15⟩
            have HB15 := Lib.hid (HB14.out.trans (hB15.mono HB14.out.size))
            clear hB15
            go_wp2_with fail
            go_ret
            exact ⟨by simp, (HBW.out.trans (HB11.out.mono HBW.out.size)).trans ((only3_below HO12.out HB15.out).below (fun k hk => by
              have z1 := HG7.out; have z2 := HGW.out; have z3 := HBW.out.size; have z4 := HB11.out.size
              rcases hk with (rfl | rfl | rfl) | hk <;> omega))⟩
        · have HB8 := HB7
          clear HSC7
          go_wp2_with fail
          refine (HSANE.out _).mono ?_
          rintro e w9 ⟨rfl, hB9⟩
          have HB9 := Lib.hid (HB8.out.trans (hB9.mono HB8.out.size))
          have HBO9 := Lib.hid (HBOTH.out.below HB9.out)
          have HIM9 := Lib.hid (HIM.out.grow HB9.out)
          have HIMG9 := Lib.hid (HBO9.out.image HS.out)
          rw [parse_image HPL.out] at HIMG9
          clear hB9 HBO9
          go_wp2_with fail
          refine HIMG9.out.mono ?_
          rintro e w10 ⟨v10, g10, rfl, hI10⟩
          have HB10 := Lib.hid hI10.below
          have HEQ := Lib.hid (law_equal hI10.bytes (HIM9.out.grow hI10.below))
          rw [decide_eq_true (rfl : L = L)] at HEQ
          clear hI10 HIMG9 HIM9
          go_wp2_with fail
          refine HEQ.out.mono ?_
          rintro e w11 ⟨rfl, hB11⟩
          have HB11 := Lib.hid (HB9.out.trans ((HB10.out.trans (hB11.mono HB10.out.size)).mono HB9.out.size))
          have hkc := (HB11.out.block w.heap.size (Array.getElem?_eq_some_iff.1 HKr.out).1).trans HKr.out
          have j0 := cell_of_heap hkc 0
          have j1 := cell_of_heap hkc 1
          have j2 := cell_of_heap hkc 2
          have j3 := cell_of_heap hkc 3
          have j4 := cell_of_heap hkc 4
          have j5 := cell_of_heap hkc 5
          simp at j0 j1 j2 j3 j4 j5
          have HAG := Lib.hid (law_agrees HF.out HS.out (HBOTH.out.below HB11.out) pk pm pis pu pv pt (by have := HFINE.out; omega) (by have := HFINE.out; omega) (by have := HFINE.out; omega))
          unfold opV str at HAG
          clear hkc hB11 HEQ HB10 HB9
          go_wp2_with fail
          refine HAG.out.mono ?_
          rintro e w12 ⟨rfl, hO12, W', T', hB12⟩
          generalize (nextOf o W T pk pm pis pu pt).1 = WL' at hB12
          generalize (nextOf o W T pk pm pis pu pt).2 = TL' at hB12
          have HO12 := Lib.hid hO12
          have HIW := Lib.hid (hB12.image HS.out)
          have HI7 := Lib.hid (fun W1 (hb : Below w12.heap.size w12 W1) => (hB12.below hb).image7 HS.out)
          have HEQ := Lib.hid (fun W1 (v1 v2 : Value) (h1 : BSlice W1.heap.size W1 v1 (imageOf o WL' TL')) (h2 : BSlice W1.heap.size W1 v2 (imageOf o WL' TL')) => law_equal h1 h2)
          clear hB12 hO12 HAG j0 j1 j2 j3 j4 j5
          generalize imageOf o WL' TL' = im at *
          go_wp2_with fail
          refine HIW.out.mono ?_
          rintro e w13 ⟨v13, g13, rfl, hI13⟩
          have HB13 := Lib.hid hI13.below
          have HI13 := Lib.hid hI13
          clear hI13
          go_wp2_with fail
          refine (HI7.out _ HB13.out).mono ?_
          rintro e w14 ⟨v14, g14, rfl, hI14⟩
          have HB14 := Lib.hid (HB13.out.trans (hI14.below.mono HB13.out.size))
          have HI14 := Lib.hid hI14.bytes
          have HI13' := Lib.hid (HI13.out.bytes.grow hI14.below)
          clear hI14
          go_wp2_with fail
          refine (HEQ.out _ _ _ HI13'.out HI14.out).mono ?_
          rintro e w15 ⟨rfl, hB15⟩
          have HB15 := Lib.hid (HB14.out.trans (hB15.mono HB14.out.size))
          clear hB15
          go_wp2_with fail
          go_ret
          exact ⟨by simp, (HBW.out.trans (HB11.out.mono HBW.out.size)).trans ((only3_below HO12.out HB15.out).below (fun k hk => by
            have z1 := HG7.out; have z2 := HGW.out; have z3 := HBW.out.size; have z4 := HB11.out.size
            rcases hk with (rfl | rfl | rfl) | hk <;> omega))⟩
end Go.Proofs.YtbfnnlcckpabnaaGreat
