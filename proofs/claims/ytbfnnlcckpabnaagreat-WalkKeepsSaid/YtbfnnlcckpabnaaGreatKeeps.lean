/- The law WalkKeeps. -/
import Derived.Test.YtbfnnlcckpabnaaGreatMadeW
namespace Go.Proofs.YtbfnnlcckpabnaaGreat
set_option linter.unusedSimpArgs false
set_option linter.unusedVariables false
open Go.RowKit
open Hy (Lets IsNF Eqv Le)

/-- A list of another map is kept. -/
theorem pairs_apart {α : Type} {e0 e1 : α → Value} (he : ∀ a, ∃ s, e0 a = .string s) {w w' : World} {v : Value} {X : List α} (h : Pairs e0 e1 w v X) {o : Hy.Ord} {mb wb tb mb7 : Nat} {W : Walls} {T : Things} {WL : WallList} {TL : ThingList} (hM : MRep w o mb wb tb W T) (h7 : Map7 w mb7 o WL TL) (ho : Only (Mine3 wb tb mb7 w.heap.size) w w') : Pairs e0 e1 w' v X := by
  obtain ⟨vw, vt, hm, hp1, hp2⟩ := h7
  obtain ⟨pw, cw, rfl⟩ := pairs_slice hp1
  obtain ⟨pt, ct, rfl⟩ := pairs_slice hp2
  have hne := pairs_ne he h hm
  obtain ⟨es, c, m1, _⟩ := hM.walls
  obtain ⟨es2, c2, m2, _⟩ := hM.things
  obtain ⟨base, cap, h1, h2⟩ := h
  refine ⟨base, cap, h1, fun k hk => ?_⟩
  obtain ⟨g, off, h3, h4, h5, h6⟩ := h2 k hk
  have hg : w'.heap[g]? = w.heap[g]? := by
    refine ho.block g ?_
    rintro ((rfl | rfl | rfl) | hge)
    · rw [cell_of_map m1 (by intro _ _ _ h; cases h)] at h5; cases h5
    · rw [cell_of_map m2 (by intro _ _ _ h; cases h)] at h5; cases h5
    · exact hne k hk _ _ h5 rfl
    · omega
  exact ⟨g, off, h3, Nat.lt_of_lt_of_le h4 ho.size, (World.cell?_of_block (a := ⟨g, _, none⟩) hg).trans h5, (World.cell?_of_block (a := ⟨g, _, none⟩) hg).trans h6⟩

theorem Map7.apart {w w' : World} {o o' : Hy.Ord} {mb wb tb mb7 mx : Nat} {W : Walls} {T : Things} {WL WX : WallList} {TL TX : ThingList} (hX : Map7 w mx o' WX TX) (hM : MRep w o mb wb tb W T) (h7 : Map7 w mb7 o WL TL) (hne : mx ≠ mb7) (ho : Only (Mine3 wb tb mb7 w.heap.size) w w') : Map7 w' mx o' WX TX := by
  obtain ⟨vw, vt, hm, hp1, hp2⟩ := hX
  obtain ⟨es, c, m1, _⟩ := hM.walls
  obtain ⟨es2, c2, m2, _⟩ := hM.things
  refine ⟨vw, vt, (ho.block mx ?_).trans hm, pairs_apart (fun a => ⟨_, rfl⟩) hp1 hM h7 ho, pairs_apart (fun a => ⟨_, rfl⟩) hp2 hM h7 ho⟩
  have hlt := (Array.getElem?_eq_some_iff.1 hm).1
  rintro ((rfl | rfl | rfl) | hge)
  · rw [hm] at m1; cases m1
  · rw [hm] at m2; cases m2
  · exact hne rfl
  · omega

theorem MRep.off {w w' : World} {o : Hy.Ord} {mb wb tb : Nat} {W : Walls} {T : Things} (h : MRep w o mb wb tb W T) {P : Nat → Prop} (ho : Only P w w') (h1 : ¬ P mb) (h2 : ¬ P wb) (h3 : ¬ P tb) : MRep w' o mb wb tb W T :=
  ⟨(ho.block mb h1).trans h.cells, h.walls.of_heap (ho.block wb h2), h.things.of_heap (ho.block tb h3), h.apart, h.ok⟩

/-- Another pair of maps is kept. -/
theorem Both.apart {w w' : World} {o o' : Hy.Ord} {mb wb tb mb7 nb vb ub nb7 : Nat} {W W' : Walls} {T T' : Things} {WL WL' : WallList} {TL TL' : ThingList} (h : Both w o mb wb tb mb7 W T WL TL) (h' : Both w o' nb vb ub nb7 W' T' WL' TL') (ho : Only (Mine3 wb tb mb7 w.heap.size) w w')
    (n1 : nb ≠ wb ∧ nb ≠ tb ∧ nb ≠ mb7) (n2 : vb ≠ wb ∧ vb ≠ tb ∧ vb ≠ mb7) (n3 : ub ≠ wb ∧ ub ≠ tb ∧ ub ≠ mb7) (n4 : nb7 ≠ mb7) : Both w' o' nb vb ub nb7 W' T' WL' TL' := by
  obtain ⟨l1, l2, l3⟩ := h'.rep.lt
  refine ⟨h'.rep.off ho ?_ ?_ ?_, ?_, h'.walls, h'.things, h'.few⟩
  · rintro ((h | h | h) | h) <;> omega
  · rintro ((h | h | h) | h) <;> omega
  · rintro ((h | h | h) | h) <;> omega
  · have h7 := h.m7
    have hR := h.rep
    exact h'.m7.apart hR h7 n4 ho

theorem Map7.lt {w : World} {mb : Nat} {o : Hy.Ord} {WL : WallList} {TL : ThingList} (h : Map7 w mb o WL TL) : mb < w.heap.size := by
  obtain ⟨vw, vt, hm, _⟩ := h
  exact (Array.getElem?_eq_some_iff.1 hm).1

/-- Lists of an image in another order. -/
theorem both_perm {L : List UInt8} {o : Hy.Ord} {W W' : WallList} {T T' : ThingList} (h : parse L = some (o, W, T)) (hW : W'.Perm W) (hT : T'.Perm T) : WRel (W'.map fun e => (e, true)) W ∧ TRel T' T := by
  obtain ⟨h1, h2, h3, h4, h5, h6⟩ := parse_lists h
  refine ⟨⟨?_, ?_, h1⟩, ⟨hT, h4⟩⟩
  · have e : ((W'.map fun e => (e, true)).map (·.1)) = W' := by rw [List.map_map]; exact List.map_id W'
    rw [e]
    exact hW
  · intro p hp
    obtain ⟨e, _, rfl⟩ := List.mem_map.1 hp
    rfl

theorem parse_ord {L : List UInt8} {o : Hy.Ord} {q : WallList × ThingList} (h : parse L = some (o, q)) : Hy.ordErr o.m01 o.m12 o.m02 = 0 := by
  match L, h with
  | a :: b :: c :: r, h =>
    simp only [parse] at h
    by_cases he : Hy.ordErr (a.toNat : Int) (b.toNat : Int) (c.toNat : Int) = 0
    · rw [if_pos he] at h
      obtain ⟨p, _, h2⟩ := Option.map_eq_some_iff.1 h
      cases h2
      exact he
    · rw [if_neg he] at h; cases h

theorem nodup_before {W : WallList} (h : WRel (W.map fun e => (e, true)) W) : W.Nodup := by
  have := h.nodup
  rw [show (W.map fun e => (e, true)).map (·.1) = W from by rw [List.map_map]; exact List.map_id W] at this
  exact this

set_option maxRecDepth 100000 in
set_option maxHeartbeats 8000000 in
theorem law_keeps {w : World} {v vb : Value} {L B : List UInt8} (h : BSlice w.heap.size w v L) (hL : L.length ≤ 9223372036854775807) (hb : BSlice w.heap.size w vb B) (hBl : B.length ≤ 9223372036854775807) (q : OpD) (hq : q.fine) :
    Calls Tryz.prog 5 #[v, vb, opV q.kind q.m q.is q.u q.v q.t] w fun e w' => e = .returned (.bool true) ∧ Below w.heap.size w w' := by
  obtain ⟨base, cap, hv, hcap, _⟩ := id h
  have H := Lib.hid h
  have HBY := Lib.hid hb
  have HLL := Lib.hid hL
  have HBL := Lib.hid hBl
  clear h hb hL hBl
  obtain ⟨f1, f2, f3⟩ := hq
  have HLONG := Lib.hid (fun W1 => law_long (w := W1) q.kind q.m q.is q.u q.v q.t f1 f2 f3)
  have HSANE := Lib.hid (fun W1 => sane7 W1)
  have HFQ := Lib.hid (And.intro f1 (And.intro f2 f3))
  obtain ⟨pk, pm, pis, pu, pv, pt⟩ := q
  simp only at HLONG HFQ f1 f2 f3
  subst hv
  unfold opV str at *
  clear f1 f2 f3 hcap
  obtain ⟨W0, hW0⟩ : ∃ W0, w.alloc (.cells #[.int .i64 pk, .int .i64 pm, .bool pis, .string ⟨pu.toArray⟩, .string ⟨pv.toArray⟩, .string ⟨pt.toArray⟩] 27) = W0 := ⟨_, rfl⟩
  have hb0 : Below w.heap.size w W0 := by rw [← hW0]; exact (Below.refl _ _).alloc (Nat.le_refl _) _
  have q1 : W0.heap[w.heap.size]? = some (.cells #[.int .i64 pk, .int .i64 pm, .bool pis, .string ⟨pu.toArray⟩, .string ⟨pv.toArray⟩, .string ⟨pt.toArray⟩] 27 (0, 0)) := by rw [← hW0]; exact alloc_heap_new w _
  have hlt0 : w.heap.size < W0.heap.size := (Array.getElem?_eq_some_iff.1 q1).1
  have H0 := Lib.hid (H.out.grow hb0)
  have HBY0 := Lib.hid (HBY.out.grow hb0)
  have HB0 := Lib.hid hb0
  have HK := Lib.hid q1
  have HW0 := Lib.hid hW0
  have HR7 := Lib.hid (r07_Load H0.out (by have := HLL.out; omega))
  unfold LoadPost7 at HR7
  clear hW0 hb0 q1 H HBY
  go_enter Tryz.func5, Tryz.ntmps5
  go_upto_region 1 with fail
  rw [HW0.out]
  go_wp2_with fail
  refine HR7.out.mono ?_
  rintro e w1 ⟨mb7, rfl, hB1, hmb7, hMap⟩
  have HB1 := Lib.hid (HB0.out.trans (hB1.mono HB0.out.size))
  have H1 := Lib.hid (H0.out.grow hB1)
  have HBY1 := Lib.hid (HBY0.out.grow hB1)
  have hkc := (hB1.block w.heap.size hlt0).trans HK.out
  have HK1 := Lib.hid hkc
  have k0 := cell_of_heap hkc 0
  have k1 := cell_of_heap hkc 1
  have k2 := cell_of_heap hkc 2
  have k3 := cell_of_heap hkc 3
  have k4 := cell_of_heap hkc 4
  have k5 := cell_of_heap hkc 5
  simp at k0 k1 k2 k3 k4 k5
  have HMAP := Lib.hid hMap
  have HG7 := Lib.hid (show w.heap.size < mb7 from by omega)
  have hl1 : w.heap.size < w1.heap.size := (Array.getElem?_eq_some_iff.1 hkc).1
  have HL1 := Lib.hid hl1
  clear hB1 hMap hmb7 HR7 hkc HK HB0 H0 HBY0 HW0 hlt0 hl1
  by_cases h1 : 25000 < L.length
  · have h1' : (25000 : Int) < (L.length : Int) := by omega
    go_wp2_with fail
    go_ret
    exact ⟨rfl, HB1.out⟩
  have h1' : ¬ (25000 : Int) < (L.length : Int) := by omega
  have HLEN := Lib.hid h1
  clear h1
  by_cases hlong : 200 < pu.length ∨ 200 < pv.length ∨ 200 < pt.length
  · have hd : decide (200 < pu.length ∨ 200 < pv.length ∨ 200 < pt.length) = true := decide_eq_true hlong
    rw [hd] at HLONG
    clear hd hlong
    go_wp2_with fail
    refine (HLONG.out _).mono ?_
    rintro e w2 ⟨rfl, hB2⟩
    have HB2 := Lib.hid (HB1.out.trans (hB2.mono HB1.out.size))
    clear hB2
    go_wp2_with fail
    go_ret
    exact ⟨rfl, HB2.out⟩
  have hd : decide (200 < pu.length ∨ 200 < pv.length ∨ 200 < pt.length) = false := decide_eq_false hlong
  rw [hd] at HLONG
  have HFINE := Lib.hid hlong
  clear hd hlong
  go_wp2_with fail
  refine (HLONG.out _).mono ?_
  rintro e w2 ⟨rfl, hB2⟩
  have HB2 := Lib.hid (HB1.out.trans (hB2.mono HB1.out.size))
  have H2 := Lib.hid (H1.out.grow hB2)
  have HBY2 := Lib.hid (HBY1.out.grow hB2)
  have HK2 := Lib.hid ((hB2.block w.heap.size HL1.out).trans HK1.out)
  have HMB := Lib.hid hB2
  have HZ2 := Lib.hid hB2.size
  clear hB2 HLONG k0 k1 k2 k3 k4 k5 HK1 H1 HBY1
  cases hpl : parse L with
  | none =>
    simp only [hpl, Option.isSome_none]
    go_wp2_with fail
    go_ret
    exact ⟨rfl, HB2.out⟩
  | some P =>
    obtain ⟨o, W, T⟩ := P
    simp only [hpl, Option.isSome_some]
    have hm7 := (HMAP.out o W T hpl).below HMB.out
    have hm7l := (HMAP.out o W T hpl).lt
    have HM7 := Lib.hid hm7
    have HPL := Lib.hid hpl
    obtain ⟨ho, hF, hS⟩ : Hy.ordErr o.m01 o.m12 o.m02 = 0 ∧ Hy.Fine o ∧ Small o := by
      have := parse_ord HPL.out
      exact ⟨this, fine_small this⟩
    obtain ⟨b1, b2, b3⟩ := both_of_parse hpl
    have HREL := Lib.hid (And.intro b1 (And.intro b2 b3))
    have HF := Lib.hid hF; have HS := Lib.hid hS
    obtain ⟨p1, p2, p3, p4, p5, p6⟩ := parse_lists hpl
    have HMADE := Lib.hid (law_made (o := o) ho hm7 p2 p5 (nodup_before b1) b2.nodup p3 p6 HBY2.out HBL.out)
    unfold MadePost at HMADE
    have HM7L := Lib.hid hm7l
    clear hpl hm7 b1 b2 b3 hF hS ho p1 p2 p3 p4 p5 p6 HMAP HMB hm7l HBY2
    go_wp2_with fail
    refine HMADE.out.mono ?_
    rintro e w3 ⟨mb, wb, tb, WL', TL', rfl, hM, hW, hT, g1, g2, g3, hB3⟩
    have HREL2 := Lib.hid (both_perm HPL.out hW hT)
    have HB3 := Lib.hid (HB2.out.trans (hB3.mono HB2.out.size))
    have H3 := Lib.hid (H2.out.grow hB3)
    have HM73 := Lib.hid (HM7.out.below hB3)
    have HM3 := Lib.hid hM
    have HK3 := Lib.hid ((hB3.block w.heap.size (Array.getElem?_eq_some_iff.1 HK2.out).1).trans HK2.out)
    obtain ⟨l1, l2, l3⟩ := hM.lt
    have HN1 := Lib.hid (show (w.heap.size < mb7 ∧ mb7 < w1.heap.size ∧ w1.heap.size ≤ w2.heap.size) ∧ (w2.heap.size ≤ mb ∧ w2.heap.size ≤ wb ∧ w2.heap.size ≤ tb) ∧ (mb < w3.heap.size ∧ wb < w3.heap.size ∧ tb < w3.heap.size) from ⟨⟨HG7.out, HM7L.out, HZ2.out⟩, ⟨g1, g2, g3⟩, l1, l2, l3⟩)
    clear hM hW hT g1 g2 g3 l1 l2 l3 hB3 HMADE H2 HM7 HK2 HM7L HG7 HZ2 HB1 HB2 HL1
    have HLD := Lib.hid (walk_Load H3.out)
    unfold LoadPost at HLD
    go_wp2_with fail
    refine HLD.out.mono ?_
    intro e w4 hP
    rw [HPL.out] at hP
    obtain ⟨nb, ub, xb, rfl, hM4, g4, g5, g6, hB4⟩ := hP
    unfold mptr
    obtain ⟨l4, l5, l6⟩ := hM4.lt
    have HN2 := Lib.hid (show (w3.heap.size ≤ nb ∧ w3.heap.size ≤ ub ∧ w3.heap.size ≤ xb) ∧ (nb < w4.heap.size ∧ ub < w4.heap.size ∧ xb < w4.heap.size) from ⟨⟨g4, g5, g6⟩, l4, l5, l6⟩)
    have HA4 := Lib.hid (show Both w4 o mb wb tb mb7 (WL'.map fun e => (e, true)) TL' W T from ⟨HM3.out.grow hB4, HM73.out.below hB4, HREL2.out.1, HREL2.out.2, HREL.out.2.2⟩)
    have HX4 := Lib.hid (show Both w4 o nb ub xb mb7 (W.map fun e => (e, true)) T W T from ⟨hM4, HM73.out.below hB4, HREL.out.1, HREL.out.2.1, HREL.out.2.2⟩)
    have HB4 := Lib.hid (HB3.out.trans (hB4.mono HB3.out.size))
    have H4 := Lib.hid (H3.out.grow hB4)
    have HK4 := Lib.hid ((hB4.block w.heap.size (Array.getElem?_eq_some_iff.1 HK3.out).1).trans HK3.out)
    clear hM4 g4 g5 g6 hB4 l4 l5 l6 HLD H3 HM73 HM3 HK3
    have HIA := Lib.hid (HA4.out.image HS.out)
    go_wp2_with fail
    refine HIA.out.mono ?_
    rintro e w5 ⟨v5, i5, rfl, hI5⟩
    have HB45 := Lib.hid hI5.below
    have HI5 := Lib.hid hI5.bytes
    clear hI5 HIA
    have HIX := Lib.hid ((HX4.out.below HB45.out).image HS.out)
    go_wp2_with fail
    refine HIX.out.mono ?_
    rintro e w6 ⟨v6, i6, rfl, hI6⟩
    have HB46 := Lib.hid (HB45.out.trans (hI6.below.mono HB45.out.size))
    have HEQ := Lib.hid (law_equal (HI5.out.grow hI6.below) hI6.bytes)
    rw [decide_eq_true (rfl : imageOf o W T = imageOf o W T)] at HEQ
    clear hI6 HIX HI5 HB45
    go_wp2_with fail
    refine HEQ.out.mono ?_
    rintro e w7 ⟨rfl, hB7⟩
    have HB47 := Lib.hid (HB46.out.trans (hB7.mono HB46.out.size))
    have H7 := Lib.hid (H4.out.grow HB47.out)
    have HK7 := Lib.hid ((HB47.out.block w.heap.size (Array.getElem?_eq_some_iff.1 HK4.out).1).trans HK4.out)
    clear hB7 HEQ HB46 H4 HK4
    have HR8 := Lib.hid (r07_Load H7.out (by have := HLL.out; omega))
    unfold LoadPost7 at HR8
    go_wp2_with fail
    refine HR8.out.mono ?_
    rintro e w8 ⟨mb8, rfl, hB8, g8, hMap8⟩
    have hm8 := hMap8 o W T HPL.out
    have HB48 := Lib.hid (HB47.out.trans (hB8.mono HB47.out.size))
    have HN3 := Lib.hid (show w4.heap.size ≤ mb8 ∧ mb8 < w8.heap.size from ⟨by have := HB47.out.size; omega, hm8.lt⟩)
    have HM8 := Lib.hid hm8
    have HK8 := Lib.hid ((hB8.block w.heap.size (Array.getElem?_eq_some_iff.1 HK7.out).1).trans HK7.out)
    clear hm8 hMap8 hB8 g8 HR8 H7 HK7 HB47
    go_wp2_with fail
    refine (HSANE.out _).mono ?_
    rintro e w9 ⟨rfl, hB9⟩
    have HB49 := Lib.hid (HB48.out.trans (hB9.mono HB48.out.size))
    have HA9 := Lib.hid (HA4.out.below HB49.out)
    have HX9 := Lib.hid (show Both w9 o nb ub xb mb8 (W.map fun e => (e, true)) T W T from ⟨HX4.out.rep.grow HB49.out, HM8.out.below hB9, HREL.out.1, HREL.out.2.1, HREL.out.2.2⟩)
    have HB9 := Lib.hid (HB4.out.trans (HB49.out.mono HB4.out.size))
    have hkc := (hB9.block w.heap.size (Array.getElem?_eq_some_iff.1 HK8.out).1).trans HK8.out
    have HK9 := Lib.hid hkc
    have j0 := cell_of_heap hkc 0
    have j1 := cell_of_heap hkc 1
    have j2 := cell_of_heap hkc 2
    have j3 := cell_of_heap hkc 3
    have j4 := cell_of_heap hkc 4
    have j5 := cell_of_heap hkc 5
    simp at j0 j1 j2 j3 j4 j5
    have HZ9 := Lib.hid (show w4.heap.size ≤ w9.heap.size ∧ w8.heap.size ≤ w9.heap.size ∧ w.heap.size < w9.heap.size from ⟨HB49.out.size, hB9.size, (Array.getElem?_eq_some_iff.1 hkc).1⟩)
    have HAG := Lib.hid (law_agrees HF.out HS.out HA9.out pk pm pis pu pv pt (by have := HFINE.out; omega) (by have := HFINE.out; omega) (by have := HFINE.out; omega))
    unfold opV str at HAG
    clear hkc hB9 HA4 HX4 HM8 HK8 HB48 HB49 HSANE
    go_wp2_with fail
    refine HAG.out.mono ?_
    rintro e w10 ⟨rfl, hO10, W1, T1, hA10⟩
    have HNE := Lib.hid (show (nb ≠ wb ∧ nb ≠ tb ∧ nb ≠ mb7) ∧ (ub ≠ wb ∧ ub ≠ tb ∧ ub ≠ mb7) ∧ (xb ≠ wb ∧ xb ≠ tb ∧ xb ≠ mb7) ∧ mb8 ≠ mb7 ∧ (mb ≠ ub ∧ mb ≠ xb ∧ mb ≠ mb8) ∧ (wb ≠ ub ∧ wb ≠ xb ∧ wb ≠ mb8) ∧ (tb ≠ ub ∧ tb ≠ xb ∧ tb ≠ mb8) from by
      have := HN1.out; have := HN2.out; have := HN3.out; have := HB3.out.size; have := HB4.out.size; omega)
    have HX10 := Lib.hid (HA9.out.apart HX9.out hO10 HNE.out.1 HNE.out.2.1 HNE.out.2.2.1 HNE.out.2.2.2.1)
    have hkc := (hO10.block w.heap.size (by
      have := HN1.out; have := HZ9.out; have := HB3.out.size
      rintro ((h | h | h) | h) <;> omega)).trans HK9.out
    have HO10 := Lib.hid hO10
    have HA10 := Lib.hid hA10
    have n0 := cell_of_heap hkc 0
    have n1 := cell_of_heap hkc 1
    have n2 := cell_of_heap hkc 2
    have n3 := cell_of_heap hkc 3
    have n4 := cell_of_heap hkc 4
    have n5 := cell_of_heap hkc 5
    simp at n0 n1 n2 n3 n4 n5
    clear hO10 hA10 HAG j0 j1 j2 j3 j4 j5 hkc HA9 HX9 HK9
    have HAG2 := Lib.hid (law_agrees HF.out HS.out HX10.out pk pm pis pu pv pt (by have := HFINE.out; omega) (by have := HFINE.out; omega) (by have := HFINE.out; omega))
    unfold opV str at HAG2
    go_wp2_with fail
    refine HAG2.out.mono ?_
    rintro e w11 ⟨rfl, hO11, W2, T2, hX11⟩
    have hA11 := HX10.out.apart HA10.out hO11 HNE.out.2.2.2.2.1 HNE.out.2.2.2.2.2.1 HNE.out.2.2.2.2.2.2 HNE.out.2.2.2.1.symm
    have HB11 := Lib.hid (show Below w.heap.size w w11 from (HB9.out.trans (HO10.out.below (fun k hk => by
        have := HN1.out; have := HZ9.out; have := HB3.out.size
        rcases hk with (h | h | h) | h <;> omega))).trans (hO11.below (fun k hk => by
        have := HN1.out; have := HN2.out; have := HN3.out; have := HZ9.out; have := HB3.out.size; have := HB4.out.size; have := HO10.out.size
        rcases hk with (h | h | h) | h <;> omega)))
    generalize (nextOf o W T pk pm pis pu pt).1 = WN at hX11 hA11
    generalize (nextOf o W T pk pm pis pu pt).2 = TN at hX11 hA11
    have HIA := Lib.hid (hA11.image HS.out)
    have HIX := Lib.hid (fun W1 (hb : Below w11.heap.size w11 W1) => (hX11.below hb).image HS.out)
    have HEQ := Lib.hid (fun W1 (v1 v2 : Value) (h1 : BSlice W1.heap.size W1 v1 (imageOf o WN TN)) (h2 : BSlice W1.heap.size W1 v2 (imageOf o WN TN)) => law_equal h1 h2)
    clear hX11 hA11 hO11 HAG2 n0 n1 n2 n3 n4 n5 HX10 HA10
    generalize imageOf o WN TN = im at *
    go_wp2_with fail
    refine HIA.out.mono ?_
    rintro e w12 ⟨v12, i12, rfl, hI12⟩
    have HB12 := Lib.hid hI12.below
    have HI12 := Lib.hid hI12
    clear hI12 HIA
    go_wp2_with fail
    refine (HIX.out _ HB12.out).mono ?_
    rintro e w13 ⟨v13, i13, rfl, hI13⟩
    have HB13 := Lib.hid (HB12.out.trans (hI13.below.mono HB12.out.size))
    have HI13 := Lib.hid hI13.bytes
    have HI12' := Lib.hid (HI12.out.bytes.grow hI13.below)
    clear hI13
    go_wp2_with fail
    refine (HEQ.out _ _ _ HI12'.out HI13.out).mono ?_
    rintro e w14 ⟨rfl, hB14⟩
    have HB14 := Lib.hid (HB13.out.trans (hB14.mono HB13.out.size))
    clear hB14
    go_wp2_with fail
    go_ret
    exact ⟨by simp, HB11.out.trans (HB14.out.mono HB11.out.size)⟩
end Go.Proofs.YtbfnnlcckpabnaaGreat
