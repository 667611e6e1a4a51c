/- The specification of layer 7: Image. -/
import Derived.Test.YtbfnnlcckpabnaaGreatImo
import Derived.Test.YtbfnnlcckpabnaaGreatApq
import Derived.Test.YtbfnnlcckpabnaaGreatQ6
import Derived.Test.YtbfnnlcckpabnaaGreatQ3
import Derived.Lib.ConvBytes
namespace Go.Proofs.YtbfnnlcckpabnaaGreat
set_option linter.unusedSimpArgs false
set_option linter.unusedVariables false
open Go.RowKit

def bcells (L : List UInt8) : List Value := L.map fun b => .int .u8 (b.toNat : Int)
theorem bcells_append (L M : List UInt8) : bcells (L ++ M) = bcells L ++ bcells M := by simp [bcells]
theorem bcells_length (L : List UInt8) : (bcells L).length = L.length := by simp [bcells]
theorem strCells_list (l : List UInt8) : Lib.strCells ⟨l.toArray⟩ = bcells l := by simp [Lib.strCells, bcells]
theorem bcells_one (L : List UInt8) : ∀ u ∈ bcells L, u.oneCell' = true := by
  intro u hu
  obtain ⟨b, _, rfl⟩ := List.mem_map.1 hu
  rfl

theorem infoU8 : (Tryz.prog.info? 5).map (fun i => (i.zero, i.size, i.bytes)) = some (some (.int .u8 0), 1, 1) := by kernel_rfl
theorem rowU8 : RowType Tryz.prog 42 5 1 := rowType_of (z := .int .u8 0) (bytes := 1) Tryz.underlying42 infoU8 rfl (by decide) (by decide)

/-- An image in the making. -/
structure IS (w wr : World) (g : Nat) (v : Value) (L : List UInt8) : Prop where
  row : QRow wr g 1 v L.length (bcells L)
  ge : w.heap.size ≤ g
  below : Below w.heap.size w wr

theorem IS.later {w wr wr' : World} {g : Nat} {v : Value} {L : List UInt8} (h : IS w wr g v L) (hb : Below wr.heap.size wr wr') : IS w wr' g v L :=
  ⟨h.row.of_heap (hb.block _ h.row.lt) hb.size, h.ge, h.below.trans (hb.mono h.below.size)⟩

theorem IS.more {w wr w' : World} {g g' n : Nat} {v v' : Value} {L M : List UInt8} {xs : List Value} (h : IS w wr g v L) (hq : QRow w' g' 1 v' n xs) (ho : Only (fun k => k = g ∨ wr.heap.size ≤ k) wr w') (hg : g' = g ∨ wr.heap.size ≤ g') (h1 : n = L.length + M.length) (h2 : xs = bcells L ++ bcells M) : IS w w' g' v' (L ++ M) := by
  refine ⟨?_, ?_, only_below h.below ho h.ge⟩
  · rw [List.length_append, bcells_append, ← h1, ← h2]; exact hq
  · have := h.below.size; have := h.ge; omega

theorem byte_mod (n : Nat) : ((UInt8.ofNat n).toNat : Int) = (n : Int) % 256 := by simp

theorem byte_wrap (n : Nat) : IntKind.u8.wrap (n : Int) = ((UInt8.ofNat n).toNat : Int) := by
  simp [IntKind.wrap, IntKind.bits, IntKind.signed]

/-- The bytes of a text, in a row of their own. -/
theorem conv_bytes (w : World) (l : List UInt8) : ∃ (c : Nat) (w' : World), (convert 9 42 (.string ⟨l.toArray⟩)).run Tryz.prog w = .ok (.slice (some ⟨w.heap.size, 0, none⟩) l.length c) w' ∧ Below w.heap.size w w' ∧ w.heap.size < w'.heap.size ∧
    ∀ (j : Nat) (u : Value), (bcells l)[j]? = some u → w'.cell? ((⟨w.heap.size, 0, none⟩ : Addr).add j) = some u := by
  have h := Lib.run_convert_string_bytes (P := Tryz.prog) w 9 42 5 ⟨l.toArray⟩ Tryz.underlying9 Tryz.underlying42 Tryz.underlying5
  refine ⟨_, _, h, ⟨?_, ?_, ?_, ?_, fun k hk => Lib.bytesWorld_at_old _ _ _ k hk⟩, ?_, ?_⟩
  · simp only [Lib.bytesWorld, World.freeze]; split <;> rfl
  · simp only [Lib.bytesWorld, World.freeze]; split <;> rfl
  · simp only [Lib.bytesWorld, World.freeze]; split <;> rfl
  · rw [Lib.bytesWorld_size]; omega
  · rw [Lib.bytesWorld_size]; omega
  · intro j u hj
    obtain ⟨hl, hu⟩ := List.getElem?_eq_some_iff.1 hj
    rw [bcells_length] at hl
    rw [Addr.add_lit, Nat.zero_add, Lib.bytesWorld_cell _ _ _ _ (show j < ByteArray.size ⟨l.toArray⟩ from by simpa [ByteArray.size] using hl), ← hu]
    simp [bcells, List.getD, hl]

set_option maxRecDepth 100000 in
set_option maxHeartbeats 8000000 in
theorem r07_Image {w : World} {mb : Nat} {o : Hy.Ord} (hS : Small o) {WL : WallList} {TL : ThingList} (h : Map7 w mb o WL TL) (hT : WL.length ≤ 1000) (hTT : TL.length ≤ 1000) (hw : ∀ p ∈ WL, p.1.length ≤ 1000 ∧ 0 ≤ p.2) (ht : ∀ p ∈ TL, p.1.length ≤ 1000 ∧ p.2.length ≤ 1000) :
    Calls Tryz.prog 14 #[.pointer (some ⟨mb, 0, none⟩)] w fun e w' => ∃ v g, e = .returned v ∧ IS w w' g v (imageOf o WL TL) := by
  have HMAP := Lib.hid (fun W (hW : Below w.heap.size w W) => h.below hW)
  obtain ⟨vw, vt, hm, hp1, hp2⟩ := h
  obtain ⟨pw, cw, rfl⟩ := pairs_slice hp1
  obtain ⟨pt, ct, rfl⟩ := pairs_slice hp2
  have hmb : mb < w.heap.size := (Array.getElem?_eq_some_iff.1 hm).1
  have m0 := cell_of_heap hm 0
  have m1 := cell_of_heap hm 1
  have m2 := cell_of_heap hm 2
  have m3 := cell_of_heap hm 3
  have m4 := cell_of_heap hm 4
  simp at m0 m1 m2 m3 m4
  have HP1 := Lib.hid hp1; have HP2 := Lib.hid hp2
  have HW := Lib.hid hw; have HT := Lib.hid ht
  clear hp1 hp2 hw ht hm
  go_enter Tryz.func14, Tryz.ntmps14
  go_upto_region 1 with fail
  have l0 := fun (y : Later w) => ((bcell y.h).1 _ _ hmb).trans m0
  have l1 := fun (y : Later w) => ((bcell y.h).1 _ _ hmb).trans m1
  have l2 := fun (y : Later w) => ((bcell y.h).1 _ _ hmb).trans m2
  have l3 := fun (y : Later w) => ((bcell y.h).1 _ _ hmb).trans m3
  have b0 := byte_wrap o.m01
  have b1 := byte_wrap o.m12
  have b2 := byte_wrap o.m02
  refine wp_region_loads 32 32 (fun w' => ∃ y : Later w, w' = y.W) ⟨⟨w.drew, (Below.refl _ _).drew⟩, rfl⟩ (by kernel_rfl) (by kernel_rfl) ?_
  simp only [List.take_succ_cons, List.take_zero, List.drop_succ_cons, List.drop_zero]
  repeat (go_big_quiet_step (fail))
  refine wpQuiet_nil ?_
  refine wpG_nil ?_
  clear l0 l1 l2 l3 b0 b1 b2
  go_upto_region 2 with fail
  obtain ⟨W2, hW2⟩ : ∃ W2, (w.alloc (.cells #[.int .u8 ((o.m01 : Int) % 256), .int .u8 ((o.m12 : Int) % 256), .int .u8 ((o.m02 : Int) % 256), .int .u8 ((WL.length : Int) / 256), .int .u8 ((WL.length : Int) % 256)] 5)).drew = W2 := ⟨_, rfl⟩
  rw [hW2]
  have hI2 : IS w W2 w.heap.size (.slice (some ⟨w.heap.size, 0, none⟩) 5 5) (headImg o ++ countImg WL.length) := by
    have hq := QRow.new w [.int .u8 ((o.m01 : Int) % 256), .int .u8 ((o.m12 : Int) % 256), .int .u8 ((o.m02 : Int) % 256), .int .u8 ((WL.length : Int) / 256), .int .u8 ((WL.length : Int) % 256)] 5 1 5 rfl (by unfold maxLen; omega)
    have hb : bcells (headImg o ++ countImg WL.length) = [.int .u8 ((o.m01 : Int) % 256), .int .u8 ((o.m12 : Int) % 256), .int .u8 ((o.m02 : Int) % 256), .int .u8 ((WL.length : Int) / 256), .int .u8 ((WL.length : Int) % 256)] := by
      have h1 : (((WL.length / 256 : Nat) : Int) % 256) = (WL.length : Int) / 256 := by omega
      have h2 : (((WL.length % 256 : Nat) : Int) % 256) = (WL.length : Int) % 256 := by omega
      simp only [bcells, headImg, countImg, List.map_append, List.map_cons, List.map_nil, byte_mod, List.cons_append, List.nil_append, h1, h2]
    have hI : IS w (w.alloc (.cells #[.int .u8 ((o.m01 : Int) % 256), .int .u8 ((o.m12 : Int) % 256), .int .u8 ((o.m02 : Int) % 256), .int .u8 ((WL.length : Int) / 256), .int .u8 ((WL.length : Int) % 256)] 5)) w.heap.size (.slice (some ⟨w.heap.size, 0, none⟩) 5 5) (headImg o ++ countImg WL.length) :=
      ⟨by rw [hb]; exact hq, Nat.le_refl _, (Below.refl _ _).alloc (Nat.le_refl _) _⟩
    rw [← hW2]
    exact hI.later (Below.refl _ _).drew
  have HI2 := Lib.hid hI2
  clear hI2 hW2
  go_wp2_with fail
  go_loopw [3, 4] (fun v i wr => ∃ (k g : Nat) (L : List UInt8), k ≤ WL.length ∧ i = .int .i64 k ∧ L.length ≤ 10 + 1010 * k ∧ Hid (L = headImg o ++ countImg WL.length ++ (WL.take k).flatMap wallImg) ∧ Hid (IS w wr g v L)) (fun _ i _ => WL.length - (intOf i).toNat)
  case atStart => exact ⟨0, w.heap.size, headImg o ++ countImg WL.length, Nat.zero_le _, rfl, by simp [headImg, countImg], by rw [List.take_zero, List.flatMap_nil, List.append_nil]; exact rfl, HI2.out⟩
  case round =>
    obtain ⟨k, g, L5, hk, rfl, hLl, HL, HI⟩ := hrel
    have q3 := ((bcell HI.out.below).1 mb 3 hmb).trans m3
    by_cases hlt : k < WL.length
    · obtain ⟨tb', tc', hteq, hcells⟩ := HP1.out
      simp only [Value.slice.injEq, true_and] at hteq
      obtain ⟨rfl, rfl⟩ := hteq
      obtain ⟨g0, off, rfl, hg0, hc0, hc1⟩ := hcells k hlt
      have e0 := ((bcell HI.out.below).1 _ _ hg0).trans hc0
      have e1 := ((bcell HI.out.below).1 _ _ hg0).trans hc1
      simp only [encW0, encW1, str] at e0 e1
      obtain ⟨hwl, hwm⟩ := HW.out _ (List.getElem_mem hlt)
      have htk : (WL.take (k + 1)).flatMap wallImg = (WL.take k).flatMap wallImg ++ wallImg WL[k] := by rw [List.take_succ_eq_append_getElem hlt, List.flatMap_append]; simp
      generalize WL[k] = p at *
      obtain ⟨pt', pm⟩ := p
      simp only at hwl hwm e0 e1
      have HTK := Lib.hid htk
      have HWM := Lib.hid hwm
      clear hc0 hc1 hcells htk hwm
      go_upto_region 6 with fail
      obtain ⟨w5, hw5⟩ : ∃ w5, wr.alloc (.cells #[.string ⟨pt'.toArray⟩, .int .i64 pm] 83) = w5 := ⟨_, rfl⟩
      have hb5 : w5.heap[wr.heap.size]? = some (.cells #[.string ⟨pt'.toArray⟩, .int .i64 pm] 83 (0, 0)) := by rw [← hw5]; exact alloc_heap_new wr _
      have hI5 : IS w w5 g u3 L5 := HI.out.later (by rw [← hw5]; exact (Below.refl _ _).alloc (Nat.le_refl _) _)
      rw [hw5]
      obtain ⟨g5, hg5⟩ : ∃ g5, g5 = g := ⟨_, rfl⟩
      subst hg5
      have HI5 := Lib.hid hI5; have HB5 := Lib.hid hb5
      have hbg5 : wr.heap.size ≠ g5 := by have := HI.out.row.lt; omega
      have hbl5 : wr.heap.size < w5.heap.size := (Array.getElem?_eq_some_iff.1 hb5).1
      generalize wr.heap.size = b at *
      clear hI5 hb5 hw5 e0 e1 q3
      have c0 := cell_of_heap HB5.out 0
      have c1 := cell_of_heap HB5.out 1
      simp only [List.getElem?_toArray, List.getElem?_cons_zero, List.getElem?_cons_succ] at c0 c1
      go_wp2_with (at_builtin; refine wpList_queue1 w5 rowU8 rfl _ _ rfl rfl HI5.out.row _ [_] rfl rfl (fun u hu => by simp at hu; subst hu; rfl) ?c3 ?_)
      case c3 => omega
      intro v6 w6 g6 hq6 ho6 hn6
      have HBs := HB5
      obtain ⟨L6, hL6⟩ : ∃ L6, L6 = L5 ++ [UInt8.ofNat pt'.length] := ⟨_, rfl⟩
      have hl6 : L6.length ≤ L5.length + 1 := by rw [hL6, List.length_append]; exact Nat.le_refl _
      have hI6 : IS w w6 g6 v6 L6 := by rw [hL6]; exact HI5.out.more hq6 ho6 hn6 (by simp) (by simp [bcells, byte_mod])
      have HL6 := Lib.hid hL6
      have HI6 := Lib.hid hI6
      have hb6 := (ho6.block b (by rintro (h | h) <;> omega)).trans HBs.out
      have hbl6 : b < w6.heap.size := (Array.getElem?_eq_some_iff.1 hb6).1
      have hbg6 : b ≠ g6 := by omega
      have HB6 := Lib.hid hb6
      clear hq6 ho6 hn6 hI6 hL6 hb6 c0 c1 HBs
      go_upto_region 7 with fail
      have c0 := cell_of_heap HB6.out 0
      have c1 := cell_of_heap HB6.out 1
      simp only [List.getElem?_toArray, List.getElem?_cons_zero, List.getElem?_cons_succ] at c0 c1
      obtain ⟨cc7, x7, hcv, hx1, hx2, hx3⟩ := conv_bytes w6 pt'
      have HX7 := Lib.hid (HI6.out.later hx1); have HXC := Lib.hid hx3
      have HBs := Lib.hid ((hx1.block b hbl6).trans HB6.out)
      have hbx : b < x7.heap.size := (Array.getElem?_eq_some_iff.1 HBs.out).1
      clear hx1 hx2 hx3
      go_wp2_with (at_builtin; refine wpList_queueSrc rowU8 rfl _ _ rfl rfl HX7.out.row rfl (Src.ofSlice (P := Tryz.prog) _ Tryz.underlying42 ⟨w6.heap.size, 0, none⟩ (pt').length cc7 (bcells pt') (by rw [bcells_length, Nat.mul_one]) HXC.out (bcells_one _)) ?c3 ?_)
      case c3 => omega
      intro v7 w7 g7 hq7 ho7 hn7
      obtain ⟨L7, hL7⟩ : ∃ L7, L7 = L6 ++ pt' := ⟨_, rfl⟩
      have hl7 : L7.length ≤ L6.length + pt'.length := by rw [hL7, List.length_append]; exact Nat.le_refl _
      have hI7 : IS w w7 g7 v7 L7 := by rw [hL7]; exact HX7.out.more hq7 ho7 hn7 (by simp) (by simp [bcells, byte_mod])
      have HL7 := Lib.hid hL7
      have HI7 := Lib.hid hI7
      have hb7 := (ho7.block b (by rintro (h | h) <;> omega)).trans HBs.out
      have hbl7 : b < w7.heap.size := (Array.getElem?_eq_some_iff.1 hb7).1
      have hbg7 : b ≠ g7 := by omega
      have HB7 := Lib.hid hb7
      clear hq7 ho7 hn7 hI7 hL7 hb7 c0 c1 HBs
      clear hcv HXC hbx HX7
      go_upto_region 8 with fail
      have hpm : IntKind.u8.wrap pm = pm % 256 := by simp [IntKind.wrap, IntKind.bits, IntKind.signed]
      obtain ⟨pn, hpn⟩ : ∃ pn : Nat, pm = (pn : Int) := ⟨pm.toNat, by have := HWM.out; omega⟩
      subst hpn
      have c0 := cell_of_heap HB7.out 0
      have c1 := cell_of_heap HB7.out 1
      simp only [List.getElem?_toArray, List.getElem?_cons_zero, List.getElem?_cons_succ] at c0 c1
      go_wp2_with (at_builtin; refine wpList_queue1 w7 rowU8 rfl _ _ rfl rfl HI7.out.row _ [_] rfl rfl (fun u hu => by simp at hu; subst hu; rfl) ?c3 ?_)
      case c3 => omega
      intro v8 w8 g8 hq8 ho8 hn8
      have HBs := HB7
      obtain ⟨L8, hL8⟩ : ∃ L8, L8 = L7 ++ [UInt8.ofNat pn] := ⟨_, rfl⟩
      have hl8 : L8.length ≤ L7.length + 1 := by rw [hL8, List.length_append]; exact Nat.le_refl _
      have hI8 : IS w w8 g8 v8 L8 := by rw [hL8]; exact HI7.out.more hq8 ho8 hn8 (by simp) (by simp [bcells, byte_mod])
      have HL8 := Lib.hid hL8
      have HI8 := Lib.hid hI8
      have hb8 := (ho8.block b (by rintro (h | h) <;> omega)).trans HBs.out
      have hbl8 : b < w8.heap.size := (Array.getElem?_eq_some_iff.1 hb8).1
      have hbg8 : b ≠ g8 := by omega
      have HB8 := Lib.hid hb8
      clear hq8 ho8 hn8 hI8 hL8 hb8 c0 c1 HBs
      have HFIN := Lib.hid (show L8 = headImg o ++ countImg WL.length ++ (WL.take (k + 1)).flatMap wallImg from by rw [HTK.out, HL8.out, HL7.out, HL6.out, HL.out]; simp [wallImg])
      clear HTK HL6 HL7 HL8 HI5 HI6 HI7 HB5 HB6 HB7 HB8
      go_wp2_with fail
      go_roundw
      case rel => exact ⟨k + 1, g8, L8, by omega, by go_num, by omega, HFIN, HI8⟩
      case measure => simp [intOf]; omega
    · obtain rfl : k = WL.length := by omega
      have hL1 := HL.out
      rw [List.take_length] at hL1
      have HL1 := Lib.hid hL1
      clear hL1 HL hlt hk
      go_upto_region 9 with fail
      have l0 := fun (y : Later wr) => ((bcell (HI.out.below.trans (y.h.mono HI.out.below.size))).1 mb 4 hmb).trans m4
      have hlv : ∃ o1 c1, u3 = .slice (some ⟨g, o1, none⟩) L5.length c1 := by obtain ⟨o1, c1, h, _⟩ := HI.out.row; exact ⟨o1, c1, h⟩
      obtain ⟨o1, cx, rfl⟩ := hlv
      refine wp_region_loads 15 16 (fun w' => ∃ y : Later wr, w' = y.W) ⟨⟨wr.drew, (Below.refl _ _).drew⟩, rfl⟩ (by kernel_rfl) (by kernel_rfl) ?_
      simp only [List.take_succ_cons, List.take_zero, List.drop_succ_cons, List.drop_zero]
      repeat (go_big_quiet_step (fail))
      refine wpQuiet_nil ?_
      clear l0
      refine wpG_step ?_
      intro K2 hK2
      go_wp2_with fail
      refine ⟨⟨⟨_, ((Below.refl _ _).alloc (Nat.le_refl _) _).drew⟩, rfl⟩, hK2 _ _ ?_⟩
      clear hK2
      refine wpG_nil ?_
      obtain ⟨W9, hW9⟩ : ∃ W9, (wr.alloc (.cells #[.int .u8 ((TL.length : Int) / 256), .int .u8 ((TL.length : Int) % 256)] 5)).drew = W9 := ⟨_, rfl⟩
      have hc9 : ∀ (j : Nat) (u : Value), [Value.int .u8 ((TL.length : Int) / 256), Value.int .u8 ((TL.length : Int) % 256)][j]? = some u → W9.cell? ((⟨wr.heap.size, 0, none⟩ : Addr).add j) = some u := fun j u hj => by rw [← hW9]; exact new_cells (news := [Value.int .u8 ((TL.length : Int) / 256), Value.int .u8 ((TL.length : Int) % 256)]) j u hj
      have hI9 : IS w W9 g (.slice (some ⟨g, o1, none⟩) L5.length cx) L5 := HI.out.later (by rw [← hW9]; exact ((Below.refl _ _).alloc (Nat.le_refl _) _).drew)
      rw [hW9]
      clear hW9
      have HI9 := Lib.hid hI9; have HC9 := Lib.hid hc9
      clear hI9 hc9
      go_wp2_with (at_builtin; refine wpList_queueSrc rowU8 rfl _ _ rfl rfl HI9.out.row rfl (Src.ofSlice (P := Tryz.prog) _ Tryz.underlying42 ⟨wr.heap.size, 0, none⟩ 2 2 [Value.int .u8 ((TL.length : Int) / 256), Value.int .u8 ((TL.length : Int) % 256)] rfl HC9.out (fun u hu => by simp at hu; rcases hu with rfl | rfl <;> rfl)) ?c3 ?_)
      case c3 => omega
      intro v10 w10 g10 hq10 ho10 hn10
      have hb10 : bcells (countImg TL.length) = [.int .u8 ((TL.length : Int) / 256), .int .u8 ((TL.length : Int) % 256)] := by
        have h1 : (((TL.length / 256 : Nat) : Int) % 256) = (TL.length : Int) / 256 := by omega
        have h2 : (((TL.length % 256 : Nat) : Int) % 256) = (TL.length : Int) % 256 := by omega
        simp only [bcells, countImg, List.map_cons, List.map_nil, byte_mod, h1, h2]
      have hI10 : IS w w10 g10 v10 (L5 ++ countImg TL.length) := HI9.out.more hq10 ho10 hn10 (by simp [countImg]) (by rw [hb10])
      obtain ⟨L10, hL10⟩ : ∃ L10, L10 = L5 ++ countImg TL.length := ⟨_, rfl⟩
      have hl10 : L10.length ≤ L5.length + 2 := by rw [hL10, List.length_append]; exact Nat.le_refl _
      rw [← hL10] at hI10
      have HL10 := Lib.hid hL10; have HI10 := Lib.hid hI10
      clear hq10 ho10 hn10 hb10 hI10 hL10 HI9 HC9 HI HI2 q3
      go_wp2_with fail
      go_loopw [3, 6] (fun v i wr => ∃ (k g : Nat) (L : List UInt8), k ≤ TL.length ∧ i = .int .i64 k ∧ L.length ≤ 1100000 + 2010 * k ∧ Hid (L = L10 ++ (TL.take k).flatMap thingImg) ∧ Hid (IS w wr g v L)) (fun _ i _ => TL.length - (intOf i).toNat)
      case atStart => exact ⟨0, g10, L10, Nat.zero_le _, rfl, by omega, by rw [List.take_zero, List.flatMap_nil, List.append_nil]; exact rfl, HI10.out⟩
      case round =>
        obtain ⟨k, g, L5, hk, rfl, hLl, HL, HI⟩ := hrel
        have q3 := ((bcell HI.out.below).1 mb 4 hmb).trans m4
        by_cases hlt : k < TL.length
        · obtain ⟨tb', tc', hteq, hcells⟩ := HP2.out
          simp only [Value.slice.injEq, true_and] at hteq
          obtain ⟨rfl, rfl⟩ := hteq
          obtain ⟨g0, off, rfl, hg0, hc0, hc1⟩ := hcells k hlt
          have e0 := ((bcell HI.out.below).1 _ _ hg0).trans hc0
          have e1 := ((bcell HI.out.below).1 _ _ hg0).trans hc1
          simp only [encT0, encT1, str] at e0 e1
          obtain ⟨hwl, hwm⟩ := HT.out _ (List.getElem_mem hlt)
          have htk : (TL.take (k + 1)).flatMap thingImg = (TL.take k).flatMap thingImg ++ thingImg TL[k] := by rw [List.take_succ_eq_append_getElem hlt, List.flatMap_append]; simp
          generalize TL[k] = p at *
          obtain ⟨pt', px⟩ := p
          simp only at hwl hwm e0 e1
          have HTK := Lib.hid htk
          clear hc0 hc1 hcells htk
          go_upto_region 14 with fail
          obtain ⟨w5, hw5⟩ : ∃ w5, wr.alloc (.cells #[.string ⟨pt'.toArray⟩, .string ⟨px.toArray⟩] 85) = w5 := ⟨_, rfl⟩
          have hb5 : w5.heap[wr.heap.size]? = some (.cells #[.string ⟨pt'.toArray⟩, .string ⟨px.toArray⟩] 85 (0, 0)) := by rw [← hw5]; exact alloc_heap_new wr _
          have hI5 : IS w w5 g u3 L5 := HI.out.later (by rw [← hw5]; exact (Below.refl _ _).alloc (Nat.le_refl _) _)
          rw [hw5]
          obtain ⟨g5, hg5⟩ : ∃ g5, g5 = g := ⟨_, rfl⟩
          subst hg5
          have HI5 := Lib.hid hI5; have HB5 := Lib.hid hb5
          have hbg5 : wr.heap.size ≠ g5 := by have := HI.out.row.lt; omega
          have hbl5 : wr.heap.size < w5.heap.size := (Array.getElem?_eq_some_iff.1 hb5).1
          generalize wr.heap.size = b at *
          clear hI5 hb5 hw5 e0 e1 q3
          have c0 := cell_of_heap HB5.out 0
          have c1 := cell_of_heap HB5.out 1
          simp only [List.getElem?_toArray, List.getElem?_cons_zero, List.getElem?_cons_succ] at c0 c1
          go_wp2_with (at_builtin; refine wpList_queue1 w5 rowU8 rfl _ _ rfl rfl HI5.out.row _ [_] rfl rfl (fun u hu => by simp at hu; subst hu; rfl) ?c3 ?_)
          case c3 => omega
          intro v6 w6 g6 hq6 ho6 hn6
          have HBs := HB5
          obtain ⟨L6, hL6⟩ : ∃ L6, L6 = L5 ++ [UInt8.ofNat pt'.length] := ⟨_, rfl⟩
          have hl6 : L6.length ≤ L5.length + 1 := by rw [hL6, List.length_append]; exact Nat.le_refl _
          have hI6 : IS w w6 g6 v6 L6 := by rw [hL6]; exact HI5.out.more hq6 ho6 hn6 (by simp) (by simp [bcells, byte_mod])
          have HL6 := Lib.hid hL6
          have HI6 := Lib.hid hI6
          have hb6 := (ho6.block b (by rintro (h | h) <;> omega)).trans HBs.out
          have hbl6 : b < w6.heap.size := (Array.getElem?_eq_some_iff.1 hb6).1
          have hbg6 : b ≠ g6 := by omega
          have HB6 := Lib.hid hb6
          clear hq6 ho6 hn6 hI6 hL6 hb6 c0 c1 HBs
          go_upto_region 15 with fail
          have c0 := cell_of_heap HB6.out 0
          have c1 := cell_of_heap HB6.out 1
          simp only [List.getElem?_toArray, List.getElem?_cons_zero, List.getElem?_cons_succ] at c0 c1
          obtain ⟨cc7, x7, hcv, hx1, hx2, hx3⟩ := conv_bytes w6 pt'
          have HX7 := Lib.hid (HI6.out.later hx1); have HXC := Lib.hid hx3
          have HBs := Lib.hid ((hx1.block b hbl6).trans HB6.out)
          have hbx : b < x7.heap.size := (Array.getElem?_eq_some_iff.1 HBs.out).1
          clear hx1 hx2 hx3
          go_wp2_with (at_builtin; refine wpList_queueSrc rowU8 rfl _ _ rfl rfl HX7.out.row rfl (Src.ofSlice (P := Tryz.prog) _ Tryz.underlying42 ⟨w6.heap.size, 0, none⟩ (pt').length cc7 (bcells pt') (by rw [bcells_length, Nat.mul_one]) HXC.out (bcells_one _)) ?c3 ?_)
          case c3 => omega
          intro v7 w7 g7 hq7 ho7 hn7
          obtain ⟨L7, hL7⟩ : ∃ L7, L7 = L6 ++ pt' := ⟨_, rfl⟩
          have hl7 : L7.length ≤ L6.length + pt'.length := by rw [hL7, List.length_append]; exact Nat.le_refl _
          have hI7 : IS w w7 g7 v7 L7 := by rw [hL7]; exact HX7.out.more hq7 ho7 hn7 (by simp) (by simp [bcells, byte_mod])
          have HL7 := Lib.hid hL7
          have HI7 := Lib.hid hI7
          have hb7 := (ho7.block b (by rintro (h | h) <;> omega)).trans HBs.out
          have hbl7 : b < w7.heap.size := (Array.getElem?_eq_some_iff.1 hb7).1
          have hbg7 : b ≠ g7 := by omega
          have HB7 := Lib.hid hb7
          clear hq7 ho7 hn7 hI7 hL7 hb7 c0 c1 HBs
          clear hcv HXC hbx HX7
          go_upto_region 16 with fail
          have c0 := cell_of_heap HB7.out 0
          have c1 := cell_of_heap HB7.out 1
          simp only [List.getElem?_toArray, List.getElem?_cons_zero, List.getElem?_cons_succ] at c0 c1
          go_wp2_with (at_builtin; refine wpList_queue1 w7 rowU8 rfl _ _ rfl rfl HI7.out.row _ [_] rfl rfl (fun u hu => by simp at hu; subst hu; rfl) ?c3 ?_)
          case c3 => omega
          intro v8 w8 g8 hq8 ho8 hn8
          have HBs := HB7
          obtain ⟨L8, hL8⟩ : ∃ L8, L8 = L7 ++ [UInt8.ofNat px.length] := ⟨_, rfl⟩
          have hl8 : L8.length ≤ L7.length + 1 := by rw [hL8, List.length_append]; exact Nat.le_refl _
          have hI8 : IS w w8 g8 v8 L8 := by rw [hL8]; exact HI7.out.more hq8 ho8 hn8 (by simp) (by simp [bcells, byte_mod])
          have HL8 := Lib.hid hL8
          have HI8 := Lib.hid hI8
          have hb8 := (ho8.block b (by rintro (h | h) <;> omega)).trans HBs.out
          have hbl8 : b < w8.heap.size := (Array.getElem?_eq_some_iff.1 hb8).1
          have hbg8 : b ≠ g8 := by omega
          have HB8 := Lib.hid hb8
          clear hq8 ho8 hn8 hI8 hL8 hb8 c0 c1 HBs
          go_upto_region 17 with fail
          have c0 := cell_of_heap HB8.out 0
          have c1 := cell_of_heap HB8.out 1
          simp only [List.getElem?_toArray, List.getElem?_cons_zero, List.getElem?_cons_succ] at c0 c1
          obtain ⟨cc9, x9, hcv, hx1, hx2, hx3⟩ := conv_bytes w8 px
          have HX9 := Lib.hid (HI8.out.later hx1); have HXC := Lib.hid hx3
          have HBs := Lib.hid ((hx1.block b hbl8).trans HB8.out)
          have hbx : b < x9.heap.size := (Array.getElem?_eq_some_iff.1 HBs.out).1
          clear hx1 hx2 hx3
          go_wp2_with (at_builtin; refine wpList_queueSrc rowU8 rfl _ _ rfl rfl HX9.out.row rfl (Src.ofSlice (P := Tryz.prog) _ Tryz.underlying42 ⟨w8.heap.size, 0, none⟩ (px).length cc9 (bcells px) (by rw [bcells_length, Nat.mul_one]) HXC.out (bcells_one _)) ?c3 ?_)
          case c3 => omega
          intro v9 w9 g9 hq9 ho9 hn9
          obtain ⟨L9, hL9⟩ : ∃ L9, L9 = L8 ++ px := ⟨_, rfl⟩
          have hl9 : L9.length ≤ L8.length + px.length := by rw [hL9, List.length_append]; exact Nat.le_refl _
          have hI9 : IS w w9 g9 v9 L9 := by rw [hL9]; exact HX9.out.more hq9 ho9 hn9 (by simp) (by simp [bcells, byte_mod])
          have HL9 := Lib.hid hL9
          have HI9 := Lib.hid hI9
          have hb9 := (ho9.block b (by rintro (h | h) <;> omega)).trans HBs.out
          have hbl9 : b < w9.heap.size := (Array.getElem?_eq_some_iff.1 hb9).1
          have hbg9 : b ≠ g9 := by omega
          have HB9 := Lib.hid hb9
          clear hq9 ho9 hn9 hI9 hL9 hb9 c0 c1 HBs
          clear hcv HXC hbx HX9
          have HFIN := Lib.hid (show L9 = L10 ++ (TL.take (k + 1)).flatMap thingImg from by rw [HTK.out, HL9.out, HL8.out, HL7.out, HL6.out, HL.out]; simp [thingImg])
          clear HTK HL6 HL7 HL8 HL9 HI5 HI6 HI7 HI8 HB5 HB6 HB7 HB8 HB9
          go_wp2_with fail
          go_roundw
          case rel => exact ⟨k + 1, g9, L9, by omega, by go_num, by omega, HFIN, HI9⟩
          case measure => simp [intOf]; omega
        · obtain rfl : k = TL.length := by omega
          have hfin : L5 = imageOf o WL TL := by rw [HL.out, List.take_length, HL10.out, HL1.out]; rfl
          have HI0 := HI.out
          rw [hfin] at HI0
          have HI0 := Lib.hid HI0
          clear hfin hlt hk
          go_wp2_with fail
          go_ret
          exact ⟨_, _, rfl, HI0.out⟩
end Go.Proofs.YtbfnnlcckpabnaaGreat
