/- walk.Image. -/
import Derived.Test.YtbfnnlcckpabnaaGreatSo1
import Derived.Test.YtbfnnlcckpabnaaGreatI7
import Derived.Test.YtbfnnlcckpabnaaGreatNear
namespace Go.Proofs.YtbfnnlcckpabnaaGreat
set_option linter.unusedSimpArgs false
set_option linter.unusedVariables false
open Go.RowKit

/-- The image with the walls L and the tiles of things LT, in this order. -/
def imageK (o : Hy.Ord) (n m : Nat) (L : WallList) (LT : List (List UInt8)) (T : Things) : List UInt8 := headImg o ++ countImg n ++ L.flatMap wallImg ++ countImg m ++ LT.flatMap (fun t => thingImg (t, (mlook t T).getD []))

theorem keyRow2_form {N : Nat} {w : World} {v : Value} {L : List (List UInt8 × Int)} (h : KeyRow2 N w v L) : ∃ (p : Option Addr) (cap kg off : Nat), v = .slice p L.length cap ∧ (L ≠ [] → p = some ⟨kg, off, none⟩ ∧ N ≤ kg ∧ kg < w.heap.size) ∧ ∀ (k : Nat) (hk : k < L.length), w.cell? ⟨kg, off + k * 2, none⟩ = some (encW0 L[k]) ∧ w.cell? ⟨kg, off + k * 2 + 1, none⟩ = some (encW1 L[k]) := by
  obtain ⟨p, cap, rfl, hc⟩ := h
  by_cases h0 : L = []
  · subst h0
    exact ⟨p, cap, 0, 0, rfl, fun h => absurd rfl h, fun k hk => by simp at hk⟩
  · have h1 : 0 < L.length := by cases L with | nil => exact absurd rfl h0 | cons _ _ => simp
    obtain ⟨g, off, rfl, e1, e2, _⟩ := hc 0 h1
    refine ⟨_, cap, g, off, rfl, fun _ => ⟨rfl, e1, e2⟩, fun k hk => ?_⟩
    obtain ⟨g', off', e3, _, _, e4, e5⟩ := hc k hk
    simp only [Option.some.injEq, Addr.mk.injEq, and_true] at e3
    obtain ⟨rfl, rfl⟩ := e3
    exact ⟨e4, e5⟩

theorem keyRow1_form {N : Nat} {w : World} {v : Value} {L : List (List UInt8)} (h : KeyRow1 N w v L) : ∃ (p : Option Addr) (cap kg off : Nat), v = .slice p L.length cap ∧ (L ≠ [] → p = some ⟨kg, off, none⟩ ∧ N ≤ kg ∧ kg < w.heap.size) ∧ ∀ (k : Nat) (hk : k < L.length), w.cell? ⟨kg, off + k, none⟩ = some (str L[k]) := by
  obtain ⟨p, cap, rfl, hc⟩ := h
  by_cases h0 : L = []
  · subst h0
    exact ⟨p, cap, 0, 0, rfl, fun h => absurd rfl h, fun k hk => by simp at hk⟩
  · have h1 : 0 < L.length := by cases L with | nil => exact absurd rfl h0 | cons _ _ => simp
    obtain ⟨g, off, rfl, e1, e2, _⟩ := hc 0 h1
    refine ⟨_, cap, g, off, rfl, fun _ => ⟨rfl, e1, e2⟩, fun k hk => ?_⟩
    obtain ⟨g', off', e3, _, _, e4⟩ := hc k hk
    simp only [Option.some.injEq, Addr.mk.injEq, and_true] at e3
    obtain ⟨rfl, rfl⟩ := e3
    exact e4

theorem ne_nil_lt {α : Type} {L : List α} {k : Nat} (h : k < L.length) : L ≠ [] := by
  rintro rfl
  simp at h

theorem look_text {w : World} {o : Hy.Ord} {mb wb tb : Nat} {W : Walls} {T : Things} (h : MRep w o mb wb tb W T) (t : List UInt8) :
    (Instr.lookup 55 (.map (some tb)) (.string ⟨t.toArray⟩) false).run Tryz.prog w = .ok (.string ⟨((mlook t T).getD []).toArray⟩) w := by
  have h1 := h.things.look keys_str Tryz.underlying55 t (zero_string w) false
  simp only [Bool.false_eq_true, if_false] at h1
  refine h1.trans ?_
  cases mlook t T <;> rfl

set_option maxRecDepth 100000 in
set_option maxHeartbeats 8000000 in
theorem walk_Image {w : World} {o : Hy.Ord} {mb wb tb : Nat} {W : Walls} {T : Things} (h : MRep w o mb wb tb W T) (hS : Small o) (hkW : (W.map (·.1)).Nodup) (hkT : (T.map (·.1)).Nodup) (hn : W.length ≤ 1000) (hnT : T.length ≤ 1000) (hl : ∀ p ∈ W, p.1.1.length ≤ 1000 ∧ 0 ≤ p.1.2) (hlT : ∀ p ∈ T, p.1.length ≤ 1000 ∧ p.2.length ≤ 1000) :
    Calls Tryz.prog 13 #[.pointer (some ⟨mb, 0, none⟩)] w fun e w' => ∃ v g L LT, e = .returned v ∧ L.Perm (W.map (·.1)) ∧ L.Pairwise (fun x y => before y x = false) ∧ LT.Perm (T.map (·.1)) ∧ LT.Pairwise (fun x y => aheadW y x = false) ∧ IS w w' g v (imageK o W.length T.length L LT T) := by
  have HM := Lib.hid (fun W' (hb : Below w.heap.size w W') => h.grow hb)
  have HSID := Lib.hid (fun W' (hm : MRep W' o mb wb tb W T) => walk_sides hm hkW hn (fun p hp => (hl p hp).1))
  have HTIL := Lib.hid (fun W' (hm : MRep W' o mb wb tb W T) => walk_tiles hm hkT hnT (fun p hp => (hlT p hp).1))
  have HL0 := Lib.hid hl; have HLT0 := Lib.hid hlT
  have hmb := h.lt.1
  have m0 : w.cell? ⟨mb, 0, none⟩ = some (.int .i64 o.m01) := cell_of_heap h.cells 0
  have m1 : w.cell? ⟨mb, 1, none⟩ = some (.int .i64 o.m12) := cell_of_heap h.cells 1
  have m2 : w.cell? ⟨mb, 2, none⟩ = some (.int .i64 o.m02) := cell_of_heap h.cells 2
  have m3 : w.cell? ⟨mb, 3, none⟩ = some (.bool true) := cell_of_heap h.cells 3
  have m4 : w.cell? ⟨mb, 4, none⟩ = some (.map (some wb)) := cell_of_heap h.cells 4
  have m5 : w.cell? ⟨mb, 5, none⟩ = some (.map (some tb)) := cell_of_heap h.cells 5
  have hlenW := fun (y : Later w) ty => (h.grow y.h).walls.len (P := Tryz.prog) Tryz.underlying54 ty
  have HNONE := Lib.hid ((walk_none_some mb true w m3).mono fun e w' hp => And.intro hp.1 hp.2.symm)
  clear h hl hlT hkW hkT
  go_enter Tryz.func13, Tryz.ntmps13
  go_wp2_with fail
  refine HNONE.out.mono ?_
  rintro e w1 ⟨rfl, rfl⟩
  go_upto_region 3 with fail
  have l0 := fun (y : Later w1) => ((bcell y.h).1 _ _ hmb).trans m0
  have l1 := fun (y : Later w1) => ((bcell y.h).1 _ _ hmb).trans m1
  have l2 := fun (y : Later w1) => ((bcell y.h).1 _ _ hmb).trans m2
  have l4 := fun (y : Later w1) => ((bcell y.h).1 _ _ hmb).trans m4
  refine wp_region_loads 31 31 (fun w' => ∃ y : Later w1, w' = y.W) ⟨⟨w1.drew, (Below.refl _ _).drew⟩, rfl⟩ (by kernel_rfl) (by kernel_rfl) ?_
  simp only [List.take_succ_cons, List.take_zero, List.drop_succ_cons, List.drop_zero]
  repeat (go_big_quiet_step (fail))
  refine wpQuiet_nil ?_
  refine wpG_nil ?_
  clear l0 l1 l2 l4 hlenW
  go_upto_region 4 with fail
  obtain ⟨w2, hw2⟩ : ∃ w2, (w1.alloc (.cells #[.int .u8 ((o.m01 : Int) % 256), .int .u8 ((o.m12 : Int) % 256), .int .u8 ((o.m02 : Int) % 256), .int .u8 ((W.length : Int) / 256), .int .u8 ((W.length : Int) % 256)] 5)).drew = w2 := ⟨_, rfl⟩
  have hI2 : IS w1 w2 w1.heap.size (.slice (some ⟨w1.heap.size, 0, none⟩) 5 5) (headImg o ++ countImg W.length) := by
    have hq := QRow.new w1 [.int .u8 ((o.m01 : Int) % 256), .int .u8 ((o.m12 : Int) % 256), .int .u8 ((o.m02 : Int) % 256), .int .u8 ((W.length : Int) / 256), .int .u8 ((W.length : Int) % 256)] 5 1 5 rfl (by unfold maxLen; omega)
    have hb : bcells (headImg o ++ countImg W.length) = [.int .u8 ((o.m01 : Int) % 256), .int .u8 ((o.m12 : Int) % 256), .int .u8 ((o.m02 : Int) % 256), .int .u8 ((W.length : Int) / 256), .int .u8 ((W.length : Int) % 256)] := by
      have h1 : (((W.length / 256 : Nat) : Int) % 256) = (W.length : Int) / 256 := by omega
      have h2 : (((W.length % 256 : Nat) : Int) % 256) = (W.length : Int) % 256 := by omega
      simp only [bcells, headImg, countImg, List.map_append, List.map_cons, List.map_nil, byte_mod, List.cons_append, List.nil_append, h1, h2]
    have hI : IS w1 (w1.alloc (.cells #[.int .u8 ((o.m01 : Int) % 256), .int .u8 ((o.m12 : Int) % 256), .int .u8 ((o.m02 : Int) % 256), .int .u8 ((W.length : Int) / 256), .int .u8 ((W.length : Int) % 256)] 5)) w1.heap.size (.slice (some ⟨w1.heap.size, 0, none⟩) 5 5) (headImg o ++ countImg W.length) :=
      ⟨by rw [hb]; exact hq, Nat.le_refl _, (Below.refl _ _).alloc (Nat.le_refl _) _⟩
    rw [← hw2]
    exact hI.later (Below.refl _ _).drew
  rw [hw2]
  have hbig : w1.heap.size < w2.heap.size := hI2.row.lt
  have HI2 := Lib.hid hI2
  clear hI2 hw2
  go_wp2_with fail
  refine (HSID.out _ (HM.out _ HI2.out.below)).mono ?_
  rintro e w3 ⟨v3, L, rfl, p1, p2, p3, p4⟩
  obtain ⟨pa, kcap, kg, off, rfl, hp, hc⟩ := keyRow2_form p3
  have HI3 := Lib.hid (HI2.out.later p4)
  have HP1 := Lib.hid p1; have HP2 := Lib.hid p2; have HP := Lib.hid hp; have HC := Lib.hid hc
  have hLl : L.length ≤ 1000 := by have := p1.length_eq; simp at this; omega
  clear p1 p2 p3 p4 hp hc HI2 HSID
  go_wp2_with fail
  go_loopw [3, 45] (fun v i wr => ∃ (k g : Nat) (L5 : List UInt8), k ≤ L.length ∧ i = .int .i64 k ∧ L5.length ≤ 10 + 1010 * k ∧ Hid (L5 = headImg o ++ countImg W.length ++ (L.take k).flatMap wallImg) ∧ Hid (IS w1 wr g v L5) ∧ Hid (L ≠ [] → kg ≠ g ∧ kg < wr.heap.size ∧ wr.heap[kg]? = w3.heap[kg]?)) (fun _ i _ => L.length - (intOf i).toNat)
  case atStart => exact ⟨0, w1.heap.size, headImg o ++ countImg W.length, Nat.zero_le _, rfl, by simp [headImg, countImg], by rw [List.take_zero, List.flatMap_nil, List.append_nil]; exact rfl, HI3.out, fun h => ⟨by have := (HP.out h).2.1; omega, (HP.out h).2.2, rfl⟩⟩
  case round =>
    obtain ⟨k, g, L5, hk, rfl, hl5, HL, HI, HK⟩ := hrel
    by_cases hlt : k < L.length
    · obtain ⟨hkg, hkl, hkb⟩ := HK.out (ne_nil_lt hlt)
      obtain ⟨rfl, hkN, _⟩ := HP.out (ne_nil_lt hlt)
      have e0 := (World.cell?_of_block (w := w3) (w' := wr) (a := ⟨kg, off + k * 2, none⟩) hkb).trans (HC.out k hlt).1
      have e1 := (World.cell?_of_block (w := w3) (w' := wr) (a := ⟨kg, off + k * 2 + 1, none⟩) hkb).trans (HC.out k hlt).2
      simp only [encW0, encW1, str] at e0 e1
      have hmem : L[k] ∈ W.map (·.1) := HP1.out.mem_iff.1 (List.getElem_mem hlt)
      obtain ⟨hwl, hwm⟩ : L[k].1.length ≤ 1000 ∧ 0 ≤ L[k].2 := by obtain ⟨q, hq, hqe⟩ := List.mem_map.1 hmem; rw [← hqe]; exact HL0.out q hq
      have htk : (L.take (k + 1)).flatMap wallImg = (L.take k).flatMap wallImg ++ wallImg L[k] := by rw [List.take_succ_eq_append_getElem hlt, List.flatMap_append]; simp
      generalize L[k] = p at *
      obtain ⟨pt', pm⟩ := p
      simp only at hwl hwm e0 e1
      have HTK := Lib.hid htk
      have HWM := Lib.hid hwm
      clear htk hwm hmem
      go_upto_region 7 with fail
      obtain ⟨w5, hw5⟩ : ∃ w5, wr.alloc (.cells #[.string ⟨pt'.toArray⟩, .int .i64 pm] 64) = w5 := ⟨_, rfl⟩
      have hb5 : w5.heap[wr.heap.size]? = some (.cells #[.string ⟨pt'.toArray⟩, .int .i64 pm] 64 (0, 0)) := by rw [← hw5]; exact alloc_heap_new wr _
      have hI5 : IS w1 w5 g u3 L5 := HI.out.later (by rw [← hw5]; exact (Below.refl _ _).alloc (Nat.le_refl _) _)
      have HKB5 := Lib.hid (show w5.heap[kg]? = w3.heap[kg]? from by rw [← hw5]; exact (heap_alloc_lt _ _ hkl).trans hkb)
      have hkl5 : kg < w5.heap.size := by rw [← hw5]; simp; omega
      rw [hw5]
      obtain ⟨g5, hg5⟩ : ∃ g5, g5 = g := ⟨_, rfl⟩
      subst hg5
      have hkg5 : kg ≠ g5 := hkg
      have HI5 := Lib.hid hI5; have HB5 := Lib.hid hb5
      have hbg5 : wr.heap.size ≠ g5 := by have := HI.out.row.lt; omega
      have hbl5 : wr.heap.size < w5.heap.size := (Array.getElem?_eq_some_iff.1 hb5).1
      generalize wr.heap.size = b at *
      clear hI5 hb5 hw5 e0 e1 hkb hkl hkg
      have c0 := cell_of_heap HB5.out 0
      have c1 := cell_of_heap HB5.out 1
      simp only [List.getElem?_toArray, List.getElem?_cons_zero, List.getElem?_cons_succ] at c0 c1
      go_wp2_with (at_builtin; refine wpList_queue1 w5 rowU8 rfl _ _ rfl rfl HI5.out.row _ [_] rfl rfl (fun u hu => by simp at hu; subst hu; rfl) ?c3 ?_)
      case c3 => omega
      intro v6 w6 g6 hq6 ho6 hn6
      obtain ⟨L6, hL6⟩ : ∃ L6, L6 = L5 ++ [UInt8.ofNat pt'.length] := ⟨_, rfl⟩
      have hl6 : L6.length ≤ L5.length + 1 := by rw [hL6, List.length_append]; exact Nat.le_refl _
      have hI6 : IS w1 w6 g6 v6 L6 := by rw [hL6]; exact HI5.out.more hq6 ho6 hn6 (by simp [ByteArray.size]) (by simp [bcells, byte_mod, byteCells])
      have HL6 := Lib.hid hL6
      have HI6 := Lib.hid hI6
      have hkb6 := (ho6.block kg (by rintro (h | h) <;> omega)).trans HKB5.out
      have hkl6 : kg < w6.heap.size := Nat.lt_of_lt_of_le hkl5 ho6.size
      have hkg6 : kg ≠ g6 := by omega
      have HKB6 := Lib.hid hkb6
      have hb6 := (ho6.block b (by rintro (h | h) <;> omega)).trans HB5.out
      have hbl6 : b < w6.heap.size := (Array.getElem?_eq_some_iff.1 hb6).1
      have hbg6 : b ≠ g6 := by omega
      have HB6 := Lib.hid hb6
      clear hb6
      clear hq6 ho6 hn6 hI6 hL6 hkb6
      clear c0 c1
      go_upto_region 8 with fail
      have c0 := cell_of_heap HB6.out 0
      have c1 := cell_of_heap HB6.out 1
      simp only [List.getElem?_toArray, List.getElem?_cons_zero, List.getElem?_cons_succ] at c0 c1
      go_wp2_with (at_builtin; refine wpList_queueSrc rowU8 rfl _ _ rfl rfl HI6.out.row rfl (Src.ofString (P := Tryz.prog) _ Tryz.underlying9 ⟨(pt').toArray⟩) ?c3 ?_)
      case c3 => simp [ByteArray.size]; omega
      intro v7 w7 g7 hq7 ho7 hn7
      obtain ⟨L7, hL7⟩ : ∃ L7, L7 = L6 ++ pt' := ⟨_, rfl⟩
      have hl7 : L7.length ≤ L6.length + pt'.length := by rw [hL7, List.length_append]; exact Nat.le_refl _
      have hI7 : IS w1 w7 g7 v7 L7 := by rw [hL7]; exact HI6.out.more hq7 ho7 hn7 (by simp [ByteArray.size]) (by simp [bcells, byte_mod, byteCells])
      have HL7 := Lib.hid hL7
      have HI7 := Lib.hid hI7
      have hkb7 := (ho7.block kg (by rintro (h | h) <;> omega)).trans HKB6.out
      have hkl7 : kg < w7.heap.size := Nat.lt_of_lt_of_le hkl6 ho7.size
      have hkg7 : kg ≠ g7 := by omega
      have HKB7 := Lib.hid hkb7
      have hb7 := (ho7.block b (by rintro (h | h) <;> omega)).trans HB6.out
      have hbl7 : b < w7.heap.size := (Array.getElem?_eq_some_iff.1 hb7).1
      have hbg7 : b ≠ g7 := by omega
      have HB7 := Lib.hid hb7
      clear hb7
      clear hq7 ho7 hn7 hI7 hL7 hkb7
      clear c0 c1
      go_upto_region 9 with fail
      obtain ⟨pn, hpn⟩ : ∃ pn : Nat, pm = (pn : Int) := ⟨pm.toNat, by have := HWM.out; omega⟩
      subst hpn
      have c0 := cell_of_heap HB7.out 0
      have c1 := cell_of_heap HB7.out 1
      simp only [List.getElem?_toArray, List.getElem?_cons_zero, List.getElem?_cons_succ] at c0 c1
      go_wp2_with (at_builtin; refine wpList_queue1 w7 rowU8 rfl _ _ rfl rfl HI7.out.row _ [_] rfl rfl (fun u hu => by simp at hu; subst hu; rfl) ?c3 ?_)
      case c3 => omega
      intro v8 w8 g8 hq8 ho8 hn8
      obtain ⟨L8, hL8⟩ : ∃ L8, L8 = L7 ++ [UInt8.ofNat pn] := ⟨_, rfl⟩
      have hl8 : L8.length ≤ L7.length + 1 := by rw [hL8, List.length_append]; exact Nat.le_refl _
      have hI8 : IS w1 w8 g8 v8 L8 := by rw [hL8]; exact HI7.out.more hq8 ho8 hn8 (by simp [ByteArray.size]) (by simp [bcells, byte_mod, byteCells])
      have HL8 := Lib.hid hL8
      have HI8 := Lib.hid hI8
      have hkb8 := (ho8.block kg (by rintro (h | h) <;> omega)).trans HKB7.out
      have hkl8 : kg < w8.heap.size := Nat.lt_of_lt_of_le hkl7 ho8.size
      have hkg8 : kg ≠ g8 := by omega
      have HKB8 := Lib.hid hkb8
      have hb8 := (ho8.block b (by rintro (h | h) <;> omega)).trans HB7.out
      have hbl8 : b < w8.heap.size := (Array.getElem?_eq_some_iff.1 hb8).1
      have hbg8 : b ≠ g8 := by omega
      have HB8 := Lib.hid hb8
      clear hb8
      clear hq8 ho8 hn8 hI8 hL8 hkb8
      clear c0 c1
      have HFIN := Lib.hid (show L8 = headImg o ++ countImg W.length ++ (L.take (k + 1)).flatMap wallImg from by rw [HTK.out, HL8.out, HL7.out, HL6.out, HL.out]; simp [wallImg])
      clear HTK HL6 HL7 HL8 HI5 HI6 HI7 HB5 HB6 HB7 HB8 HKB5 HKB6 HKB7
      go_wp2_with fail
      go_roundw
      case rel => exact ⟨k + 1, g8, L8, by omega, by go_num, by omega, HFIN, HI8, fun _ => ⟨hkg8, hkl8, HKB8.out⟩⟩
      case measure => simp [intOf]; omega
    · obtain rfl : k = L.length := by omega
      have hL1 := HL.out
      rw [List.take_length] at hL1
      have HL1 := Lib.hid hL1
      clear hL1 HL hlt hk HK HP HC
      go_upto_region 11 with fail
      have HBr := HI.out.below
      have l0 := fun (y : Later wr) => ((bcell (HBr.trans (y.h.mono HBr.size))).1 mb 5 hmb).trans m5
      have hlenT := fun (y : Later wr) ty => (HM.out y.W (HBr.trans (y.h.mono HBr.size))).things.len (P := Tryz.prog) Tryz.underlying55 ty
      have HBR := Lib.hid HBr; clear HBr
      have hlv : ∃ o1 c1, u3 = .slice (some ⟨g, o1, none⟩) L5.length c1 := by obtain ⟨o1, c1, h, _⟩ := HI.out.row; exact ⟨o1, c1, h⟩
      obtain ⟨o1, cx, rfl⟩ := hlv
      refine wp_region_loads 14 15 (fun w' => ∃ y : Later wr, w' = y.W) ⟨⟨wr.drew, (Below.refl _ _).drew⟩, rfl⟩ (by kernel_rfl) (by kernel_rfl) ?_
      simp only [List.take_succ_cons, List.take_zero, List.drop_succ_cons, List.drop_zero]
      repeat (go_big_quiet_step (fail))
      refine wpQuiet_nil ?_
      clear l0 hlenT
      refine wpG_step ?_
      intro K2 hK2
      go_wp2_with fail
      refine ⟨⟨⟨_, ((Below.refl _ _).alloc (Nat.le_refl _) _).drew⟩, rfl⟩, hK2 _ _ ?_⟩
      clear hK2
      refine wpG_nil ?_
      obtain ⟨W9, hW9⟩ : ∃ W9, (wr.alloc (.cells #[.int .u8 ((T.length : Int) / 256), .int .u8 ((T.length : Int) % 256)] 5)).drew = W9 := ⟨_, rfl⟩
      have hc9 : ∀ (j : Nat) (u : Value), [Value.int .u8 ((T.length : Int) / 256), Value.int .u8 ((T.length : Int) % 256)][j]? = some u → W9.cell? ((⟨wr.heap.size, 0, none⟩ : Addr).add j) = some u := fun j u hj => by rw [← hW9]; exact new_cells (news := [Value.int .u8 ((T.length : Int) / 256), Value.int .u8 ((T.length : Int) % 256)]) j u hj
      have hI9 : IS w1 W9 g (.slice (some ⟨g, o1, none⟩) L5.length cx) L5 := HI.out.later (by rw [← hW9]; exact ((Below.refl _ _).alloc (Nat.le_refl _) _).drew)
      rw [hW9]
      clear hW9
      have HI9 := Lib.hid hI9; have HC9 := Lib.hid hc9
      clear hI9 hc9
      go_wp2_with (at_builtin; refine wpList_queueSrc rowU8 rfl _ _ rfl rfl HI9.out.row rfl (Src.ofSlice (P := Tryz.prog) _ Tryz.underlying42 ⟨wr.heap.size, 0, none⟩ 2 2 [Value.int .u8 ((T.length : Int) / 256), Value.int .u8 ((T.length : Int) % 256)] rfl HC9.out (fun u hu => by simp at hu; rcases hu with rfl | rfl <;> rfl)) ?c3 ?_)
      case c3 => omega
      intro v10 w10 g10 hq10 ho10 hn10
      have hb10 : bcells (countImg T.length) = [.int .u8 ((T.length : Int) / 256), .int .u8 ((T.length : Int) % 256)] := by
        have h1 : (((T.length / 256 : Nat) : Int) % 256) = (T.length : Int) / 256 := by omega
        have h2 : (((T.length % 256 : Nat) : Int) % 256) = (T.length : Int) % 256 := by omega
        simp only [bcells, countImg, List.map_cons, List.map_nil, byte_mod, h1, h2]
      have hI10 : IS w1 w10 g10 v10 (L5 ++ countImg T.length) := HI9.out.more hq10 ho10 hn10 (by simp [countImg]) (by rw [hb10])
      obtain ⟨L10, hL10⟩ : ∃ L10, L10 = L5 ++ countImg T.length := ⟨_, rfl⟩
      have hl10 : L10.length ≤ L5.length + 2 := by rw [hL10, List.length_append]; exact Nat.le_refl _
      rw [← hL10] at hI10
      have HL10 := Lib.hid hL10; have HI10 := Lib.hid hI10
      have hg10 : g10 < w10.heap.size := hI10.row.lt
      clear hq10 ho10 hn10 hb10 hI10 hL10 HI9 HC9 HI HI3
      go_wp2_with fail
      refine (HTIL.out _ (HM.out _ HI10.out.below)).mono ?_
      rintro e w11 ⟨v11, LT, rfl, p1, p2, p3, p4⟩
      obtain ⟨pb, kcap2, kg, off2, rfl, hp, hc⟩ := keyRow1_form p3
      have HI11 := Lib.hid (HI10.out.later p4)
      have HQ1 := Lib.hid p1; have HQ2 := Lib.hid p2; have HP := Lib.hid hp; have HC := Lib.hid hc
      have hLTl : LT.length ≤ 1000 := by have := p1.length_eq; simp at this; omega
      clear p1 p2 p3 p4 hp hc HI10 HTIL
      go_wp2_with fail
      go_loopw [3, 86] (fun v i wr => ∃ (k g : Nat) (L5 : List UInt8), k ≤ LT.length ∧ i = .int .i64 k ∧ L5.length ≤ 1100000 + 2010 * k ∧ Hid (L5 = L10 ++ (LT.take k).flatMap (fun t => thingImg (t, (mlook t T).getD []))) ∧ Hid (IS w1 wr g v L5) ∧ Hid (LT ≠ [] → kg ≠ g ∧ kg < wr.heap.size ∧ wr.heap[kg]? = w11.heap[kg]?)) (fun _ i _ => LT.length - (intOf i).toNat)
      case atStart => exact ⟨0, g10, L10, Nat.zero_le _, rfl, by omega, by rw [List.take_zero, List.flatMap_nil, List.append_nil]; exact rfl, HI11.out, fun h => ⟨by have := (HP.out h).2.1; omega, (HP.out h).2.2, rfl⟩⟩
      case round =>
        obtain ⟨k, g, L5, hk, rfl, hl5, HL, HI, HK⟩ := hrel
        by_cases hlt : k < LT.length
        · obtain ⟨hkg, hkl, hkb⟩ := HK.out (ne_nil_lt hlt)
          obtain ⟨rfl, hkN, _⟩ := HP.out (ne_nil_lt hlt)
          have e0 := (World.cell?_of_block (w := w11) (w' := wr) (a := ⟨kg, off2 + k, none⟩) hkb).trans (HC.out k hlt)
          simp only [str] at e0
          have hmem : LT[k] ∈ T.map (·.1) := HQ1.out.mem_iff.1 (List.getElem_mem hlt)
          have hwl : LT[k].length ≤ 1000 := by obtain ⟨q, hq, hqe⟩ := List.mem_map.1 hmem; rw [← hqe]; exact (HLT0.out q hq).1
          have htk : (LT.take (k + 1)).flatMap (fun t => thingImg (t, (mlook t T).getD [])) = (LT.take k).flatMap (fun t => thingImg (t, (mlook t T).getD [])) ++ thingImg (LT[k], (mlook LT[k] T).getD []) := by rw [List.take_succ_eq_append_getElem hlt, List.flatMap_append]; simp
          generalize LT[k] = pt' at *
          obtain ⟨tx, htx⟩ : ∃ tx, tx = (mlook pt' T).getD [] := ⟨_, rfl⟩
          have hxl : tx.length ≤ 1000 := by
            rw [htx]
            cases hm : mlook pt' T with
            | none => simp
            | some x => exact (HLT0.out _ (mlook_mem hm)).2
          have HLK := Lib.hid (fun W' hm => (look_text (w := W') (T := T) (W := W) (o := o) (mb := mb) (wb := wb) (tb := tb) hm pt'))
          rw [← htx] at htk HLK
          have HTK := Lib.hid htk
          clear htk hmem htx
          go_upto_region 15 with fail
          obtain ⟨g5, hg5⟩ : ∃ g5, g5 = g := ⟨_, rfl⟩
          subst hg5
          obtain ⟨w5, hw5⟩ : ∃ w5, w5 = wr := ⟨_, rfl⟩
          subst hw5
          have HI5 := HI; have HKB5 := Lib.hid hkb; have hkl5 := hkl; have hkg5 := hkg
          clear HI hkb hkl hkg e0
          go_wp2_with (at_builtin; refine wpList_queue1 w5 rowU8 rfl _ _ rfl rfl HI5.out.row _ [_] rfl rfl (fun u hu => by simp at hu; subst hu; rfl) ?c3 ?_)
          case c3 => omega
          intro v6 w6 g6 hq6 ho6 hn6
          obtain ⟨L6, hL6⟩ : ∃ L6, L6 = L5 ++ [UInt8.ofNat pt'.length] := ⟨_, rfl⟩
          have hl6 : L6.length ≤ L5.length + 1 := by rw [hL6, List.length_append]; exact Nat.le_refl _
          have hI6 : IS w1 w6 g6 v6 L6 := by rw [hL6]; exact HI5.out.more hq6 ho6 hn6 (by simp [ByteArray.size]) (by simp [bcells, byte_mod, byteCells])
          have HL6 := Lib.hid hL6
          have HI6 := Lib.hid hI6
          have hkb6 := (ho6.block kg (by rintro (h | h) <;> omega)).trans HKB5.out
          have hkl6 : kg < w6.heap.size := Nat.lt_of_lt_of_le hkl5 ho6.size
          have hkg6 : kg ≠ g6 := by omega
          have HKB6 := Lib.hid hkb6
          clear hq6 ho6 hn6 hI6 hL6 hkb6
          go_upto_region 16 with fail
          go_wp2_with (at_builtin; refine wpList_queueSrc rowU8 rfl _ _ rfl rfl HI6.out.row rfl (Src.ofString (P := Tryz.prog) _ Tryz.underlying9 ⟨(pt').toArray⟩) ?c3 ?_)
          case c3 => simp [ByteArray.size]; omega
          intro v7 w7 g7 hq7 ho7 hn7
          obtain ⟨L7, hL7⟩ : ∃ L7, L7 = L6 ++ pt' := ⟨_, rfl⟩
          have hl7 : L7.length ≤ L6.length + pt'.length := by rw [hL7, List.length_append]; exact Nat.le_refl _
          have hI7 : IS w1 w7 g7 v7 L7 := by rw [hL7]; exact HI6.out.more hq7 ho7 hn7 (by simp [ByteArray.size]) (by simp [bcells, byte_mod, byteCells])
          have HL7 := Lib.hid hL7
          have HI7 := Lib.hid hI7
          have hkb7 := (ho7.block kg (by rintro (h | h) <;> omega)).trans HKB6.out
          have hkl7 : kg < w7.heap.size := Nat.lt_of_lt_of_le hkl6 ho7.size
          have hkg7 : kg ≠ g7 := by omega
          have HKB7 := Lib.hid hkb7
          clear hq7 ho7 hn7 hI7 hL7 hkb7
          go_upto_region 17 with fail
          have q5 := ((bcell HI7.out.below).1 mb 5 hmb).trans m5
          have hlk := HLK.out w7 (HM.out w7 HI7.out.below)
          go_wp2_with (at_builtin; refine wpList_queue1 w7 rowU8 rfl _ _ rfl rfl HI7.out.row _ [_] rfl rfl (fun u hu => by simp at hu; subst hu; rfl) ?c3 ?_)
          case c3 => omega
          intro v8 w8 g8 hq8 ho8 hn8
          obtain ⟨L8, hL8⟩ : ∃ L8, L8 = L7 ++ [UInt8.ofNat tx.length] := ⟨_, rfl⟩
          have hl8 : L8.length ≤ L7.length + 1 := by rw [hL8, List.length_append]; exact Nat.le_refl _
          have hI8 : IS w1 w8 g8 v8 L8 := by rw [hL8]; exact HI7.out.more hq8 ho8 hn8 (by simp [ByteArray.size]) (by simp [bcells, byte_mod, byteCells])
          have HL8 := Lib.hid hL8
          have HI8 := Lib.hid hI8
          have hkb8 := (ho8.block kg (by rintro (h | h) <;> omega)).trans HKB7.out
          have hkl8 : kg < w8.heap.size := Nat.lt_of_lt_of_le hkl7 ho8.size
          have hkg8 : kg ≠ g8 := by omega
          have HKB8 := Lib.hid hkb8
          clear hq8 ho8 hn8 hI8 hL8 hkb8
          clear q5 hlk
          go_upto_region 18 with fail
          have q5 := ((bcell HI8.out.below).1 mb 5 hmb).trans m5
          have hlk := HLK.out w8 (HM.out w8 HI8.out.below)
          go_wp2_with (at_builtin; refine wpList_queueSrc rowU8 rfl _ _ rfl rfl HI8.out.row rfl (Src.ofString (P := Tryz.prog) _ Tryz.underlying9 ⟨(tx).toArray⟩) ?c3 ?_)
          case c3 => simp [ByteArray.size]; omega
          intro v9 w9 g9 hq9 ho9 hn9
          obtain ⟨L9, hL9⟩ : ∃ L9, L9 = L8 ++ tx := ⟨_, rfl⟩
          have hl9 : L9.length ≤ L8.length + tx.length := by rw [hL9, List.length_append]; exact Nat.le_refl _
          have hI9 : IS w1 w9 g9 v9 L9 := by rw [hL9]; exact HI8.out.more hq9 ho9 hn9 (by simp [ByteArray.size]) (by simp [bcells, byte_mod, byteCells])
          have HL9 := Lib.hid hL9
          have HI9 := Lib.hid hI9
          have hkb9 := (ho9.block kg (by rintro (h | h) <;> omega)).trans HKB8.out
          have hkl9 : kg < w9.heap.size := Nat.lt_of_lt_of_le hkl8 ho9.size
          have hkg9 : kg ≠ g9 := by omega
          have HKB9 := Lib.hid hkb9
          clear hq9 ho9 hn9 hI9 hL9 hkb9
          clear q5 hlk
          have HFIN := Lib.hid (show L9 = L10 ++ (LT.take (k + 1)).flatMap (fun t => thingImg (t, (mlook t T).getD [])) from by rw [HTK.out, HL9.out, HL8.out, HL7.out, HL6.out, HL.out]; simp [thingImg])
          clear HTK HL6 HL7 HL8 HL9 HI5 HI6 HI7 HI8 HKB5 HKB6 HKB7 HKB8
          go_wp2_with fail
          go_roundw
          case rel => exact ⟨k + 1, g9, L9, by omega, by go_num, by omega, HFIN, HI9, fun _ => ⟨hkg9, hkl9, HKB9.out⟩⟩
          case measure => simp [intOf]; omega
        · obtain rfl : k = LT.length := by omega
          have hfin : L5 = imageK o W.length T.length L LT T := by rw [HL.out, List.take_length, HL10.out, HL1.out]; rfl
          have HI0 := HI.out
          rw [hfin] at HI0
          have HI0 := Lib.hid HI0
          clear hfin hlt hk HK
          go_wp2_with fail
          go_ret
          exact ⟨_, _, L, LT, rfl, HP1.out, HP2.out, HQ1.out, HQ2.out, HI0.out⟩
end Go.Proofs.YtbfnnlcckpabnaaGreat
