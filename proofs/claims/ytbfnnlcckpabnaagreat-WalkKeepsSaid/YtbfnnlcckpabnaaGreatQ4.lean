import Derived.Test.YtbfnnlcckpabnaaGreatQ1
import Derived.Test.YtbfnnlcckpabnaaGreatRel

/- The specification of layer 7: blocked, Go. -/
namespace Go.Proofs.YtbfnnlcckpabnaaGreat
set_option linter.unusedSimpArgs false
set_option linter.unusedVariables false
open Go.RowKit
open Hy (Lets IsNF Eqv Le)

theorem run_add_str {P : Program} (a b : List UInt8) (h : a.length + b.length ≤ 1000000) (w : World) : (Op.stringOp .add ⟨a.toArray⟩ ⟨b.toArray⟩).run P w = .ok (.string ⟨(a ++ b).toArray⟩) w := by
  have h2 : IntKind.i64.max = 2 ^ 63 - 1 := rfl
  rw [← bytes_add]
  simp only [Op.stringOp, ByteArray.size, List.size_toArray, h2]
  rw [if_neg (by simp; omega)]
  rfl

theorem run_place_is (x : Int) (y : Bool) (w : World) : (Instr.field 93 (.agg #[.int .i64 x, .bool y]) 1).run Tryz.prog w = .ok (.bool y) w := by kernel_rfl

/-- Is there a wall? -/
def blk7 (WL : WallList) (t : List UInt8) (m : Int) : Bool := (wallPlace t m WL 0).2

set_option maxRecDepth 100000 in
set_option maxHeartbeats 4000000 in
theorem r07_blocked {w : World} {mb : Nat} {o : Hy.Ord} (F : Hy.Fine o) (hS : Small o) {WL : WallList} {TL : ThingList} (h : Map7 w mb o WL TL) (hT : WL.length ≤ 1000) {t nx : List UInt8} (ht : IsNF o t t) (hl : Lets t) (hlen : t.length ≤ 900)
    {m : Nat} (hm : m < 3) (hn : IsNF o (t ++ Hy.letter m) nx) :
    Calls Tryz.prog 60 #[.pointer (some ⟨mb, 0, none⟩), str t, .int .i64 m] w fun e w' => e = .returned (.bool (blk7 WL (Hy.nearOf t nx) m)) ∧ Below w.heap.size w w' := by
  have HNEAR := Lib.hid (fun W => r07_Near F hS hl hlen hm ht hn W)
  obtain ⟨vw, vt, hm1, hp1, hp2⟩ := h
  obtain ⟨pw, cw, rfl⟩ := pairs_slice hp1
  have HWALL := Lib.hid (fun W (hW : Below w.heap.size w W) => r07_wallAt (hp1.below hW) (by omega) (Hy.nearOf t nx) (m : Int))
  unfold blk7
  have hmb : mb < w.heap.size := (Array.getElem?_eq_some_iff.1 hm1).1
  have q0 := cell_of_heap hm1 0
  have q1 := cell_of_heap hm1 1
  have q2 := cell_of_heap hm1 2
  have q3 := cell_of_heap hm1 3
  simp at q0 q1 q2 q3
  have l0 := fun (y : Later w) => ((bcell y.h).1 _ _ hmb).trans q0
  have l1 := fun (y : Later w) => ((bcell y.h).1 _ _ hmb).trans q1
  have l2 := fun (y : Later w) => ((bcell y.h).1 _ _ hmb).trans q2
  have l3 := fun (y : Later w) => ((bcell y.h).1 _ _ hmb).trans q3
  generalize Hy.nearOf t nx = nr at *
  clear ht hl hn hm1 hp1 hp2 q0 q1 q2 q3
  unfold ordersV str at *
  by_cases hw : WL = []
  · subst hw
    simp only [List.length_nil] at l3
    go_enter Tryz.func60, Tryz.ntmps60
    go_upto_region 1 with fail
    refine wp_region_later (by kernel_rfl) (by kernel_rfl) ?_
    repeat (go_big_quiet_step (fail))
    refine wpQuiet_nil ?_
    rintro _ ⟨pl, rfl⟩
    go_wp2_with fail
    go_ret
    exact ⟨rfl, pl.h⟩
  · have hpos : 0 < WL.length := by cases WL with | nil => exact absurd rfl hw | cons _ _ => simp
    have hpos2 : (0 : Int) < (WL.length : Int) := by omega
    clear hw
    generalize wallPlace nr (m : Int) WL 0 = pl at *
    obtain ⟨pa, pb⟩ := pl
    simp only at HWALL
    have hfld := fun W => run_place_is pa pb W
    go_enter Tryz.func60, Tryz.ntmps60
    go_upto_region 1 with fail
    refine wp_region_later (by kernel_rfl) (by kernel_rfl) ?_
    repeat (go_big_quiet_step ((first | (go_at_call 38; refine (HNEAR.out _).mono ?_; rintro e w6 ⟨rfl, hB6⟩; exact ⟨rfl, ⟨w6, (Later.h _).trans (hB6.mono (Later.h _).size)⟩, rfl⟩) | (go_at_call 39; refine (HWALL.out _ (Later.h _)).mono ?_; rintro e w7 ⟨rfl, hB7⟩; exact ⟨rfl, ⟨w7, (Later.h _).trans (hB7.mono (Later.h _).size)⟩, rfl⟩))))
    refine wpQuiet_nil ?_
    rintro _ ⟨pl, rfl⟩
    go_wp2_with fail
    go_ret
    exact ⟨rfl, pl.h⟩
end Go.Proofs.YtbfnnlcckpabnaaGreat

/- The specification of layer 7: Go. -/
namespace Go.Proofs.YtbfnnlcckpabnaaGreat
set_option linter.unusedSimpArgs false
set_option linter.unusedVariables false
open Go.RowKit
open Hy (Lets IsNF Eqv Le)

/-- The specification's walk along a word: the letters that are left, how many have been gone, the tile. -/
def go7 (o : Hy.Ord) (wall : Word → Int → Bool) : Word → Nat → Word → Word × Nat
  | [], k, x => (x, k)
  | c :: r, k, x => if wall (Hy.nearOf x (nf7 o (x ++ Hy.letter c.toNat))) (c.toNat : Int) = true then (x, k) else go7 o wall r (k + 1) (nf7 o (x ++ Hy.letter c.toNat))

theorem go7_cons (o : Hy.Ord) (wall : Word → Int → Bool) (c : UInt8) (r : Word) (k : Nat) (x : Word) : go7 o wall (c :: r) k x = if wall (Hy.nearOf x (nf7 o (x ++ Hy.letter c.toNat))) (c.toNat : Int) = true then (x, k) else go7 o wall r (k + 1) (nf7 o (x ++ Hy.letter c.toNat)) := rfl

theorem nf7_step {o : Hy.Ord} (F : Hy.Fine o) {t : Word} (ht : Lets t) (hl : t.length ≤ 900) {c : Nat} (hc : c < 3) : IsNF o (t ++ Hy.letter c) (nf7 o (t ++ Hy.letter c)) ∧ Lets (nf7 o (t ++ Hy.letter c)) ∧ (nf7 o (t ++ Hy.letter c)).length ≤ t.length + 1 ∧ IsNF o (nf7 o (t ++ Hy.letter c)) (nf7 o (t ++ Hy.letter c)) := by
  have hL : Lets (t ++ Hy.letter c) := Lets.app.2 ⟨ht, Hy.lets_letter hc⟩
  have hll : (t ++ Hy.letter c).length = t.length + 1 := by simp [Hy.letter]
  have hN := (nf7_norm F hL (by omega)).2
  exact ⟨hN, (Hy.same_tile F hN.eqv).1.2 hL, by have := hN.len; omega, hN.self⟩

/-- Both walk alike. -/
theorem go_same {o : Hy.Ord} (F : Hy.Fine o) {wall : Word → Int → Bool} {su l : Word} (hsu : Lets su) (hlen : su.length ≤ 60) (hl : Lets l) (hll : l.length ≤ 60) : ∀ (r : Nat) {x : Word} {p : Word × Nat}, Hy.goSteps o 1000 wall su l r x = some p → r ≤ l.length →
    IsNF o (su ++ l.take (l.length - r)) x → go7 o wall (l.drop (l.length - r)) (l.length - r) x = p
  | 0, x, p, h, _, hx => by
    cases h
    simp [go7]
  | r + 1, x, p, h, hr, hx => by
    obtain ⟨_, nx, c, hnx, hc, hcase⟩ := Hy.goSteps_succ h
    obtain ⟨hk, hck⟩ := List.getElem?_eq_some_iff.1 hc
    have hk1 : l.length - r = l.length - (r + 1) + 1 := by omega
    generalize hkk : l.length - (r + 1) = k at *
    have htk : l.take (l.length - r) = l.take k ++ Hy.letter c.toNat := by rw [hk1, Hy.ofNat_toNat, List.take_succ_eq_append_getElem hk, hck]
    have hc3 : c.toNat < 3 := by rw [← hck]; exact hl _ (List.getElem_mem hk)
    have hL : Lets (su ++ l.take (l.length - r)) := Lets.app.2 ⟨hsu, fun c hc => hl c (List.mem_of_mem_take hc)⟩
    have hN := nf7_norm F hL (by simp; omega)
    have hnx2 : nf7 o (su ++ l.take (l.length - r)) = nx := by rw [hN.1] at hnx; exact Option.some.inj hnx
    have hE : Eqv o (su ++ l.take (l.length - r)) (x ++ Hy.letter c.toNat) := by
      rw [htk, ← List.append_assoc]
      exact hx.eqv.symm.right _
    have hxL : Lets x := (Hy.same_tile F hx.eqv).1.2 (Lets.app.2 ⟨hsu, fun c hc => hl c (List.mem_of_mem_take hc)⟩)
    have hxl := hx.len
    have hT : nf7 o (x ++ Hy.letter c.toNat) = nx := by
      refine nf7_eq F (Lets.app.2 ⟨hxL, Hy.lets_letter hc3⟩) (by simp [Hy.letter] at hxl ⊢; omega) ?_
      rw [← hnx2]
      exact hN.2.congr hE
    rw [List.drop_eq_getElem_cons hk, hck]
    unfold go7
    rw [hT]
    rcases hcase with ⟨h1, rfl⟩ | ⟨h1, h2⟩
    · rw [if_pos h1]
    · rw [if_neg (by rw [h1]; simp)]
      have := go_same F hsu hlen hl hll r h2 (by omega) (by rw [← hnx2]; exact hN.2)
      rw [← hk1]
      exact this

set_option maxRecDepth 100000 in
set_option maxHeartbeats 4000000 in
theorem r07_Go {w : World} {mb : Nat} {o : Hy.Ord} (F : Hy.Fine o) (hS : Small o) {WL : WallList} {TL : ThingList} (h : Map7 w mb o WL TL) (hT : WL.length ≤ 1000) {u nu l : List UInt8} (hu : IsNF o u nu) (hul : Lets u) (hulen : u.length ≤ 60) (hl : Lets l) (hll : l.length ≤ 60) :
    Calls Tryz.prog 29 #[.pointer (some ⟨mb, 0, none⟩), str u, str l] w fun e w' => e = .returned (.agg #[str (go7 o (blk7 WL) l 0 nu).1, .int .i64 (go7 o (blk7 WL) l 0 nu).2]) ∧ Below w.heap.size w w' := by
  have HMAP := Lib.hid (fun W (hW : Below w.heap.size w W) => h.below hW)
  have HW0 := Lib.hid (fun W => r03_Word_nf F hS hul (by omega) hu W)
  have HSTEP := Lib.hid (fun (t : List UInt8) (c : UInt8) (hc : c.toNat < 3) (ht : Lets t) (htl : t.length ≤ 900) W => r03_Word_nf F hS (l := t ++ Hy.letter c.toNat) (Lets.app.2 ⟨ht, Hy.lets_letter hc⟩) (by simp [Hy.letter]; omega) (nf7_step F ht htl hc).1 W)
  have HBLK := Lib.hid (fun W (hW : Below w.heap.size w W) (t : List UInt8) (hnt : IsNF o t t) (ht : Lets t) (htl : t.length ≤ 900) (c : Nat) (hc : c < 3) => r07_blocked F hS (h.below hW) hT hnt ht htl hc (nf7_step F ht htl hc).1)
  have HNF := Lib.hid (fun (t : List UInt8) (ht : Lets t) (hl : t.length ≤ 900) (c : Nat) (hc : c < 3) => nf7_step F ht hl hc)
  have HNU := Lib.hid (show Lets nu ∧ nu.length ≤ 60 ∧ IsNF o nu nu from ⟨(Hy.same_tile F hu.eqv).1.2 hul, by have := hu.len; omega, hu.self⟩)
  have HL := Lib.hid hl
  clear h hu hul hl
  unfold ordersV str at *
  go_enter Tryz.func29, Tryz.ntmps29
  go_upto_region 1 with fail
  obtain ⟨W0, hW0⟩ : ∃ W0, w.alloc (.cells #[.string ⟨#[]⟩, .int .i64 0] 71) = W0 := ⟨_, rfl⟩
  have hb0 : W0.heap[w.heap.size]? = some (.cells #[.string ⟨#[]⟩, .int .i64 0] 71 (0, 0)) := by rw [← hW0]; exact alloc_heap_new w _
  have hB0 : Below w.heap.size w W0 := by rw [← hW0]; exact (Below.refl _ _).alloc (Nat.le_refl _) _
  rw [hW0]
  clear hW0
  obtain ⟨vw, vt, hm, _, _⟩ := HMAP.out W0 hB0
  have m0 := cell_of_heap hm 0
  have m1 := cell_of_heap hm 1
  have m2 := cell_of_heap hm 2
  simp at m0 m1 m2
  have hbl : w.heap.size < W0.heap.size := (Array.getElem?_eq_some_iff.1 hb0).1
  have HB0 := Lib.hid hB0; have HBX := Lib.hid hb0
  clear hm hB0 hb0
  go_wp2_with fail
  refine (HW0.out _).mono ?_
  rintro e w1 ⟨rfl, hB1⟩
  have HBX1 := Lib.hid ((hB1.block _ hbl).trans HBX.out)
  have HB1 := Lib.hid (HB0.out.trans (hB1.mono (by omega)))
  clear hB1 m0 m1 m2 HBX HB0 hbl
  go_wp2_with fail
  go_loopw [7, 8] (fun x i wr => ∃ (k : Nat) (t : List UInt8), k ≤ l.length ∧ i = .int .i64 k ∧ x = .string ⟨t.toArray⟩ ∧ Hid (Lets t) ∧ Hid (IsNF o t t) ∧ t.length ≤ 60 + k ∧ Hid (go7 o (blk7 WL) (l.drop k) k t = go7 o (blk7 WL) l 0 nu) ∧ Hid (Below w.heap.size w wr) ∧ Hid (wr.heap[w.heap.size]? = some (.cells #[.string ⟨#[]⟩, .int .i64 0] 71 (0, 0)))) (fun _ i _ => l.length - (intOf i).toNat)
  case atStart => exact ⟨0, nu, Nat.zero_le _, rfl, rfl, HNU.out.1, HNU.out.2.2, by have := HNU.out.2.1; omega, rfl, HB1, HBX1⟩
  case round =>
    obtain ⟨k, t, hk, rfl, rfl, HTL, HTN, htl, HGO, HBr, HXr⟩ := hrel
    have r0 := cell_of_heap HXr.out 0
    have r1 := cell_of_heap HXr.out 1
    have rf0 := free_of_heap HXr.out 0
    have rf1 := free_of_heap HXr.out 1
    have hrl : w.heap.size < wr.heap.size := (Array.getElem?_eq_some_iff.1 HXr.out).1
    simp at r0 r1
    by_cases hlt : k < l.length
    · have hc3 : l[k].toNat < 3 := HL.out _ (List.getElem_mem hlt)
      have hgo := HGO.out
      rw [List.drop_eq_getElem_cons hlt, go7_cons] at hgo
      have hblk := HBLK.out wr HBr.out t HTN.out HTL.out (by omega) l[k].toNat hc3
      have hnf := HNF.out t HTL.out (by omega) l[k].toNat hc3
      have hstep := fun W => HSTEP.out t l[k] hc3 HTL.out (by omega) W
      have hlet : Hy.letter l[k].toNat = [l[k]] := Hy.ofNat_toNat
      have hsl := slice_one l k hlt
      have hidx : ∀ W' : World, (Instr.index 9 (.string ⟨l.toArray⟩) (.int .i64 k)).run Tryz.prog W' = .ok (.int .u8 l[k].toNat) W' := fun W' => run_index_str l k l[k] (List.getElem?_eq_getElem hlt) W'
      have hc256 := l[k].toNat_lt
      have hwr : IntKind.i64.wrap (l[k].toNat : Int) = (l[k].toNat : Int) := IntWalk.i64_in _ (by omega)
      generalize hN : nf7 o (t ++ Hy.letter l[k].toNat) = nx at *
      rw [hlet] at hstep
      have hadd := fun W' => run_add_str (P := Tryz.prog) t [l[k]] (by simp; omega) W'
      generalize hcc : l[k] = c at *
      have HBLKr := Lib.hid hblk; have HNFr := Lib.hid hnf; have HSTr := Lib.hid hstep; have HGOr := Lib.hid hgo
      clear hblk hnf hstep hgo hN hlet HGO
      have hm := HMAP.out wr HBr.out
      have HMr := Lib.hid hm; clear hm
      cases hb : blk7 WL (Hy.nearOf t nx) (c.toNat : Int) with
      | true =>
        rw [hb] at HBLKr
        have HFIN := Lib.hid (show go7 o (blk7 WL) l 0 nu = (t, k) from by rw [← HGOr.out, if_pos hb])
        clear hb HGOr
        go_wp2_with fail
        refine HBLKr.out.mono ?_
        rintro e w3 ⟨rfl, hB3⟩
        have hx3 := (hB3.block _ hrl).trans HXr.out
        have hl3 : w.heap.size < w3.heap.size := (Array.getElem?_eq_some_iff.1 hx3).1
        have q0 := cell_of_heap hx3 0
        have q1 := cell_of_heap hx3 1
        have qf0 := free_of_heap hx3 0
        have qf1 := free_of_heap hx3 1
        simp at q0 q1
        have HB3 := Lib.hid (HBr.out.trans (hB3.mono HBr.out.size))
        clear hB3 hx3 r0 r1 rf0 rf1
        go_wp2_with fail
        refine bodyPost_ret (v := .agg #[.string ⟨t.toArray⟩, .int .i64 k]) (by simp [results, Tryz.results29, go_sem, q0, q1, qf0, qf1, hl3]) rfl ?_
        rw [HFIN.out]
        exact ⟨rfl, (HB3.out.setCell (p := ⟨w.heap.size, 0, none⟩) (Nat.le_refl _) _).setCell (p := ⟨w.heap.size, 1, none⟩) (Nat.le_refl _) _⟩
      | false =>
        rw [hb] at HBLKr
        have HGN := Lib.hid (show go7 o (blk7 WL) (l.drop (k + 1)) (k + 1) nx = go7 o (blk7 WL) l 0 nu from by rw [← HGOr.out, if_neg (by rw [hb]; simp)])
        clear hb HGOr
        go_wp2_with fail
        refine HBLKr.out.mono ?_
        rintro e w3 ⟨rfl, hB3⟩
        have hx3 := (hB3.block _ hrl).trans HXr.out
        have HB3 := Lib.hid (HBr.out.trans (hB3.mono HBr.out.size))
        have HX3 := Lib.hid hx3
        obtain ⟨vw, vt, hm, _, _⟩ := HMAP.out w3 HB3.out
        have hmb : mb < w3.heap.size := (Array.getElem?_eq_some_iff.1 hm).1
        have m0 := cell_of_heap hm 0
        have m1 := cell_of_heap hm 1
        have m2 := cell_of_heap hm 2
        simp at m0 m1 m2
        have l0 := fun (y : Later w3) => ((bcell y.h).1 _ _ hmb).trans m0
        have l1 := fun (y : Later w3) => ((bcell y.h).1 _ _ hmb).trans m1
        have l2 := fun (y : Later w3) => ((bcell y.h).1 _ _ hmb).trans m2
        clear hB3 hx3 r0 r1 rf0 rf1 hm m0 m1 m2
        go_upto_region 7 with fail
        refine wp_region_later (by kernel_rfl) (by kernel_rfl) ?_
        repeat (go_big_quiet_step ((first | (go_at_call 59; refine (HSTr.out _).mono ?_; rintro e w6 ⟨rfl, hB6⟩; exact ⟨rfl, ⟨w6, (Later.h _).trans (hB6.mono (Later.h _).size)⟩, rfl⟩))))
        refine wpQuiet_nil ?_
        rintro _ ⟨pl, rfl⟩
        have HX4 := Lib.hid ((pl.h.block _ (Array.getElem?_eq_some_iff.1 HX3.out).1).trans HX3.out)
        have HB4 := Lib.hid (HB3.out.trans (pl.h.mono HB3.out.size))
        clear l0 l1 l2
        go_wp2_with fail
        go_roundw
        case rel =>
          obtain ⟨n1, n2, n3, n4⟩ := HNFr.out
          exact ⟨k + 1, nx, by omega, by go_num, rfl, n2, n4, by omega, HGN, HB4, HX4⟩
        case measure => simp [intOf]; omega
    · obtain rfl : k = l.length := by omega
      have HFIN := Lib.hid (show go7 o (blk7 WL) l 0 nu = (t, l.length) from by rw [← HGO.out, List.drop_length]; rfl)
      clear HGO hlt hk
      go_wp2_with fail
      refine bodyPost_ret (v := .agg #[.string ⟨t.toArray⟩, .int .i64 l.length]) (by simp [results, Tryz.results29, go_sem, r0, r1, rf0, rf1, hrl]) rfl ?_
      rw [HFIN.out]
      exact ⟨rfl, (HBr.out.setCell (p := ⟨w.heap.size, 0, none⟩) (Nat.le_refl _) _).setCell (p := ⟨w.heap.size, 1, none⟩) (Nat.le_refl _) _⟩
end Go.Proofs.YtbfnnlcckpabnaaGreat
