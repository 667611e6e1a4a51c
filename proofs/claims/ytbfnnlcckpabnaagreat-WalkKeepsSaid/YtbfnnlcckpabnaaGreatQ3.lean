/- The specification of layer 7: the calls of PutWall that are refused; Put. -/
import Derived.Test.YtbfnnlcckpabnaaGreatQ1
import Derived.Test.YtbfnnlcckpabnaaGreatRow
namespace Go.Proofs.YtbfnnlcckpabnaaGreat
set_option linter.unusedSimpArgs false
set_option linter.unusedVariables false
open Go.RowKit
open Hy (Lets IsNF Eqv Le)

set_option maxRecDepth 100000 in
set_option maxHeartbeats 1000000 in
theorem r07_PutWall_badWord {w : World} {mb : Nat} {tile : List UInt8} (hl : tile.length ≤ 9223372036854775807) (hz : Hy.wordErr tile ≠ 0) (m : Int) (there : Bool) :
    Calls Tryz.prog 26 #[.pointer (some ⟨mb, 0, none⟩), .agg #[str tile, .int .i64 m], .bool there] w fun e w' => e = .returned (.int .i64 (Hy.wordErr tile)) ∧ Below w.heap.size w w' := by
  have HCW := Lib.hid (fun W => r03_CheckWord tile W hl)
  have hne : (Hy.wordErr tile != 0) = true := by rw [bne_iff_ne]; exact hz
  generalize Hy.wordErr tile = er at *
  clear hz
  unfold str at *
  go_enter Tryz.func26, Tryz.ntmps26
  go_wp2_with fail
  refine (HCW.out _).mono ?_
  rintro e w1 ⟨rfl, hB1⟩
  have HB1 := Lib.hid (((Below.refl _ _).alloc (Nat.le_refl _) _).trans (hB1.mono (by simp)))
  clear hB1
  go_wp2_with fail
  go_ret
  exact ⟨rfl, HB1.out⟩

set_option maxRecDepth 100000 in
set_option maxHeartbeats 1000000 in
theorem r07_PutWall_badMirror {w : World} {mb : Nat} {tile : List UInt8} (hl : tile.length ≤ 9223372036854775807) (hz : Hy.wordErr tile = 0) {m : Int} (hm : m < 0 ∨ 2 < m) (there : Bool) :
    Calls Tryz.prog 26 #[.pointer (some ⟨mb, 0, none⟩), .agg #[str tile, .int .i64 m], .bool there] w fun e w' => e = .returned (.int .i64 1) ∧ Below w.heap.size w w' := by
  have HCW := Lib.hid (fun W => r03_CheckWord tile W hl)
  rw [hz] at HCW
  clear hz
  unfold str at *
  go_enter Tryz.func26, Tryz.ntmps26
  go_upto_region 1 with fail
  obtain ⟨W0, hW0⟩ : ∃ W0, w.alloc (.cells #[.string ⟨tile.toArray⟩, .int .i64 m] 64) = W0 := ⟨_, rfl⟩
  have hb0 : W0.heap[w.heap.size]? = some (.cells #[.string ⟨tile.toArray⟩, .int .i64 m] 64 (0, 0)) := by rw [← hW0]; exact alloc_heap_new w _
  have hB0 : Below w.heap.size w W0 := by rw [← hW0]; exact (Below.refl _ _).alloc (Nat.le_refl _) _
  have hs0 : W0.heap.size = w.heap.size + 1 := by rw [← hW0]; simp
  rw [hW0]
  clear hW0
  have b0 := cell_of_heap hb0 0
  simp at b0
  go_wp2_with fail
  refine (HCW.out _).mono ?_
  rintro e w1 ⟨rfl, hB1⟩
  have hb1 := (hB1.block w.heap.size (by omega)).trans hb0
  have HB1 := Lib.hid (hB0.trans (hB1.mono (by omega)))
  have b1 := cell_of_heap hb1 1
  simp at b1
  clear hb1 hb0 hB0 hB1 b0
  by_cases h0 : m < 0
  · go_wp2_with fail
    go_ret
    exact ⟨rfl, HB1.out⟩
  · have h2 : 2 < m := by omega
    go_wp2_with fail
    go_ret
    exact ⟨rfl, HB1.out⟩

theorem thingPlace_lt {t : List UInt8} : ∀ {T : ThingList} {i : Nat}, (thingPlace t T i).1 ≤ i + T.length ∧ ((thingPlace t T i).2 = true → (thingPlace t T i).1 < i + T.length)
  | [], i => by simp [thingPlace]
  | (k, n) :: r, i => by
    unfold thingPlace
    by_cases he : k = t
    · rw [if_pos he]; simp
    · rw [if_neg he]
      by_cases ha : aheadW t k = true
      · rw [if_pos ha]; simp
      · rw [if_neg ha]
        obtain ⟨h1, h2⟩ := thingPlace_lt (t := t) (T := r) (i := i + 1)
        simp only [List.length_cons]
        exact ⟨by omega, fun h => by have := h2 h; omega⟩

set_option maxRecDepth 100000 in
set_option maxHeartbeats 1000000 in
theorem r07_Put_badWord {w : World} {mb : Nat} {tile thing : List UInt8} (hl : tile.length ≤ 9223372036854775807) (hz : Hy.wordErr tile ≠ 0) :
    Calls Tryz.prog 27 #[.pointer (some ⟨mb, 0, none⟩), str tile, str thing] w fun e w' => e = .returned (.int .i64 (Hy.wordErr tile)) ∧ Below w.heap.size w w' := by
  have HCW := Lib.hid (fun W => r03_CheckWord tile W hl)
  have hne : (Hy.wordErr tile != 0) = true := by rw [bne_iff_ne]; exact hz
  generalize Hy.wordErr tile = er at *
  clear hz
  unfold str at *
  go_enter Tryz.func27, Tryz.ntmps27
  go_wp2_with fail
  refine (HCW.out _).mono ?_
  rintro e w1 ⟨rfl, hB1⟩
  have HB1 := Lib.hid hB1
  clear hB1
  go_wp2_with fail
  go_ret
  exact ⟨rfl, HB1.out⟩

theorem infoThing : (Tryz.prog.info? 85).map (fun i => (i.zero, i.size, i.bytes)) = some (some (.agg #[.string ⟨#[]⟩, .string ⟨#[]⟩]), 2, 32) := by kernel_rfl

set_option maxRecDepth 100000 in
set_option maxHeartbeats 4000000 in
theorem r07_Put {w : World} {mb : Nat} {o : Hy.Ord} (F : Hy.Fine o) (hS : Small o) {WL : WallList} {TL : ThingList} (h : Map7 w mb o WL TL) (hT : TL.length ≤ 1000) {tile nu : List UInt8} (hz : Hy.wordErr tile = 0) (hu : IsNF o tile nu)
    {thing : List UInt8} (hl2 : thing.length ≤ 9223372036854775807) :
    Calls Tryz.prog 27 #[.pointer (some ⟨mb, 0, none⟩), str tile, str thing] w fun e w' =>
      e = .returned (.int .i64 (putThing7 TL nu thing).1) ∧ Map7 w' mb o WL (putThing7 TL nu thing).2 ∧ Only (fun k => k = mb ∨ w.heap.size ≤ k) w w' := by
  have htl := (Hy.wordErr_letters hz).2
  have HW := Lib.hid (fun W => r03_Word_nf F hS (lets_of_err hz) (by omega) hu W)
  have HCW := Lib.hid (fun W => r03_CheckWord tile W (by omega))
  have HIS := Lib.hid (fun W => r07_IsThing thing W hl2)
  rw [hz] at HCW
  have HMAP := Lib.hid (fun W (hW : Below w.heap.size w W) => h.below hW)
  clear hz hu
  obtain ⟨i0, hi0, hzi0, hzi1, hzi2⟩ := info_parts infoThing
  have HI0 := Lib.hid hi0
  clear hi0
  have hpu : putThing7 TL nu thing = if Hy.isThing thing = false then (1, TL)
      else if thing ≠ [] ∧ (thingPlace nu TL 0).2 = false ∧ 200 ≤ TL.length then (4, TL)
      else (0, sx TL (thingPlace nu TL 0).1 (if thing = [] then [] else [(nu, thing)]) (if (thingPlace nu TL 0).2 = true then 1 else 0) (TL.length + 1)) := by
    have h1 := (thingPlace_lt (t := nu) (T := TL) (i := 0)).1
    have h2 : TL.take (TL.length + 1) = TL := List.take_of_length_le (by omega)
    unfold putThing7 sx
    rw [h2, if_pos (show (thingPlace nu TL 0).1 < TL.length + 1 by omega)]
  have HPU := Lib.hid hpu
  clear hpu
  generalize Hy.isThing thing = isT at *
  obtain ⟨hpl1, hpl2⟩ := thingPlace_lt (t := nu) (T := TL) (i := 0)
  have HAT := Lib.hid (fun W v (hW : Pairs encT0 encT1 W v TL) => r07_thingAt hW (by omega) nu)
  generalize hpl : thingPlace nu TL 0 = pl at *
  obtain ⟨pa, pi⟩ := pl
  simp only at hpl1 hpl2 HAT HPU
  clear hpl
  unfold ordersV str at *
  go_enter Tryz.func27, Tryz.ntmps27
  go_wp2_with fail
  refine (HCW.out _).mono ?_
  rintro e w1 ⟨rfl, hB1⟩
  have HB1 := Lib.hid hB1
  clear hB1
  go_wp2_with fail
  refine (HIS.out _).mono ?_
  rintro e w1' ⟨rfl, rfl⟩
  have HMAP1 := Lib.hid (HMAP.out _ HB1.out)
  cases isT with
  | false =>
    go_wp2_with fail
    go_ret
    exact ⟨by rw [HPU.out]; rfl, by rw [HPU.out]; exact HMAP1.out, Only.of_below HB1.out (fun k hk => .inr hk)⟩
  | true =>
    obtain ⟨vw, vt, hm1, hp1, hp2⟩ := HMAP1.out
    have m0 := cell_of_heap hm1 0
    have m1 := cell_of_heap hm1 1
    have m2 := cell_of_heap hm1 2
    simp at m0 m1 m2
    clear hm1 hp1 hp2
    go_wp2_with fail
    refine (HW.out _).mono ?_
    rintro e w2 ⟨rfl, hB2⟩
    have HB2 := Lib.hid (HB1.out.trans (hB2.mono HB1.out.size))
    clear hB2 m0 m1 m2 HMAP1
    have HMAP2 := Lib.hid (HMAP.out _ HB2.out)
    obtain ⟨vw, vt, hm1, hp1, hp2⟩ := HMAP2.out
    obtain ⟨pt, ct, rfl⟩ := pairs_slice hp2
    have m4 := cell_of_heap hm1 4
    simp at m4
    have HP2 := Lib.hid hp2
    clear hm1 hp1 hp2
    go_wp2_with fail
    refine (HAT.out _ _ HP2.out).mono ?_
    rintro e w3 ⟨rfl, hB3⟩
    have HB3 := Lib.hid (HB2.out.trans (hB3.mono HB2.out.size))
    clear hB3 m4 HMAP2 HP2 HB2 HB1
    go_upto_region 8 with fail
    obtain ⟨W3, hW3⟩ : ∃ W3, w3.alloc (.cells #[.int .i64 pa, .bool pi] 93) = W3 := ⟨_, rfl⟩
    have hpb : W3.heap[w3.heap.size]? = some (.cells #[.int .i64 pa, .bool pi] 93 (0, 0)) := by rw [← hW3]; exact alloc_heap_new w3 _
    have hB : Below w.heap.size w W3 := by rw [← hW3]; exact HB3.out.alloc HB3.out.size _
    rw [hW3]
    clear hW3 HB3
    generalize w3.heap.size = pb at *
    have HMAP3 := Lib.hid (HMAP.out _ hB)
    have HB := Lib.hid hB
    obtain ⟨vw, vt, hm3, hp1, hp2⟩ := HMAP3.out
    obtain ⟨pt, ct, rfl⟩ := pairs_slice hp2
    obtain ⟨pw, cw, rfl⟩ := pairs_slice hp1
    have m4 := cell_of_heap hm3 4
    have p0 := cell_of_heap hpb 0
    have p1 := cell_of_heap hpb 1
    simp at m4 p0 p1
    have hmb : mb < W3.heap.size := (Array.getElem?_eq_some_iff.1 hm3).1
    have hpl : pb < W3.heap.size := (Array.getElem?_eq_some_iff.1 hpb).1
    have HST := Lib.hid (fun (W : World) (hW : Below W3.heap.size W3 W) => (⟨((bcell hW).1 mb 4 hmb).trans m4, ((bcell hW).1 pb 0 hpl).trans p0, ((bcell hW).1 pb 1 hpl).trans p1⟩ : W.cell? ⟨mb, 4, none⟩ = some (.slice pt TL.length ct) ∧ W.cell? ⟨pb, 0, none⟩ = some (.int .i64 pa) ∧ W.cell? ⟨pb, 1, none⟩ = some (.bool pi)))
    have HM3 := Lib.hid hm3
    have HPW := Lib.hid hp1
    have HPT := Lib.hid hp2
    obtain ⟨tb, tc, hteq, hcells⟩ := hp2
    simp only [Value.slice.injEq, true_and] at hteq
    obtain ⟨rfl, rfl⟩ := hteq
    have HC := Lib.hid hcells
    have RT := rowType_of (size := 2) (bytes := 32) Tryz.underlying36 infoThing rfl (by decide) (by decide)
    clear hm3 hp1 hpb hB hcells HMAP HAT
    by_cases hth : thing = []
    · subst hth
      obtain ⟨d, hd⟩ : ∃ d, d = if pi = true then 1 else 0 := ⟨_, rfl⟩
      have hd1 : pi = true → d = 1 := fun h => by rw [hd, if_pos h]
      have hd0 : pi = false → d = 0 := fun h => by rw [hd, if_neg (by rw [h]; simp)]
      have hdl : d ≤ 1 := by rw [hd]; split <;> omega
      have HD1 := Lib.hid hd1; have HD0 := Lib.hid hd0; clear hd1 hd0
      have HFIN := Lib.hid (show putThing7 TL nu [] = (0, sx TL pa [] d (TL.length + 1)) from by rw [HPU.out, hd]; simp)
      clear hd HPU
      go_wp2_with fail
      go_loopw [10, 11] (fun v i wr => ∃ k : Nat, k ≤ TL.length + 1 ∧ i = .int .i64 k ∧ Hid (Below W3.heap.size W3 wr) ∧ Hid (wr.ownsRow W3.heap.size 85 2 v (sx TL pa [] d k).length (flat2 encT0 encT1 (sx TL pa [] d k)))) (fun _ i _ => TL.length + 1 - (intOf i).toNat)
      case atStart =>
        refine ⟨0, Nat.zero_le _, rfl, (Below.refl _ _).alloc (Nat.le_refl _) _, ?_⟩
        rw [sx_zero]
        exact World.ownsRow_made W3 #[] 0 (Nat.le_refl _) (by unfold maxLen; omega) rfl
      case round =>
        obtain ⟨k, hk, rfl, HBr, HR⟩ := hrel
        have hsl := sx_len TL pa [] d k
        obtain ⟨m4, p0, p1⟩ := HST.out _ HBr.out
        have hsz := HBr.out.size
        by_cases hlt : k < TL.length
        · by_cases hkn : k = pa
          · subst hkn
            cases pi with
            | true =>
              have hsx := sx_out (T := TL) (n := k) (k := k) (mid := []) (d := d) (by omega) (.inl ⟨rfl, HD1.out rfl⟩)
              rw [if_pos rfl] at hsx
              rw [List.append_nil] at hsx
              have HSX := Lib.hid hsx; clear hsx
              go_wp2_with fail
              go_roundw
              case rel => exact ⟨k + 1, by omega, by go_num, HBr, by rw [HSX.out]; exact HR.out⟩
              case measure => simp [intOf] <;> omega
            | false =>
              have hsx := sx_in (T := TL) (n := k) (mid := []) (d := d) (by omega) hlt (by rintro ⟨_, h⟩; have := HD0.out rfl; omega)
              rw [if_pos rfl] at hsx
              rw [List.append_nil] at hsx
              have HSX := Lib.hid hsx; clear hsx
              obtain ⟨g, off, rfl, hg, hc0, hc1⟩ := HC.out k hlt
              have e0 := ((bcell HBr.out).1 g (off + k * 2) hg).trans hc0
              have e1 := ((bcell HBr.out).1 g (off + k * 2 + 1) hg).trans hc1
              clear hc0 hc1
              simp only [encT0, encT1, str] at e0 e1
              go_wp2_with (at_builtin; refine wpList_grow1 wr RT rfl _ _ rfl rfl HR.out _ [encT0 TL[k], encT1 TL[k]] rfl rfl (fun u hu => by simp at hu; rcases hu with rfl | rfl <;> rfl) ?c3 HBr.out.size ?_)
              case c3 => simp at hsl; omega
              intro v5 w5 hown5 hB5
              have HB5 := Lib.hid (HBr.out.trans hB5)
              have HR5 := Lib.hid (row_snoc hown5 HSX.out)
              have hsz5 := HB5.out.size
              clear hown5 hB5
              go_wp2_with fail
              go_roundw
              case rel => exact ⟨k + 1, by omega, by go_num, HB5, HR5⟩
              case measure => simp [intOf] <;> omega
          · have hsx := sx_in (T := TL) (n := pa) (mid := []) (d := d) (by omega) hlt (by omega)
            rw [if_neg hkn, List.append_nil] at hsx
            have HSX := Lib.hid hsx; clear hsx
            obtain ⟨g, off, rfl, hg, hc0, hc1⟩ := HC.out k hlt
            have e0 := ((bcell HBr.out).1 g (off + k * 2) hg).trans hc0
            have e1 := ((bcell HBr.out).1 g (off + k * 2 + 1) hg).trans hc1
            clear hc0 hc1
            simp only [encT0, encT1, str] at e0 e1
            go_wp2_with (at_builtin; refine wpList_grow1 wr RT rfl _ _ rfl rfl HR.out _ [encT0 TL[k], encT1 TL[k]] rfl rfl (fun u hu => by simp at hu; rcases hu with rfl | rfl <;> rfl) ?c3 HBr.out.size ?_)
            case c3 => simp at hsl; omega
            intro v5 w5 hown5 hB5
            have HB5 := Lib.hid (HBr.out.trans hB5)
            have HR5 := Lib.hid (row_snoc hown5 HSX.out)
            have hsz5 := HB5.out.size
            clear hown5 hB5
            go_wp2_with fail
            go_roundw
            case rel => exact ⟨k + 1, by omega, by go_num, HB5, HR5⟩
            case measure => simp [intOf] <;> omega
        · by_cases hk2 : k = TL.length
          · subst hk2
            have hsx := sx_out (T := TL) (n := pa) (k := TL.length) (mid := []) (d := d) (by omega) (.inr rfl)
            rw [ite_self, List.append_nil] at hsx
            have HSX := Lib.hid hsx; clear hsx
            by_cases hkn : TL.length = pa
            · have hkn2 : (TL.length : Int) = pa := by omega
              go_wp2_with fail
              go_roundw
              case rel => exact ⟨TL.length + 1, by omega, by go_num, HBr, by rw [HSX.out]; exact HR.out⟩
              case measure => simp [intOf] <;> omega
            · have hkn2 : (TL.length : Int) ≠ pa := by omega
              go_wp2_with fail
              go_roundw
              case rel => exact ⟨TL.length + 1, by omega, by go_num, HBr, by rw [HSX.out]; exact HR.out⟩
              case measure => simp [intOf] <;> omega
          · obtain rfl : k = TL.length + 1 := by omega
            have hR := ownsRow_pairs HR.out
            have HP := Lib.hid hR
            obtain ⟨qp, qc, hv⟩ := pairs_slice hR
            subst hv
            have f4 := free_of_heap ((HBr.out.block mb hmb).trans HM3.out) 4
            have hml : mb < wr.heap.size := by omega
            clear hR hlt hk2 p0 p1
            go_wp2_with fail
            go_ret
            exact ⟨by rw [HFIN.out]; rfl, by rw [HFIN.out]; exact map7_things HM3.out HBr.out HP.out HPW.out, ((Only.of_below HB.out (fun k hk => .inr hk)).trans (Only.of_below HBr.out (fun k hk => .inr (Nat.le_trans HB.out.size hk)))).setCell (p := ⟨mb, 4, none⟩) (.inl rfl) _⟩
    · obtain ⟨c, r, hcr⟩ : ∃ c r, thing = c :: r := by
        cases thing with
        | nil => exact absurd rfl hth
        | cons c r => exact ⟨c, r, rfl⟩
      have hnz : ((⟨thing.toArray⟩ : ByteArray).toList == ([] : List UInt8)) = false := by rw [ByteArray_toList, hcr]; rfl
      have hnz2 : thing.isEmpty = false := by rw [hcr]; rfl
      have HNE := Lib.hid hth; clear hcr hth
      by_cases hfull : pi = false ∧ 200 ≤ TL.length
      · obtain ⟨rfl, h200⟩ := hfull
        have HFIN := Lib.hid (show putThing7 TL nu thing = (4, TL) from by rw [HPU.out]; simp [HNE.out, h200])
        clear HPU
        go_wp2_with fail
        go_ret
        exact ⟨by rw [HFIN.out]; rfl, by rw [HFIN.out]; exact HMAP3.out, Only.of_below HB.out (fun k hk => .inr hk)⟩
      · obtain ⟨d, hd⟩ : ∃ d, d = if pi = true then 1 else 0 := ⟨_, rfl⟩
        have hd1 : pi = true → d = 1 := fun h => by rw [hd, if_pos h]
        have hd0 : pi = false → d = 0 := fun h => by rw [hd, if_neg (by rw [h]; simp)]
        have hdl : d ≤ 1 := by rw [hd]; split <;> omega
        have HD1 := Lib.hid hd1; have HD0 := Lib.hid hd0; clear hd1 hd0
        have HFIN := Lib.hid (show putThing7 TL nu thing = (0, sx TL pa [(nu, thing)] d (TL.length + 1)) from by rw [HPU.out, hd, if_neg (by simp), if_neg (fun h => hfull ⟨h.2.1, h.2.2⟩), if_neg HNE.out])
        have HFULL := Lib.hid hfull
        clear hd HPU hfull
        have g8 : pi = true ∨ ¬ (200 : Int) ≤ TL.length := by
          cases pi with
          | true => exact .inl rfl
          | false => exact .inr (fun h => HFULL.out ⟨rfl, by omega⟩)
        go_cut [46] (fun s wx => s = .bool false ∧ W3 = wx)
        case first =>
          rcases g8 with rfl | h200
          · go_wp2_with fail
            go_meet
            case rel => exact ⟨rfl, rfl⟩
          · cases pi with
            | true =>
              go_wp2_with fail
              go_meet
              case rel => exact ⟨rfl, rfl⟩
            | false =>
              go_wp2_with fail
              go_meet
              case rel => exact ⟨rfl, rfl⟩
        case rest =>
          obtain ⟨rfl, rfl⟩ := hcut
          clear g8
          go_wp2_with fail
          go_loopw [10, 11] (fun v i wr => ∃ k : Nat, k ≤ TL.length + 1 ∧ i = .int .i64 k ∧ Hid (Below W3.heap.size W3 wr) ∧ Hid (wr.ownsRow W3.heap.size 85 2 v (sx TL pa [(nu, thing)] d k).length (flat2 encT0 encT1 (sx TL pa [(nu, thing)] d k)))) (fun _ i _ => TL.length + 1 - (intOf i).toNat)
          case atStart =>
            refine ⟨0, Nat.zero_le _, rfl, (Below.refl _ _).alloc (Nat.le_refl _) _, ?_⟩
            rw [sx_zero]
            exact World.ownsRow_made W3 #[] 0 (Nat.le_refl _) (by unfold maxLen; omega) rfl
          case round =>
            obtain ⟨k, hk, rfl, HBr, HR⟩ := hrel
            have hsl := sx_len TL pa [(nu, thing)] d k
            obtain ⟨m4, p0, p1⟩ := HST.out _ HBr.out
            have hsz := HBr.out.size
            by_cases hlt : k < TL.length
            · by_cases hkn : k = pa
              · subst hkn
                cases pi with
                | true =>
                  have hsx := sx_out (T := TL) (n := k) (k := k) (mid := [(nu, thing)]) (d := d) (by omega) (.inl ⟨rfl, HD1.out rfl⟩)
                  rw [if_pos rfl] at hsx
                  have HSX := Lib.hid hsx; clear hsx
                  go_wp2_with (at_builtin; refine wpList_grow1 wr RT rfl _ _ rfl rfl HR.out _ [encT0 (nu, thing), encT1 (nu, thing)] rfl rfl (fun u hu => by simp at hu; rcases hu with rfl | rfl <;> rfl) ?c3 HBr.out.size ?_)
                  case c3 => simp at hsl; omega
                  intro v4 w4 hown4 hB4
                  have HB4 := Lib.hid (HBr.out.trans hB4)
                  have HR4 := Lib.hid (row_snoc hown4 HSX.out)
                  have hsz4 := HB4.out.size
                  clear hown4 hB4
                  clear m4 p0 p1
                  obtain ⟨m4, p0, p1⟩ := HST.out _ HB4.out
                  go_wp2_with fail
                  go_roundw
                  case rel => exact ⟨k + 1, by omega, by go_num, HB4, HR4⟩
                  case measure => simp [intOf] <;> omega
                | false =>
                  have hsx := sx_in (T := TL) (n := k) (mid := [(nu, thing)]) (d := d) (by omega) hlt (by rintro ⟨_, h⟩; have := HD0.out rfl; omega)
                  rw [if_pos rfl] at hsx
                  have HSX := Lib.hid hsx; clear hsx
                  go_wp2_with (at_builtin; refine wpList_grow1 wr RT rfl _ _ rfl rfl HR.out _ [encT0 (nu, thing), encT1 (nu, thing)] rfl rfl (fun u hu => by simp at hu; rcases hu with rfl | rfl <;> rfl) ?c3 HBr.out.size ?_)
                  case c3 => simp at hsl; omega
                  intro v4 w4 hown4 hB4
                  have HB4 := Lib.hid (HBr.out.trans hB4)
                  have HR4 := Lib.hid (row_snoc hown4 (rfl : sx TL k [(nu, thing)] d k ++ [(nu, thing)] = sx TL k [(nu, thing)] d k ++ [(nu, thing)]))
                  have hsz4 := HB4.out.size
                  clear hown4 hB4
                  generalize sx TL k [(nu, thing)] d k ++ [(nu, thing)] = L3 at HR4 HSX
                  have hsl3 : L3.length ≤ TL.length + 1 := by have := sx_len TL k [(nu, thing)] d (k + 1); rw [HSX.out] at this; simp at this; omega
                  clear m4 p0 p1
                  obtain ⟨m4, p0, p1⟩ := HST.out _ HB4.out
                  obtain ⟨g, off, rfl, hg, hc0, hc1⟩ := HC.out k hlt
                  have e0 := ((bcell HB4.out).1 g (off + k * 2) hg).trans hc0
                  have e1 := ((bcell HB4.out).1 g (off + k * 2 + 1) hg).trans hc1
                  clear hc0 hc1
                  simp only [encT0, encT1, str] at e0 e1
                  go_wp2_with (at_builtin; refine wpList_grow1 w4 RT rfl _ _ rfl rfl HR4.out _ [encT0 TL[k], encT1 TL[k]] rfl rfl (fun u hu => by simp at hu; rcases hu with rfl | rfl <;> rfl) ?c3 HB4.out.size ?_)
                  case c3 => simp at hsl; omega
                  intro v5 w5 hown5 hB5
                  have HB5 := Lib.hid (HB4.out.trans hB5)
                  have HR5 := Lib.hid (row_snoc hown5 HSX.out)
                  have hsz5 := HB5.out.size
                  clear hown5 hB5
                  go_wp2_with fail
                  go_roundw
                  case rel => exact ⟨k + 1, by omega, by go_num, HB5, HR5⟩
                  case measure => simp [intOf] <;> omega
              · have hsx := sx_in (T := TL) (n := pa) (mid := [(nu, thing)]) (d := d) (by omega) hlt (by omega)
                rw [if_neg hkn, List.append_nil] at hsx
                have HSX := Lib.hid hsx; clear hsx
                obtain ⟨g, off, rfl, hg, hc0, hc1⟩ := HC.out k hlt
                have e0 := ((bcell HBr.out).1 g (off + k * 2) hg).trans hc0
                have e1 := ((bcell HBr.out).1 g (off + k * 2 + 1) hg).trans hc1
                clear hc0 hc1
                simp only [encT0, encT1, str] at e0 e1
                go_wp2_with (at_builtin; refine wpList_grow1 wr RT rfl _ _ rfl rfl HR.out _ [encT0 TL[k], encT1 TL[k]] rfl rfl (fun u hu => by simp at hu; rcases hu with rfl | rfl <;> rfl) ?c3 HBr.out.size ?_)
                case c3 => simp at hsl; omega
                intro v5 w5 hown5 hB5
                have HB5 := Lib.hid (HBr.out.trans hB5)
                have HR5 := Lib.hid (row_snoc hown5 HSX.out)
                have hsz5 := HB5.out.size
                clear hown5 hB5
                go_wp2_with fail
                go_roundw
                case rel => exact ⟨k + 1, by omega, by go_num, HB5, HR5⟩
                case measure => simp [intOf] <;> omega
            · by_cases hk2 : k = TL.length
              · subst hk2
                have hsx := sx_out (T := TL) (n := pa) (k := TL.length) (mid := [(nu, thing)]) (d := d) (by omega) (.inr rfl)
                by_cases hkn : TL.length = pa
                · subst hkn
                  rw [if_pos rfl] at hsx
                  have HSX := Lib.hid hsx; clear hsx
                  go_wp2_with (at_builtin; refine wpList_grow1 wr RT rfl _ _ rfl rfl HR.out _ [encT0 (nu, thing), encT1 (nu, thing)] rfl rfl (fun u hu => by simp at hu; rcases hu with rfl | rfl <;> rfl) ?c3 HBr.out.size ?_)
                  case c3 => simp at hsl; omega
                  intro v4 w4 hown4 hB4
                  have HB4 := Lib.hid (HBr.out.trans hB4)
                  have HR4 := Lib.hid (row_snoc hown4 HSX.out)
                  have hsz4 := HB4.out.size
                  clear hown4 hB4
                  clear m4 p0 p1
                  obtain ⟨m4, p0, p1⟩ := HST.out _ HB4.out
                  go_wp2_with fail
                  go_roundw
                  case rel => exact ⟨TL.length + 1, by omega, by go_num, HB4, HR4⟩
                  case measure => simp [intOf] <;> omega
                · rw [if_neg hkn, List.append_nil] at hsx
                  have HSX := Lib.hid hsx; clear hsx
                  go_wp2_with fail
                  go_roundw
                  case rel => exact ⟨TL.length + 1, by omega, by go_num, HBr, by rw [HSX.out]; exact HR.out⟩
                  case measure => simp [intOf] <;> omega
              · obtain rfl : k = TL.length + 1 := by omega
                have hR := ownsRow_pairs HR.out
                have HP := Lib.hid hR
                obtain ⟨qp, qc, hv⟩ := pairs_slice hR
                subst hv
                have f4 := free_of_heap ((HBr.out.block mb hmb).trans HM3.out) 4
                have hml : mb < wr.heap.size := by omega
                clear hR hlt hk2 p0 p1
                go_wp2_with fail
                go_ret
                exact ⟨by rw [HFIN.out]; rfl, by rw [HFIN.out]; exact map7_things HM3.out HBr.out HP.out HPW.out, ((Only.of_below HB.out (fun k hk => .inr hk)).trans (Only.of_below HBr.out (fun k hk => .inr (Nat.le_trans HB.out.size hk)))).setCell (p := ⟨mb, 4, none⟩) (.inl rfl) _⟩
end Go.Proofs.YtbfnnlcckpabnaaGreat
