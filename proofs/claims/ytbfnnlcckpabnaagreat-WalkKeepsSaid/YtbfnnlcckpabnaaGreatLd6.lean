/- walk.reader.read: the things of an image. -/
import Derived.Test.YtbfnnlcckpabnaaGreatLd5
namespace Go.Proofs.YtbfnnlcckpabnaaGreat
set_option linter.unusedSimpArgs false
set_option linter.unusedVariables false
open Go.RowKit

theorem takeTile_of {o : Hy.Ord} {l t r : List UInt8} (h : takeText l = some (t, r)) (h2 : Hy.wordErr t = 0 ∧ Hy.norm o 1000 t = some t) : takeTile o l = some (t, r) := by
  unfold takeTile
  rw [h]
  simp only
  rw [if_pos h2]

theorem takeTile_not {o : Hy.Ord} {l t r : List UInt8} (h : takeText l = some (t, r)) (h2 : ¬ (Hy.wordErr t = 0 ∧ Hy.norm o 1000 t = some t)) : takeTile o l = none := by
  unfold takeTile
  rw [h]
  simp only
  rw [if_neg h2]

theorem takeTile_out {o : Hy.Ord} {l : List UInt8} (h : takeText l = none) : takeTile o l = none := by
  unfold takeTile
  rw [h]

theorem thingStep_eq {o : Hy.Ord} {T : ThingList} {l t r x r2 : List UInt8} (ht : takeTile o l = some (t, r)) (hx : takeText r = some (x, r2)) : thingStep o (T, l) = if T.length < 200 ∧ (∀ y ∈ T.getLast?, aheadW y.1 t = true) ∧ x ≠ [] ∧ Hy.isThing x = true then some (T ++ [(t, x)], r2) else none := by
  unfold thingStep
  simp only [ht, hx]

theorem thingStep_none {o : Hy.Ord} {T : ThingList} {l t r : List UInt8} (ht : takeTile o l = some (t, r)) (hx : takeText r = none) : thingStep o (T, l) = none := by
  unfold thingStep
  simp only [ht, hx]

theorem thingStep_out {o : Hy.Ord} {T : ThingList} {l : List UInt8} (ht : takeTile o l = none) : thingStep o (T, l) = none := by
  unfold thingStep
  simp only [ht]

set_option maxRecDepth 100000 in
set_option maxHeartbeats 16000000 in
theorem walk_read_things {N rb mb wb tb : Nat} {o : Hy.Ord} {w wc : World} {l : List UInt8} {WL : WallList} (F : Hy.Fine o) (ho : Small o) (h : TInv N rb mb wb tb o w wc l (WL.map fun e => (e, true)) []) {P : Option (WallList × ThingList)} (hP : P = afterWalls o (some (WL, l))) (s1 s2 s4 s5 s6 s7 s8 s9 s10 s11 s12 s13 s14 s15 s16 s17 s18 s19 s20 s21 s22 s23 s24 s25 s26 s27 s28 s29 s30 s31 s32 s33 s34 s35 s36 s37 s38 s39 s40 s41 s42 s43 s44 s45 s46 s47 s48 s49 s50 s51 s52 s53 s54 s55 s56 s57 s58 s59 s60 s61 s62 s63 s64 s65 s66 s67 s68 s69 s70 s71 s72 s73 s74 s75 s76 s77 s78 s79 s80 s81 s82 s83 s84 s85 s86 s87 s88 s89 s90 s91 s92 s93 s94 s95 s96 s97 s98 s99 s100 s101 s102 s103 s104 s105 s106 s107 s108 s109 s110 s111 s112 s113 s114 s115 s116 s117 s118 s119 s120 s121 s122 s123 s124 s125 s126 s127 s128 s129 s130 s131 s132 s133 s134 s135 s136 s137 s138 s139 : Value) :
    Code.wp Tryz.prog (behind 6 (Tryz.f44.body.getD .skip)) (bodyPost Tryz.prog Tryz.f44 (ReadPost rb o P w)) ⟨#[.pointer (some ⟨rb, 0, none⟩), s1, s2, mptr mb, s4, s5, s6, s7, s8, s9, s10, s11, s12, s13, s14, s15, s16, s17, s18, s19, s20, s21, s22, s23, s24, s25, s26, s27, s28, s29, s30, s31, s32, s33, s34, s35, s36, s37, s38, s39, s40, s41, s42, s43, s44, s45, s46, s47, s48, s49, s50, s51, s52, s53, s54, s55, s56, s57, s58, s59, s60, s61, s62, s63, s64, s65, s66, s67, s68, s69, s70, s71, s72, s73, s74, s75, s76, s77, s78, s79, s80, s81, s82, s83, s84, s85, s86, s87, s88, s89, s90, s91, s92, s93, s94, s95, s96, s97, s98, s99, s100, s101, s102, s103, s104, s105, s106, s107, s108, s109, s110, s111, s112, s113, s114, s115, s116, s117, s118, s119, s120, s121, s122, s123, s124, s125, s126, s127, s128, s129, s130, s131, s132, s133, s134, s135, s136, s137, s138, s139], []⟩ wc := by
  suffices hh : ∀ c, c = behind 6 (Tryz.f44.body.getD .skip) → Code.wp Tryz.prog c (bodyPost Tryz.prog Tryz.f44 (ReadPost rb o P w)) ⟨#[.pointer (some ⟨rb, 0, none⟩), s1, s2, mptr mb, s4, s5, s6, s7, s8, s9, s10, s11, s12, s13, s14, s15, s16, s17, s18, s19, s20, s21, s22, s23, s24, s25, s26, s27, s28, s29, s30, s31, s32, s33, s34, s35, s36, s37, s38, s39, s40, s41, s42, s43, s44, s45, s46, s47, s48, s49, s50, s51, s52, s53, s54, s55, s56, s57, s58, s59, s60, s61, s62, s63, s64, s65, s66, s67, s68, s69, s70, s71, s72, s73, s74, s75, s76, s77, s78, s79, s80, s81, s82, s83, s84, s85, s86, s87, s88, s89, s90, s91, s92, s93, s94, s95, s96, s97, s98, s99, s100, s101, s102, s103, s104, s105, s106, s107, s108, s109, s110, s111, s112, s113, s114, s115, s116, s117, s118, s119, s120, s121, s122, s123, s124, s125, s126, s127, s128, s129, s130, s131, s132, s133, s134, s135, s136, s137, s138, s139], []⟩ wc from hh _ rfl
  intro c hcode
  simp only [Tryz.f44, Option.getD_some, behind] at hcode
  subst hcode
  have H := Lib.hid h; clear h
  have hP' : P = match takeNum l with | none => none | some (k, r3) => afterThings WL (many (thingStep o) k ([], r3)) := hP
  clear hP
  unfold mptr
  cases hn : takeNum l with
  | none =>
    rw [hn] at hP'
    have HP0 := Lib.hid hP'; clear hP'
    have HC := Lib.hid (walk_count_bad H.out.rd (takeNum_none hn))
    clear hn
    go_wp2_with fail
    refine HC.out.mono ?_
    rintro e w1 ⟨rfl, hO⟩
    exact ⟨rfl, ReadPost.bad HP0.out (H.out.bad hO)⟩
  | some p =>
    obtain ⟨n, r3⟩ := p
    rw [hn] at hP'
    simp only at hP'
    obtain ⟨a, b, rfl, hnn⟩ := takeNum_some hn
    have HP0 := Lib.hid hP'; clear hP' hn
    have HC := Lib.hid (walk_count H.out.rd)
    rw [← hnn] at HC
    clear hnn
    go_wp2_with fail
    refine HC.out.mono ?_
    rintro e w1 ⟨rfl, hr1, hO1⟩
    have H1 := Lib.hid (H.out.reads hr1 hO1)
    clear hr1 hO1 HC
    go_wp2_with fail
    go_loopw [8, 90] (fun tv i wr => ∃ (k : Nat) (T : ThingList) (lk : List UInt8), k ≤ n ∧ i = .int .i64 k ∧ tv = .string ⟨(lastT T).toArray⟩ ∧ T.length = k ∧ T.Pairwise (fun x y => aheadW x.1 y.1 = true) ∧ (∀ p ∈ T, p.1.length ≤ 60) ∧ Hid (many (thingStep o) (n - k) (T, lk) = many (thingStep o) n ([], r3)) ∧ Hid (TInv N rb mb wb tb o w wr lk (WL.map fun e => (e, true)) T)) (fun _ i _ => n - (intOf i).toNat)
    case atStart => exact ⟨0, [], r3, Nat.zero_le _, rfl, rfl, rfl, List.Pairwise.nil, by simp, rfl, H1⟩
    case round =>
      obtain ⟨k, T, lk, hk, rfl, rfl, hlen, hpair, hsh, HK, HI⟩ := hrel
      by_cases hlt : k < n
      · have HBAD := Lib.hid (fun (hs : thingStep o (T, lk) = none) => show P = none by rw [HP0.out, ← HK.out, many_none hlt hs]; rfl)
        have HLEN := Lib.hid hlen
        have HPAIR := Lib.hid hpair
        have HSH := Lib.hid hsh
        have HLT := Lib.hid hlt
        have HNO := Lib.hid (fun W => walk_need_ok W)
        have HNB := Lib.hid (fun W => walk_need_bad W)
        clear hlen hpair hsh
        cases htx : takeText lk with
        | none =>
          have HC := Lib.hid (walk_tile_bad HI.out.rd htx)
          have HB0 := Lib.hid (HBAD.out (thingStep_out (takeTile_out htx)))
          clear htx
          go_wp2_with fail
          refine HC.out.mono ?_
          rintro e w2 ⟨rfl, hO⟩
          exact ⟨rfl, ReadPost.bad HB0.out (HI.out.bad hO)⟩
        | some q =>
          obtain ⟨t, r⟩ := q
          have hmb := HI.out.m.cells
          have hmne : mb ≠ rb := by have := HI.out.rlt; have := HI.out.mge; omega
          have HC := Lib.hid (walk_tile F ho HI.out.m.ok HI.out.rd hmb hmne htx)
          have HTX := Lib.hid htx
          have hlk := takeText_len htx
          clear htx hmb hmne
          go_wp2_with fail
          refine HC.out.mono ?_
          intro e w2 hpost
          unfold TilePost at hpost
          clear HC
          by_cases htile : Hy.wordErr t = 0 ∧ Hy.norm o 1000 t = some t
          case neg =>
            rw [if_neg htile] at hpost
            obtain ⟨rfl, hO⟩ := hpost
            exact ⟨rfl, ReadPost.bad (HBAD.out (thingStep_out (takeTile_not HTX.out htile))) (HI.out.bad hO)⟩
          rw [if_pos htile] at hpost
          obtain ⟨rfl, hr2, hO2⟩ := hpost
          have H2 := Lib.hid (HI.out.reads hr2 hO2)
          clear hr2 hO2
          have HTT := Lib.hid (takeTile_of HTX.out htile)
          have HTL := Lib.hid (Hy.wordErr_letters htile.1).2
          clear htile
          unfold str
          cases hxx : takeText r with
          | none =>
            have HB0 := Lib.hid (HBAD.out (thingStep_none HTT.out hxx))
            go_wp2_with fail
            rcases takeText_none hxx with rfl | ⟨c, l', rfl, hc⟩
            · have HA := Lib.hid (fun (W : World) (hW : W.heap = w2.heap) => walk_byte1_bad (H2.out.rd.heap hW))
              clear hxx
              go_region_with ((first
                  | (go_at_call 69; refine (HA.out _ (by rfl)).mono ?_; rintro e w3 ⟨rfl, h2⟩; have hO1 : Only (fun k => k = rb ∨ w2.heap.size ≤ k) w2 w3 := (by first | exact only_undrew h2 | exact h2); refine panic_way ⟨rfl, ReadPost.bad HB0.out (H2.out.bad hO1)⟩ ?_)))
              all_goals trivial
            · have HA := Lib.hid (fun (W : World) (hW : W.heap = w2.heap) => walk_byte1 (H2.out.rd.heap hW))
              have HCL := Lib.hid hc
              clear hxx hc
              go_region_with ((first
                  | (go_at_call 69; refine (HA.out _ (by rfl)).mono ?_; rintro e w3 ⟨rfl, h1, h2⟩; have hO1 : Only (fun k => k = rb ∨ w2.heap.size ≤ k) w2 w3 := (by first | exact only_undrew h2 | exact h2); have HO1 := Lib.hid hO1; have HB := Lib.hid (fun (W : World) (hW : W.heap = w3.heap) => walk_bytes_bad (h1.heap hW) HCL.out); clear h1 h2 hO1 HA)
                  | (go_at_call 73; refine (HB.out _ (by rfl)).mono ?_; rintro e w4 ⟨rfl, h2⟩; have hO2 : Only (fun k => k = rb ∨ w3.heap.size ≤ k) w3 w4 := (by first | exact only_undrew h2 | exact h2); refine panic_way ⟨rfl, ReadPost.bad HB0.out (H2.out.bad (HO1.out.step hO2))⟩ ?_)))
              all_goals trivial
          | some q2 =>
            obtain ⟨x, r2⟩ := q2
            have HSTEP := Lib.hid (thingStep_eq (T := T) HTT.out hxx)
            have hxl := (takeText_len hxx).1
            obtain ⟨c, l', rfl, hc, hx1, hx2⟩ := takeText_iff hxx
            have HA := Lib.hid (fun (W : World) (hW : W.heap = w2.heap) => walk_byte1 (H2.out.rd.heap hW))
            have HCL := Lib.hid hc
            have HX1 := Lib.hid hx1
            have HX2 := Lib.hid hx2
            clear hxx hc hx1 hx2
            go_wp2_with fail
            go_cut [11] (fun s wx => s = .string ⟨x.toArray⟩ ∧ Hid (TInv N rb mb wb tb o w wx r2 (WL.map fun e => (e, true)) T))
            case first =>
              go_region_held3 (fun w' => True) (first | go_keep | trivial)
                ((first
                  | (go_at_call 69; refine (HA.out _ (by rfl)).mono ?_; rintro e w3 ⟨rfl, h1, h2⟩; have hO1 : Only (fun k => k = rb ∨ w2.heap.size ≤ k) w2 w3 := (by first | exact only_undrew h2 | exact h2); have HO1 := Lib.hid hO1; have HB := Lib.hid (fun (W : World) (hW : W.heap = w3.heap) => walk_bytes (h1.heap hW) HCL.out); clear h1 h2 hO1 HA; rw [← HX1.out, ← HX2.out] at HB; unfold str at HB)
                  | (go_at_call 73; refine (HB.out _ (by rfl)).mono ?_; rintro e w4 ⟨rfl, h1, h2⟩; have hO2 : Only (fun k => k = rb ∨ w3.heap.size ≤ k) w3 w4 := (by first | exact only_undrew h2 | exact h2); have H3 := Lib.hid (H2.out.reads h1 (HO1.out.step hO2)); clear h1 h2 hO2 HB)))
              all_goals go_wp2_with fail
              all_goals go_meet
              case rel => exact ⟨rfl, H3⟩
            case rest =>
              obtain ⟨rfl, H3⟩ := hcut
              clear HA HX1 HX2 HCL
              by_cases h200 : k < 200
              case neg =>
                have H200 := Lib.hid h200
                go_wp2_with fail
                refine (HNB.out _).mono ?_
                rintro e w9 ⟨rfl, rfl⟩
                exact ⟨rfl, ReadPost.bad (HBAD.out (by rw [HSTEP.out, if_neg (fun h => H200.out (by rw [← HLEN.out]; exact h.1))])) H3.out.only⟩
              by_cases hk0 : k = 0
              · subst hk0
                have HT0 := Lib.hid (List.length_eq_zero_iff.1 HLEN.out)
                by_cases hx0 : x = []
                case pos =>
                  have HX0 := Lib.hid hx0
                  subst hx0
                  go_wp2_with fail
                  refine (HNB.out _).mono ?_
                  rintro e w9 ⟨rfl, rfl⟩
                  exact ⟨rfl, ReadPost.bad (HBAD.out (by rw [HSTEP.out, if_neg (fun h => h.2.2.1 rfl)])) H3.out.only⟩
                have hnz : ((⟨x.toArray⟩ : ByteArray).toList == ([] : List UInt8)) = false := by rw [ByteArray_toList]; cases x with | nil => exact absurd rfl hx0 | cons c r => rfl
                have hnz2 : x.isEmpty = false := by cases x with | nil => exact absurd rfl hx0 | cons c r => rfl
                cases hth : Hy.isThing x with
                | false =>
                  have HTH := Lib.hid hth
                  have HIS := Lib.hid (fun W => walk_isThing x W (by omega))
                  rw [hth] at HIS
                  clear hth
                  go_wp2_with fail
                  refine (HIS.out _).mono ?_
                  rintro e w5 ⟨rfl, hB5⟩
                  have H5 := Lib.hid (H3.out.below hB5); clear hB5
                  go_wp2_with fail
                  refine (HNB.out _).mono ?_
                  rintro e w9 ⟨rfl, rfl⟩
                  exact ⟨rfl, ReadPost.bad (HBAD.out (by rw [HSTEP.out, if_neg (fun h => by have := h.2.2.2; rw [HTH.out] at this; cases this)])) H5.out.only⟩
                | true =>
                  have HIS := Lib.hid (fun W => walk_isThing x W (by omega))
                  rw [hth] at HIS
                  have hnext : thingStep o (T, lk) = some (T ++ [(t, x)], r2) := by rw [HSTEP.out, if_pos ⟨by rw [HLEN.out]; exact h200, by rw [HT0.out]; simp, hx0, hth⟩]
                  have hp2 := thingStep_pair HPAIR.out hnext
                  have HNEXT := Lib.hid hnext
                  have HPAIR2 := Lib.hid hp2.1
                  have HALL := Lib.hid ((List.pairwise_append.1 hp2.1).2.2)
                  have HALL := Lib.hid (fun p hp => HALL.out p hp (t, x) (by simp))
                  have HSH2 := Lib.hid (show ∀ p ∈ T ++ [(t, x)], p.1.length ≤ 60 from fun p hp => by
                    rcases List.mem_append.1 hp with hp | hp
                    · exact HSH.out p hp
                    · rw [List.mem_singleton.1 hp]; exact HTL.out)
                  clear hth hnext hp2
                  go_wp2_with fail
                  refine (HIS.out _).mono ?_
                  rintro e w5 ⟨rfl, hB5⟩
                  have H5 := Lib.hid (H3.out.below hB5); clear hB5
                  go_wp2_with fail
                  refine (HNO.out _).mono ?_
                  rintro e w9 ⟨rfl, rfl⟩
                  have c5 := cell_of_heap H5.out.m.cells 5
                  simp [mapCells] at c5
                  obtain ⟨ob, hput, hMd⟩ := H5.out.m.things.put keys_str Tryz.underlying55 t x
                  rw [mput_new (fun p hp e => by have h1 := HALL.out p hp; rw [e, ahead_irrefl] at h1; cases h1)] at hMd
                  have H6 := Lib.hid (H5.out.put hMd)
                  clear hMd
                  unfold str at hput
                  go_wp2_with fail
                  go_roundw
                  case rel => exact ⟨0 + 1, T ++ [(t, x)], r2, by omega, by go_num, by rw [lastT_snoc], by simp [HLEN.out], HPAIR2.out, HSH2.out, by rw [← HK.out]; exact (many_next HLT.out HNEXT.out).symm, H6⟩
                  case measure => simp [intOf]; have := HLT.out; omega
              · have HTN := Lib.hid (show T ≠ [] from fun e => by have := HLEN.out; rw [e] at this; exact hk0 this.symm)
                have hlastl : (lastT T).length ≤ 60 := by
                  rcases List.eq_nil_or_concat T with e | ⟨T', y, e⟩
                  · exact absurd e HTN.out
                  · rw [e, List.concat_eq_append]
                    unfold lastT
                    simp
                    exact HSH.out y (by rw [e]; simp)
                have HFI := Lib.hid (fun W => walk_first (lastT T) t W (by omega) (by have := HTL.out; omega))
                generalize hz : Hy.cmpW (lastT T) t = z at HFI
                unfold str at HFI
                by_cases hz0 : z < 0
                case neg =>
                  have HZ := Lib.hid (show ¬ aheadW (lastT T) t = true from fun h => hz0 (by rw [← hz]; exact cmpW_ahead.2 h))
                  clear hz
                  go_wp2_with fail
                  refine (HFI.out _).mono ?_
                  rintro e w4 ⟨rfl, rfl⟩
                  go_wp2_with fail
                  refine (HNB.out _).mono ?_
                  rintro e w9 ⟨rfl, rfl⟩
                  exact ⟨rfl, ReadPost.bad (HBAD.out (by rw [HSTEP.out, if_neg (fun h => HZ.out ((lastT_iff HTN.out).1 h.2.1))])) H3.out.only⟩
                case pos =>
                  have HZ := Lib.hid (show Hy.cmpW (lastT T) t < 0 by rw [hz]; exact hz0)
                  clear hz
                  by_cases hx0 : x = []
                  case pos =>
                    have HX0 := Lib.hid hx0
                    subst hx0
                    go_wp2_with fail
                    refine (HFI.out _).mono ?_
                    rintro e w4 ⟨rfl, rfl⟩
                    go_wp2_with fail
                    refine (HNB.out _).mono ?_
                    rintro e w9 ⟨rfl, rfl⟩
                    exact ⟨rfl, ReadPost.bad (HBAD.out (by rw [HSTEP.out, if_neg (fun h => h.2.2.1 rfl)])) H3.out.only⟩
                  have hnz : ((⟨x.toArray⟩ : ByteArray).toList == ([] : List UInt8)) = false := by rw [ByteArray_toList]; cases x with | nil => exact absurd rfl hx0 | cons c r => rfl
                  have hnz2 : x.isEmpty = false := by cases x with | nil => exact absurd rfl hx0 | cons c r => rfl
                  cases hth : Hy.isThing x with
                  | false =>
                    have HTH := Lib.hid hth
                    have HIS := Lib.hid (fun W => walk_isThing x W (by omega))
                    rw [hth] at HIS
                    clear hth
                    go_wp2_with fail
                    refine (HFI.out _).mono ?_
                    rintro e w4 ⟨rfl, rfl⟩
                    go_wp2_with fail
                    refine (HIS.out _).mono ?_
                    rintro e w5 ⟨rfl, hB5⟩
                    have H5 := Lib.hid (H3.out.below hB5); clear hB5
                    go_wp2_with fail
                    refine (HNB.out _).mono ?_
                    rintro e w9 ⟨rfl, rfl⟩
                    exact ⟨rfl, ReadPost.bad (HBAD.out (by rw [HSTEP.out, if_neg (fun h => by have := h.2.2.2; rw [HTH.out] at this; cases this)])) H5.out.only⟩
                  | true =>
                    have HIS := Lib.hid (fun W => walk_isThing x W (by omega))
                    rw [hth] at HIS
                    have hnext : thingStep o (T, lk) = some (T ++ [(t, x)], r2) := by rw [HSTEP.out, if_pos ⟨by rw [HLEN.out]; exact h200, (lastT_iff HTN.out).2 (cmpW_ahead.1 HZ.out), hx0, hth⟩]
                    have hp2 := thingStep_pair HPAIR.out hnext
                    have HNEXT := Lib.hid hnext
                    have HPAIR2 := Lib.hid hp2.1
                    have HALL := Lib.hid ((List.pairwise_append.1 hp2.1).2.2)
                    have HALL := Lib.hid (fun p hp => HALL.out p hp (t, x) (by simp))
                    have HSH2 := Lib.hid (show ∀ p ∈ T ++ [(t, x)], p.1.length ≤ 60 from fun p hp => by
                      rcases List.mem_append.1 hp with hp | hp
                      · exact HSH.out p hp
                      · rw [List.mem_singleton.1 hp]; exact HTL.out)
                    clear hth hnext hp2
                    go_wp2_with fail
                    refine (HFI.out _).mono ?_
                    rintro e w4 ⟨rfl, rfl⟩
                    go_wp2_with fail
                    refine (HIS.out _).mono ?_
                    rintro e w5 ⟨rfl, hB5⟩
                    have H5 := Lib.hid (H3.out.below hB5); clear hB5
                    go_wp2_with fail
                    refine (HNO.out _).mono ?_
                    rintro e w9 ⟨rfl, rfl⟩
                    have c5 := cell_of_heap H5.out.m.cells 5
                    simp [mapCells] at c5
                    obtain ⟨ob, hput, hMd⟩ := H5.out.m.things.put keys_str Tryz.underlying55 t x
                    rw [mput_new (fun p hp e => by have h1 := HALL.out p hp; rw [e, ahead_irrefl] at h1; cases h1)] at hMd
                    have H6 := Lib.hid (H5.out.put hMd)
                    clear hMd
                    unfold str at hput
                    go_wp2_with fail
                    go_roundw
                    case rel => exact ⟨k + 1, T ++ [(t, x)], r2, by omega, by go_num, by rw [lastT_snoc], by simp [HLEN.out], HPAIR2.out, HSH2.out, by rw [← HK.out]; exact (many_next HLT.out HNEXT.out).symm, H6⟩
                    case measure => simp [intOf]; have := HLT.out; omega
      · obtain rfl : k = n := by omega
        have HNO := Lib.hid (fun W => walk_need_ok W)
        have HNB := Lib.hid (fun W => walk_need_bad W)
        have hres := HP0.out
        rw [← HK.out, Nat.sub_self] at hres
        have HRES := Lib.hid hres
        obtain ⟨v, hv1, hv2, aa, cap, rfl, hcap, hcells⟩ := HI.out.rd
        have c0 := cell_of_heap hv1 0
        simp at c0
        have HV1 := Lib.hid hv1
        clear hres hv1 hv2 hcells hcap hlt hk hlen hpair hsh HP0 HK
        cases lk with
        | nil =>
          go_wp2_with fail
          refine (HNO.out _).mono ?_
          rintro e w9 ⟨rfl, rfl⟩
          go_wp2_with fail
          go_end0
          rw [HRES.out]
          exact ⟨rfl, HI.out.only, mb, wb, tb, HI.out.mge, HI.out.wge, HI.out.tge, ⟨_, HV1.out⟩, HI.out.m⟩
        | cons c lk =>
          have hne : ¬ lk.length + 1 = 0 := by omega
          go_wp2_with fail
          refine (HNB.out _).mono ?_
          rintro e w9 ⟨rfl, rfl⟩
          exact ⟨rfl, ReadPost.bad (by rw [HRES.out]; rfl) HI.out.only⟩
end Go.Proofs.YtbfnnlcckpabnaaGreat
