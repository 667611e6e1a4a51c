/- walk.reader.read: the walls of an image. -/
import Derived.Test.YtbfnnlcckpabnaaGreatLd7a
namespace Go.Proofs.YtbfnnlcckpabnaaGreat
set_option linter.unusedSimpArgs false
set_option linter.unusedVariables false
open Go.RowKit

section
variable {N rb mb wb tb : Nat} {o : Hy.Ord} {w0 W W' : World} {l l' : List UInt8} {WL : Walls} {T : Things}

/-- A wall is put into the map. -/
theorem TInv.putW (h : TInv N rb mb wb tb o w0 W l WL T) {ob : Obj} {W' : Walls} (hm : MapAt (W.putObj wb ob) encEdge Value.bool wb W') : TInv N rb mb wb tb o w0 (W.putObj wb ob) l W' T := by
  have h1 := h.m.lt
  have h2 := h.rlt
  have h3 := h.mge
  have h4 := h.wge
  have h5 := h.tge
  have hmt : mb ≠ wb := by
    rintro rfl
    obtain ⟨es, c, e1, _⟩ := h.m.walls
    rw [h.m.cells] at e1
    cases e1
  have hrd := h.rd.lt
  have ho : Only (fun k => k = wb) W (W.putObj wb ob) := Only.putObj (B := fun k => k = wb) (Only.refl _ W) rfl ob
  exact ⟨h.rd.only ho (by omega) (fun k hk => by omega), ⟨(ho.block mb hmt).trans h.m.cells, hm, h.m.things.of_heap (ho.block tb (Ne.symm h.m.apart)), h.m.apart, h.m.ok⟩,
    h.only.putObj (.inr h4) ob, h2, h3, h4, h5⟩

/-- A store into another block. -/
theorem TInv.other (h : TInv N rb mb wb tb o w0 W l WL T) {b : Nat} (ho : Only (fun k => k = b) W W') (h0 : w0.heap.size ≤ b) (hm : b ≠ mb) (hw : b ≠ wb) (ht : b ≠ tb) : TInv N rb mb wb tb o w0 W' l WL T := by
  have h2 := h.rlt
  have hrd := h.rd.lt
  exact ⟨h.rd.only ho (by omega) (fun k hk => by omega), h.m.only ho (Ne.symm hm) (Ne.symm hw) (Ne.symm ht), h.only.trans (ho.mono fun k hk => .inr (by rw [hk]; exact h0)), h2, h.mge, h.wge, h.tge⟩
end

/-- The last wall. -/
def lastE (T : WallList) : List UInt8 × Int := T.getLast?.getD ([], 0)

theorem lastE_snoc (T : WallList) (e : List UInt8 × Int) : lastE (T ++ [e]) = e := by
  unfold lastE; simp

theorem lastE_iff {T : WallList} {e : List UInt8 × Int} (hT : T ≠ []) : (∀ y ∈ T.getLast?, before y e = true) ↔ before (lastE T) e = true := by
  unfold lastE
  rcases List.eq_nil_or_concat T with rfl | ⟨a, l, rfl⟩
  · exact absurd rfl hT
  · simp

theorem wallStep_eq {o : Hy.Ord} {T : WallList} {l t r : List UInt8} {c : UInt8} (ht : takeTile o l = some (t, c :: r)) : wallStep o (T, l) = if (c.toNat ≤ 2 ∧ T.length < 100 ∧ ∀ x ∈ T.getLast?, before x (t, (c.toNat : Int)) = true) ∧ upward o t c.toNat = true then some (T ++ [(t, (c.toNat : Int))], r) else none := by
  unfold wallStep
  simp only [ht]

theorem wallStep_none {o : Hy.Ord} {T : WallList} {l t : List UInt8} (ht : takeTile o l = some (t, [])) : wallStep o (T, l) = none := by
  unfold wallStep
  simp only [ht]

theorem wallStep_out {o : Hy.Ord} {T : WallList} {l : List UInt8} (ht : takeTile o l = none) : wallStep o (T, l) = none := by
  unfold wallStep
  simp only [ht]

theorem one_store {w : World} {b : Nat} {x y v : Value} {t : TypeId} (h : w.heap[b]? = some (.cells #[x, y] t (0, 0))) : (w.setCell ⟨b, 1, none⟩ v).heap[b]? = some (.cells #[x, v] t (0, 0)) :=
  heap_setCell_same _ _ _ _ _ _ h

set_option maxRecDepth 100000 in
set_option maxHeartbeats 16000000 in
theorem walk_walls_loop {N rb mb wb tb lb : Nat} {o : Hy.Ord} {w wc : World} {l : List UInt8} (F : Hy.Fine o) (ho : Small o) (h : TInv N rb mb wb tb o w wc l [] []) (hl : wc.heap[lb]? = some (.cells #[.string ⟨#[]⟩, .int .i64 0] 64 (0, 0)))
    (hl0 : w.heap.size ≤ lb) (hl1 : lb ≠ mb) (hl2 : lb ≠ wb) (hl3 : lb ≠ tb) {P : Option (WallList × ThingList)} (hP : P = parseRest o l) {K : Act → World → Prop}
    (hK : ∀ (T : WallList) (lk : List UInt8) (wx : World), TInv N rb mb wb tb o w wx lk (T.map fun e => (e, true)) [] → P = afterWalls o (some (T, lk)) → ∀ (s1 s2 s4 s5 s6 s7 s8 s9 s10 s11 s12 s13 s14 s15 s16 s17 s18 s19 s20 s21 s22 s23 s24 s25 s26 s27 s28 s29 s30 s31 s32 s33 s34 s35 s36 s37 s38 s39 s40 s41 s42 s43 s44 s45 s46 s47 s48 s49 s50 s51 s52 s53 s54 s55 s56 s57 s58 s59 s60 s61 s62 s63 s64 s65 s66 s67 s68 s69 s70 s71 s72 s73 s74 s75 s76 s77 s78 s79 s80 s81 s82 s83 s84 s85 s86 s87 s88 s89 s90 s91 s92 s93 s94 s95 s96 s97 s98 s99 s100 s101 s102 s103 s104 s105 s106 s107 s108 s109 s110 s111 s112 s113 s114 s115 s116 s117 s118 s119 s120 s121 s122 s123 s124 s125 s126 s127 s128 s129 s130 s131 s132 s133 s134 s135 s136 s137 s138 s139 : Value), K ⟨#[.pointer (some ⟨rb, 0, none⟩), s1, s2, mptr mb, s4, s5, s6, s7, s8, s9, s10, s11, s12, s13, s14, s15, s16, s17, s18, s19, s20, s21, s22, s23, s24, s25, s26, s27, s28, s29, s30, s31, s32, s33, s34, s35, s36, s37, s38, s39, s40, s41, s42, s43, s44, s45, s46, s47, s48, s49, s50, s51, s52, s53, s54, s55, s56, s57, s58, s59, s60, s61, s62, s63, s64, s65, s66, s67, s68, s69, s70, s71, s72, s73, s74, s75, s76, s77, s78, s79, s80, s81, s82, s83, s84, s85, s86, s87, s88, s89, s90, s91, s92, s93, s94, s95, s96, s97, s98, s99, s100, s101, s102, s103, s104, s105, s106, s107, s108, s109, s110, s111, s112, s113, s114, s115, s116, s117, s118, s119, s120, s121, s122, s123, s124, s125, s126, s127, s128, s129, s130, s131, s132, s133, s134, s135, s136, s137, s138, s139], []⟩ wx) (s1 s2 s4 s6 s7 s8 s9 s10 s11 s12 s13 s14 s15 s16 s17 s18 s19 s20 s21 s22 s23 s24 s25 s26 s27 s28 s29 s30 s31 s32 s33 s34 s35 s36 s37 s38 s39 s40 s41 s42 s43 s44 s45 s46 s47 s48 s49 s50 s51 s52 s53 s54 s55 s56 s57 s58 s59 s60 s61 s62 s63 s64 s65 s66 s67 s68 s69 s70 s71 s72 s73 s74 s75 s76 s77 s78 s79 s80 s81 s82 s83 s84 s85 s86 s87 s88 s89 s90 s91 s92 s93 s94 s95 s96 s97 s98 s99 s100 s101 s102 s103 s104 s105 s106 s107 s108 s109 s110 s111 s112 s113 s114 s115 s116 s117 s118 s119 s120 s121 s122 s123 s124 s125 s126 s127 s128 s129 s130 s131 s132 s133 s134 s135 s136 s137 s138 s139 : Value) :
    Code.wp Tryz.prog (front (behind 5 (Tryz.f44.body.getD .skip))) (Exit.then K (bodyPost Tryz.prog Tryz.f44 (ReadPost rb o P w))) ⟨#[.pointer (some ⟨rb, 0, none⟩), s1, s2, mptr mb, s4, .pointer (some ⟨lb, 0, none⟩), s6, s7, s8, s9, s10, s11, s12, s13, s14, s15, s16, s17, s18, s19, s20, s21, s22, s23, s24, s25, s26, s27, s28, s29, s30, s31, s32, s33, s34, s35, s36, s37, s38, s39, s40, s41, s42, s43, s44, s45, s46, s47, s48, s49, s50, s51, s52, s53, s54, s55, s56, s57, s58, s59, s60, s61, s62, s63, s64, s65, s66, s67, s68, s69, s70, s71, s72, s73, s74, s75, s76, s77, s78, s79, s80, s81, s82, s83, s84, s85, s86, s87, s88, s89, s90, s91, s92, s93, s94, s95, s96, s97, s98, s99, s100, s101, s102, s103, s104, s105, s106, s107, s108, s109, s110, s111, s112, s113, s114, s115, s116, s117, s118, s119, s120, s121, s122, s123, s124, s125, s126, s127, s128, s129, s130, s131, s132, s133, s134, s135, s136, s137, s138, s139], []⟩ wc := by
  suffices hh : ∀ c, c = front (behind 5 (Tryz.f44.body.getD .skip)) → Code.wp Tryz.prog c (Exit.then K (bodyPost Tryz.prog Tryz.f44 (ReadPost rb o P w))) ⟨#[.pointer (some ⟨rb, 0, none⟩), s1, s2, mptr mb, s4, .pointer (some ⟨lb, 0, none⟩), s6, s7, s8, s9, s10, s11, s12, s13, s14, s15, s16, s17, s18, s19, s20, s21, s22, s23, s24, s25, s26, s27, s28, s29, s30, s31, s32, s33, s34, s35, s36, s37, s38, s39, s40, s41, s42, s43, s44, s45, s46, s47, s48, s49, s50, s51, s52, s53, s54, s55, s56, s57, s58, s59, s60, s61, s62, s63, s64, s65, s66, s67, s68, s69, s70, s71, s72, s73, s74, s75, s76, s77, s78, s79, s80, s81, s82, s83, s84, s85, s86, s87, s88, s89, s90, s91, s92, s93, s94, s95, s96, s97, s98, s99, s100, s101, s102, s103, s104, s105, s106, s107, s108, s109, s110, s111, s112, s113, s114, s115, s116, s117, s118, s119, s120, s121, s122, s123, s124, s125, s126, s127, s128, s129, s130, s131, s132, s133, s134, s135, s136, s137, s138, s139], []⟩ wc from hh _ rfl
  intro c hcode
  simp only [Tryz.f44, Option.getD_some, behind, front] at hcode
  subst hcode
  have HK0 := Lib.hid hK; clear hK
  have H := Lib.hid h; clear h
  have HL := Lib.hid hl; clear hl
  rw [parseRest_eq] at hP
  unfold mptr
  cases hn : takeNum l with
  | none =>
    rw [hn] at hP
    have HP0 := Lib.hid hP; clear hP
    have HC := Lib.hid (walk_count_bad H.out.rd (takeNum_none hn))
    clear hn
    go_wp2_with fail
    refine HC.out.mono ?_
    rintro e w1 ⟨rfl, hO⟩
    exact ⟨rfl, ReadPost.bad HP0.out (H.out.bad hO)⟩
  | some p =>
    obtain ⟨n, r3⟩ := p
    rw [hn] at hP
    simp only at hP
    obtain ⟨a, b, rfl, hnn⟩ := takeNum_some hn
    have HP0 := Lib.hid hP; clear hP hn
    have HC := Lib.hid (walk_count H.out.rd)
    rw [← hnn] at HC
    clear hnn
    go_wp2_with fail
    refine HC.out.mono ?_
    rintro e w1 ⟨rfl, hr1, hO1⟩
    have H1 := Lib.hid (H.out.reads hr1 hO1)
    have hlb1 := (hO1.block lb (by have := H.out.rlt; have := (Array.getElem?_eq_some_iff.1 HL.out).1; omega)).trans HL.out
    have HL1 := Lib.hid hlb1
    clear hr1 hO1 HC hlb1 HL
    go_wp2_with fail
    go_loopw [39] (fun i wr => ∃ (k : Nat) (T : WallList) (lk : List UInt8), k ≤ n ∧ i = .int .i64 k ∧ T.length = k ∧ T.Pairwise (fun x y => before x y = true) ∧ (∀ p ∈ T, p.1.length ≤ 60) ∧ Hid (many (wallStep o) (n - k) (T, lk) = many (wallStep o) n ([], r3)) ∧ Hid (TInv N rb mb wb tb o w wr lk (T.map fun e => (e, true)) []) ∧
      Hid (wr.heap[lb]? = some (.cells #[.string ⟨(lastE T).1.toArray⟩, .int .i64 (lastE T).2] 64 (0, 0)))) (fun i _ => n - (intOf i).toNat)
    case atStart => exact ⟨0, [], r3, Nat.zero_le _, rfl, rfl, List.Pairwise.nil, by simp, rfl, H1, HL1⟩
    case round =>
      obtain ⟨k, T, lk, hk, rfl, hlen, hpair, hsh, HK, HI, HL⟩ := hrel
      by_cases hlt : k < n
      · have HBAD := Lib.hid (fun (hs : wallStep o (T, lk) = none) => show P = none by rw [HP0.out, ← HK.out, many_none hlt hs]; rfl)
        have HLEN := Lib.hid hlen
        have HPAIR := Lib.hid hpair
        have HSH := Lib.hid hsh
        have HLT := Lib.hid hlt
        have HNO := Lib.hid (fun W => walk_need_ok W)
        have HNB := Lib.hid (fun W => walk_need_bad W)
        clear hlen hpair hsh
        cases htx : takeText lk with
        | none =>
          have HC := Lib.hid (walk_tile_bad HI.out.rd htx)
          have HB0 := Lib.hid (HBAD.out (wallStep_out (takeTile_out htx)))
          clear htx
          go_wp2_with fail
          refine HC.out.mono ?_
          rintro e w2 ⟨rfl, hO⟩
          exact ⟨rfl, ReadPost.bad HB0.out (HI.out.bad hO)⟩
        | some q =>
          obtain ⟨t, r⟩ := q
          have hmb := HI.out.m.cells
          have hmne : mb ≠ rb := by have := HI.out.rlt; have := HI.out.mge; omega
          have HC := Lib.hid (walk_tile F ho HI.out.m.ok HI.out.rd hmb hmne htx)
          have HTX := Lib.hid htx
          clear htx hmb hmne
          go_wp2_with fail
          refine HC.out.mono ?_
          intro e w2 hpost
          unfold TilePost at hpost
          clear HC
          by_cases htile : Hy.wordErr t = 0 ∧ Hy.norm o 1000 t = some t
          case neg =>
            rw [if_neg htile] at hpost
            obtain ⟨rfl, hO⟩ := hpost
            exact ⟨rfl, ReadPost.bad (HBAD.out (wallStep_out (takeTile_not HTX.out htile))) (HI.out.bad hO)⟩
          rw [if_pos htile] at hpost
          obtain ⟨rfl, hr2, hO2⟩ := hpost
          have H2 := Lib.hid (HI.out.reads hr2 hO2)
          have hlb2 := (hO2.block lb (by have := HI.out.rlt; have := (Array.getElem?_eq_some_iff.1 HL.out).1; omega)).trans HL.out
          have HL2 := Lib.hid hlb2
          clear hr2 hO2 hlb2
          have HTT := Lib.hid (takeTile_of HTX.out htile)
          have HTE := Lib.hid htile.1
          have HTL := Lib.hid (Hy.wordErr_letters htile.1).2
          clear htile
          unfold str
          have hB3 : Below w2.heap.size w2 (w2.alloc (.cells #[.string ⟨t.toArray⟩, .int .i64 0] 64)) := (Below.refl _ _).alloc (Nat.le_refl _) _
          have hs3 := alloc_heap_new w2 (.cells #[.string ⟨t.toArray⟩, .int .i64 0] 64)
          have HS3 := Lib.hid hs3
          have H3 := Lib.hid (H2.out.below hB3)
          have HL3 := Lib.hid ((hB3.block lb (Array.getElem?_eq_some_iff.1 HL2.out).1).trans HL2.out)
          clear hB3 hs3
          cases r with
          | nil =>
            have HB0 := Lib.hid (HBAD.out (wallStep_none HTT.out))
            have HC := Lib.hid (walk_byte1_bad H3.out.rd)
            go_wp2_with fail
            refine HC.out.mono ?_
            rintro e w4 ⟨rfl, hO⟩
            exact ⟨rfl, ReadPost.bad HB0.out (H3.out.bad hO)⟩
          | cons c r =>
            have HSTEP := Lib.hid (wallStep_eq (T := T) HTT.out)
            have HC := Lib.hid (walk_byte1 H3.out.rd)
            go_wp2_with fail
            refine HC.out.mono ?_
            rintro e w4 ⟨rfl, hr4, hO4⟩
            have H4 := Lib.hid (H3.out.reads hr4 hO4)
            have hrlt := H2.out.rd.lt
            have hlblt := (Array.getElem?_eq_some_iff.1 HL2.out).1
            have hrw := H2.out.rlt
            have hs4 := (hO4.block w2.heap.size (by simp; omega)).trans HS3.out
            have hlb4 := (hO4.block lb (by simp; omega)).trans HL3.out
            have g1 := free_of_heap hs4 1
            have c1 := cell_of_heap hs4 1
            simp at c1
            have HS4 := Lib.hid hs4
            have HL4 := Lib.hid hlb4
            clear hr4 hO4 hs4 hlb4 HC
            go_upto_region 10 with fail
            obtain ⟨W5, hW5⟩ : ∃ W5, w4.setCell ⟨w2.heap.size, 1, none⟩ (.int .i64 (c.toNat : Int)) = W5 := ⟨_, rfl⟩
            have hs5 : W5.heap[w2.heap.size]? = some (.cells #[.string ⟨t.toArray⟩, .int .i64 (c.toNat : Int)] 64 (0, 0)) := by rw [← hW5]; exact one_store HS4.out
            have hO5 : Only (fun k => k = w2.heap.size) w4 W5 := by rw [← hW5]; exact Only.setCell (B := fun k => k = w2.heap.size) (Only.refl _ w4) (p := ⟨w2.heap.size, 1, none⟩) rfl _
            have hmlt := H2.out.m.lt
            have h05 := H2.out.only.size
            have H5 := Lib.hid (H4.out.other hO5 (by omega) (by omega) (by omega) (by omega))
            have hl5 := (hO5.block lb (by omega)).trans HL4.out
            have HL5 := Lib.hid hl5
            have HS5 := Lib.hid hs5
            rw [hW5]
            clear hW5 g1 c1 HS4 HL4 H4 HS3 HL3 H3 hO5
            have q0 := cell_of_heap hs5 0
            have q1 := cell_of_heap hs5 1
            have p0 := cell_of_heap hl5 0
            have p1 := cell_of_heap hl5 1
            simp at q0 q1 p0 p1
            clear hs5 hl5
            go_cut [7] (fun s wx => s = .pointer (some ⟨w2.heap.size, 0, none⟩) ∧ Hid (c.toNat ≤ 2 ∧ T.length < 100 ∧ ∀ x ∈ T.getLast?, before x (t, (c.toNat : Int)) = true) ∧ Hid (Below W5.heap.size W5 wx))
            case first =>
              by_cases hc2 : c.toNat ≤ 2
              case neg =>
                have HC2 := Lib.hid hc2
                go_wp2_with fail
                refine (HNB.out _).mono ?_
                rintro e w9 ⟨rfl, rfl⟩
                exact ⟨rfl, ReadPost.bad (HBAD.out (by rw [HSTEP.out, if_neg (fun h => HC2.out h.1.1)])) H5.out.only⟩
              by_cases h100 : k < 100
              case neg =>
                have HC2 := Lib.hid h100
                go_wp2_with fail
                refine (HNB.out _).mono ?_
                rintro e w9 ⟨rfl, rfl⟩
                exact ⟨rfl, ReadPost.bad (HBAD.out (by rw [HSTEP.out, if_neg (fun h => HC2.out (by rw [← HLEN.out]; exact h.1.2.1))])) H5.out.only⟩
              by_cases hk0 : k = 0
              · subst hk0
                have HT0 := Lib.hid (List.length_eq_zero_iff.1 HLEN.out)
                have HC2 := Lib.hid hc2
                go_wp2_with fail
                refine (HNO.out _).mono ?_
                rintro e w9 ⟨rfl, rfl⟩
                go_wp2_with fail
                all_goals go_meet
                case rel => exact ⟨rfl, ⟨HC2.out, by rw [HLEN.out]; omega, by rw [HT0.out]; simp⟩, Below.refl _ _⟩
              · have HTN := Lib.hid (show T ≠ [] from fun e => by have := HLEN.out; rw [e] at this; exact hk0 this.symm)
                have HC2 := Lib.hid hc2
                have H100 := Lib.hid h100
                have hlastl : (lastE T).1.length ≤ 60 := by
                  rcases List.eq_nil_or_concat T with e | ⟨T', y, e⟩
                  · exact absurd e HTN.out
                  · rw [e, List.concat_eq_append, lastE_snoc]
                    exact HSH.out y (by rw [e]; simp)
                have HORD := Lib.hid (fun W => walk_ordered (lastE T) (t, (c.toNat : Int)) W (by omega) (by have := HTL.out; simp only; omega))
                generalize hz : cmpE (lastE T) (t, (c.toNat : Int)) = z at HORD
                unfold encEdge at HORD
                simp only at HORD
                by_cases hz0 : z < 0
                case neg =>
                  have HZ := Lib.hid (show ¬ before (lastE T) (t, (c.toNat : Int)) = true from fun h => hz0 (by rw [← hz]; exact cmpE_before.2 h))
                  clear hz
                  have g8 : ((k : Int) == 0) = false := by rw [beq_eq_false_iff_ne]; omega
                  have g9 : decide (z < 0) = false := decide_eq_false hz0
                  go_wp2_with fail
                  refine (HORD.out _).mono ?_
                  rintro e w6 ⟨rfl, hB6⟩
                  have H6 := Lib.hid (H5.out.below hB6); clear hB6
                  go_wp2_with fail
                  refine (HNB.out _).mono ?_
                  rintro e w9 ⟨rfl, rfl⟩
                  exact ⟨rfl, ReadPost.bad (HBAD.out (by rw [HSTEP.out, if_neg (fun h => HZ.out ((lastE_iff HTN.out).1 h.1.2.2))])) H6.out.only⟩
                case pos =>
                  have HZ := Lib.hid (show before (lastE T) (t, (c.toNat : Int)) = true from cmpE_before.1 (by rw [hz]; exact hz0))
                  clear hz
                  have g8 : ((k : Int) == 0) = false := by rw [beq_eq_false_iff_ne]; omega
                  have g9 : decide (z < 0) = true := decide_eq_true hz0
                  go_wp2_with fail
                  refine (HORD.out _).mono ?_
                  rintro e w6 ⟨rfl, hB6⟩
                  have HB6 := Lib.hid hB6; clear hB6
                  go_wp2_with fail
                  refine (HNO.out _).mono ?_
                  rintro e w9 ⟨rfl, rfl⟩
                  go_wp2_with fail
                  all_goals go_meet
                  case rel => exact ⟨rfl, ⟨HC2.out, by rw [HLEN.out]; exact H100.out, (lastE_iff HTN.out).2 HZ.out⟩, HB6.out⟩
            case rest =>
              obtain ⟨rfl, HOKS, HB6⟩ := hcut
              have H6 := Lib.hid (H5.out.below HB6.out)
              have hs6 := (HB6.out.block w2.heap.size (Array.getElem?_eq_some_iff.1 HS5.out).1).trans HS5.out
              have hl6 := (HB6.out.block lb (Array.getElem?_eq_some_iff.1 HL5.out).1).trans HL5.out
              obtain ⟨W6, hW6⟩ : ∃ W6, W6 = wc := ⟨_, rfl⟩
              rw [← hW6] at H6 hs6 hl6 ⊢
              clear hW6 HB6 q0 q1 p0 p1 HS5 HL5 H5
              have q0 := cell_of_heap hs6 0
              have q1 := cell_of_heap hs6 1
              simp at q0 q1
              have HS6 := Lib.hid hs6
              have HL6 := Lib.hid hl6
              have hsz := (Array.getElem?_eq_some_iff.1 hs6).1
              have hc3 : c.toNat < 3 := by have := HOKS.out.1; omega
              have hlets := lets_of_err HTE.out
              obtain ⟨nx, hnx, _⟩ := Hy.norm_ok F (fuel := 1000) (w := t ++ Hy.letter c.toNat) (Hy.Lets.app.2 ⟨hlets, Hy.lets_letter hc3⟩) (by have := HTL.out; simp [Hy.letter]; omega) (by have := HTL.out; simp [Hy.letter]; omega)
              have hwe : Hy.wordsErr [t, Hy.letter c.toNat] = 0 := by
                rw [Hy.wordsErr_two, HTE.out, wordErr_lets (Hy.lets_letter hc3) (by simp [Hy.letter])]
                rfl
              have hupw : upward o t c.toNat = decide (t.length < nx.length) := by unfold upward; rw [hnx]
              have HUP := Lib.hid hupw
              have HLET := Lib.hid (fun W => walk_letter c.toNat (by omega) W)
              have HTO := Lib.hid (fun W (hM : MRep W o mb wb tb (T.map fun e => (e, true)) []) => walk_to hM ho t (Hy.letter c.toNat) hwe 1000 nx hnx)
              unfold str at HLET HTO
              have HWE := Lib.hid hwe
              have HNX := Lib.hid hnx
              clear hs6 hl6 hnx hwe hupw hlets
              go_upto_region 11 with fail
              by_cases hup : t.length < nx.length
              case neg =>
                have HN := Lib.hid hup
                have g7 : ¬ (t.length : Int) < (nx.length : Int) := by omega
                have hbad : P = none := HBAD.out (by rw [HSTEP.out, if_neg (fun h => HN.out (by have := h.2; rw [HUP.out] at this; exact of_decide_eq_true this))])
                have HB0 := Lib.hid hbad; clear hbad
                have hrest := @walk_not_upward mb wb tb w2.heap.size o W6 _ _ t nx c.toNat (by omega) ho H6.out.m HWE.out HNX.out hsz q0 q1 hup
                simp only [Tryz.f44, Option.getD_some, behind, front, inside, wallBody] at hrest
                refine Code.wp_mono (fun e a wq hq => ?_) (hrest _ _ _ _ _ _ _ _ _ _ _ _ _ _ _ _ _ _ _ _ _ _ _ _ _ _ _ _ _ _ _ _ _ _ _ _ _ _ _ _ _ _ _ _ _ _ _ _ _ _ _ _ _ _ _ _ _ _ _ _ _ _ _ _ _ _ _ _ _ _ _ _ _ _ _ _ _ _ _ _ _ _ _ _ _ _ _ _ _ _ _ _ _ _ _ _ _ _ _ _ _ _ _ _ _ _ _ _ _ _ _ _ _ _ _ _ _ _ _ _ _ _ _ _ _ _ _ _ _ _ _ _ _ _ _ _ _ _)
                cases e with
                | panic ch =>
                  obtain ⟨hd, he, hB⟩ := hq
                  cases he
                  exact ⟨hd, ReadPost.bad HB0.out (H6.out.below hB).only⟩
                | normal => exact absurd hq.2.choose_spec.2.1 (by simp)
                | ret => exact absurd hq.2.choose_spec.2.1 (by simp)
                | outgrown => exact absurd hq.1 (by simp)
                | exit => exact hq.elim
                | goto => exact hq.elim
              have g7 : (t.length : Int) < (nx.length : Int) := by omega
              go_cut [7] (fun s wx => s = .pointer (some ⟨w2.heap.size, 0, none⟩) ∧ Hid (Below W6.heap.size W6 wx))
              case first =>
                go_region_held3 (fun w' => w'.cell? ⟨w2.heap.size, 0, none⟩ = some (.string ⟨t.toArray⟩) ∧ w'.cell? ⟨w2.heap.size, 1, none⟩ = some (.int .i64 (c.toNat : Int)))
                  (first | go_keep | (with_reducible (exact ⟨q0, q1⟩)) | (with_reducible (exact ⟨r0, r1⟩)) | (with_reducible (exact ⟨t0, t1⟩)))
                  ((first
                    | (go_at_call 53; refine (HLET.out _).mono ?_; rintro e w7 ⟨rfl, hB7⟩; obtain ⟨hc7, hf7⟩ := bcell hB7; have r0 : w7.cell? ⟨w2.heap.size, 0, none⟩ = some (.string ⟨t.toArray⟩) := (hc7 _ _ hsz).trans q0; have r1 : w7.cell? ⟨w2.heap.size, 1, none⟩ = some (.int .i64 (c.toNat : Int)) := (hc7 _ _ hsz).trans q1; have hz7 : w2.heap.size < w7.heap.size := Nat.lt_of_lt_of_le hsz hB7.size; have hb7 : Below W6.heap.size W6 w7 := below_undrew hB7; have HB7 := Lib.hid hb7; clear hb7 hB7 hc7 hf7)
                    | (go_at_call 50; refine (HTO.out _ (H6.out.below HB7.out).m).mono ?_; rintro e w8 ⟨rfl, hB8⟩; obtain ⟨hc8, hf8⟩ := bcell hB8; have t0 : w8.cell? ⟨w2.heap.size, 0, none⟩ = some (.string ⟨t.toArray⟩) := (hc8 _ _ hz7).trans r0; have t1 : w8.cell? ⟨w2.heap.size, 1, none⟩ = some (.int .i64 (c.toNat : Int)) := (hc8 _ _ hz7).trans r1; have hb8 : Below W6.heap.size W6 w8 := HB7.out.trans (hB8.mono HB7.out.size); have HB8 := Lib.hid hb8; clear hb8 hB8 hc8 hf8)
                    | (go_at_call 70; refine (HNO.out _).mono ?_; rintro e w9 ⟨rfl, rfl⟩)))
                all_goals go_wp2_with fail
                all_goals go_meet
                case rel => exact ⟨rfl, HB8⟩
              case rest =>
                obtain ⟨rfl, HB8⟩ := hcut
                have H8 := Lib.hid (H6.out.below HB8.out)
                have hs8 := (HB8.out.block w2.heap.size hsz).trans HS6.out
                have hl8 := (HB8.out.block lb (Array.getElem?_eq_some_iff.1 HL6.out).1).trans HL6.out
                obtain ⟨W8, hW8⟩ : ∃ W8, W8 = wc := ⟨_, rfl⟩
                rw [← hW8] at H8 hs8 hl8 ⊢
                clear hW8 HB8 q0 q1 HS6 HL6 H6 HLET HTO
                have hnext : wallStep o (T, lk) = some (T ++ [(t, (c.toNat : Int))], r) := by rw [HSTEP.out, if_pos ⟨HOKS.out, by rw [HUP.out]; exact decide_eq_true hup⟩]
                have hp2 := wallStep_pair HPAIR.out hnext
                have HNEXT := Lib.hid hnext
                have HPAIR2 := Lib.hid hp2.1
                have HALL := Lib.hid ((List.pairwise_append.1 hp2.1).2.2)
                have HSH2 := Lib.hid (show ∀ p ∈ T ++ [(t, (c.toNat : Int))], p.1.length ≤ 60 from fun p hp => by
                  rcases List.mem_append.1 hp with hp | hp
                  · exact HSH.out p hp
                  · rw [List.mem_singleton.1 hp]; exact HTL.out)
                clear hnext hp2
                obtain ⟨ob, hput, hMd⟩ := H8.out.drew.m.walls.put keys_edge Tryz.underlying54 (t, (c.toNat : Int)) true
                rw [mput_new (fun p hp e => by
                  obtain ⟨x, hx, rfl⟩ := List.mem_map.1 hp
                  have h1 := HALL.out x hx (t, (c.toNat : Int)) (by simp)
                  rw [show x = (t, (c.toNat : Int)) from e, before_irrefl] at h1
                  cases h1)] at hMd
                have H9 := Lib.hid (H8.out.drew.putW hMd)
                have hws : wb ≠ w2.heap.size := by omega
                have hs9 := (show (W8.drew.putObj wb ob).heap[w2.heap.size]? = some (.cells #[.string ⟨t.toArray⟩, .int .i64 (c.toNat : Int)] 64 (0, 0)) from (World.putObj_heap_other (Ne.symm hws)).trans hs8)
                have hl9 := (show (W8.drew.putObj wb ob).heap[lb]? = some (.cells #[.string ⟨(lastE T).1.toArray⟩, .int .i64 (lastE T).2] 64 (0, 0)) from (World.putObj_heap_other hl2).trans hl8)
                have x0 := cell_of_heap hs8 0
                have x1 := cell_of_heap hs8 1
                have y0 := cell_of_heap hs9 0
                have y1 := cell_of_heap hs9 1
                have z0 := cell_of_heap hl9 0
                have z1 := cell_of_heap hl9 1
                have f0 := free_of_heap hl9 0
                have f1 := free_of_heap hl9 1
                have c4 := cell_of_heap H8.out.m.cells 4
                simp [mapCells] at x0 x1 y0 y1 z0 z1 c4
                have HL9 := Lib.hid hl9
                clear hMd hs8 hl8 hs9 hl9
                unfold encEdge at hput
                simp only at hput
                have hk100 : k < 100 := by rw [← HLEN.out]; exact HOKS.out.2.1
                go_wp2_with fail
                go_region
                all_goals go_wp2_with fail
                have hO10 := Only.setCell (B := fun j => j = lb) (Only.setCell (B := fun j => j = lb) (Only.refl _ (W8.drew.putObj wb ob)) (p := ⟨lb, 0, none⟩) rfl (.string ⟨t.toArray⟩)) (p := ⟨lb, 1, none⟩) rfl (.int .i64 (c.toNat : Int))
                have H10 := Lib.hid (H9.out.other hO10 hl0 hl1 hl2 hl3)
                clear hO10
                go_roundw
                case rel => exact ⟨k + 1, T ++ [(t, (c.toNat : Int))], r, by omega, by go_num, by simp [HLEN.out], HPAIR2.out, HSH2.out, by rw [← HK.out]; exact (many_next HLT.out HNEXT.out).symm, by rw [List.map_append]; exact H10.out, by rw [lastE_snoc]; exact two_stores HL9.out⟩
                case measure => simp [intOf]; have := HLT.out; omega
      · obtain rfl : k = n := by omega
        have hres := HP0.out
        rw [← HK.out, Nat.sub_self] at hres
        have HRES := Lib.hid hres
        clear hres
        go_wp2_with fail
        exact HK0.out T lk _ HI.out HRES.out _ _ _ _ _ _ _ _ _ _ _ _ _ _ _ _ _ _ _ _ _ _ _ _ _ _ _ _ _ _ _ _ _ _ _ _ _ _ _ _ _ _ _ _ _ _ _ _ _ _ _ _ _ _ _ _ _ _ _ _ _ _ _ _ _ _ _ _ _ _ _ _ _ _ _ _ _ _ _ _ _ _ _ _ _ _ _ _ _ _ _ _ _ _ _ _ _ _ _ _ _ _ _ _ _ _ _ _ _ _ _ _ _ _ _ _ _ _ _ _ _ _ _ _ _ _ _ _ _ _ _ _ _ _ _ _ _ _
end Go.Proofs.YtbfnnlcckpabnaaGreat
