/- The specification of layer 7, Load: the things. -/
import Derived.Test.YtbfnnlcckpabnaaGreatS8
import Derived.Test.YtbfnnlcckpabnaaGreatLd6
import Derived.Deep.RegionHeld3
import Derived.Deep.DeepCutAuto
import Derived.Deep.RegionLaw
import Derived.BigQuiet
namespace Go.Proofs.YtbfnnlcckpabnaaGreat
set_option linter.unusedSimpArgs false
set_option linter.unusedVariables false
open Go.RowKit
open Hy (Lets IsNF Eqv Le)

theorem infoThing : (Tryz.prog.info? 85).map (fun i => (i.zero, i.size, i.bytes)) = some (some (.agg #[.string ⟨#[]⟩, .string ⟨#[]⟩]), 2, 32) := by kernel_rfl

set_option maxRecDepth 100000 in
set_option maxHeartbeats 16000000 in
theorem r07_things_loop {rb mb : Nat} {WL : WallList} {o : Hy.Ord} {w wc : World} {L : List UInt8} {p n : Nat} {ok : Bool} {vw vt im : Value} (F : Hy.Fine o) (hS : Small o) (h : LInv rb mb o w wc L p ok vw vt WL []) {P : Option (Hy.Ord × WallList × ThingList)} (hn : n ≤ 200)
    (hgood : ok = true → P = (afterThings WL (many (thingStep o) n ([], L.drop p))).map (fun q => (o, q))) (hbad : ok = false → P = none) {K : Act → World → Prop}
    (hp0 : p ≤ 60000) (hK : ∀ (T : ThingList) (p : Nat) (ok : Bool) (vw vt : Value) (wx : World), LInv rb mb o w wx L p ok vw vt WL T → p ≤ 900000 → (ok = true → P = (afterThings WL (some (T, L.drop p))).map (fun q => (o, q))) → (ok = false → P = none) → ∀ (s1 s2 s3 s6 s7 s8 s9 s10 s11 s12 s13 s14 s15 s16 s17 s18 s19 s20 s21 s22 s23 s24 s25 s26 s27 s28 s29 s30 s31 s32 s33 s34 s35 s36 s37 s38 s39 s40 s41 s42 s43 s44 s45 s46 s47 s48 s49 s50 s51 s52 s53 s54 s55 s56 s57 s58 s59 s60 s61 s62 s63 s64 s65 s66 s67 s68 s69 s70 s71 s72 s73 s74 s75 s76 s77 s78 s79 s80 s81 s82 s83 s84 s85 s86 s87 s88 s89 s90 s91 s92 s93 s94 s95 s96 s97 s98 s99 s100 s101 s102 s103 s104 s105 s106 s107 s108 s109 s110 s111 s112 s113 s114 s115 s116 s117 s118 s119 s120 s121 s122 s123 s124 s125 s126 s127 s128 s129 s130 s131 s132 s133 s134 s135 s136 s137 s138 s139 s140 s141 s142 s143 s144 s145 s146 s147 s148 s149 s150 s151 s152 s153 s154 s155 s156 s157 s158 s159 s160 s161 s162 s163 s164 s165 s166 s167 s168 s169 s170 s171 s172 s173 s174 s175 s176 s177 s178 s179 s180 s181 s182 s183 s184 s185 s186 s187 s188 s189 s190 s191 s192 s193 s194 s195 s196 s197 s198 s199 s200 s201 s202 s203 s204 s205 s206 s207 : Value), K ⟨#[im, s1, s2, s3, .pointer (some ⟨rb, 0, none⟩), .pointer (some ⟨mb, 0, none⟩), s6, s7, s8, s9, s10, s11, s12, s13, s14, s15, s16, s17, s18, s19, s20, s21, s22, s23, s24, s25, s26, s27, s28, s29, s30, s31, s32, s33, s34, s35, s36, s37, s38, s39, s40, s41, s42, s43, s44, s45, s46, s47, s48, s49, s50, s51, s52, s53, s54, s55, s56, s57, s58, s59, s60, s61, s62, s63, s64, s65, s66, s67, s68, s69, s70, s71, s72, s73, s74, s75, s76, s77, s78, s79, s80, s81, s82, s83, s84, s85, s86, s87, s88, s89, s90, s91, s92, s93, s94, s95, s96, s97, s98, s99, s100, s101, s102, s103, s104, s105, s106, s107, s108, s109, s110, s111, s112, s113, s114, s115, s116, s117, s118, s119, s120, s121, s122, s123, s124, s125, s126, s127, s128, s129, s130, s131, s132, s133, s134, s135, s136, s137, s138, s139, s140, s141, s142, s143, s144, s145, s146, s147, s148, s149, s150, s151, s152, s153, s154, s155, s156, s157, s158, s159, s160, s161, s162, s163, s164, s165, s166, s167, s168, s169, s170, s171, s172, s173, s174, s175, s176, s177, s178, s179, s180, s181, s182, s183, s184, s185, s186, s187, s188, s189, s190, s191, s192, s193, s194, s195, s196, s197, s198, s199, s200, s201, s202, s203, s204, s205, s206, s207], []⟩ wx) (s1 s2 s3 s7 s8 s9 s10 s11 s12 s13 s14 s15 s16 s17 s18 s19 s20 s21 s22 s23 s24 s25 s26 s27 s28 s29 s30 s31 s32 s33 s34 s35 s36 s37 s38 s39 s40 s41 s42 s43 s44 s45 s46 s47 s48 s49 s50 s51 s52 s53 s54 s55 s56 s57 s58 s59 s60 s61 s62 s63 s64 s65 s66 s67 s68 s69 s70 s71 s72 s73 s74 s75 s76 s77 s78 s79 s80 s81 s82 s83 s84 s85 s86 s87 s88 s89 s90 s91 s92 s93 s94 s95 s96 s97 s98 s99 s100 s101 s102 s103 s104 s105 s106 s107 s108 s109 s110 s111 s112 s113 s114 s115 s116 s117 s118 s119 s120 s121 s122 s123 s124 s125 s126 s127 s128 s129 s130 s131 s132 s133 s134 s135 s136 s137 s138 s139 s140 s141 s142 s143 s144 s145 s146 s147 s148 s149 s150 s151 s152 s153 s154 s155 s156 s157 s158 s159 s160 s161 s162 s163 s164 s165 s166 s167 s168 s169 s170 s171 s172 s173 s174 s175 s176 s177 s178 s179 s180 s181 s182 s183 s184 s185 s186 s187 s188 s189 s190 s191 s192 s193 s194 s195 s196 s197 s198 s199 s200 s201 s202 s203 s204 s205 s206 s207 : Value) :
    Code.wp Tryz.prog (front7 (behind 14 (Tryz.f15.body.getD .skip))) (Exit.then K (bodyPost Tryz.prog Tryz.f15 (LoadPost7 P w))) ⟨#[im, s1, s2, s3, .pointer (some ⟨rb, 0, none⟩), .pointer (some ⟨mb, 0, none⟩), .int .i64 n, s7, s8, s9, s10, s11, s12, s13, s14, s15, s16, s17, s18, s19, s20, s21, s22, s23, s24, s25, s26, s27, s28, s29, s30, s31, s32, s33, s34, s35, s36, s37, s38, s39, s40, s41, s42, s43, s44, s45, s46, s47, s48, s49, s50, s51, s52, s53, s54, s55, s56, s57, s58, s59, s60, s61, s62, s63, s64, s65, s66, s67, s68, s69, s70, s71, s72, s73, s74, s75, s76, s77, s78, s79, s80, s81, s82, s83, s84, s85, s86, s87, s88, s89, s90, s91, s92, s93, s94, s95, s96, s97, s98, s99, s100, s101, s102, s103, s104, s105, s106, s107, s108, s109, s110, s111, s112, s113, s114, s115, s116, s117, s118, s119, s120, s121, s122, s123, s124, s125, s126, s127, s128, s129, s130, s131, s132, s133, s134, s135, s136, s137, s138, s139, s140, s141, s142, s143, s144, s145, s146, s147, s148, s149, s150, s151, s152, s153, s154, s155, s156, s157, s158, s159, s160, s161, s162, s163, s164, s165, s166, s167, s168, s169, s170, s171, s172, s173, s174, s175, s176, s177, s178, s179, s180, s181, s182, s183, s184, s185, s186, s187, s188, s189, s190, s191, s192, s193, s194, s195, s196, s197, s198, s199, s200, s201, s202, s203, s204, s205, s206, s207], []⟩ wc := by
  suffices hh : ∀ c, c = front7 (behind 14 (Tryz.f15.body.getD .skip)) → Code.wp Tryz.prog c (Exit.then K (bodyPost Tryz.prog Tryz.f15 (LoadPost7 P w))) ⟨#[im, s1, s2, s3, .pointer (some ⟨rb, 0, none⟩), .pointer (some ⟨mb, 0, none⟩), .int .i64 n, s7, s8, s9, s10, s11, s12, s13, s14, s15, s16, s17, s18, s19, s20, s21, s22, s23, s24, s25, s26, s27, s28, s29, s30, s31, s32, s33, s34, s35, s36, s37, s38, s39, s40, s41, s42, s43, s44, s45, s46, s47, s48, s49, s50, s51, s52, s53, s54, s55, s56, s57, s58, s59, s60, s61, s62, s63, s64, s65, s66, s67, s68, s69, s70, s71, s72, s73, s74, s75, s76, s77, s78, s79, s80, s81, s82, s83, s84, s85, s86, s87, s88, s89, s90, s91, s92, s93, s94, s95, s96, s97, s98, s99, s100, s101, s102, s103, s104, s105, s106, s107, s108, s109, s110, s111, s112, s113, s114, s115, s116, s117, s118, s119, s120, s121, s122, s123, s124, s125, s126, s127, s128, s129, s130, s131, s132, s133, s134, s135, s136, s137, s138, s139, s140, s141, s142, s143, s144, s145, s146, s147, s148, s149, s150, s151, s152, s153, s154, s155, s156, s157, s158, s159, s160, s161, s162, s163, s164, s165, s166, s167, s168, s169, s170, s171, s172, s173, s174, s175, s176, s177, s178, s179, s180, s181, s182, s183, s184, s185, s186, s187, s188, s189, s190, s191, s192, s193, s194, s195, s196, s197, s198, s199, s200, s201, s202, s203, s204, s205, s206, s207], []⟩ wc from hh _ rfl
  intro c hcode
  simp only [Tryz.f15, Option.getD_some, behind, front7] at hcode
  subst hcode
  have HK0 := Lib.hid hK; clear hK
  have H := Lib.hid h; clear h
  have HG := Lib.hid hgood; clear hgood
  have HBD := Lib.hid hbad; clear hbad
  go_wp2_with fail
  go_loopw [9] (fun i wr => ∃ (k : Nat) (T : ThingList) (p : Nat) (ok : Bool) (vw vt : Value), k ≤ n ∧ i = .int .i64 k ∧ T.length = k ∧ T.Pairwise (fun x y => aheadW x.1 y.1 = true) ∧ Hid (ok = true → P = (afterThings WL (many (thingStep o) (n - k) (T, L.drop p))).map (fun q => (o, q))) ∧ Hid (ok = false → P = none) ∧ Hid (LInv rb mb o w wr L p ok vw vt WL T) ∧ Hid (p ≤ 60000 + 800 * k)) (fun i _ => n - (intOf i).toNat)
  case atStart => exact ⟨0, [], p, ok, vw, vt, Nat.zero_le _, rfl, rfl, List.Pairwise.nil, HG, HBD, H, Lib.hid (by omega)⟩
  case round =>
    clear H HG HBD
    obtain ⟨k, T, p, ok, vw, vt, hk, rfl, hlen, hpair, HG, HBD, HI, HPB⟩ := hrel
    obtain ⟨v, hv1, hv2, hv3⟩ := HI.out.rd
    have e2 := cell_of_heap hv1 2
    simp at e2
    clear hv1 hv2 hv3
    by_cases hlt : k < n
    case neg =>
      obtain rfl : k = n := by omega
      go_wp2_with fail
      exact HK0.out T p ok vw vt _ HI.out (by have := HPB.out; omega) (fun h => by have := HG.out h; rw [Nat.sub_self] at this; exact this) HBD.out _ _ _ _ _ _ _ _ _ _ _ _ _ _ _ _ _ _ _ _ _ _ _ _ _ _ _ _ _ _ _ _ _ _ _ _ _ _ _ _ _ _ _ _ _ _ _ _ _ _ _ _ _ _ _ _ _ _ _ _ _ _ _ _ _ _ _ _ _ _ _ _ _ _ _ _ _ _ _ _ _ _ _ _ _ _ _ _ _ _ _ _ _ _ _ _ _ _ _ _ _ _ _ _ _ _ _ _ _ _ _ _ _ _ _ _ _ _ _ _ _ _ _ _ _ _ _ _ _ _ _ _ _ _ _ _ _ _ _ _ _ _ _ _ _ _ _ _ _ _ _ _ _ _ _ _ _ _ _ _ _ _ _ _ _ _ _ _ _ _ _ _ _ _ _ _ _ _ _ _ _ _ _ _ _ _ _ _ _ _ _ _ _ _ _ _ _ _ _ _ _ _ _ _ _
    cases ok with
    | false =>
      have HB0 := Lib.hid (HBD.out rfl)
      clear HBD
      go_wp2_with fail
      exact HK0.out T p false vw vt _ HI.out (by have := HPB.out; omega) (fun h => by cases h) (fun _ => HB0.out) _ _ _ _ _ _ _ _ _ _ _ _ _ _ _ _ _ _ _ _ _ _ _ _ _ _ _ _ _ _ _ _ _ _ _ _ _ _ _ _ _ _ _ _ _ _ _ _ _ _ _ _ _ _ _ _ _ _ _ _ _ _ _ _ _ _ _ _ _ _ _ _ _ _ _ _ _ _ _ _ _ _ _ _ _ _ _ _ _ _ _ _ _ _ _ _ _ _ _ _ _ _ _ _ _ _ _ _ _ _ _ _ _ _ _ _ _ _ _ _ _ _ _ _ _ _ _ _ _ _ _ _ _ _ _ _ _ _ _ _ _ _ _ _ _ _ _ _ _ _ _ _ _ _ _ _ _ _ _ _ _ _ _ _ _ _ _ _ _ _ _ _ _ _ _ _ _ _ _ _ _ _ _ _ _ _ _ _ _ _ _ _ _ _ _ _ _ _ _ _ _ _ _ _ _
    | true =>
      have HLEN := Lib.hid hlen
      have HPAIR := Lib.hid hpair
      have HLT := Lib.hid hlt
      have HG1 := Lib.hid (HG.out rfl)
      have HFAIL := Lib.hid (fun (hs : thingStep o (T, L.drop p) = none) => show P = none by rw [HG.out rfl, many_none hlt hs]; rfl)
      have hmap := HI.out.map
      have a0 := cell_of_heap hmap 0
      have a1 := cell_of_heap hmap 1
      have a2 := cell_of_heap hmap 2
      simp at a0 a1 a2
      have HC := Lib.hid (r07_normal F hS HI.out.rd (by have := HPB.out; omega))
      unfold ordersV at HC
      clear hmap hlen hpair
      go_wp2_with fail
      refine HC.out.mono ?_
      rintro e w2 ⟨t, p1, ok1, rfl, hE, hr2, hO2, hst2⟩
      have HST2 := Lib.hid (show p1 ≤ 60000 + 800 * k + 300 from by have := HPB.out; omega)
      clear hst2
      have H2 := Lib.hid (HI.out.reads hr2 hO2)
      have HE := Lib.hid hE
      have htl : t.length ≤ 60 := by
        rcases hE with ⟨h, _⟩ | ⟨_, rfl, _⟩
        · exact (Hy.wordErr_letters (takeTile_some h).2.1).2
        · simp
      have HTL := Lib.hid htl
      clear hr2 hO2 hE HC e2 a0 a1 a2 htl
      unfold str
      have hB3 : Below w2.heap.size w2 (w2.alloc (.cells #[.string ⟨t.toArray⟩, .string ⟨#[]⟩] 85)) := (Below.refl _ _).alloc (Nat.le_refl _) _
      have hs3 := alloc_heap_new w2 (.cells #[.string ⟨t.toArray⟩, .string ⟨#[]⟩] 85)
      have HS3 := Lib.hid hs3
      have H3 := Lib.hid (H2.out.grow hB3)
      clear hB3 hs3
      have HC := Lib.hid (r07_text H3.out.rd (by have := HST2.out; omega))
      go_wp2_with fail
      refine HC.out.mono ?_
      rintro e w4 ⟨x, p2, ok2, rfl, hE2, hr4, hO4, hst4⟩
      have HST4 := Lib.hid (show p2 ≤ 60000 + 800 * (k + 1) from by have := HST2.out; omega)
      clear hst4
      have hxl := hE2.len
      unfold str
      have H4 := Lib.hid (H3.out.reads hr4 hO4)
      have HE2 := Lib.hid hE2
      have hrlt := H2.out.rd.lt
      have hmlt := (Array.getElem?_eq_some_iff.1 H2.out.map).1
      have hb2 := H2.out.below.size
      have hs4 := (hO4.block w2.heap.size (by simp; omega)).trans HS3.out
      have g1 := free_of_heap hs4 1
      have c1 := cell_of_heap hs4 1
      simp at c1
      have HS4 := Lib.hid hs4
      clear hr4 hO4 hs4 hE2 HC
      go_upto_region 29 with fail
      obtain ⟨W5, hW5⟩ : ∃ W5, w4.setCell ⟨w2.heap.size, 1, none⟩ (.string ⟨x.toArray⟩) = W5 := ⟨_, rfl⟩
      have hs5 : W5.heap[w2.heap.size]? = some (.cells #[.string ⟨t.toArray⟩, .string ⟨x.toArray⟩] 85 (0, 0)) := by rw [← hW5]; exact one_store7 HS4.out
      have hO5 : Only (fun k => k = w2.heap.size) w4 W5 := by rw [← hW5]; exact Only.setCell (B := fun k => k = w2.heap.size) (Only.refl _ w4) (p := ⟨w2.heap.size, 1, none⟩) rfl _
      have H5 := Lib.hid (H4.out.other hO5 (by omega) (by omega) (by omega) (fun g hg => by have := (H2.out.walls.lt g hg).2; omega) (fun g hg => by have := (H2.out.things.lt g hg).2; omega))
      have HS5 := Lib.hid hs5
      rw [hW5]
      clear hW5 g1 c1 HS4 H4 HS3 H3 hO5
      have hl1 := (Array.getElem?_eq_some_iff.1 hs5).1
      have hl0 := H5.out.rd.lt.2.1
      have hl2 := (Array.getElem?_eq_some_iff.1 H5.out.map).1
      have q1 := cell_of_heap hs5 0
      have q2 := cell_of_heap hs5 1
      obtain ⟨v, hv1, hv2, hv3⟩ := H5.out.rd
      have q0 := cell_of_heap hv1 2
      have q3 := cell_of_heap H5.out.map 4
      simp at q0 q1 q2 q3
      clear hs5 hv1 hv2 hv3
      have l0 := fun (y : Later W5) => ((bcell y.h).1 _ _ hl0).trans q0
      have l1 := fun (y : Later W5) => ((bcell y.h).1 _ _ hl1).trans q1
      have l2 := fun (y : Later W5) => ((bcell y.h).1 _ _ hl1).trans q2
      have l3 := fun (y : Later W5) => ((bcell y.h).1 _ _ hl2).trans q3
      go_cut [182] (fun s wx => ∃ b, s = .bool b ∧ Hid (WCase b ok2 (thingStep o (T, L.drop p)) (T ++ [(t, x)], L.drop p2)) ∧ Hid (Below W5.heap.size W5 wx))
      case first =>
        cases ok2 with
        | false =>
          have hnone : thingStep o (T, L.drop p) = none := by
            rcases HE.out with ⟨h1, h2⟩ | ⟨h1, _, _⟩
            · rcases HE2.out with ⟨_, h4⟩ | ⟨h4, _, _⟩
              · rw [h2] at h4; cases h4
              · exact thingStep_none h1 h4
            · exact thingStep_out h1
          have HN := Lib.hid hnone
          clear hnone
          go_quiet (fail)
          go_wp2_with fail
          all_goals go_meet
          case rel => exact ⟨true, rfl, .inl ⟨rfl, HN.out⟩, below_drewN (Below.refl _ _) _⟩
        | true =>
          obtain ⟨htext, hok1⟩ : takeText (L.drop p1) = some (x, L.drop p2) ∧ ok1 = true := by
            rcases HE2.out with ⟨h1, h2⟩ | ⟨_, _, h4⟩
            · exact ⟨h1, h2.symm⟩
            · cases h4
          have htile : takeTile o (L.drop p) = some (t, L.drop p1) := by
            rcases HE.out with ⟨h1, _⟩ | ⟨_, _, h1⟩
            · exact h1
            · rw [hok1] at h1; cases h1
          have HSTEP := Lib.hid (thingStep_eq (T := T) htile htext)
          clear htext hok1 htile
          by_cases hx0 : x = []
          case pos =>
            have HN := Lib.hid (show thingStep o (T, L.drop p) = none by rw [HSTEP.out, if_neg (fun h => h.2.2.1 hx0)])
            subst hx0
            go_quiet (fail)
            go_wp2_with fail
            all_goals go_meet
            case rel => exact ⟨true, rfl, .inl ⟨rfl, HN.out⟩, below_drewN (Below.refl _ _) _⟩
          case neg =>
            have hnz : ((⟨x.toArray⟩ : ByteArray).toList == ([] : List UInt8)) = false := by rw [ByteArray_toList]; cases x with | nil => exact absurd rfl hx0 | cons c r => rfl
            have hnz2 : x.isEmpty = false := by cases x with | nil => exact absurd rfl hx0 | cons c r => rfl
            have hnz3 : ((⟨x.toArray⟩ : ByteArray) == ⟨#[]⟩) = false := by rw [show (⟨#[]⟩ : ByteArray) = ⟨([] : List UInt8).toArray⟩ from rfl, bytes_beq, beq_eq_false_iff_ne]; exact hx0
            have HIS := Lib.hid (fun W => r07_IsThing x W (by omega))
            cases hth : Hy.isThing x with
            | false =>
              have HN := Lib.hid (show thingStep o (T, L.drop p) = none by rw [HSTEP.out, if_neg (fun h => by have := h.2.2.2; rw [hth] at this; cases this)])
              rw [hth] at HIS
              unfold str at HIS
              clear hth
              refine wp_region_later (by kernel_rfl) (by kernel_rfl) ?_
              repeat (go_big_quiet_step ((first | (go_at_call 41; refine (HIS.out _).mono ?_; rintro e w6 ⟨rfl, rfl⟩; exact ⟨rfl, _, rfl⟩))))
              refine wpQuiet_nil ?_
              rintro _ ⟨pl, rfl⟩
              go_wp2_with fail
              all_goals go_meet
              case rel => exact ⟨true, rfl, .inl ⟨rfl, HN.out⟩, pl.h⟩
            | true =>
              have HTH := Lib.hid hth
              have HX0 := Lib.hid hx0
              rw [hth] at HIS
              have HWALL := Lib.hid (fun W (hI : LInv rb mb o w W L p2 true vw vt WL T) => r07_thingAt (ownsRow_pairs hI.things) (by have := HLEN.out; have := HLT.out; omega) t)
              have hpl := (thingPlace_end (t := t) (T := T) (i := 0))
              rw [Nat.zero_add, HLEN.out] at hpl
              generalize thingPlace t T 0 = pl at HWALL hpl
              obtain ⟨pa, pb⟩ := pl
              simp only at HWALL
              unfold str at HWALL HIS
              have HPL := Lib.hid hpl
              clear hpl hth
              cases pb with
              | true =>
                have HN := Lib.hid (show thingStep o (T, L.drop p) = none by
                  rw [HSTEP.out, if_neg (fun h => by
                    have := HPL.out.2 ((last_all (r := fun x y : List UInt8 × List UInt8 => aheadW x.1 y.1 = true) (fun h1 h2 => ahead_trans h1 h2) HPAIR.out (y := (t, x))).1 h.2.1)
                    simp at this)])
                clear HPL
                refine wp_region_later (by kernel_rfl) (by kernel_rfl) ?_
                repeat (go_big_quiet_step ((first | (go_at_call 41; refine (HIS.out _).mono ?_; rintro e w6 ⟨rfl, rfl⟩; exact ⟨rfl, _, rfl⟩) | (go_at_call 42; refine (HWALL.out _ (H5.out.grow (Later.h _))).mono ?_; rintro e w7 ⟨rfl, hB7⟩; exact ⟨rfl, ⟨w7, (Later.h _).trans (hB7.mono (Later.h _).size)⟩, rfl⟩))))
                refine wpQuiet_nil ?_
                rintro _ ⟨pl, rfl⟩
                go_wp2_with fail
                all_goals go_meet
                case rel => exact ⟨true, rfl, .inl ⟨rfl, HN.out⟩, pl.h⟩
              | false =>
                by_cases hpk : pa = k
                · subst hpk
                  have HN := Lib.hid (show thingStep o (T, L.drop p) = some (T ++ [(t, x)], L.drop p2) by
                    rw [HSTEP.out, if_pos ⟨by rw [HLEN.out]; have := HLT.out; omega, (last_all (r := fun x y : List UInt8 × List UInt8 => aheadW x.1 y.1 = true) (fun h1 h2 => ahead_trans h1 h2) HPAIR.out (y := (t, x))).2 (HPL.out.1 rfl), HX0.out, HTH.out⟩])
                  clear HPL
                  refine wp_region_later (by kernel_rfl) (by kernel_rfl) ?_
                  repeat (go_big_quiet_step ((first | (go_at_call 41; refine (HIS.out _).mono ?_; rintro e w6 ⟨rfl, rfl⟩; exact ⟨rfl, _, rfl⟩) | (go_at_call 42; refine (HWALL.out _ (H5.out.grow (Later.h _))).mono ?_; rintro e w7 ⟨rfl, hB7⟩; exact ⟨rfl, ⟨w7, (Later.h _).trans (hB7.mono (Later.h _).size)⟩, rfl⟩))))
                  refine wpQuiet_nil ?_
                  rintro _ ⟨pl, rfl⟩
                  go_wp2_with fail
                  all_goals go_meet
                  case rel => exact ⟨false, rfl, .inr ⟨rfl, rfl, HN.out⟩, pl.h⟩
                · have HN := Lib.hid (show thingStep o (T, L.drop p) = none by
                    rw [HSTEP.out, if_neg (fun h => by
                      have := HPL.out.2 ((last_all (r := fun x y : List UInt8 × List UInt8 => aheadW x.1 y.1 = true) (fun h1 h2 => ahead_trans h1 h2) HPAIR.out (y := (t, x))).1 h.2.1)
                      simp at this
                      exact hpk this)])
                  have g3 : ((pa : Int) == (k : Int)) = false := by rw [beq_eq_false_iff_ne]; omega
                  have g4 : (pa == k) = false := by rw [beq_eq_false_iff_ne]; exact hpk
                  clear HPL
                  refine wp_region_later (by kernel_rfl) (by kernel_rfl) ?_
                  repeat (go_big_quiet_step ((first | (go_at_call 41; refine (HIS.out _).mono ?_; rintro e w6 ⟨rfl, rfl⟩; exact ⟨rfl, _, rfl⟩) | (go_at_call 42; refine (HWALL.out _ (H5.out.grow (Later.h _))).mono ?_; rintro e w7 ⟨rfl, hB7⟩; exact ⟨rfl, ⟨w7, (Later.h _).trans (hB7.mono (Later.h _).size)⟩, rfl⟩))))
                  refine wpQuiet_nil ?_
                  rintro _ ⟨pl, rfl⟩
                  go_wp2_with fail
                  all_goals go_meet
                  case rel => exact ⟨true, rfl, .inl ⟨rfl, HN.out⟩, pl.h⟩
      case rest =>
        obtain ⟨b, rfl, HCASE, HB6⟩ := hcut
        have H6 := Lib.hid (H5.out.grow HB6.out)
        have hs6 := (HB6.out.block w2.heap.size hl1).trans HS5.out
        obtain ⟨W6, hW6⟩ : ∃ W6, W6 = wc := ⟨_, rfl⟩
        rw [← hW6] at H6 hs6 ⊢
        clear hW6 HB6 l0 l1 l2 l3 q0 q1 q2 q3 HS5 H5
        rcases HCASE.out with ⟨rfl, hnone⟩ | ⟨rfl, rfl, hsome⟩
        · have HN := Lib.hid (HFAIL.out hnone)
          clear hnone HCASE hs6
          go_wp2_with fail
          go_ret2
          exact LoadPost7.bad HN.out H6.out.below H6.out.mge
        · have hp2 := thingStep_pair HPAIR.out hsome
          have HNEXT := Lib.hid hsome
          have HPAIR2 := Lib.hid hp2.1
          have x0 := cell_of_heap hs6 0
          have x1 := cell_of_heap hs6 1
          have y3 := cell_of_heap H6.out.map 4
          simp at x0 x1 y3
          have hnb : some mb ≠ vt.ownBlock := fun hh => by
            obtain ⟨c2, h2, _⟩ := row_block H6.out.things hh.symm
            rw [H6.out.map] at h2
            cases h2
          have HNB := Lib.hid hnb
          have hmb6 := (Array.getElem?_eq_some_iff.1 H6.out.map).1
          have HROW := Lib.hid (fun ob => show ((W6.alloc ob).drew).ownsRow w.heap.size 85 2 vt T.length (flat2 encT0 encT1 T) from H6.out.things.alloc ob)
          have HNEWS := Lib.hid (fun j u hj => World.news_of_block (w := (W6.alloc (.cells [Value.string ⟨t.toArray⟩, Value.string ⟨x.toArray⟩].toArray 85)).drew) (alloc_heap_new W6 _) j u hj)
          have HONE := Lib.hid (show ∀ u ∈ [Value.string ⟨t.toArray⟩, Value.string ⟨x.toArray⟩], u.oneCell' = true from fun u hu => by
            rcases List.mem_cons.1 hu with rfl | hu
            · rfl
            · rw [List.mem_singleton.1 hu]; rfl)
          have htl : T.length < 200 := by have := HLEN.out; have := HLT.out; omega
          have H63 := Lib.hid (show T.length + 1 ≤ maxLen by unfold maxLen; omega)
          have HBY := Lib.hid (show (T.length + 1) * 32 ≤ 140737488355328 by omega)
          have HBASE := Lib.hid (fun ob => show w.heap.size ≤ ((W6.alloc ob).drew).heap.size from by have := H6.out.below.size; simp [World.drew]; omega)
          obtain ⟨i0, hi0, hzi0, hzi1, hzi2⟩ := info_parts infoThing
          have HI0 := Lib.hid hi0
          have HMAP := Lib.hid (fun ob => show ((W6.alloc ob).drew).heap[mb]? = _ from (heap_alloc_lt W6 ob hmb6).trans H6.out.map)
          have HH6 := Lib.hid (fun ob => (H6.out.grow ((Below.refl _ _).alloc (Nat.le_refl _) ob)).drew)
          obtain ⟨vp, vc, rfl⟩ := ownsRow_form H6.out.things
          clear hi0 hnb hs6 hsome hp2 HCASE HFAIL
          have hk100 : k < 200 := by have := HLEN.out; omega
          go_wp2_with fail
          go_region_law ((refine step_append_own rfl (.tmp 188) (.tmp 190) 36 rfl (by simp [Act.eval, Act.put]) (HROW.out _) i0 (.agg #[.string ⟨#[]⟩, .string ⟨#[]⟩]) 32 Tryz.underlying36 HI0.out hzi0 hzi1 hzi2 rfl (by decide) ⟨W6.heap.size, 0, none⟩ 1 1 [.string ⟨t.toArray⟩, .string ⟨x.toArray⟩] (by simp [Act.eval, Act.put]) rfl HNEWS.out HONE.out H63.out HBY.out (HBASE.out _) ?_; intro v9 w9 hr9 hg9; obtain ⟨p9, c9, rfl⟩ := ownsRow_form hr9; have hh9 := (hg9.block mb (by simp [World.drew]; omega) HNB.out).trans (HMAP.out _); have k3 := cell_of_heap hh9 4; have f3 := free_of_heap hh9 4; simp at k3; have HR9 := Lib.hid hr9; have HG9 := Lib.hid hg9; clear hh9 hr9 hg9))
          all_goals go_wp2_with fail
          all_goals
            go_roundw
            case rel => exact ⟨k + 1, T ++ [(t, x)], p2, true, vw, _, by omega, by go_num, by simp [HLEN.out], HPAIR2.out, fun _ => by rw [HG1.out, many_next HLT.out HNEXT.out], fun h => (by cases h), LInv.addThing (HH6.out _) HR9.out HG9.out, HST4⟩
            case measure => simp [intOf]; have := HLT.out; omega
end Go.Proofs.YtbfnnlcckpabnaaGreat
