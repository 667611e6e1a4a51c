/- The specification of layer 7, Load, as a whole. -/
import Derived.Test.YtbfnnlcckpabnaaGreatS9
namespace Go.Proofs.YtbfnnlcckpabnaaGreat
set_option linter.unusedSimpArgs false
set_option linter.unusedVariables false
open Go.RowKit
set_option maxRecDepth 100000 in
set_option maxHeartbeats 8000000 in
theorem r07_check1 {rb mb n : Nat} {w wc : World} {im : Value} {P : Option (Hy.Ord × WallList × ThingList)} (hP : 100 < n → P = none) (hb : Below w.heap.size w wc) (hm : w.heap.size ≤ mb) {K : Act → World → Prop} (hK : n ≤ 100 → ∀ (s1 s2 s3 s7 s8 s9 s10 s11 s12 s13 s14 s15 s16 s17 s18 s19 s20 s21 s22 s23 s24 s25 s26 s27 s28 s29 s30 s31 s32 s33 s34 s35 s36 s37 s38 s39 s40 s41 s42 s43 s44 s45 s46 s47 s48 s49 s50 s51 s52 s53 s54 s55 s56 s57 s58 s59 s60 s61 s62 s63 s64 s65 s66 s67 s68 s69 s70 s71 s72 s73 s74 s75 s76 s77 s78 s79 s80 s81 s82 s83 s84 s85 s86 s87 s88 s89 s90 s91 s92 s93 s94 s95 s96 s97 s98 s99 s100 s101 s102 s103 s104 s105 s106 s107 s108 s109 s110 s111 s112 s113 s114 s115 s116 s117 s118 s119 s120 s121 s122 s123 s124 s125 s126 s127 s128 s129 s130 s131 s132 s133 s134 s135 s136 s137 s138 s139 s140 s141 s142 s143 s144 s145 s146 s147 s148 s149 s150 s151 s152 s153 s154 s155 s156 s157 s158 s159 s160 s161 s162 s163 s164 s165 s166 s167 s168 s169 s170 s171 s172 s173 s174 s175 s176 s177 s178 s179 s180 s181 s182 s183 s184 s185 s186 s187 s188 s189 s190 s191 s192 s193 s194 s195 s196 s197 s198 s199 s200 s201 s202 s203 s204 s205 s206 s207 : Value), K ⟨#[im, s1, s2, s3, .pointer (some ⟨rb, 0, none⟩), .pointer (some ⟨mb, 0, none⟩), .int .i64 n, s7, s8, s9, s10, s11, s12, s13, s14, s15, s16, s17, s18, s19, s20, s21, s22, s23, s24, s25, s26, s27, s28, s29, s30, s31, s32, s33, s34, s35, s36, s37, s38, s39, s40, s41, s42, s43, s44, s45, s46, s47, s48, s49, s50, s51, s52, s53, s54, s55, s56, s57, s58, s59, s60, s61, s62, s63, s64, s65, s66, s67, s68, s69, s70, s71, s72, s73, s74, s75, s76, s77, s78, s79, s80, s81, s82, s83, s84, s85, s86, s87, s88, s89, s90, s91, s92, s93, s94, s95, s96, s97, s98, s99, s100, s101, s102, s103, s104, s105, s106, s107, s108, s109, s110, s111, s112, s113, s114, s115, s116, s117, s118, s119, s120, s121, s122, s123, s124, s125, s126, s127, s128, s129, s130, s131, s132, s133, s134, s135, s136, s137, s138, s139, s140, s141, s142, s143, s144, s145, s146, s147, s148, s149, s150, s151, s152, s153, s154, s155, s156, s157, s158, s159, s160, s161, s162, s163, s164, s165, s166, s167, s168, s169, s170, s171, s172, s173, s174, s175, s176, s177, s178, s179, s180, s181, s182, s183, s184, s185, s186, s187, s188, s189, s190, s191, s192, s193, s194, s195, s196, s197, s198, s199, s200, s201, s202, s203, s204, s205, s206, s207], []⟩ wc) (s1 s2 s3 s7 s8 s9 s10 s11 s12 s13 s14 s15 s16 s17 s18 s19 s20 s21 s22 s23 s24 s25 s26 s27 s28 s29 s30 s31 s32 s33 s34 s35 s36 s37 s38 s39 s40 s41 s42 s43 s44 s45 s46 s47 s48 s49 s50 s51 s52 s53 s54 s55 s56 s57 s58 s59 s60 s61 s62 s63 s64 s65 s66 s67 s68 s69 s70 s71 s72 s73 s74 s75 s76 s77 s78 s79 s80 s81 s82 s83 s84 s85 s86 s87 s88 s89 s90 s91 s92 s93 s94 s95 s96 s97 s98 s99 s100 s101 s102 s103 s104 s105 s106 s107 s108 s109 s110 s111 s112 s113 s114 s115 s116 s117 s118 s119 s120 s121 s122 s123 s124 s125 s126 s127 s128 s129 s130 s131 s132 s133 s134 s135 s136 s137 s138 s139 s140 s141 s142 s143 s144 s145 s146 s147 s148 s149 s150 s151 s152 s153 s154 s155 s156 s157 s158 s159 s160 s161 s162 s163 s164 s165 s166 s167 s168 s169 s170 s171 s172 s173 s174 s175 s176 s177 s178 s179 s180 s181 s182 s183 s184 s185 s186 s187 s188 s189 s190 s191 s192 s193 s194 s195 s196 s197 s198 s199 s200 s201 s202 s203 s204 s205 s206 s207 : Value) :
    Code.wp Tryz.prog (front7 (behind 9 (Tryz.f15.body.getD .skip))) (Exit.then K (bodyPost Tryz.prog Tryz.f15 (LoadPost7 P w))) ⟨#[im, s1, s2, s3, .pointer (some ⟨rb, 0, none⟩), .pointer (some ⟨mb, 0, none⟩), .int .i64 n, s7, s8, s9, s10, s11, s12, s13, s14, s15, s16, s17, s18, s19, s20, s21, s22, s23, s24, s25, s26, s27, s28, s29, s30, s31, s32, s33, s34, s35, s36, s37, s38, s39, s40, s41, s42, s43, s44, s45, s46, s47, s48, s49, s50, s51, s52, s53, s54, s55, s56, s57, s58, s59, s60, s61, s62, s63, s64, s65, s66, s67, s68, s69, s70, s71, s72, s73, s74, s75, s76, s77, s78, s79, s80, s81, s82, s83, s84, s85, s86, s87, s88, s89, s90, s91, s92, s93, s94, s95, s96, s97, s98, s99, s100, s101, s102, s103, s104, s105, s106, s107, s108, s109, s110, s111, s112, s113, s114, s115, s116, s117, s118, s119, s120, s121, s122, s123, s124, s125, s126, s127, s128, s129, s130, s131, s132, s133, s134, s135, s136, s137, s138, s139, s140, s141, s142, s143, s144, s145, s146, s147, s148, s149, s150, s151, s152, s153, s154, s155, s156, s157, s158, s159, s160, s161, s162, s163, s164, s165, s166, s167, s168, s169, s170, s171, s172, s173, s174, s175, s176, s177, s178, s179, s180, s181, s182, s183, s184, s185, s186, s187, s188, s189, s190, s191, s192, s193, s194, s195, s196, s197, s198, s199, s200, s201, s202, s203, s204, s205, s206, s207], []⟩ wc := by
  suffices hh : ∀ c, c = front7 (behind 9 (Tryz.f15.body.getD .skip)) → Code.wp Tryz.prog c (Exit.then K (bodyPost Tryz.prog Tryz.f15 (LoadPost7 P w))) ⟨#[im, s1, s2, s3, .pointer (some ⟨rb, 0, none⟩), .pointer (some ⟨mb, 0, none⟩), .int .i64 n, s7, s8, s9, s10, s11, s12, s13, s14, s15, s16, s17, s18, s19, s20, s21, s22, s23, s24, s25, s26, s27, s28, s29, s30, s31, s32, s33, s34, s35, s36, s37, s38, s39, s40, s41, s42, s43, s44, s45, s46, s47, s48, s49, s50, s51, s52, s53, s54, s55, s56, s57, s58, s59, s60, s61, s62, s63, s64, s65, s66, s67, s68, s69, s70, s71, s72, s73, s74, s75, s76, s77, s78, s79, s80, s81, s82, s83, s84, s85, s86, s87, s88, s89, s90, s91, s92, s93, s94, s95, s96, s97, s98, s99, s100, s101, s102, s103, s104, s105, s106, s107, s108, s109, s110, s111, s112, s113, s114, s115, s116, s117, s118, s119, s120, s121, s122, s123, s124, s125, s126, s127, s128, s129, s130, s131, s132, s133, s134, s135, s136, s137, s138, s139, s140, s141, s142, s143, s144, s145, s146, s147, s148, s149, s150, s151, s152, s153, s154, s155, s156, s157, s158, s159, s160, s161, s162, s163, s164, s165, s166, s167, s168, s169, s170, s171, s172, s173, s174, s175, s176, s177, s178, s179, s180, s181, s182, s183, s184, s185, s186, s187, s188, s189, s190, s191, s192, s193, s194, s195, s196, s197, s198, s199, s200, s201, s202, s203, s204, s205, s206, s207], []⟩ wc from hh _ rfl
  intro c hcode
  simp only [Tryz.f15, Option.getD_some, behind, front7] at hcode
  subst hcode
  have HK := Lib.hid hK; clear hK
  have HP := Lib.hid hP; clear hP
  have HB := Lib.hid hb; clear hb
  by_cases hn : 100 < n
  · have HN := Lib.hid (HP.out hn)
    go_wp2_with fail
    go_ret2
    exact LoadPost7.bad HN.out HB.out hm
  · have HN := Lib.hid (show n ≤ 100 by omega)
    go_wp2_with fail
    exact HK.out HN.out _ _ _ _ _ _ _ _ _ _ _ _ _ _ _ _ _ _ _ _ _ _ _ _ _ _ _ _ _ _ _ _ _ _ _ _ _ _ _ _ _ _ _ _ _ _ _ _ _ _ _ _ _ _ _ _ _ _ _ _ _ _ _ _ _ _ _ _ _ _ _ _ _ _ _ _ _ _ _ _ _ _ _ _ _ _ _ _ _ _ _ _ _ _ _ _ _ _ _ _ _ _ _ _ _ _ _ _ _ _ _ _ _ _ _ _ _ _ _ _ _ _ _ _ _ _ _ _ _ _ _ _ _ _ _ _ _ _ _ _ _ _ _ _ _ _ _ _ _ _ _ _ _ _ _ _ _ _ _ _ _ _ _ _ _ _ _ _ _ _ _ _ _ _ _ _ _ _ _ _ _ _ _ _ _ _ _ _ _ _ _ _ _ _ _ _ _ _ _ _ _ _ _ _

set_option maxRecDepth 100000 in
set_option maxHeartbeats 8000000 in
theorem r07_check2 {rb mb n : Nat} {w wc : World} {im : Value} {P : Option (Hy.Ord × WallList × ThingList)} (hP : 200 < n → P = none) (hb : Below w.heap.size w wc) (hm : w.heap.size ≤ mb) {K : Act → World → Prop} (hK : n ≤ 200 → ∀ (s1 s2 s3 s7 s8 s9 s10 s11 s12 s13 s14 s15 s16 s17 s18 s19 s20 s21 s22 s23 s24 s25 s26 s27 s28 s29 s30 s31 s32 s33 s34 s35 s36 s37 s38 s39 s40 s41 s42 s43 s44 s45 s46 s47 s48 s49 s50 s51 s52 s53 s54 s55 s56 s57 s58 s59 s60 s61 s62 s63 s64 s65 s66 s67 s68 s69 s70 s71 s72 s73 s74 s75 s76 s77 s78 s79 s80 s81 s82 s83 s84 s85 s86 s87 s88 s89 s90 s91 s92 s93 s94 s95 s96 s97 s98 s99 s100 s101 s102 s103 s104 s105 s106 s107 s108 s109 s110 s111 s112 s113 s114 s115 s116 s117 s118 s119 s120 s121 s122 s123 s124 s125 s126 s127 s128 s129 s130 s131 s132 s133 s134 s135 s136 s137 s138 s139 s140 s141 s142 s143 s144 s145 s146 s147 s148 s149 s150 s151 s152 s153 s154 s155 s156 s157 s158 s159 s160 s161 s162 s163 s164 s165 s166 s167 s168 s169 s170 s171 s172 s173 s174 s175 s176 s177 s178 s179 s180 s181 s182 s183 s184 s185 s186 s187 s188 s189 s190 s191 s192 s193 s194 s195 s196 s197 s198 s199 s200 s201 s202 s203 s204 s205 s206 s207 : Value), K ⟨#[im, s1, s2, s3, .pointer (some ⟨rb, 0, none⟩), .pointer (some ⟨mb, 0, none⟩), .int .i64 n, s7, s8, s9, s10, s11, s12, s13, s14, s15, s16, s17, s18, s19, s20, s21, s22, s23, s24, s25, s26, s27, s28, s29, s30, s31, s32, s33, s34, s35, s36, s37, s38, s39, s40, s41, s42, s43, s44, s45, s46, s47, s48, s49, s50, s51, s52, s53, s54, s55, s56, s57, s58, s59, s60, s61, s62, s63, s64, s65, s66, s67, s68, s69, s70, s71, s72, s73, s74, s75, s76, s77, s78, s79, s80, s81, s82, s83, s84, s85, s86, s87, s88, s89, s90, s91, s92, s93, s94, s95, s96, s97, s98, s99, s100, s101, s102, s103, s104, s105, s106, s107, s108, s109, s110, s111, s112, s113, s114, s115, s116, s117, s118, s119, s120, s121, s122, s123, s124, s125, s126, s127, s128, s129, s130, s131, s132, s133, s134, s135, s136, s137, s138, s139, s140, s141, s142, s143, s144, s145, s146, s147, s148, s149, s150, s151, s152, s153, s154, s155, s156, s157, s158, s159, s160, s161, s162, s163, s164, s165, s166, s167, s168, s169, s170, s171, s172, s173, s174, s175, s176, s177, s178, s179, s180, s181, s182, s183, s184, s185, s186, s187, s188, s189, s190, s191, s192, s193, s194, s195, s196, s197, s198, s199, s200, s201, s202, s203, s204, s205, s206, s207], []⟩ wc) (s1 s2 s3 s7 s8 s9 s10 s11 s12 s13 s14 s15 s16 s17 s18 s19 s20 s21 s22 s23 s24 s25 s26 s27 s28 s29 s30 s31 s32 s33 s34 s35 s36 s37 s38 s39 s40 s41 s42 s43 s44 s45 s46 s47 s48 s49 s50 s51 s52 s53 s54 s55 s56 s57 s58 s59 s60 s61 s62 s63 s64 s65 s66 s67 s68 s69 s70 s71 s72 s73 s74 s75 s76 s77 s78 s79 s80 s81 s82 s83 s84 s85 s86 s87 s88 s89 s90 s91 s92 s93 s94 s95 s96 s97 s98 s99 s100 s101 s102 s103 s104 s105 s106 s107 s108 s109 s110 s111 s112 s113 s114 s115 s116 s117 s118 s119 s120 s121 s122 s123 s124 s125 s126 s127 s128 s129 s130 s131 s132 s133 s134 s135 s136 s137 s138 s139 s140 s141 s142 s143 s144 s145 s146 s147 s148 s149 s150 s151 s152 s153 s154 s155 s156 s157 s158 s159 s160 s161 s162 s163 s164 s165 s166 s167 s168 s169 s170 s171 s172 s173 s174 s175 s176 s177 s178 s179 s180 s181 s182 s183 s184 s185 s186 s187 s188 s189 s190 s191 s192 s193 s194 s195 s196 s197 s198 s199 s200 s201 s202 s203 s204 s205 s206 s207 : Value) :
    Code.wp Tryz.prog (front7 (behind 13 (Tryz.f15.body.getD .skip))) (Exit.then K (bodyPost Tryz.prog Tryz.f15 (LoadPost7 P w))) ⟨#[im, s1, s2, s3, .pointer (some ⟨rb, 0, none⟩), .pointer (some ⟨mb, 0, none⟩), .int .i64 n, s7, s8, s9, s10, s11, s12, s13, s14, s15, s16, s17, s18, s19, s20, s21, s22, s23, s24, s25, s26, s27, s28, s29, s30, s31, s32, s33, s34, s35, s36, s37, s38, s39, s40, s41, s42, s43, s44, s45, s46, s47, s48, s49, s50, s51, s52, s53, s54, s55, s56, s57, s58, s59, s60, s61, s62, s63, s64, s65, s66, s67, s68, s69, s70, s71, s72, s73, s74, s75, s76, s77, s78, s79, s80, s81, s82, s83, s84, s85, s86, s87, s88, s89, s90, s91, s92, s93, s94, s95, s96, s97, s98, s99, s100, s101, s102, s103, s104, s105, s106, s107, s108, s109, s110, s111, s112, s113, s114, s115, s116, s117, s118, s119, s120, s121, s122, s123, s124, s125, s126, s127, s128, s129, s130, s131, s132, s133, s134, s135, s136, s137, s138, s139, s140, s141, s142, s143, s144, s145, s146, s147, s148, s149, s150, s151, s152, s153, s154, s155, s156, s157, s158, s159, s160, s161, s162, s163, s164, s165, s166, s167, s168, s169, s170, s171, s172, s173, s174, s175, s176, s177, s178, s179, s180, s181, s182, s183, s184, s185, s186, s187, s188, s189, s190, s191, s192, s193, s194, s195, s196, s197, s198, s199, s200, s201, s202, s203, s204, s205, s206, s207], []⟩ wc := by
  suffices hh : ∀ c, c = front7 (behind 13 (Tryz.f15.body.getD .skip)) → Code.wp Tryz.prog c (Exit.then K (bodyPost Tryz.prog Tryz.f15 (LoadPost7 P w))) ⟨#[im, s1, s2, s3, .pointer (some ⟨rb, 0, none⟩), .pointer (some ⟨mb, 0, none⟩), .int .i64 n, s7, s8, s9, s10, s11, s12, s13, s14, s15, s16, s17, s18, s19, s20, s21, s22, s23, s24, s25, s26, s27, s28, s29, s30, s31, s32, s33, s34, s35, s36, s37, s38, s39, s40, s41, s42, s43, s44, s45, s46, s47, s48, s49, s50, s51, s52, s53, s54, s55, s56, s57, s58, s59, s60, s61, s62, s63, s64, s65, s66, s67, s68, s69, s70, s71, s72, s73, s74, s75, s76, s77, s78, s79, s80, s81, s82, s83, s84, s85, s86, s87, s88, s89, s90, s91, s92, s93, s94, s95, s96, s97, s98, s99, s100, s101, s102, s103, s104, s105, s106, s107, s108, s109, s110, s111, s112, s113, s114, s115, s116, s117, s118, s119, s120, s121, s122, s123, s124, s125, s126, s127, s128, s129, s130, s131, s132, s133, s134, s135, s136, s137, s138, s139, s140, s141, s142, s143, s144, s145, s146, s147, s148, s149, s150, s151, s152, s153, s154, s155, s156, s157, s158, s159, s160, s161, s162, s163, s164, s165, s166, s167, s168, s169, s170, s171, s172, s173, s174, s175, s176, s177, s178, s179, s180, s181, s182, s183, s184, s185, s186, s187, s188, s189, s190, s191, s192, s193, s194, s195, s196, s197, s198, s199, s200, s201, s202, s203, s204, s205, s206, s207], []⟩ wc from hh _ rfl
  intro c hcode
  simp only [Tryz.f15, Option.getD_some, behind, front7] at hcode
  subst hcode
  have HK := Lib.hid hK; clear hK
  have HP := Lib.hid hP; clear hP
  have HB := Lib.hid hb; clear hb
  by_cases hn : 200 < n
  · have HN := Lib.hid (HP.out hn)
    go_wp2_with fail
    go_ret2
    exact LoadPost7.bad HN.out HB.out hm
  · have HN := Lib.hid (show n ≤ 200 by omega)
    go_wp2_with fail
    exact HK.out HN.out _ _ _ _ _ _ _ _ _ _ _ _ _ _ _ _ _ _ _ _ _ _ _ _ _ _ _ _ _ _ _ _ _ _ _ _ _ _ _ _ _ _ _ _ _ _ _ _ _ _ _ _ _ _ _ _ _ _ _ _ _ _ _ _ _ _ _ _ _ _ _ _ _ _ _ _ _ _ _ _ _ _ _ _ _ _ _ _ _ _ _ _ _ _ _ _ _ _ _ _ _ _ _ _ _ _ _ _ _ _ _ _ _ _ _ _ _ _ _ _ _ _ _ _ _ _ _ _ _ _ _ _ _ _ _ _ _ _ _ _ _ _ _ _ _ _ _ _ _ _ _ _ _ _ _ _ _ _ _ _ _ _ _ _ _ _ _ _ _ _ _ _ _ _ _ _ _ _ _ _ _ _ _ _ _ _ _ _ _ _ _ _ _ _ _ _ _ _ _ _ _ _ _ _

set_option maxRecDepth 100000 in
set_option maxHeartbeats 8000000 in
theorem r07_end {rb mb : Nat} {o : Hy.Ord} {w wc : World} {L : List UInt8} {p : Nat} {ok : Bool} {vw vt im : Value} {WL : WallList} {T : ThingList} {ia : Option Addr} {ic : Nat} (him : im = .slice ia L.length ic) (h : LInv rb mb o w wc L p ok vw vt WL T) {P : Option (Hy.Ord × WallList × ThingList)}
    (hg : ok = true → P = (afterThings WL (some (T, L.drop p))).map (fun q => (o, q))) (hbd : ok = false → P = none) (s1 s2 s3 s6 s7 s8 s9 s10 s11 s12 s13 s14 s15 s16 s17 s18 s19 s20 s21 s22 s23 s24 s25 s26 s27 s28 s29 s30 s31 s32 s33 s34 s35 s36 s37 s38 s39 s40 s41 s42 s43 s44 s45 s46 s47 s48 s49 s50 s51 s52 s53 s54 s55 s56 s57 s58 s59 s60 s61 s62 s63 s64 s65 s66 s67 s68 s69 s70 s71 s72 s73 s74 s75 s76 s77 s78 s79 s80 s81 s82 s83 s84 s85 s86 s87 s88 s89 s90 s91 s92 s93 s94 s95 s96 s97 s98 s99 s100 s101 s102 s103 s104 s105 s106 s107 s108 s109 s110 s111 s112 s113 s114 s115 s116 s117 s118 s119 s120 s121 s122 s123 s124 s125 s126 s127 s128 s129 s130 s131 s132 s133 s134 s135 s136 s137 s138 s139 s140 s141 s142 s143 s144 s145 s146 s147 s148 s149 s150 s151 s152 s153 s154 s155 s156 s157 s158 s159 s160 s161 s162 s163 s164 s165 s166 s167 s168 s169 s170 s171 s172 s173 s174 s175 s176 s177 s178 s179 s180 s181 s182 s183 s184 s185 s186 s187 s188 s189 s190 s191 s192 s193 s194 s195 s196 s197 s198 s199 s200 s201 s202 s203 s204 s205 s206 s207 : Value) :
    Code.wp Tryz.prog (behind 15 (Tryz.f15.body.getD .skip)) (bodyPost Tryz.prog Tryz.f15 (LoadPost7 P w)) ⟨#[im, s1, s2, s3, .pointer (some ⟨rb, 0, none⟩), .pointer (some ⟨mb, 0, none⟩), s6, s7, s8, s9, s10, s11, s12, s13, s14, s15, s16, s17, s18, s19, s20, s21, s22, s23, s24, s25, s26, s27, s28, s29, s30, s31, s32, s33, s34, s35, s36, s37, s38, s39, s40, s41, s42, s43, s44, s45, s46, s47, s48, s49, s50, s51, s52, s53, s54, s55, s56, s57, s58, s59, s60, s61, s62, s63, s64, s65, s66, s67, s68, s69, s70, s71, s72, s73, s74, s75, s76, s77, s78, s79, s80, s81, s82, s83, s84, s85, s86, s87, s88, s89, s90, s91, s92, s93, s94, s95, s96, s97, s98, s99, s100, s101, s102, s103, s104, s105, s106, s107, s108, s109, s110, s111, s112, s113, s114, s115, s116, s117, s118, s119, s120, s121, s122, s123, s124, s125, s126, s127, s128, s129, s130, s131, s132, s133, s134, s135, s136, s137, s138, s139, s140, s141, s142, s143, s144, s145, s146, s147, s148, s149, s150, s151, s152, s153, s154, s155, s156, s157, s158, s159, s160, s161, s162, s163, s164, s165, s166, s167, s168, s169, s170, s171, s172, s173, s174, s175, s176, s177, s178, s179, s180, s181, s182, s183, s184, s185, s186, s187, s188, s189, s190, s191, s192, s193, s194, s195, s196, s197, s198, s199, s200, s201, s202, s203, s204, s205, s206, s207], []⟩ wc := by
  suffices hh : ∀ c, c = behind 15 (Tryz.f15.body.getD .skip) → Code.wp Tryz.prog c (bodyPost Tryz.prog Tryz.f15 (LoadPost7 P w)) ⟨#[im, s1, s2, s3, .pointer (some ⟨rb, 0, none⟩), .pointer (some ⟨mb, 0, none⟩), s6, s7, s8, s9, s10, s11, s12, s13, s14, s15, s16, s17, s18, s19, s20, s21, s22, s23, s24, s25, s26, s27, s28, s29, s30, s31, s32, s33, s34, s35, s36, s37, s38, s39, s40, s41, s42, s43, s44, s45, s46, s47, s48, s49, s50, s51, s52, s53, s54, s55, s56, s57, s58, s59, s60, s61, s62, s63, s64, s65, s66, s67, s68, s69, s70, s71, s72, s73, s74, s75, s76, s77, s78, s79, s80, s81, s82, s83, s84, s85, s86, s87, s88, s89, s90, s91, s92, s93, s94, s95, s96, s97, s98, s99, s100, s101, s102, s103, s104, s105, s106, s107, s108, s109, s110, s111, s112, s113, s114, s115, s116, s117, s118, s119, s120, s121, s122, s123, s124, s125, s126, s127, s128, s129, s130, s131, s132, s133, s134, s135, s136, s137, s138, s139, s140, s141, s142, s143, s144, s145, s146, s147, s148, s149, s150, s151, s152, s153, s154, s155, s156, s157, s158, s159, s160, s161, s162, s163, s164, s165, s166, s167, s168, s169, s170, s171, s172, s173, s174, s175, s176, s177, s178, s179, s180, s181, s182, s183, s184, s185, s186, s187, s188, s189, s190, s191, s192, s193, s194, s195, s196, s197, s198, s199, s200, s201, s202, s203, s204, s205, s206, s207], []⟩ wc from hh _ rfl
  intro c hcode
  simp only [Tryz.f15, Option.getD_some, behind] at hcode
  subst hcode
  subst him
  have H := Lib.hid h
  obtain ⟨v, hv1, hv2, hv3, hpl, _⟩ := h.rd
  have e1 := cell_of_heap hv1 1
  have e2 := cell_of_heap hv1 2
  simp at e1 e2
  clear hv1 hv2 hv3 h
  cases ok with
  | false =>
    have HN := Lib.hid (hbd rfl)
    clear hg hbd
    go_wp2_with fail
    go_quiet (fail)
    go_wp2_with fail
    go_ret2
    exact LoadPost7.bad HN.out (below_drewN H.out.below _) H.out.mge
  | true =>
    have HG := Lib.hid (hg rfl)
    clear hg hbd
    by_cases hp : p = L.length
    · have HN := Lib.hid (show P = some (o, WL, T) by rw [HG.out, hp, List.drop_length]; rfl)
      subst hp
      clear HG
      go_wp2_with fail
      go_quiet (fail)
      go_wp2_with fail
      go_ret2
      refine ⟨mb, ?_, below_drewN H.out.below _, H.out.mge, fun o' WL' T' h => ?_⟩
      · rw [HN.out]; rfl
      · rw [HN.out] at h
        cases h
        obtain ⟨vw', vt', h1, h2, h3⟩ := H.out.map7
        have hbb : Below wc.heap.size wc (wc.drewN nq) := below_drewN (Below.refl _ _) _
        exact ⟨vw', vt', h1, h2.below hbb, h3.below hbb⟩
    · have HN := Lib.hid (show P = none by
        rw [HG.out]
        cases hd : L.drop p with
        | nil => exact absurd (by have := List.drop_eq_nil_iff.1 hd; omega) hp
        | cons c r => rfl)
      have g1 : ¬ (p : Int) = (L.length : Int) := by omega
      have g2 : ((p : Int) == (L.length : Int)) = false := by rw [beq_eq_false_iff_ne]; omega
      clear HG
      go_wp2_with fail
      go_quiet (fail)
      go_wp2_with fail
      go_ret2
      exact LoadPost7.bad HN.out (below_drewN H.out.below _) H.out.mge

theorem r07_from13 {rb mb n : Nat} {o : Hy.Ord} {w wc : World} {L : List UInt8} {p : Nat} {ok : Bool} {vw vt im : Value} {WL : WallList} {ia : Option Addr} {ic : Nat} (him : im = .slice ia L.length ic) (F : Hy.Fine o) (hS : Small o) (h : LInv rb mb o w wc L p ok vw vt WL []) (hp0 : p ≤ 60000) {P : Option (Hy.Ord × WallList × ThingList)}
    (hg : ok = true → P = (afterThings WL (many (thingStep o) n ([], L.drop p))).map (fun q => (o, q))) (hbd : ok = false → P = none) (s1 s2 s3 s7 s8 s9 s10 s11 s12 s13 s14 s15 s16 s17 s18 s19 s20 s21 s22 s23 s24 s25 s26 s27 s28 s29 s30 s31 s32 s33 s34 s35 s36 s37 s38 s39 s40 s41 s42 s43 s44 s45 s46 s47 s48 s49 s50 s51 s52 s53 s54 s55 s56 s57 s58 s59 s60 s61 s62 s63 s64 s65 s66 s67 s68 s69 s70 s71 s72 s73 s74 s75 s76 s77 s78 s79 s80 s81 s82 s83 s84 s85 s86 s87 s88 s89 s90 s91 s92 s93 s94 s95 s96 s97 s98 s99 s100 s101 s102 s103 s104 s105 s106 s107 s108 s109 s110 s111 s112 s113 s114 s115 s116 s117 s118 s119 s120 s121 s122 s123 s124 s125 s126 s127 s128 s129 s130 s131 s132 s133 s134 s135 s136 s137 s138 s139 s140 s141 s142 s143 s144 s145 s146 s147 s148 s149 s150 s151 s152 s153 s154 s155 s156 s157 s158 s159 s160 s161 s162 s163 s164 s165 s166 s167 s168 s169 s170 s171 s172 s173 s174 s175 s176 s177 s178 s179 s180 s181 s182 s183 s184 s185 s186 s187 s188 s189 s190 s191 s192 s193 s194 s195 s196 s197 s198 s199 s200 s201 s202 s203 s204 s205 s206 s207 : Value) :
    Code.wp Tryz.prog (behind 13 (Tryz.f15.body.getD .skip)) (bodyPost Tryz.prog Tryz.f15 (LoadPost7 P w)) ⟨#[im, s1, s2, s3, .pointer (some ⟨rb, 0, none⟩), .pointer (some ⟨mb, 0, none⟩), .int .i64 n, s7, s8, s9, s10, s11, s12, s13, s14, s15, s16, s17, s18, s19, s20, s21, s22, s23, s24, s25, s26, s27, s28, s29, s30, s31, s32, s33, s34, s35, s36, s37, s38, s39, s40, s41, s42, s43, s44, s45, s46, s47, s48, s49, s50, s51, s52, s53, s54, s55, s56, s57, s58, s59, s60, s61, s62, s63, s64, s65, s66, s67, s68, s69, s70, s71, s72, s73, s74, s75, s76, s77, s78, s79, s80, s81, s82, s83, s84, s85, s86, s87, s88, s89, s90, s91, s92, s93, s94, s95, s96, s97, s98, s99, s100, s101, s102, s103, s104, s105, s106, s107, s108, s109, s110, s111, s112, s113, s114, s115, s116, s117, s118, s119, s120, s121, s122, s123, s124, s125, s126, s127, s128, s129, s130, s131, s132, s133, s134, s135, s136, s137, s138, s139, s140, s141, s142, s143, s144, s145, s146, s147, s148, s149, s150, s151, s152, s153, s154, s155, s156, s157, s158, s159, s160, s161, s162, s163, s164, s165, s166, s167, s168, s169, s170, s171, s172, s173, s174, s175, s176, s177, s178, s179, s180, s181, s182, s183, s184, s185, s186, s187, s188, s189, s190, s191, s192, s193, s194, s195, s196, s197, s198, s199, s200, s201, s202, s203, s204, s205, s206, s207], []⟩ wc :=
  wp_seq (x := front7 (behind 13 (Tryz.f15.body.getD .skip))) (y := behind 14 (Tryz.f15.body.getD .skip))
    (r07_check2 (fun hn => by
      cases ok with
      | true => rw [hg rfl, many_things (by simp) (by simpa using hn)]; rfl
      | false => exact hbd rfl) h.below h.mge (fun hn s1 s2 s3 s7 s8 s9 s10 s11 s12 s13 s14 s15 s16 s17 s18 s19 s20 s21 s22 s23 s24 s25 s26 s27 s28 s29 s30 s31 s32 s33 s34 s35 s36 s37 s38 s39 s40 s41 s42 s43 s44 s45 s46 s47 s48 s49 s50 s51 s52 s53 s54 s55 s56 s57 s58 s59 s60 s61 s62 s63 s64 s65 s66 s67 s68 s69 s70 s71 s72 s73 s74 s75 s76 s77 s78 s79 s80 s81 s82 s83 s84 s85 s86 s87 s88 s89 s90 s91 s92 s93 s94 s95 s96 s97 s98 s99 s100 s101 s102 s103 s104 s105 s106 s107 s108 s109 s110 s111 s112 s113 s114 s115 s116 s117 s118 s119 s120 s121 s122 s123 s124 s125 s126 s127 s128 s129 s130 s131 s132 s133 s134 s135 s136 s137 s138 s139 s140 s141 s142 s143 s144 s145 s146 s147 s148 s149 s150 s151 s152 s153 s154 s155 s156 s157 s158 s159 s160 s161 s162 s163 s164 s165 s166 s167 s168 s169 s170 s171 s172 s173 s174 s175 s176 s177 s178 s179 s180 s181 s182 s183 s184 s185 s186 s187 s188 s189 s190 s191 s192 s193 s194 s195 s196 s197 s198 s199 s200 s201 s202 s203 s204 s205 s206 s207 =>
      wp_seq (x := front7 (behind 14 (Tryz.f15.body.getD .skip))) (y := behind 15 (Tryz.f15.body.getD .skip))
        (r07_things_loop F hS h hn hg hbd hp0 (fun T p ok vw vt wx hI _ hg' hb' => r07_end him hI hg' hb') _ _ _ _ _ _ _ _ _ _ _ _ _ _ _ _ _ _ _ _ _ _ _ _ _ _ _ _ _ _ _ _ _ _ _ _ _ _ _ _ _ _ _ _ _ _ _ _ _ _ _ _ _ _ _ _ _ _ _ _ _ _ _ _ _ _ _ _ _ _ _ _ _ _ _ _ _ _ _ _ _ _ _ _ _ _ _ _ _ _ _ _ _ _ _ _ _ _ _ _ _ _ _ _ _ _ _ _ _ _ _ _ _ _ _ _ _ _ _ _ _ _ _ _ _ _ _ _ _ _ _ _ _ _ _ _ _ _ _ _ _ _ _ _ _ _ _ _ _ _ _ _ _ _ _ _ _ _ _ _ _ _ _ _ _ _ _ _ _ _ _ _ _ _ _ _ _ _ _ _ _ _ _ _ _ _ _ _ _ _ _ _ _ _ _ _ _ _ _ _ _ _ _ _)) _ _ _ _ _ _ _ _ _ _ _ _ _ _ _ _ _ _ _ _ _ _ _ _ _ _ _ _ _ _ _ _ _ _ _ _ _ _ _ _ _ _ _ _ _ _ _ _ _ _ _ _ _ _ _ _ _ _ _ _ _ _ _ _ _ _ _ _ _ _ _ _ _ _ _ _ _ _ _ _ _ _ _ _ _ _ _ _ _ _ _ _ _ _ _ _ _ _ _ _ _ _ _ _ _ _ _ _ _ _ _ _ _ _ _ _ _ _ _ _ _ _ _ _ _ _ _ _ _ _ _ _ _ _ _ _ _ _ _ _ _ _ _ _ _ _ _ _ _ _ _ _ _ _ _ _ _ _ _ _ _ _ _ _ _ _ _ _ _ _ _ _ _ _ _ _ _ _ _ _ _ _ _ _ _ _ _ _ _ _ _ _ _ _ _ _ _ _ _ _ _ _ _ _)

theorem num2 {L : List UInt8} {p p1 p2 : Nat} {ok k1 k2 : Bool} {n1 n2 : Nat} (h1 : ByteEff L p ok (n1 : Int) p1 k1) (h2 : ByteEff L p1 k1 (n2 : Int) p2 k2) : (k2 = true → ok = true ∧ takeNum (L.drop p) = some (256 * n1 + n2, L.drop p2)) ∧ (k2 = false → ok = false ∨ takeNum (L.drop p) = none) := by
  rcases h1 with ⟨c, hc, hn, rfl, rfl⟩ | ⟨rfl, hn, rfl, rfl⟩
  · rcases h2 with ⟨d, hd, hn2, rfl, rfl⟩ | ⟨hp, hn2, rfl, rfl⟩
    · refine ⟨fun hk => ⟨hk, ?_⟩, fun hk => .inl hk⟩
      rw [drop_cons hc, drop_cons hd]
      show some (256 * c.toNat + d.toNat, _) = _
      rw [show n1 = c.toNat by omega, show n2 = d.toNat by omega]
    · refine ⟨fun hk => (by cases hk), fun _ => .inr ?_⟩
      rw [drop_cons hc, hp, List.drop_length]
      rfl
  · refine ⟨fun hk => ?_, fun _ => .inr (by rw [List.drop_length]; rfl)⟩
    rcases h2 with ⟨_, _, _, _, h⟩ | ⟨_, _, _, h⟩
    · rw [h] at hk; cases hk
    · rw [h] at hk; cases hk

theorem LInv.other2 {rb mb : Nat} {o : Hy.Ord} {w0 W W' : World} {L : List UInt8} {p p' : Nat} {ok ok' : Bool} {vw vt : Value} {WL : WallList} {TL : ThingList} (h : LInv rb mb o w0 W L p ok vw vt WL TL) (hr : R7 w0.heap.size W' rb L p' ok') (ho : Only (fun k => k = rb ∨ W.heap.size ≤ k) W W') : LInv rb mb o w0 W' L p' ok' vw vt WL TL := h.reads hr ho

set_option maxRecDepth 100000 in
set_option maxHeartbeats 8000000 in
theorem r07_from11 {rb mb : Nat} {o : Hy.Ord} {w wc : World} {L : List UInt8} {p : Nat} {ok : Bool} {vw vt im : Value} {WL : WallList} {ia : Option Addr} {ic : Nat} (him : im = .slice ia L.length ic) (F : Hy.Fine o) (hS : Small o) (h : LInv rb mb o w wc L p ok vw vt WL []) (hp0 : p ≤ 50000) {P : Option (Hy.Ord × WallList × ThingList)}
    (hg : ok = true → P = (afterWalls o (some (WL, L.drop p))).map (fun q => (o, q))) (hbd : ok = false → P = none) (s1 s2 s3 s6 s7 s8 s9 s10 s11 s12 s13 s14 s15 s16 s17 s18 s19 s20 s21 s22 s23 s24 s25 s26 s27 s28 s29 s30 s31 s32 s33 s34 s35 s36 s37 s38 s39 s40 s41 s42 s43 s44 s45 s46 s47 s48 s49 s50 s51 s52 s53 s54 s55 s56 s57 s58 s59 s60 s61 s62 s63 s64 s65 s66 s67 s68 s69 s70 s71 s72 s73 s74 s75 s76 s77 s78 s79 s80 s81 s82 s83 s84 s85 s86 s87 s88 s89 s90 s91 s92 s93 s94 s95 s96 s97 s98 s99 s100 s101 s102 s103 s104 s105 s106 s107 s108 s109 s110 s111 s112 s113 s114 s115 s116 s117 s118 s119 s120 s121 s122 s123 s124 s125 s126 s127 s128 s129 s130 s131 s132 s133 s134 s135 s136 s137 s138 s139 s140 s141 s142 s143 s144 s145 s146 s147 s148 s149 s150 s151 s152 s153 s154 s155 s156 s157 s158 s159 s160 s161 s162 s163 s164 s165 s166 s167 s168 s169 s170 s171 s172 s173 s174 s175 s176 s177 s178 s179 s180 s181 s182 s183 s184 s185 s186 s187 s188 s189 s190 s191 s192 s193 s194 s195 s196 s197 s198 s199 s200 s201 s202 s203 s204 s205 s206 s207 : Value) :
    Code.wp Tryz.prog (behind 11 (Tryz.f15.body.getD .skip)) (bodyPost Tryz.prog Tryz.f15 (LoadPost7 P w)) ⟨#[im, s1, s2, s3, .pointer (some ⟨rb, 0, none⟩), .pointer (some ⟨mb, 0, none⟩), s6, s7, s8, s9, s10, s11, s12, s13, s14, s15, s16, s17, s18, s19, s20, s21, s22, s23, s24, s25, s26, s27, s28, s29, s30, s31, s32, s33, s34, s35, s36, s37, s38, s39, s40, s41, s42, s43, s44, s45, s46, s47, s48, s49, s50, s51, s52, s53, s54, s55, s56, s57, s58, s59, s60, s61, s62, s63, s64, s65, s66, s67, s68, s69, s70, s71, s72, s73, s74, s75, s76, s77, s78, s79, s80, s81, s82, s83, s84, s85, s86, s87, s88, s89, s90, s91, s92, s93, s94, s95, s96, s97, s98, s99, s100, s101, s102, s103, s104, s105, s106, s107, s108, s109, s110, s111, s112, s113, s114, s115, s116, s117, s118, s119, s120, s121, s122, s123, s124, s125, s126, s127, s128, s129, s130, s131, s132, s133, s134, s135, s136, s137, s138, s139, s140, s141, s142, s143, s144, s145, s146, s147, s148, s149, s150, s151, s152, s153, s154, s155, s156, s157, s158, s159, s160, s161, s162, s163, s164, s165, s166, s167, s168, s169, s170, s171, s172, s173, s174, s175, s176, s177, s178, s179, s180, s181, s182, s183, s184, s185, s186, s187, s188, s189, s190, s191, s192, s193, s194, s195, s196, s197, s198, s199, s200, s201, s202, s203, s204, s205, s206, s207], []⟩ wc := by
  suffices hh : ∀ c, c = behind 11 (Tryz.f15.body.getD .skip) → Code.wp Tryz.prog c (bodyPost Tryz.prog Tryz.f15 (LoadPost7 P w)) ⟨#[im, s1, s2, s3, .pointer (some ⟨rb, 0, none⟩), .pointer (some ⟨mb, 0, none⟩), s6, s7, s8, s9, s10, s11, s12, s13, s14, s15, s16, s17, s18, s19, s20, s21, s22, s23, s24, s25, s26, s27, s28, s29, s30, s31, s32, s33, s34, s35, s36, s37, s38, s39, s40, s41, s42, s43, s44, s45, s46, s47, s48, s49, s50, s51, s52, s53, s54, s55, s56, s57, s58, s59, s60, s61, s62, s63, s64, s65, s66, s67, s68, s69, s70, s71, s72, s73, s74, s75, s76, s77, s78, s79, s80, s81, s82, s83, s84, s85, s86, s87, s88, s89, s90, s91, s92, s93, s94, s95, s96, s97, s98, s99, s100, s101, s102, s103, s104, s105, s106, s107, s108, s109, s110, s111, s112, s113, s114, s115, s116, s117, s118, s119, s120, s121, s122, s123, s124, s125, s126, s127, s128, s129, s130, s131, s132, s133, s134, s135, s136, s137, s138, s139, s140, s141, s142, s143, s144, s145, s146, s147, s148, s149, s150, s151, s152, s153, s154, s155, s156, s157, s158, s159, s160, s161, s162, s163, s164, s165, s166, s167, s168, s169, s170, s171, s172, s173, s174, s175, s176, s177, s178, s179, s180, s181, s182, s183, s184, s185, s186, s187, s188, s189, s190, s191, s192, s193, s194, s195, s196, s197, s198, s199, s200, s201, s202, s203, s204, s205, s206, s207], []⟩ wc from hh _ rfl
  intro c hcode
  simp only [Tryz.f15, Option.getD_some, behind] at hcode
  subst hcode
  have H := Lib.hid h
  have HP0 := Lib.hid hp0
  clear hp0
  have HC := Lib.hid (r07_byte h.rd)
  have HG := Lib.hid hg
  have HBD := Lib.hid hbd
  have HIM := Lib.hid him
  clear h hg hbd him
  go_wp2_with fail
  refine HC.out.mono ?_
  rintro e w1 ⟨x1, p1, k1, rfl, hE1, hr1, hO1⟩
  have H1 := Lib.hid (H.out.reads hr1 hO1)
  obtain ⟨hx0, hx1⟩ := hE1.range
  obtain ⟨n1, rfl⟩ := Int.eq_ofNat_of_zero_le hx0
  have HE1 := Lib.hid hE1
  clear hr1 hO1 hE1 HC
  have HC := Lib.hid (r07_byte H1.out.rd)
  go_upto_region 21 with fail
  go_cut [6] (fun s wx => ∃ (n2 : Nat) (p2 : Nat) (k2 : Bool), s = .int .i64 ((256 * n1 + n2 : Nat) : Int) ∧ Hid (ByteEff L p1 k1 (n2 : Int) p2 k2) ∧ Hid (LInv rb mb o w wx L p2 k2 vw vt WL []))
  case first =>
    go_wp2_with fail
    refine HC.out.mono ?_
    rintro e w2 ⟨x2, p2, k2, rfl, hE2, hr2, hO2⟩
    obtain ⟨hy0, hy1⟩ := hE2.range
    obtain ⟨n2, rfl⟩ := Int.eq_ofNat_of_zero_le hy0
    have H2 := Lib.hid (H1.out.reads hr2 hO2)
    have HE2 := Lib.hid hE2
    clear hr2 hO2 hE2 HC
    go_wp2_with fail
    all_goals go_meet
    case rel => exact ⟨n2, p2, k2, by go_num, HE2, H2⟩
  case rest =>
    obtain ⟨n2, p2, k2, rfl, HE2, H2⟩ := hcut
    have hnum := num2 HE1.out HE2.out
    have hrest := @r07_from13 rb mb (256 * n1 + n2) o w _ L p2 k2 vw vt im WL ia ic HIM.out F hS H2.out (by have := HE1.out.step; have := HE2.out.step; have := HP0.out; omega) P (fun hk => by
      obtain ⟨h1, h2⟩ := hnum.1 hk
      rw [HG.out h1]
      simp only [afterWalls, h2]) (fun hk => by
      rcases hnum.2 hk with h1 | h1
      · exact HBD.out h1
      · cases ok with
        | false => exact HBD.out rfl
        | true => rw [HG.out rfl]; simp only [afterWalls, h1]; rfl)
    simp only [Tryz.f15, Option.getD_some, behind] at hrest
    apply_assumption
    apply hrest

theorem r07_from9 {rb mb n : Nat} {o : Hy.Ord} {w wc : World} {L : List UInt8} {p : Nat} {ok : Bool} {vw vt im : Value} {ia : Option Addr} {ic : Nat} (him : im = .slice ia L.length ic) (F : Hy.Fine o) (hS : Small o) (h : LInv rb mb o w wc L p ok vw vt [] []) (hp0 : p ≤ 1000) {P : Option (Hy.Ord × WallList × ThingList)}
    (hg : ok = true → P = (afterWalls o (many (wallStep o) n ([], L.drop p))).map (fun q => (o, q))) (hbd : ok = false → P = none) (s1 s2 s3 s7 s8 s9 s10 s11 s12 s13 s14 s15 s16 s17 s18 s19 s20 s21 s22 s23 s24 s25 s26 s27 s28 s29 s30 s31 s32 s33 s34 s35 s36 s37 s38 s39 s40 s41 s42 s43 s44 s45 s46 s47 s48 s49 s50 s51 s52 s53 s54 s55 s56 s57 s58 s59 s60 s61 s62 s63 s64 s65 s66 s67 s68 s69 s70 s71 s72 s73 s74 s75 s76 s77 s78 s79 s80 s81 s82 s83 s84 s85 s86 s87 s88 s89 s90 s91 s92 s93 s94 s95 s96 s97 s98 s99 s100 s101 s102 s103 s104 s105 s106 s107 s108 s109 s110 s111 s112 s113 s114 s115 s116 s117 s118 s119 s120 s121 s122 s123 s124 s125 s126 s127 s128 s129 s130 s131 s132 s133 s134 s135 s136 s137 s138 s139 s140 s141 s142 s143 s144 s145 s146 s147 s148 s149 s150 s151 s152 s153 s154 s155 s156 s157 s158 s159 s160 s161 s162 s163 s164 s165 s166 s167 s168 s169 s170 s171 s172 s173 s174 s175 s176 s177 s178 s179 s180 s181 s182 s183 s184 s185 s186 s187 s188 s189 s190 s191 s192 s193 s194 s195 s196 s197 s198 s199 s200 s201 s202 s203 s204 s205 s206 s207 : Value) :
    Code.wp Tryz.prog (behind 9 (Tryz.f15.body.getD .skip)) (bodyPost Tryz.prog Tryz.f15 (LoadPost7 P w)) ⟨#[im, s1, s2, s3, .pointer (some ⟨rb, 0, none⟩), .pointer (some ⟨mb, 0, none⟩), .int .i64 n, s7, s8, s9, s10, s11, s12, s13, s14, s15, s16, s17, s18, s19, s20, s21, s22, s23, s24, s25, s26, s27, s28, s29, s30, s31, s32, s33, s34, s35, s36, s37, s38, s39, s40, s41, s42, s43, s44, s45, s46, s47, s48, s49, s50, s51, s52, s53, s54, s55, s56, s57, s58, s59, s60, s61, s62, s63, s64, s65, s66, s67, s68, s69, s70, s71, s72, s73, s74, s75, s76, s77, s78, s79, s80, s81, s82, s83, s84, s85, s86, s87, s88, s89, s90, s91, s92, s93, s94, s95, s96, s97, s98, s99, s100, s101, s102, s103, s104, s105, s106, s107, s108, s109, s110, s111, s112, s113, s114, s115, s116, s117, s118, s119, s120, s121, s122, s123, s124, s125, s126, s127, s128, s129, s130, s131, s132, s133, s134, s135, s136, s137, s138, s139, s140, s141, s142, s143, s144, s145, s146, s147, s148, s149, s150, s151, s152, s153, s154, s155, s156, s157, s158, s159, s160, s161, s162, s163, s164, s165, s166, s167, s168, s169, s170, s171, s172, s173, s174, s175, s176, s177, s178, s179, s180, s181, s182, s183, s184, s185, s186, s187, s188, s189, s190, s191, s192, s193, s194, s195, s196, s197, s198, s199, s200, s201, s202, s203, s204, s205, s206, s207], []⟩ wc :=
  wp_seq (x := front7 (behind 9 (Tryz.f15.body.getD .skip))) (y := behind 10 (Tryz.f15.body.getD .skip))
    (r07_check1 (fun hn => by
      cases ok with
      | true => rw [hg rfl, many_walls (by simp) (by simpa using hn)]; rfl
      | false => exact hbd rfl) h.below h.mge (fun hn s1 s2 s3 s7 s8 s9 s10 s11 s12 s13 s14 s15 s16 s17 s18 s19 s20 s21 s22 s23 s24 s25 s26 s27 s28 s29 s30 s31 s32 s33 s34 s35 s36 s37 s38 s39 s40 s41 s42 s43 s44 s45 s46 s47 s48 s49 s50 s51 s52 s53 s54 s55 s56 s57 s58 s59 s60 s61 s62 s63 s64 s65 s66 s67 s68 s69 s70 s71 s72 s73 s74 s75 s76 s77 s78 s79 s80 s81 s82 s83 s84 s85 s86 s87 s88 s89 s90 s91 s92 s93 s94 s95 s96 s97 s98 s99 s100 s101 s102 s103 s104 s105 s106 s107 s108 s109 s110 s111 s112 s113 s114 s115 s116 s117 s118 s119 s120 s121 s122 s123 s124 s125 s126 s127 s128 s129 s130 s131 s132 s133 s134 s135 s136 s137 s138 s139 s140 s141 s142 s143 s144 s145 s146 s147 s148 s149 s150 s151 s152 s153 s154 s155 s156 s157 s158 s159 s160 s161 s162 s163 s164 s165 s166 s167 s168 s169 s170 s171 s172 s173 s174 s175 s176 s177 s178 s179 s180 s181 s182 s183 s184 s185 s186 s187 s188 s189 s190 s191 s192 s193 s194 s195 s196 s197 s198 s199 s200 s201 s202 s203 s204 s205 s206 s207 =>
      wp_seq (x := front7 (behind 10 (Tryz.f15.body.getD .skip))) (y := behind 11 (Tryz.f15.body.getD .skip))
        (r07_walls_loop F hS h hn hg hbd hp0 (fun T p ok vw vt wx hI hp' hg' hb' => r07_from11 him F hS hI hp' hg' hb') _ _ _ _ _ _ _ _ _ _ _ _ _ _ _ _ _ _ _ _ _ _ _ _ _ _ _ _ _ _ _ _ _ _ _ _ _ _ _ _ _ _ _ _ _ _ _ _ _ _ _ _ _ _ _ _ _ _ _ _ _ _ _ _ _ _ _ _ _ _ _ _ _ _ _ _ _ _ _ _ _ _ _ _ _ _ _ _ _ _ _ _ _ _ _ _ _ _ _ _ _ _ _ _ _ _ _ _ _ _ _ _ _ _ _ _ _ _ _ _ _ _ _ _ _ _ _ _ _ _ _ _ _ _ _ _ _ _ _ _ _ _ _ _ _ _ _ _ _ _ _ _ _ _ _ _ _ _ _ _ _ _ _ _ _ _ _ _ _ _ _ _ _ _ _ _ _ _ _ _ _ _ _ _ _ _ _ _ _ _ _ _ _ _ _ _ _ _ _ _ _ _ _ _)) _ _ _ _ _ _ _ _ _ _ _ _ _ _ _ _ _ _ _ _ _ _ _ _ _ _ _ _ _ _ _ _ _ _ _ _ _ _ _ _ _ _ _ _ _ _ _ _ _ _ _ _ _ _ _ _ _ _ _ _ _ _ _ _ _ _ _ _ _ _ _ _ _ _ _ _ _ _ _ _ _ _ _ _ _ _ _ _ _ _ _ _ _ _ _ _ _ _ _ _ _ _ _ _ _ _ _ _ _ _ _ _ _ _ _ _ _ _ _ _ _ _ _ _ _ _ _ _ _ _ _ _ _ _ _ _ _ _ _ _ _ _ _ _ _ _ _ _ _ _ _ _ _ _ _ _ _ _ _ _ _ _ _ _ _ _ _ _ _ _ _ _ _ _ _ _ _ _ _ _ _ _ _ _ _ _ _ _ _ _ _ _ _ _ _ _ _ _ _ _ _ _ _ _)

theorem bytes3 {L : List UInt8} {p1 p2 p3 : Nat} {k1 k2 k3 : Bool} {n1 n2 n3 : Nat} (h1 : ByteEff L 0 true (n1 : Int) p1 k1) (h2 : ByteEff L p1 k1 (n2 : Int) p2 k2) (h3 : ByteEff L p2 k2 (n3 : Int) p3 k3) :
    (k3 = true → ∃ a b c : UInt8, L = a :: b :: c :: L.drop p3 ∧ a.toNat = n1 ∧ b.toNat = n2 ∧ c.toNat = n3) ∧ (k3 = false → L.length < 3) := by
  rcases h1 with ⟨a, ha, e1, rfl, rfl⟩ | ⟨h, e1, rfl, rfl⟩
  · rcases h2 with ⟨b, hb, e2, rfl, rfl⟩ | ⟨h, e2, rfl, rfl⟩
    · rcases h3 with ⟨c, hc, e3, rfl, rfl⟩ | ⟨h, e3, rfl, rfl⟩
      · refine ⟨fun _ => ⟨a, b, c, ?_, by omega, by omega, by omega⟩, fun h => (by cases h)⟩
        have h1 := drop_cons ha
        have h2 := drop_cons hb
        have h3 := drop_cons hc
        rw [List.drop_zero] at h1
        rw [h2, h3] at h1
        exact h1
      · exact ⟨fun h => (by cases h), fun _ => by omega⟩
    · refine ⟨fun hk => ?_, fun _ => by omega⟩
      rcases h3 with ⟨_, _, _, _, h⟩ | ⟨_, _, _, h⟩
      · rw [h] at hk; cases hk
      · rw [h] at hk; cases hk
  · refine ⟨fun hk => ?_, fun _ => by omega⟩
    have hk2 : k2 = false := by
      rcases h2 with ⟨_, _, _, _, h⟩ | ⟨_, _, _, h⟩
      · exact h
      · exact h
    rcases h3 with ⟨_, _, _, _, h⟩ | ⟨_, _, _, h⟩
    · rw [h, hk2] at hk; cases hk
    · rw [h] at hk; cases hk

theorem parse_short {L : List UInt8} (h : L.length < 3) : parse L = none := by
  match L, h with
  | [], _ => rfl
  | [_], _ => rfl
  | [_, _], _ => rfl

theorem three5 {w : World} {b : Nat} {x y z u v x' y' z' : Value} {t : TypeId} (h : w.heap[b]? = some (.cells #[x, y, z, u, v] t (0, 0))) : (((w.setCell ⟨b, 0, none⟩ x').setCell ⟨b, 1, none⟩ y').setCell ⟨b, 2, none⟩ z').heap[b]? = some (.cells #[x', y', z', u, v] t (0, 0)) :=
  heap_setCell_same _ _ _ _ _ _ (heap_setCell_same _ _ _ _ _ _ (heap_setCell_same _ _ _ _ _ _ h))
theorem one5 {w : World} {b : Nat} {x y z u v y' : Value} {t : TypeId} (h : w.heap[b]? = some (.cells #[x, y, z, u, v] t (0, 0))) : (w.setCell ⟨b, 1, none⟩ y').heap[b]? = some (.cells #[x, y', z, u, v] t (0, 0)) :=
  heap_setCell_same _ _ _ _ _ _ h
theorem two5 {w : World} {b : Nat} {x y z u v z' : Value} {t : TypeId} (h : w.heap[b]? = some (.cells #[x, y, z, u, v] t (0, 0))) : (w.setCell ⟨b, 2, none⟩ z').heap[b]? = some (.cells #[x, y, z', u, v] t (0, 0)) :=
  heap_setCell_same _ _ _ _ _ _ h

theorem small_of7 {a b c : Int} (h : Hy.ordErr a b c = 0) : Small (Hy.toOrd a b c) := by
  obtain ⟨h1, h2, h3⟩ := Hy.ordErr_zero h
  exact ⟨by show a.toNat ≤ 12; omega, by show b.toNat ≤ 12; omega, by show c.toNat ≤ 12; omega⟩

theorem LInv.setO {rb mb : Nat} {o o' : Hy.Ord} {w0 W W' : World} {L : List UInt8} {p : Nat} {ok : Bool} {vw vt : Value} {WL : WallList} {TL : ThingList} (h : LInv rb mb o w0 W L p ok vw vt WL TL) (ho : Only (fun k => k = mb) W W') (hm : W'.heap[mb]? = some (.cells #[.int .i64 o'.m01, .int .i64 o'.m12, .int .i64 o'.m02, vw, vt] 38 (0, 0))) : LInv rb mb o' w0 W' L p ok vw vt WL TL := by
  have hne := h.ne
  have hmge := h.mge
  have key : ∀ (e : TypeId), e ≠ 38 → ∀ (g : Nat) (cur : Array Value), W.heap[g]? = some (.cells cur e (0, 0)) → W'.heap[g]? = W.heap[g]? := fun e he g cur hg => by
    refine ho.block g ?_
    rintro rfl
    rw [h.map] at hg
    cases hg
    exact he rfl
  exact ⟨h.rd.only ho hne (fun k hk => by omega), hm, row_keep h.walls (key _ (by decide)), row_keep h.things (key _ (by decide)), h.below.trans ⟨ho.os, ho.tape, ho.output, ho.size, fun k hk => ho.block k (by omega)⟩, h.rge, h.mge⟩

set_option maxRecDepth 100000 in
set_option maxHeartbeats 8000000 in
theorem r07_Load {w : World} {v : Value} {L : List UInt8} (h : BSlice w.heap.size w v L) (hL : L.length ≤ 9223372036854775807) :
    Calls Tryz.prog 15 #[v] w (LoadPost7 (parse L) w) := by
  have hv := h
  obtain ⟨ia, ic, rfl, _, _⟩ := hv
  obtain ⟨W0, hW0⟩ : ∃ W0, (w.alloc (.cells #[.slice ia L.length ic, .int .i64 0, .bool true] 88)).alloc (.cells #[.int .i64 0, .int .i64 0, .int .i64 0, .slice none 0 0, .slice none 0 0] 38) = W0 := ⟨_, rfl⟩
  have hB0 : Below w.heap.size w W0 := by rw [← hW0]; exact ((Below.refl _ _).alloc (Nat.le_refl _) _).alloc (by simp) _
  have hr0 : W0.heap[w.heap.size]? = some (.cells #[.slice ia L.length ic, .int .i64 0, .bool true] 88 (0, 0)) := by
    rw [← hW0, heap_alloc_lt _ _ (by simp)]; exact alloc_heap_new w _
  have hm0 : W0.heap[w.heap.size + 1]? = some (.cells #[.int .i64 0, .int .i64 0, .int .i64 0, .slice none 0 0, .slice none 0 0] 38 (0, 0)) := by
    rw [← hW0]
    have h := alloc_heap_new (w.alloc (.cells #[.slice ia L.length ic, .int .i64 0, .bool true] 88)) (.cells #[.int .i64 0, .int .i64 0, .int .i64 0, .slice none 0 0, .slice none 0 0] 38)
    rwa [World.size_alloc] at h
  have H0 := Lib.hid (show LInv w.heap.size (w.heap.size + 1) ⟨0, 0, 0⟩ w W0 L 0 true (.slice none 0 0) (.slice none 0 0) [] [] from
    ⟨⟨_, hr0, Nat.le_refl _, h.below hB0, Nat.zero_le _, hL⟩, hm0, World.ownsRow_nil _ _ _ _, World.ownsRow_nil _ _ _ _, hB0, Nat.le_refl _, Nat.le_succ _⟩)
  have HC := Lib.hid (r07_byte H0.out.rd)
  clear h hB0 hr0 hm0
  go_enter Tryz.func15, Tryz.ntmps15
  go_wp2_with fail
  clear hW0
  refine HC.out.mono ?_
  rintro e w1 ⟨x1, p1, k1, rfl, hE1, hr1, hO1⟩
  have h1 := H0.out.reads hr1 hO1
  obtain ⟨hx0, hx1⟩ := hE1.range
  obtain ⟨n1, rfl⟩ := Int.eq_ofNat_of_zero_le hx0
  have HE1 := Lib.hid hE1
  have c0 := cell_of_heap h1.map 0
  have c1 := cell_of_heap h1.map 1
  have c2 := cell_of_heap h1.map 2
  have f0 := free_of_heap h1.map 0
  have f1 := free_of_heap h1.map 1
  have f2 := free_of_heap h1.map 2
  simp at c0 c1 c2
  have H1 := Lib.hid h1
  clear hr1 hO1 hE1 HC h1
  go_upto_region 4 with fail
  obtain ⟨W1, hW1⟩ : ∃ W1, (((w1.setCell ⟨w.heap.size + 1, 0, none⟩ (.int .i64 (n1 : Int))).setCell ⟨w.heap.size + 1, 1, none⟩ (.int .i64 0)).setCell ⟨w.heap.size + 1, 2, none⟩ (.int .i64 0)) = W1 := ⟨_, rfl⟩
  have hO1 : Only (fun k => k = w.heap.size + 1) w1 W1 := by
    rw [← hW1]
    exact Only.setCell (B := fun k => k = w.heap.size + 1) (Only.setCell (B := fun k => k = w.heap.size + 1) (Only.setCell (B := fun k => k = w.heap.size + 1) (Only.refl _ w1) (p := ⟨w.heap.size + 1, 0, none⟩) rfl _) (p := ⟨w.heap.size + 1, 1, none⟩) rfl _) (p := ⟨w.heap.size + 1, 2, none⟩) rfl _
  have H2 := Lib.hid (H1.out.setO (o' := ⟨n1, 0, 0⟩) hO1 (by rw [← hW1]; exact three5 H1.out.map))
  rw [hW1]
  clear hW1 hO1 c0 c1 c2 f0 f1 f2 H1
  have HC := Lib.hid (r07_byte H2.out.rd)
  go_wp2_with fail
  refine HC.out.mono ?_
  rintro e w2 ⟨x2, p2, k2, rfl, hE2, hr2, hO2⟩
  have h3 := H2.out.reads hr2 hO2
  obtain ⟨hy0, hy1⟩ := hE2.range
  obtain ⟨n2, rfl⟩ := Int.eq_ofNat_of_zero_le hy0
  have HE2 := Lib.hid hE2
  have c1 := cell_of_heap h3.map 1
  have f1 := free_of_heap h3.map 1
  simp at c1
  have H3 := Lib.hid h3
  clear hr2 hO2 hE2 HC h3 H2
  go_upto_region 5 with fail
  obtain ⟨W2, hW2⟩ : ∃ W2, w2.setCell ⟨w.heap.size + 1, 1, none⟩ (.int .i64 (n2 : Int)) = W2 := ⟨_, rfl⟩
  have hO2 : Only (fun k => k = w.heap.size + 1) w2 W2 := by
    rw [← hW2]
    exact Only.setCell (B := fun k => k = w.heap.size + 1) (Only.refl _ w2) (p := ⟨w.heap.size + 1, 1, none⟩) rfl _
  have H4 := Lib.hid (H3.out.setO (o' := ⟨n1, n2, 0⟩) hO2 (by rw [← hW2]; exact one5 H3.out.map))
  rw [hW2]
  clear hW2 hO2 c1 f1 H3
  have HC := Lib.hid (r07_byte H4.out.rd)
  go_wp2_with fail
  refine HC.out.mono ?_
  rintro e w3 ⟨x3, p3, k3, rfl, hE3, hr3, hO3⟩
  have h5 := H4.out.reads hr3 hO3
  obtain ⟨hz0, hz1⟩ := hE3.range
  obtain ⟨n3, rfl⟩ := Int.eq_ofNat_of_zero_le hz0
  have HE3 := Lib.hid hE3
  have HP4 := Lib.hid (show p3 ≤ 3 from by have := HE1.out.step; have := HE2.out.step; have := hE3.step; omega)
  have c2 := cell_of_heap h5.map 2
  have f2 := free_of_heap h5.map 2
  simp at c2
  have H5 := Lib.hid h5
  clear hr3 hO3 hE3 HC h5 H4
  go_upto_region 6 with fail
  obtain ⟨W3, hW3⟩ : ∃ W3, w3.setCell ⟨w.heap.size + 1, 2, none⟩ (.int .i64 (n3 : Int)) = W3 := ⟨_, rfl⟩
  have hO3 : Only (fun k => k = w.heap.size + 1) w3 W3 := by
    rw [← hW3]
    exact Only.setCell (B := fun k => k = w.heap.size + 1) (Only.refl _ w3) (p := ⟨w.heap.size + 1, 2, none⟩) rfl _
  have H6 := Lib.hid (H5.out.setO (o' := ⟨n1, n2, n3⟩) hO3 (by rw [← hW3]; exact two5 H5.out.map))
  rw [hW3]
  clear hW3 hO3 c2 f2 H5
  have h3b := bytes3 HE1.out HE2.out HE3.out
  obtain ⟨vr, hv1, _⟩ := H6.out.rd
  have e2 := cell_of_heap hv1 2
  have c0 := cell_of_heap H6.out.map 0
  have c1 := cell_of_heap H6.out.map 1
  have c2 := cell_of_heap H6.out.map 2
  simp at e2 c0 c1 c2
  clear hv1
  cases k3 with
  | false =>
    have HN := Lib.hid (parse_short (h3b.2 rfl))
    clear h3b
    go_wp2_with fail
    go_ret2
    exact LoadPost7.bad HN.out H6.out.below H6.out.mge
  | true =>
    obtain ⟨a, b, c, hLL, ha, hb, hc⟩ := h3b.1 rfl
    clear h3b
    have HALLOW := Lib.hid (fun W => r03_Allowed (n1 : Int) (n2 : Int) (n3 : Int) W)
    unfold ordersV at HALLOW
    have hparse : parse L = if Hy.ordErr (n1 : Int) (n2 : Int) (n3 : Int) = 0 then (parseRest ⟨n1, n2, n3⟩ (L.drop p3)).map (fun q => (⟨n1, n2, n3⟩, q)) else none := by
      rw [← ha, ← hb, ← hc]
      conv => lhs; rw [hLL]
      rfl
    have HPARSE := Lib.hid hparse
    clear hparse hLL ha hb hc
    by_cases he : Hy.ordErr (n1 : Int) (n2 : Int) (n3 : Int) = 0
    case neg =>
      have HN := Lib.hid (show parse L = none by rw [HPARSE.out, if_neg he])
      have g1 : (Hy.ordErr (n1 : Int) (n2 : Int) (n3 : Int) != 0) = true := by rw [bne_iff_ne]; exact he
      clear HPARSE he
      generalize Hy.ordErr (n1 : Int) (n2 : Int) (n3 : Int) = er at HALLOW g1
      go_wp2_with fail
      refine (HALLOW.out _).mono ?_
      rintro e w4 ⟨rfl, hB4⟩
      have H7 := Lib.hid (H6.out.grow hB4)
      clear hB4
      go_wp2_with fail
      go_ret2
      exact LoadPost7.bad HN.out H7.out.below H7.out.mge
    case pos =>
      have HN := Lib.hid (show parse L = (parseRest ⟨n1, n2, n3⟩ (L.drop p3)).map (fun q => (⟨n1, n2, n3⟩, q)) by rw [HPARSE.out, if_pos he])
      have F : Hy.Fine ⟨n1, n2, n3⟩ := Hy.fine_of he
      have hS : Small ⟨n1, n2, n3⟩ := small_of7 he
      rw [he] at HALLOW
      clear HPARSE he
      go_wp2_with fail
      refine (HALLOW.out _).mono ?_
      rintro e w4 ⟨rfl, hB4⟩
      have H7 := Lib.hid (H6.out.grow hB4)
      clear hB4 HALLOW e2 c0 c1 c2
      have HC := Lib.hid (r07_byte H7.out.rd)
      go_wp2_with fail
      refine HC.out.mono ?_
      rintro e w5 ⟨x4, p4, k4, rfl, hE4, hr4, hO4⟩
      have H8 := Lib.hid (H7.out.reads hr4 hO4)
      obtain ⟨hu0, hu1⟩ := hE4.range
      obtain ⟨n4, rfl⟩ := Int.eq_ofNat_of_zero_le hu0
      have HE4 := Lib.hid hE4
      clear hr4 hO4 hE4 HC
      have HC := Lib.hid (r07_byte H8.out.rd)
      go_upto_region 9 with fail
      go_cut [6] (fun s wx => ∃ (n5 : Nat) (p5 : Nat) (k5 : Bool), s = .int .i64 ((256 * n4 + n5 : Nat) : Int) ∧ Hid (ByteEff L p4 k4 (n5 : Int) p5 k5) ∧ Hid (LInv w.heap.size (w.heap.size + 1) ⟨n1, n2, n3⟩ w wx L p5 k5 (.slice none 0 0) (.slice none 0 0) [] []))
      case first =>
        go_wp2_with fail
        refine HC.out.mono ?_
        rintro e w6 ⟨x5, p5, k5, rfl, hE5, hr5, hO5⟩
        obtain ⟨ht0, ht1⟩ := hE5.range
        obtain ⟨n5, rfl⟩ := Int.eq_ofNat_of_zero_le ht0
        have H9 := Lib.hid (H8.out.reads hr5 hO5)
        have HE5 := Lib.hid hE5
        clear hr5 hO5 hE5 HC
        go_wp2_with fail
        all_goals go_meet
        case rel => exact ⟨n5, p5, k5, by go_num, HE5, H9⟩
      case rest =>
        obtain ⟨n5, p5, k5, rfl, HE5, H9⟩ := hcut
        have hnum := num2 HE4.out HE5.out
        have hrest := @r07_from9 w.heap.size (w.heap.size + 1) (256 * n4 + n5) ⟨n1, n2, n3⟩ w _ L p5 k5 (.slice none 0 0) (.slice none 0 0) (.slice ia L.length ic) ia ic rfl F hS H9.out (by have := HP4.out; have := HE4.out.step; have := HE5.out.step; omega) (parse L) (fun hk => by
          rw [HN.out, parseRest_eq, (hnum.1 hk).2]) (fun hk => by
          rcases hnum.2 hk with h1 | h1
          · cases h1
          · rw [HN.out, parseRest_eq, h1]; rfl)
        simp only [Tryz.f15, Option.getD_some, behind] at hrest
        apply_assumption
        apply hrest
end Go.Proofs.YtbfnnlcckpabnaaGreat
