/- walk.reader.read: a wall whose side does not lead up. -/
import Derived.Test.YtbfnnlcckpabnaaGreatLd6
namespace Go.Proofs.YtbfnnlcckpabnaaGreat
set_option linter.unusedSimpArgs false
set_option linter.unusedVariables false
open Go.RowKit

/-- The first statement. -/
def front : Code → Code
  | .seq a _ => a
  | c => c

/-- What lies in a block or a loop. -/
def inside : Code → Code
  | .block _ c => c
  | .loop c => c
  | c => c

/-- The loop's body for a wall. -/
def wallBody (c : Code) : Code := inside (front (behind 2 (inside (inside (behind 1 (front (behind 5 c)))))))

set_option maxRecDepth 100000 in
set_option maxHeartbeats 16000000 in
theorem walk_not_upward {mb wb tb sb : Nat} {o : Hy.Ord} {W6 : World} {WL : Walls} {T : Things} {t nx : List UInt8} {c : Nat} (hc : c < 256) (ho : Small o) (hM : MRep W6 o mb wb tb WL T) (hwe : Hy.wordsErr [t, Hy.letter c] = 0) (hnx : Hy.norm o 1000 (t ++ Hy.letter c) = some nx)
    (hsz : sb < W6.heap.size) (q0 : W6.cell? ⟨sb, 0, none⟩ = some (.string ⟨t.toArray⟩)) (q1 : W6.cell? ⟨sb, 1, none⟩ = some (.int .i64 c)) (hup : ¬ t.length < nx.length)
    (s0 s1 s2 s4 s5 s6 s8 s9 s10 s11 s12 s13 s14 s15 s16 s17 s18 s19 s20 s21 s22 s23 s24 s25 s26 s27 s28 s29 s30 s31 s32 s33 s34 s35 s36 s37 s38 s39 s40 s41 s42 s43 s44 s45 s46 s47 s48 s49 s50 s51 s52 s53 s54 s55 s56 s57 s58 s59 s60 s61 s62 s63 s64 s65 s66 s67 s68 s69 s70 s71 s72 s73 s74 s75 s76 s77 s78 s79 s80 s81 s82 s83 s84 s85 s86 s87 s88 s89 s90 s91 s92 s93 s94 s95 s96 s97 s98 s99 s100 s101 s102 s103 s104 s105 s106 s107 s108 s109 s110 s111 s112 s113 s114 s115 s116 s117 s118 s119 s120 s121 s122 s123 s124 s125 s126 s127 s128 s129 s130 s131 s132 s133 s134 s135 s136 s137 s138 s139 : Value) :
    Code.wp Tryz.prog (front (behind 4 (wallBody (Tryz.f44.body.getD .skip)))) (bodyPost Tryz.prog Tryz.f44 (fun e w' => e = .panicked noImg ∧ Below W6.heap.size W6 w')) ⟨#[s0, s1, s2, mptr mb, s4, s5, s6, .pointer (some ⟨sb, 0, none⟩), s8, s9, s10, s11, s12, s13, s14, s15, s16, s17, s18, s19, s20, s21, s22, s23, s24, s25, s26, s27, s28, s29, s30, s31, s32, s33, s34, s35, s36, s37, s38, s39, s40, s41, s42, s43, s44, s45, s46, s47, s48, s49, s50, s51, s52, s53, s54, s55, s56, s57, s58, s59, s60, s61, s62, s63, s64, s65, s66, s67, s68, s69, s70, s71, s72, s73, s74, s75, s76, s77, s78, s79, s80, s81, s82, s83, s84, s85, s86, s87, s88, s89, s90, s91, s92, s93, s94, s95, s96, s97, s98, s99, s100, s101, s102, s103, s104, s105, s106, s107, s108, s109, s110, s111, s112, s113, s114, s115, s116, s117, s118, s119, s120, s121, s122, s123, s124, s125, s126, s127, s128, s129, s130, s131, s132, s133, s134, s135, s136, s137, s138, s139], []⟩ W6 := by
  suffices hh : ∀ c, c = front (behind 4 (wallBody (Tryz.f44.body.getD .skip))) → Code.wp Tryz.prog c (bodyPost Tryz.prog Tryz.f44 (fun e w' => e = .panicked noImg ∧ Below W6.heap.size W6 w')) ⟨#[s0, s1, s2, mptr mb, s4, s5, s6, .pointer (some ⟨sb, 0, none⟩), s8, s9, s10, s11, s12, s13, s14, s15, s16, s17, s18, s19, s20, s21, s22, s23, s24, s25, s26, s27, s28, s29, s30, s31, s32, s33, s34, s35, s36, s37, s38, s39, s40, s41, s42, s43, s44, s45, s46, s47, s48, s49, s50, s51, s52, s53, s54, s55, s56, s57, s58, s59, s60, s61, s62, s63, s64, s65, s66, s67, s68, s69, s70, s71, s72, s73, s74, s75, s76, s77, s78, s79, s80, s81, s82, s83, s84, s85, s86, s87, s88, s89, s90, s91, s92, s93, s94, s95, s96, s97, s98, s99, s100, s101, s102, s103, s104, s105, s106, s107, s108, s109, s110, s111, s112, s113, s114, s115, s116, s117, s118, s119, s120, s121, s122, s123, s124, s125, s126, s127, s128, s129, s130, s131, s132, s133, s134, s135, s136, s137, s138, s139], []⟩ W6 from hh _ rfl
  intro cd hcode
  simp only [Tryz.f44, Option.getD_some, behind, front, inside, wallBody] at hcode
  subst hcode
  have HLET := Lib.hid (fun W => walk_letter c hc W)
  have HTO := Lib.hid (fun W (hM : MRep W o mb wb tb WL T) => walk_to hM ho t (Hy.letter c) hwe 1000 nx hnx)
  have HNB := Lib.hid (fun W => walk_need_bad W)
  have HM := Lib.hid hM
  clear hM hwe hnx ho
  unfold str at HLET HTO
  unfold mptr
  go_region_with ((first
    | (go_at_call 53; refine (HLET.out _).mono ?_; rintro e w7 ⟨rfl, hB7⟩; obtain ⟨hc7, hf7⟩ := bcell hB7; have r0 : w7.cell? ⟨sb, 0, none⟩ = some (.string ⟨t.toArray⟩) := (hc7 _ _ hsz).trans q0; have r1 : w7.cell? ⟨sb, 1, none⟩ = some (.int .i64 c) := (hc7 _ _ hsz).trans q1; have hz7 : sb < w7.heap.size := Nat.lt_of_lt_of_le hsz hB7.size; have hb7 : Below W6.heap.size W6 w7 := below_undrew hB7; have HB7 := Lib.hid hb7; clear hb7 hB7 hc7 hf7)
    | (go_at_call 50; refine (HTO.out _ (HM.out.grow HB7.out)).mono ?_; rintro e w8 ⟨rfl, hB8⟩; obtain ⟨hc8, hf8⟩ := bcell hB8; have t0 : w8.cell? ⟨sb, 0, none⟩ = some (.string ⟨t.toArray⟩) := (hc8 _ _ hz7).trans r0; have t1 : w8.cell? ⟨sb, 1, none⟩ = some (.int .i64 c) := (hc8 _ _ hz7).trans r1; have hb8 : Below W6.heap.size W6 w8 := HB7.out.trans (hB8.mono HB7.out.size); have HB8 := Lib.hid hb8; clear hb8 hB8 hc8 hf8)
    | (go_at_call 70; refine (HNB.out _).mono ?_; rintro e w9 ⟨rfl, rfl⟩; refine panic_way ⟨rfl, rfl, HB8.out⟩ ?_)))
  all_goals trivial

end Go.Proofs.YtbfnnlcckpabnaaGreat
