/- The examples of the chapter on walks come out as they are told. -/
import Derived.Test.YtbfnnlcckpabnaaGreatNear
namespace Go.Proofs.YtbfnnlcckpabnaaGreat
set_option linter.unusedSimpArgs false
set_option linter.unusedVariables false
open Go.RowKit

def o7 : Hy.Ord := ⟨3, 7, 2⟩
def walls7 : Walls := [(([0], 1), true)]
def things7 : Things := [([0, 1], [119, 101, 108, 108])]

def check7 (xs : Option Places) : Bool := match xs with
  | none => false
  | some xs => wayIn xs [0, 1] == some [1, 0, 1, 0] && xs.all (fun p => p.1.length ≤ 1000 && p.2.length ≤ 1000) && (nearGo things7 xs (false, 0, [])).1 && (nearGo things7 xs (false, 0, [])).2.2 == [0, 1]

theorem sane_reach : check7 (reachAll o7 60 (wallIn walls7) [] 5000 [([], [])] [([], true)]) = true := by decide +kernel

theorem sane_reach_some : ∃ xs, reachAll o7 60 (wallIn walls7) [] 5000 [([], [])] [([], true)] = some xs ∧ wayIn xs [0, 1] = some [1, 0, 1, 0] ∧ (∀ p ∈ xs, p.1.length ≤ 1000 ∧ p.2.length ≤ 1000) ∧ ∃ n, nearGo things7 xs (false, 0, []) = (true, n, [0, 1]) := by
  have h := sane_reach
  cases hx : reachAll o7 60 (wallIn walls7) [] 5000 [([], [])] [([], true)] with
  | none => rw [hx] at h; cases h
  | some xs =>
    rw [hx] at h
    simp only [check7, Bool.and_eq_true, beq_iff_eq, List.all_eq_true, decide_eq_true_eq] at h
    obtain ⟨⟨⟨h1, h2⟩, h3⟩, h4⟩ := h
    refine ⟨xs, rfl, h1, h2, (nearGo things7 xs (false, 0, [])).2.1, ?_⟩
    rw [← h4, ← h3]

theorem go7a : Hy.goSteps o7 60 (wallIn []) [] [0, 1, 0, 2] 4 [] = some ([0, 1, 0, 2], 4) := by decide +kernel
theorem go7b : Hy.goSteps o7 60 (wallIn walls7) [] [0, 1, 0] 3 [] = some ([0], 1) := by decide +kernel

theorem small7 : Small o7 := ⟨by decide, by decide, by decide⟩

set_option maxRecDepth 100000 in
set_option maxHeartbeats 2000000 in
theorem sane7 (w : World) : Calls Tryz.prog 9 #[] w fun e w' => e = .returned (.bool true) ∧ Below w.heap.size w w' := by
  have ho := small7
  obtain ⟨xs, hxs, hway, hlen, n7, hnear⟩ := sane_reach_some
  have HNEW := Lib.hid (walk_New o7 ho w (by decide))
  have HXS := Lib.hid hxs; have HWAY := Lib.hid hway; have HLEN := Lib.hid hlen; have HNEAR := Lib.hid hnear
  clear hxs hway hlen hnear
  unfold ordersV o7 at HNEW
  go_enter Tryz.func9, Tryz.ntmps9
  go_wp2_with fail
  refine HNEW.out.mono ?_
  rintro e w1 ⟨mb, wb, tb, rfl, hM, h1, h2, h3, hB⟩
  have HM := Lib.hid hM; have HB := Lib.hid hB; have H1 := Lib.hid h1; have H2 := Lib.hid h2; have H3 := Lib.hid h3
  clear hM hB h1 h2 h3 HNEW
  have hmw : mb ≠ wb := by
    rintro rfl
    obtain ⟨es, ck, h2, _⟩ := HM.out.walls
    rw [HM.out.cells] at h2; cases h2
  have hmt : mb ≠ tb := by
    rintro rfl
    obtain ⟨es, ck, h2, _⟩ := HM.out.things
    rw [HM.out.cells] at h2; cases h2
  have HMW := Lib.hid hmw; have HMT := Lib.hid hmt; clear hmw hmt
  go_wp2_with fail
  refine (walk_Go HM.out ho [] [0, 1, 0, 2] 60 [] [0, 1, 0, 2] (by decide) (by decide +kernel) (by decide +kernel) _ go7a).mono ?_
  rintro e w2 ⟨rfl, hB2⟩
  have hM2 := HM.out.grow hB2
  have hB02 := HB.out.trans (hB2.mono HB.out.size)
  have HM2 := Lib.hid hM2; have HB2 := Lib.hid hB02; clear hB2 hM2 hB02 HM HB
  unfold str
  go_wp2_with fail
  refine (walk_Wall_body HM2.out ho [0] (by decide) 1 (by decide) true 60 [0] [0, 1] HMW.out (by decide) (by decide +kernel) (by decide) (by decide +kernel)).mono ?_
  rintro e w3 ⟨hO3, rfl, hM3⟩
  rw [show putWall [] (Hy.nearOf [0] [0, 1], ((1 : Nat) : Int)) true = (0, walls7) by decide] at hM3 ⊢
  have hB03 := HB2.out.trans (hO3.below (N := w.heap.size) (fun k hk => hk.elim (fun h => h ▸ H2.out) (fun h => Nat.le_trans HB2.out.size h)))
  have HM3 := Lib.hid hM3; have HB3 := Lib.hid hB03; clear hO3 hM3 hB03 HM2 HB2
  go_wp2_with fail
  refine (walk_Go HM3.out ho [] [0, 1, 0] 60 [] [0, 1, 0] (by decide) (by decide +kernel) (by decide +kernel) _ go7b).mono ?_
  rintro e w4 ⟨rfl, hB4⟩
  have hM4 := HM3.out.grow hB4
  have hB04 := HB3.out.trans (hB4.mono HB3.out.size)
  have HM4 := Lib.hid hM4; have HB4 := Lib.hid hB04; clear hB4 hM4 hB04 HM3 HB3
  unfold str
  go_wp2_with fail
  refine (walk_Way HM4.out ho [] [0, 1] 60 5000 [] [0, 1] (by decide) (by decide +kernel) (by decide +kernel) xs HXS.out).mono ?_
  rintro e w5 ⟨hB5, rfl⟩
  rw [HWAY.out]
  have hM5 := HM4.out.grow hB5
  have hB05 := HB4.out.trans (hB5.mono HB4.out.size)
  have HM5 := Lib.hid hM5; have HB5 := Lib.hid hB05; clear hB5 hM5 hB05 HM4 HB4
  go_wp2_with fail
  refine (walk_Put HM5.out HMT.out ho [0, 1] [119, 101, 108, 108] (by decide) (by decide) 60 [0, 1] (fun _ => by decide +kernel)).mono ?_
  rintro e w6 ⟨hO6, hb6⟩
  rw [if_pos (by decide), show putThing [] [0, 1] [119, 101, 108, 108] = (0, things7) by decide] at hb6
  obtain ⟨rfl, hM6⟩ := hb6
  have hB06 := HB5.out.trans (hO6.below (N := w.heap.size) (fun k hk => hk.elim (fun h => h ▸ H3.out) (fun h => Nat.le_trans HB5.out.size h)))
  have HM6 := Lib.hid hM6; have HB6 := Lib.hid hB06; clear hO6 hM6 hB06 HM5 HB5
  go_wp2_with fail
  refine (walk_Near HM6.out ho [] 60 5000 [] (by decide) (by decide +kernel) xs HXS.out HLEN.out).mono ?_
  rintro e w7 ⟨hB7, rfl⟩
  rw [HNEAR.out]
  have hB07 := HB6.out.trans (hB7.mono HB6.out.size)
  have hlk : (mlook [0, 1] things7).getD [] = [119, 101, 108, 108] := by decide
  simp only [hlk]
  have HB7 := Lib.hid hB07; clear hB7 hB07 HM6 HB6 hlk
  go_wp2_with fail
  go_ret
  exact ⟨rfl, HB7.out⟩
end Go.Proofs.YtbfnnlcckpabnaaGreat
