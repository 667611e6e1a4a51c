/- The law WalkFree over the program: it returns true. -/
import Derived.Test.YtcbbmpoamjcmeaaSane
import Derived.Test.YtcbbmpoamjcmeaaFreeLaw
import Derived.Test.YtcbbmpoamjcmeaaR4
namespace Go.Proofs.Ytcbbmpoamjcmeaa
set_option linter.unusedSimpArgs false
set_option linter.unusedVariables false
open Go.RowKit
open Hy (Lets IsNF Eqv Le)

theorem wall_nil : wallIn [] = fun _ _ => false := rfl

theorem small_of {a b c : Int} (h : Hy.ordErr a b c = 0) : Small (Hy.toOrd a b c) := by
  obtain ⟨h1, h2, h3⟩ := Hy.ordErr_zero h
  exact ⟨by show a.toNat ≤ 12; omega, by show b.toNat ≤ 12; omega, by show c.toNat ≤ 12; omega⟩

set_option maxRecDepth 100000 in
set_option maxHeartbeats 4000000 in
theorem law_free (a b c : Int) (u v : List UInt8) (hlu : u.length ≤ 9223372036854775807) (hlv : v.length ≤ 9223372036854775807) (w : World) :
    Calls Try.prog 3 #[ordersV a b c, str u, str v] w fun e w' => e = .returned (.bool true) ∧ Below w.heap.size w w' := by
  have HERR := Lib.hid (fun W sv hs => r03_Errors a b c (w := W) (sv := sv) (ws := [u, v]) hs (by simp) (by simp; omega))
  have htext : Texts ((w.alloc (.cells #[.int .i64 a, .int .i64 b, .int .i64 c] 23)).alloc (.cells #[.string ⟨u.toArray⟩, .string ⟨v.toArray⟩] 9)) (.slice (some ⟨w.heap.size + 1, 0, none⟩) 2 2) [u, v] := by
    have h := alloc_heap_new (w.alloc (.cells #[.int .i64 a, .int .i64 b, .int .i64 c] 23)) (.cells #[.string ⟨u.toArray⟩, .string ⟨v.toArray⟩] 9)
    rw [World.size_alloc] at h
    refine ⟨w.heap.size + 1, 2, rfl, by simp, fun k hk => ?_⟩
    rw [cell_of_heap h]
    have : k = 0 ∨ k = 1 := by simp at hk; omega
    rcases this with rfl | rfl <;> rfl
  have HTEXT := Lib.hid htext; clear htext
  by_cases he : Hy.allErr a b c [u, v] = 0
  case neg =>
    have he' : (Hy.allErr a b c [u, v] != 0) = true := by rw [bne_iff_ne]; exact he
    clear he
    unfold ordersV str at *
    go_enter Try.func3, Try.ntmps3
    go_wp2_with fail
    refine (HERR.out _ _ HTEXT.out).mono ?_
    rintro e w1 ⟨rfl, hB⟩
    have HB := Lib.hid hB; clear hB
    go_wp2_with fail
    go_ret
    exact ⟨rfl, (((Below.refl _ _).alloc (Nat.le_refl _) _).alloc (by simp) _).trans (HB.out.mono (by simp; omega))⟩
  case pos =>
    have ho : Hy.ordErr a b c = 0 := by
      by_cases h : Hy.ordErr a b c = 0
      · exact h
      · rw [Hy.allErr_bad h] at he; exact absurd he h
    have hws : Hy.wordsErr [u, v] = 0 := by rw [Hy.allErr_ok ho] at he; exact he
    have hu0 := Hy.wordsErr_zero hws u (by simp)
    have hv0 := Hy.wordsErr_zero hws v (by simp)
    have hu := lets_of_err hu0
    have hv := lets_of_err hv0
    have hul := (Hy.wordErr_letters hu0).2
    have hvl := (Hy.wordErr_letters hv0).2
    obtain ⟨h1, h2, h3⟩ := Hy.ordErr_zero ho
    have F := Hy.fine_of ho
    have hS := small_of ho
    obtain ⟨o, hoo⟩ : ∃ o, o = Hy.toOrd a b c := ⟨_, rfl⟩
    have ha : a = (o.m01 : Int) := by rw [hoo]; exact (Int.toNat_of_nonneg h1.1).symm
    have hb : b = (o.m12 : Int) := by rw [hoo]; exact (Int.toNat_of_nonneg h2.1).symm
    have hc : c = (o.m02 : Int) := by rw [hoo]; exact (Int.toNat_of_nonneg h3.1).symm
    rw [← hoo] at F hS
    clear hoo h1 h2 h3
    subst ha hb hc
    have hru : Lets (u.reverse ++ v) := Lets.app.2 ⟨fun c hc => hu c (List.mem_reverse.1 hc), hv⟩
    have hrl : (u.reverse ++ v).length ≤ 1000 := by simp; omega
    obtain ⟨Gw, yw, nw, hw1, hw2, hw3, hw4⟩ := Hy.walk_few F hru hrl
    obtain ⟨nu, hnu, hNu⟩ := Hy.norm_ok F (fuel := 1000) hu (by omega) (by omega)
    obtain ⟨nv, hnv, hNv⟩ := Hy.norm_ok F (fuel := 1000) hv (by omega) (by omega)
    have hnul : nu.length ≤ 60 := Nat.le_trans hNu.len hul
    obtain ⟨xs, hx1, hx2, hx3⟩ := way_ok (wall := fun _ _ => false) F (fuel := 1000) (Nat.le_refl _) (lets_nf F hNu hu) hnul hNu.self
    have hway := free_way F hu hv hNu hNv hw3 hx3
    have HWORD := Lib.hid (fun W => r03_Word o hS 1000 (lim := 100000000) (by omega) (u.reverse ++ v) (fun k hk => hru _ (List.getElem_mem hk)) hrl Gw yw nw hw1 hw4 hw2 W)
    have HTURN := Lib.hid (fun W => r03_Turned u W (by omega))
    have HNEW := Lib.hid (fun W => walk_New o hS W ho)
    have HWAY := Lib.hid (fun W mb wb tb (h : MRep W o mb wb tb [] []) => walk_Way h hS u v 1000 88573 nu nv hws hnu hnv xs hx1)
    have HSANE := Lib.hid (fun W' => sane7 W')
    have HW := Lib.hid hway; clear hway
    have he' : (Hy.allErr o.m01 o.m12 o.m02 [u, v] != 0) = false := by rw [he]; rfl
    have hul2 : u.reverse.length + v.length ≤ 120 := by simp; omega
    clear hx1 hx2 hx3 hw1 hw2 hw3 hw4 hNu hNv hnu hnv F hS hu hv hu0 hv0 hws ho he hru hrl hnul
    have hadd : ∀ W' : World, (Op.stringOp .add ⟨u.reverse.toArray⟩ ⟨v.toArray⟩).run Try.prog W' = .ok (.string (⟨u.reverse.toArray⟩ ++ ⟨v.toArray⟩)) W' := fun W' => by
      have h2 : IntKind.i64.max = 2 ^ 63 - 1 := rfl
      simp only [Op.stringOp, ByteArray.size, List.size_toArray, h2]
      rw [if_neg (by simp at hul2 ⊢; omega)]
      rfl
    unfold ordersV str at *
    rw [← bytes_add u.reverse v] at HWORD
    go_enter Try.func3, Try.ntmps3
    go_wp2_with fail
    refine (HERR.out _ _ HTEXT.out).mono ?_
    rintro e w1 ⟨rfl, hB⟩
    have hB1 : Below w.heap.size w w1 := (((Below.refl _ _).alloc (Nat.le_refl _) _).alloc (by simp) _).trans (hB.mono (by simp; omega))
    have hbx : w1.heap[w.heap.size]? = some (.cells #[.int .i64 o.m01, .int .i64 o.m12, .int .i64 o.m02] 23 (0, 0)) := by
      rw [hB.block w.heap.size (by simp; omega), heap_alloc_lt _ _ (by simp)]
      exact alloc_heap_new w _
    have HBX := Lib.hid hbx
    have q0 := cell_of_heap hbx 0
    have q1 := cell_of_heap hbx 1
    have q2 := cell_of_heap hbx 2
    simp at q0 q1 q2
    have HB1 := Lib.hid hB1; clear hB hB1 hbx
    go_wp2_with fail
    refine (HNEW.out _).mono ?_
    rintro e w2 ⟨mb, wb, tb, rfl, hM2, hz1, hz2, hz3, hB2⟩
    have hbx2 := (hB2.block w.heap.size (Array.getElem?_eq_some_iff.1 HBX.out).1).trans HBX.out
    have hB02 := HB1.out.trans (hB2.mono HB1.out.size)
    have HB2 := Lib.hid hB02; clear hB2 hB02 q0 q1 q2 HB1 HBX
    have HBX := Lib.hid hbx2
    have q0 := cell_of_heap hbx2 0
    have q1 := cell_of_heap hbx2 1
    have q2 := cell_of_heap hbx2 2
    simp at q0 q1 q2
    clear hbx2
    have HM2 := Lib.hid hM2; clear hM2
    go_upto_region 6 with fail
    go_cut [9] (fun s9 wx => s9 = .string ⟨nw.word.toArray⟩ ∧ Hid (Below w2.heap.size w2 wx))
    case first =>
      have hsz : w.heap.size < w2.heap.size := (Array.getElem?_eq_some_iff.1 HBX.out).1
      go_region_held3 (fun w' => w'.cell? ⟨w.heap.size, 0, none⟩ = some (.int .i64 o.m01) ∧ w'.cell? ⟨w.heap.size, 1, none⟩ = some (.int .i64 o.m12) ∧ w'.cell? ⟨w.heap.size, 2, none⟩ = some (.int .i64 o.m02))
        (first | go_keep | (with_reducible (exact ⟨q0, q1, q2⟩)) | (with_reducible (exact ⟨p0, p1, p2⟩)))
        ((first | (go_at_call 12; refine (HTURN.out _).mono ?_; rintro e w3 ⟨rfl, rfl⟩) | (go_at_call 11; refine (HWORD.out _).mono ?_; rintro e w4 ⟨rfl, hB4⟩; obtain ⟨hc4, hf4⟩ := bcell hB4; have p0 : w4.cell? ⟨w.heap.size, 0, none⟩ = some (.int .i64 o.m01) := (hc4 _ _ hsz).trans q0; have p1 : w4.cell? ⟨w.heap.size, 1, none⟩ = some (.int .i64 o.m12) := (hc4 _ _ hsz).trans q1; have p2 : w4.cell? ⟨w.heap.size, 2, none⟩ = some (.int .i64 o.m02) := (hc4 _ _ hsz).trans q2; have hb4 : Below w2.heap.size w2 w4 := below_undrew hB4; have HB4 := Lib.hid hb4; clear hb4 hB4 hc4 hf4)))
      all_goals go_wp2_with fail
      all_goals go_meet
      case rel => exact ⟨rfl, HB4⟩
    case rest =>
      obtain ⟨rfl, HB3⟩ := hcut
      have hM3 := HM2.out.grow HB3.out
      have HM3 := Lib.hid hM3; clear hM3
      have hB03 := HB2.out.trans (HB3.out.mono HB2.out.size)
      have HB03 := Lib.hid hB03; clear hB03
      go_wp2_with fail
      refine (HWAY.out _ _ _ _ HM3.out).mono ?_
      rintro e w4 ⟨hB4, rfl⟩
      have hway := HW.out
      unfold wayIn
      rw [hway]
      have hB04 := HB03.out.trans (hB4.mono HB03.out.size)
      have HB4 := Lib.hid hB04; clear hB4 hB04
      by_cases hl : 10 < nw.word.length
      · rw [if_pos hl]
        simp only
        go_wp2_with fail
        refine (HSANE.out _).mono ?_
        rintro e w5 ⟨rfl, hB5⟩
        have HB5 := Lib.hid hB5; clear hB5
        go_wp2_with fail
        go_ret
        exact ⟨rfl, HB4.out.trans (HB5.out.mono HB4.out.size)⟩
      · rw [if_neg hl]
        simp only
        go_wp2_with fail
        refine (HSANE.out _).mono ?_
        rintro e w5 ⟨rfl, hB5⟩
        have HB5 := Lib.hid hB5; clear hB5
        go_wp2_with fail
        go_ret
        exact ⟨rfl, HB4.out.trans (HB5.out.mono HB4.out.size)⟩
end Go.Proofs.Ytcbbmpoamjcmeaa
