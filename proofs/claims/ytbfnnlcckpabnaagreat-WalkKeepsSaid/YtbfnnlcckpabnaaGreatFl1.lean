/- The law's word and filled. -/
import Derived.Test.YtbfnnlcckpabnaaGreatBo1
namespace Go.Proofs.YtbfnnlcckpabnaaGreat
set_option linter.unusedSimpArgs false
set_option linter.unusedVariables false
open Go.RowKit
open Hy (Lets IsNF Eqv Le)

theorem third_wrap (k : Nat) : IntKind.u8.wrap (((k : Int)).tmod 3) = ((UInt8.ofNat (k % 3)).toNat : Int) := by
  have h : ((k : Int)).tmod 3 = ((k % 3 : Nat) : Int) := by rw [Int.tmod_eq_emod_of_nonneg (by omega)]; omega
  rw [h, byte_wrap]

set_option maxRecDepth 100000 in
set_option maxHeartbeats 4000000 in
/-- A word of a number: some short text. -/
theorem law_word {w : World} (k0 : Nat) (hk0 : k0 ≤ 1000) :
    Calls Tryz.prog 25 #[.int .i64 k0] w fun e w' => ∃ z : List UInt8, z.length ≤ 1000 ∧ e = .returned (str z) ∧ Below w.heap.size w w' := by
  go_enter Tryz.func25, Tryz.ntmps25
  go_upto_region 2 with fail
  have HI0 := Lib.hid (show IS w (w.alloc (.cells #[] 5)) w.heap.size (.slice (some ⟨w.heap.size, 0, none⟩) 0 0) [] from ⟨QRow.new w [] 0 1 5 rfl (by unfold maxLen; omega), Nat.le_refl _, (Below.refl _ _).alloc (Nat.le_refl _) _⟩)
  generalize w.alloc (.cells #[] 5) = W1 at *
  go_loopw [0, 3] (fun i v wr => ∃ (k g : Nat) (L : List UInt8), i = .int .i64 k ∧ L.length + k ≤ k0 ∧ Hid (IS w wr g v L)) (fun i _ _ => (intOf i).toNat)
  case atStart => exact ⟨k0, w.heap.size, [], rfl, by simp, HI0⟩
  case round =>
    clear HI0
    obtain ⟨k, g, L, rfl, hle, HI⟩ := hrel
    by_cases hlt : 0 < k
    · have hw3 := third_wrap k
      have hq3 : IntKind.i64.wrap ((k : Int).tdiv 3) = ((k / 3 : Nat) : Int) := by
        rw [Int.tdiv_eq_ediv_of_nonneg (by omega), IntWalk.i64_in _ (by omega)]; omega
      have hkk : k / 3 < k := by omega
      go_upto_region 4 with fail
      go_wp2_with (at_builtin; refine wpList_queue1 wr rowU8 rfl _ _ rfl rfl HI.out.row _ [_] rfl rfl (fun u hu => by simp at hu; subst hu; rfl) ?c3 ?_)
      case c3 => omega
      intro v6 w6 g6 hq6 ho6 hn6
      have HI6 := Lib.hid (show IS w w6 g6 v6 (L ++ [UInt8.ofNat (k % 3)]) from HI.out.more hq6 ho6 hn6 (by simp) (by simp [bcells]; omega))
      clear hq6 ho6 hn6 hw3 hq3
      go_wp2_with fail
      go_roundw
      case rel => exact ⟨k / 3, g6, L ++ [UInt8.ofNat (k % 3)], by go_num, by simp; omega, HI6⟩
      case measure => simp [intOf]; omega
    · obtain rfl : k = 0 := by omega
      obtain ⟨off, cap, rfl, _⟩ := HI.out.row
      have hcv := HI.out.bytes.text wr (fun _ _ => rfl)
      unfold str at hcv
      go_wp2_with fail
      go_ret
      exact ⟨L, by omega, rfl, HI.out.below⟩

theorem law_word3 {w : World} (k : Nat) (hk : k ≤ 1000) :
    Calls Tryz.prog 25 #[.int .i64 ((k : Int) / 3)] w fun e w' => ∃ z : List UInt8, z.length ≤ 1000 ∧ e = .returned (.string ⟨z.toArray⟩) ∧ Below w.heap.size w w' := by
  have := law_word (w := w) (k / 3) (by omega)
  rw [show ((k / 3 : Nat) : Int) = (k : Int) / 3 from by omega] at this
  exact this

/-- Both maps stand, whatever is answered. -/
theorem Still.step {w w1 w2 : World} {o : Hy.Ord} {mb wb tb mb7 : Nat} {WL : WallList} {TL : ThingList} {e : Ending} (h1 : Only (Mine3 wb tb mb7 w.heap.size) w w1) (h : Still w1 o mb wb tb mb7 WL TL e w2) : Still w o mb wb tb mb7 WL TL e w2 :=
  ⟨h.1, h1.trans (h.2.1.mono fun k hk => by
    have := h1.size
    rcases hk with hk | hk
    · exact .inl hk
    · exact .inr (by omega)), h.2.2⟩

theorem only3_below {w w1 w2 : World} {wb tb mb7 : Nat} (h1 : Only (Mine3 wb tb mb7 w.heap.size) w w1) (h : Below w1.heap.size w1 w2) : Only (Mine3 wb tb mb7 w.heap.size) w w2 :=
  h1.trans (Only.of_below h fun k hk => Or.inr (by have := h1.size; omega))

/-- Both maps, whatever they hold, and only their own blocks have changed. -/
def Stand (w : World) (o : Hy.Ord) (mb wb tb mb7 : Nat) (w' : World) : Prop := Only (Mine3 wb tb mb7 w.heap.size) w w' ∧ ∃ W T WL TL, Both w' o mb wb tb mb7 W T WL TL

theorem Stand.below {w w1 w2 : World} {o : Hy.Ord} {mb wb tb mb7 : Nat} (h : Stand w o mb wb tb mb7 w1) (hb : Below w1.heap.size w1 w2) : Stand w o mb wb tb mb7 w2 := by
  obtain ⟨h1, W, T, WL, TL, h2⟩ := h
  exact ⟨only3_below h1 hb, W, T, WL, TL, h2.below hb⟩

theorem Stand.agrees {w w1 : World} {o : Hy.Ord} {mb wb tb mb7 : Nat} (F : Hy.Fine o) (hS : Small o) (h : Stand w o mb wb tb mb7 w1) (kind m : Int) (is : Bool) (u v t : List UInt8)
    (hu : u.length ≤ 140737488355328) (hv : v.length ≤ 140737488355328) (ht : t.length ≤ 140737488355328) :
    Calls Tryz.prog 11 #[.pointer (some ⟨mb, 0, none⟩), .pointer (some ⟨mb7, 0, none⟩), opV kind m is u v t] w1 fun e w' => e = .returned (.bool true) ∧ Stand w o mb wb tb mb7 w' := by
  obtain ⟨h1, W, T, WL, TL, h2⟩ := h
  refine (law_agrees F hS h2 kind m is u v t hu hv ht).mono fun e w' hp => ?_
  obtain ⟨_, h3, W', T', h4⟩ := Still.step h1 hp
  exact ⟨hp.1, h3, W', T', _, _, h4⟩

set_option maxRecDepth 100000 in
set_option maxHeartbeats 4000000 in
/-- Walls and things are put, some hundreds. -/
theorem law_filled {w0 w : World} {o : Hy.Ord} {mb wb tb mb7 : Nat} (F : Hy.Fine o) (hS : Small o) (h : Stand w0 o mb wb tb mb7 w) (walls things : Int) (hw : walls ≤ 400) (ht : things ≤ 400) :
    Calls Tryz.prog 10 #[.pointer (some ⟨mb, 0, none⟩), .pointer (some ⟨mb7, 0, none⟩), .int .i64 walls, .int .i64 things] w fun e w' => e = .returned (.bool true) ∧ Stand w0 o mb wb tb mb7 w' := by
  have HAG := Lib.hid (fun W1 (h : Stand w0 o mb wb tb mb7 W1) kind m is u v t hu hv ht => h.agrees F hS kind m is u v t hu hv ht)
  have HWD := Lib.hid (fun W1 k hk => law_word (w := W1) k hk)
  have H0 := Lib.hid h
  clear h
  go_enter Tryz.func10, Tryz.ntmps10
  go_upto_region 2 with fail
  go_loopw [9] (fun i wr => ∃ k : Nat, i = .int .i64 k ∧ k ≤ 400 ∧ Hid (Stand w0 o mb wb tb mb7 wr)) (fun i _ => 400 - (intOf i).toNat)
  case atStart => exact ⟨0, rfl, by omega, H0⟩
  case round =>
    clear H0
    obtain ⟨k, rfl, hk, HI⟩ := hrel
    by_cases hlt : (k : Int) < walls
    · have hk4 : k < 400 := by omega
      have HW1 := Lib.hid (fun W1 => law_word3 (w := W1) k (by omega))
      go_wp2_with fail
      refine (HW1.out _).mono ?_
      rintro e w1 ⟨z, hz, rfl, hB1⟩
      have HS1 := Lib.hid (HI.out.below hB1)
      have HZ := Lib.hid hz
      clear hB1 hz
      go_wp2_with fail
      refine (HAG.out _ HS1.out 0 ((k : Int) % 3) true z [] [] (by have := HZ.out; omega) (by simp) (by simp)).mono ?_
      rintro e w2 ⟨rfl, hS2⟩
      have HS2 := Lib.hid hS2
      clear hS2
      go_wp2_with fail
      go_roundw
      case rel => exact ⟨k + 1, by go_num, by omega, HS2⟩
      case measure => simp [intOf]; omega
    · go_upto_region 7 with fail
      go_loopw [10] (fun i wr => ∃ k : Nat, i = .int .i64 k ∧ k ≤ 400 ∧ Hid (Stand w0 o mb wb tb mb7 wr)) (fun i _ => 400 - (intOf i).toNat)
      case atStart => exact ⟨0, rfl, by omega, HI⟩
      case round =>
        clear HI hlt hk
        obtain ⟨k, rfl, hk, HI⟩ := hrel
        by_cases hlt : (k : Int) < things
        · have hk4 : k < 400 := by omega
          have HW1 := Lib.hid (fun W1 => HWD.out W1 k (by omega))
          go_wp2_with fail
          refine (HW1.out _).mono ?_
          rintro e w1 ⟨z, hz, rfl, hB1⟩
          have HS1 := Lib.hid (HI.out.below hB1)
          have HZ := Lib.hid hz
          clear hB1 hz
          unfold str
          go_wp2_with fail
          refine (HAG.out _ HS1.out 1 0 false z [] [120] (by have := HZ.out; omega) (by simp) (by simp)).mono ?_
          rintro e w2 ⟨rfl, hS2⟩
          have HS2 := Lib.hid hS2
          clear hS2
          go_wp2_with fail
          go_roundw
          case rel => exact ⟨k + 1, by go_num, by omega, HS2⟩
          case measure => simp [intOf]; omega
        · go_wp2_with fail
          go_ret
          exact ⟨rfl, HI.out⟩
end Go.Proofs.YtbfnnlcckpabnaaGreat
