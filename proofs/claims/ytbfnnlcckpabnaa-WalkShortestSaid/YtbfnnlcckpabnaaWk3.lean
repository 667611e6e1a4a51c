/- walk.normal, isThing, first. -/
import Derived.Test.YtbfnnlcckpabnaaWk2
import Derived.Test.YtbfnnlcckpabnaaCmp
namespace Go.Proofs.Ytbfnnlcckpabnaa
set_option linter.unusedSimpArgs false
set_option linter.unusedVariables false
open Go.RowKit

def NormPost (l nf : List UInt8) (w : World) (e : Ending) (w' : World) : Prop :=
  e = .returned (.tuple #[str (if Hy.wordErr l = 0 then nf else []), .int .i64 (Hy.wordErr l)]) ∧ Below w.heap.size w w'

set_option maxRecDepth 100000 in
set_option maxHeartbeats 1000000 in
theorem walk_normal {w : World} {o : Hy.Ord} {mb wb tb : Nat} {W : Walls} {T : Things} (h : MRep w o mb wb tb W T) (ho : Small o) (l : List UInt8) (hl : l.length ≤ 140737488355328) (fuel : Nat) (nf : List UInt8) (hnf : Hy.wordErr l = 0 → Hy.norm o fuel l = some nf) :
    Calls Try.prog 38 #[.pointer (some ⟨mb, 0, none⟩), str l] w (NormPost l nf w) := by
  have hW : ∀ ob, MRep (w.alloc ob) o mb wb tb W T := fun ob => h.grow ((Below.refl _ _).alloc (Nat.le_refl _) _)
  have HCALL := Lib.hid (fun W' (hb : MRep W' o mb wb tb W T) sv hs => walk_normals (w := W') hb ho sv [l] hs (by simp) (by simp) (by simpa using hl) fuel [nf] rfl (by
    intro k hk hz
    obtain rfl : k = 0 := by simpa using hk
    exact hnf hz))
  have HW := Lib.hid hW; clear hW
  have HL := Lib.hid hl; clear hl
  clear h hnf
  unfold str
  go_enter Try.func38, Try.ntmps38
  go_wp2_with fail
  refine (HCALL.out _ (HW.out _) _ ⟨w.heap.size, 1, rfl, by simp, ?_⟩).mono ?_
  · intro k hk
    obtain rfl : k = 0 := by simpa using hk
    simp [str]
  rintro e w1 ⟨hB, hb⟩
  have HB := Lib.hid hB; clear hB
  clear HCALL
  rw [Hy.wordsErr_one] at hb
  by_cases hz : Hy.wordErr l = 0
  · rw [if_pos hz] at hb
    obtain ⟨v, rfl, g, cap, rfl, hg, hc⟩ := hb
    have hcell := hc 0 (by simp)
    simp only [List.getElem_cons_zero, List.length_cons, List.length_nil] at hcell ⊢
    have HZ := Lib.hid hz; clear hz
    clear hc
    go_wp2_with fail
    go_ret2
    refine ⟨?_, ((Below.refl _ _).alloc (Nat.le_refl _) _).trans (HB.out.mono (by simp))⟩
    rw [HZ.out, if_pos rfl]
    rfl
  · rw [if_neg hz] at hb
    subst hb
    have hne : (Hy.wordErr l != 0) = true := by rw [bne_iff_ne]; exact hz
    have HZ := Lib.hid hz; clear hz
    go_wp2_with fail
    go_ret2
    refine ⟨?_, ((Below.refl _ _).alloc (Nat.le_refl _) _).trans (HB.out.mono (by simp))⟩
    rw [if_neg HZ.out]
    rfl

set_option maxRecDepth 100000 in
set_option maxHeartbeats 1000000 in
theorem walk_isThing (l : List UInt8) (w : World) (hl : l.length ≤ 140737488355328) :
    Calls Try.prog 43 #[str l] w fun e w' => e = .returned (.bool (Hy.isThing l)) ∧ Below w.heap.size w w' := by
  obtain ⟨cap, c, fr, kb, hc⟩ := run_bytes l w
  have hcell : ∀ j (h : j < l.length), (w.alloc (.cells c 5 fr)).cell? ⟨w.heap.size, j, none⟩ = some (.int .u8 (l[j].toNat : Int)) := fun j h => (cell_new _ _ _ _ _).trans (hc j h)
  have HC := Lib.hid hc; clear hc
  have HCELL := Lib.hid hcell; clear hcell
  unfold str
  go_enter Try.func43, Try.ntmps43
  go_wp2_with fail
  go_loop [8] (fun i => ∃ k : Nat, k ≤ l.length ∧ i = .int .i64 k ∧ Hid ((l.take k).all Hy.thingByte = true)) (fun i => l.length - (intOf i).toNat)
  case atStart => exact ⟨0, Nat.zero_le _, rfl, rfl⟩
  case round =>
    obtain ⟨k, hk, rfl, HK⟩ := hrel
    by_cases hlt : k < l.length
    · have hcell := HCELL.out k hlt
      by_cases h1 : l[k].toNat < 32
      · have hb : Hy.thingByte l[k] = false := by unfold Hy.thingByte; simp; omega
        have HB := Lib.hid hb; clear hb
        have g : decide ((l[k].toNat : Int) < 32) = true := by simp; omega
        go_wp2_with fail
        go_ret
        exact ⟨by rw [Hy.isThing_bad hlt HB.out]; rfl, ((Below.refl _ _).alloc (Nat.le_refl _) _).drew⟩
      · have g : decide ((l[k].toNat : Int) < 32) = false := by simp; omega
        by_cases h2 : 126 < l[k].toNat
        · have hb : Hy.thingByte l[k] = false := by unfold Hy.thingByte; simp; omega
          have HB := Lib.hid hb; clear hb
          have g2 : decide ((126 : Int) < (l[k].toNat : Int)) = true := by simp; omega
          go_wp2_with fail
          go_ret
          exact ⟨by rw [Hy.isThing_bad hlt HB.out]; rfl, ((Below.refl _ _).alloc (Nat.le_refl _) _).drew⟩
        · have hb : Hy.thingByte l[k] = true := by unfold Hy.thingByte; simp; omega
          have HB := Lib.hid (Hy.all_take_succ hlt HK.out hb); clear hb
          have g2 : decide ((126 : Int) < (l[k].toNat : Int)) = false := by simp; omega
          go_wp2_with fail
          go_round
          case rel => exact ⟨k + 1, by omega, by go_num, HB.out⟩
          case measure => simp [intOf]; omega
    · obtain rfl : k = l.length := by omega
      clear hk hlt
      have ha : l.all Hy.thingByte = true := by have := HK.out; rwa [List.take_length] at this
      have HA := Lib.hid (Hy.isThing_ok ha); clear ha HK
      go_wp2_with fail
      go_ret
      refine ⟨?_, ((Below.refl _ _).alloc (Nat.le_refl _) _).drew⟩
      rw [HA.out]
      simp
      omega

set_option maxRecDepth 100000 in
theorem cmp_Compare_int (a b : Int) (w : World) :
    Calls Try.prog 59 #[.int .i64 a, .int .i64 b] w fun e w' => e = .returned (.int .i64 (if a < b then -1 else if b < a then 1 else 0)) ∧ w = w' := by
  rcases Int.lt_trichotomy a b with h | h | h
  · rw [if_pos h]
    go_enter Try.func59, Try.ntmps59
    go_wp2
    go_ret
    exact ⟨rfl, rfl⟩
  · subst h
    rw [if_neg (by omega), if_neg (by omega)]
    go_enter Try.func59, Try.ntmps59
    go_wp2
    go_ret
    exact ⟨rfl, rfl⟩
  · rw [if_neg (by omega), if_pos h]
    have h' : ¬ a < b := by omega
    go_enter Try.func59, Try.ntmps59
    go_wp2
    go_ret
    exact ⟨rfl, rfl⟩

theorem compareBytes_eq : ∀ a b : List UInt8, Lib.compareBytes a b = Hy.cmpB a b
  | [], [] => rfl
  | [], _ :: _ => rfl
  | _ :: _, [] => rfl
  | a :: x, b :: y => by simp only [Lib.compareBytes, Hy.cmpB, compareBytes_eq x y]

set_option maxRecDepth 100000 in
set_option maxHeartbeats 1000000 in
theorem walk_first (a b : List UInt8) (w : World) (ha : a.length ≤ 140737488355328) (hb : b.length ≤ 140737488355328) :
    Calls Try.prog 39 #[str a, str b] w fun e w' => e = .returned (.int .i64 (Hy.cmpW a b)) ∧ w = w' := by
  unfold str Hy.cmpW
  have HC := Lib.hid (cmp_Compare_int a.length b.length w)
  have HS := Lib.hid (strings_Compare ⟨a.toArray⟩ ⟨b.toArray⟩ w)
  rcases Nat.lt_trichotomy a.length b.length with h | h | h
  · rw [if_pos h]
    rw [if_pos (by omega)] at HC
    go_enter Try.func39, Try.ntmps39
    go_wp2_with fail
    refine HC.out.mono ?_
    rintro e w1 ⟨rfl, rfl⟩
    go_wp2_with fail
    go_ret
    exact ⟨rfl, rfl⟩
  · rw [if_neg (by omega), if_neg (by omega)]
    rw [if_neg (by omega), if_neg (by omega)] at HC
    clear h
    go_enter Try.func39, Try.ntmps39
    go_wp2_with fail
    refine HC.out.mono ?_
    rintro e w1 ⟨rfl, rfl⟩
    go_wp2_with fail
    refine HS.out.mono ?_
    rintro e w1 ⟨rfl, rfl⟩
    go_wp2_with fail
    go_ret
    exact ⟨by rw [← compareBytes_eq]; rfl, rfl⟩
  · rw [if_neg (by omega), if_pos h]
    rw [if_neg (by omega), if_pos (by omega)] at HC
    go_enter Try.func39, Try.ntmps39
    go_wp2_with fail
    refine HC.out.mono ?_
    rintro e w1 ⟨rfl, rfl⟩
    go_wp2_with fail
    go_ret
    exact ⟨rfl, rfl⟩
end Go.Proofs.Ytbfnnlcckpabnaa
