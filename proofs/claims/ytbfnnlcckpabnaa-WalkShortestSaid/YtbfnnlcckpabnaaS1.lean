/- The small functions of the specification of layer 7: letters, things, the order of words. -/
import Derived.Test.YtbfnnlcckpabnaaR4
namespace Go.Proofs.Ytbfnnlcckpabnaa
set_option linter.unusedSimpArgs false
set_option linter.unusedVariables false
open Go.RowKit

set_option maxRecDepth 100000 in
set_option maxHeartbeats 1000000 in
theorem r07_letter (i : Nat) (hi : i < 256) (w : World) :
    Calls Try.prog 57 #[.int .i64 i] w fun e w' => e = .returned (str (Hy.letter i)) ∧ w' = w.alloc (.cells #[.int .u8 i] 5) := by
  have kl := run_letter (w.alloc (.cells #[.int .u8 i] 5)) w.heap.size i (by simp)
  unfold str at *
  go_enter Try.func57, Try.ntmps57
  go_wp2_with fail
  go_ret
  exact ⟨rfl, rfl⟩

set_option maxRecDepth 100000 in
set_option maxHeartbeats 1000000 in
theorem r07_IsThing (l : List UInt8) (w : World) (hl : l.length ≤ 9223372036854775807) :
    Calls Try.prog 34 #[str l] w fun e w' => e = .returned (.bool (Hy.isThing l)) ∧ w = w' := by
  unfold str
  go_enter Try.func34, Try.ntmps34
  go_wp2_with fail
  go_loop [3] (fun i => ∃ k : Nat, k ≤ l.length ∧ i = .int .i64 k ∧ Hid ((l.take k).all Hy.thingByte = true)) (fun i => l.length - (intOf i).toNat)
  case atStart => exact ⟨0, Nat.zero_le _, rfl, rfl⟩
  case round =>
    obtain ⟨k, hk, rfl, HK⟩ := hrel
    by_cases hlt : k < l.length
    · have hix := run_index_str l k l[k] (List.getElem?_eq_getElem hlt)
      by_cases h1 : l[k].toNat < 32
      · have hb : Hy.thingByte l[k] = false := by unfold Hy.thingByte; simp; omega
        have HB := Lib.hid hb; clear hb
        have g : decide ((l[k].toNat : Int) < 32) = true := by simp; omega
        go_wp2_with fail
        go_ret
        exact ⟨by rw [Hy.isThing_bad hlt HB.out]; rfl, rfl⟩
      · have g : decide ((l[k].toNat : Int) < 32) = false := by simp; omega
        by_cases h2 : 126 < l[k].toNat
        · have hb : Hy.thingByte l[k] = false := by unfold Hy.thingByte; simp; omega
          have HB := Lib.hid hb; clear hb
          have g2 : decide ((126 : Int) < (l[k].toNat : Int)) = true := by simp; omega
          go_wp2_with fail
          go_ret
          exact ⟨by rw [Hy.isThing_bad hlt HB.out]; rfl, rfl⟩
        · have hb : Hy.thingByte l[k] = true := by unfold Hy.thingByte; simp; omega
          have HB := Lib.hid (Hy.all_take_succ hlt HK.out hb); clear hb
          have g2 : decide ((126 : Int) < (l[k].toNat : Int)) = false := by simp; omega
          go_wp2_with fail
          go_round
          case rel => exact ⟨k + 1, by omega, by go_num, HB.out⟩
          case measure => simp [intOf]; omega
    · obtain rfl : k = l.length := by omega
      clear hk hlt
      have ha : l.all Hy.thingByte = true := by have := HK.out; rwa [List.take_length] at this
      have HA := Lib.hid (Hy.isThing_ok ha); clear ha HK
      go_wp2_with fail
      go_ret
      refine ⟨?_, rfl⟩
      rw [HA.out]
      simp
      omega

/-- Shorter, or as long and ahead. -/
def aheadW (a b : List UInt8) : Bool := if a.length = b.length then Hy.less a b else decide (a.length < b.length)

set_option maxRecDepth 100000 in
set_option maxHeartbeats 1000000 in
theorem r07_Ahead (a b : List UInt8) (w : World) :
    Calls Try.prog 16 #[str a, str b] w fun e w' => e = .returned (.bool (aheadW a b)) ∧ w = w' := by
  unfold str
  by_cases h : a.length = b.length
  · have g : ((a.length : Int) != (b.length : Int)) = false := by rw [bne_eq_false_iff_eq]; omega
    have hr : aheadW a b = Op.bytesLess a b := by unfold aheadW; rw [if_pos h, less_eq]
    rw [hr]
    have HR := Lib.hid hr
    clear h hr
    go_enter Try.func16, Try.ntmps16
    go_wp2_with fail
    go_ret
    exact ⟨rfl, rfl⟩
  · have g : ((a.length : Int) != (b.length : Int)) = true := by rw [bne_iff_ne]; omega
    have hr : aheadW a b = decide (a.length < b.length) := by
      unfold aheadW; rw [if_neg h]
    rw [hr]
    clear h hr
    go_enter Try.func16, Try.ntmps16
    go_wp2_with fail
    go_ret
    exact ⟨rfl, rfl⟩

theorem aheadW_le {a b : List UInt8} : aheadW a b = false ↔ Hy.Le b a := by
  unfold aheadW Hy.Le
  by_cases h : a.length = b.length
  · rw [if_pos h]
    exact ⟨fun h2 => .inr ⟨h.symm, h2⟩, fun h2 => by rcases h2 with h2 | ⟨_, h2⟩; omega; exact h2⟩
  · rw [if_neg h, decide_eq_false_iff_not]
    exact ⟨fun h2 => .inl (by omega), fun h2 => by rcases h2 with h2 | ⟨h2, _⟩ <;> omega⟩
end Go.Proofs.Ytbfnnlcckpabnaa
