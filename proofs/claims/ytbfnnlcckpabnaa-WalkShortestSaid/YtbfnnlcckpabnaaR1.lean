/- The small functions of the specification of layer 3: letters, the order of two mirrors, the checks. -/
import Derived.Test.YtbfnnlcckpabnaaWk6
namespace Go.Proofs.Ytbfnnlcckpabnaa
set_option linter.unusedSimpArgs false
set_option linter.unusedVariables false
open Go.RowKit

set_option maxRecDepth 100000 in
set_option maxHeartbeats 1000000 in
theorem r03_letter (i : Nat) (hi : i < 256) (w : World) :
    Calls Try.prog 70 #[.int .i64 i] w fun e w' => e = .returned (str (Hy.letter i)) ∧ w' = w.alloc (.cells #[.int .u8 i] 5) := by
  have kl := run_letter (w.alloc (.cells #[.int .u8 i] 5)) w.heap.size i (by simp)
  unfold str at *
  go_enter Try.func70, Try.ntmps70
  go_wp2_with fail
  go_ret
  exact ⟨rfl, rfl⟩

set_option maxRecDepth 100000 in
set_option maxHeartbeats 1000000 in
theorem r03_other (a b n : Nat) (hn : n ≤ 100) (w : World) :
    Calls Try.prog 72 #[.int .i64 a, .int .i64 b, .int .i64 n] w fun e w' => e = .returned (.int .i64 (if n % 2 = 0 then a else b : Nat)) ∧ w = w' := by
  go_enter Try.func72, Try.ntmps72
  by_cases h : n % 2 = 0
  · have h1 : ((n : Int) % 2 == 0) = true := by rw [beq_iff_eq]; omega
    rw [if_pos h]
    clear h
    go_wp2_with fail
    go_ret
    exact ⟨rfl, rfl⟩
  · have h1 : ((n : Int) % 2 == 0) = false := by rw [beq_eq_false_iff_ne]; omega
    rw [if_neg h]
    clear h
    go_wp2_with fail
    go_ret
    exact ⟨rfl, rfl⟩

set_option maxRecDepth 100000 in
set_option maxHeartbeats 1000000 in
theorem r03_Between (o : Hy.Ord) (i j : Nat) (hi : i < 3) (hj : j < 3) (hij : i ≠ j) (w : World) :
    Calls Try.prog 71 #[ordersV o.m01 o.m12 o.m02, .int .i64 i, .int .i64 j] w fun e w' => e = .returned (.int .i64 (o.m i j)) ∧ Below w.heap.size w w' := by
  unfold ordersV
  have hB : Below w.heap.size w (w.alloc (.cells #[.int .i64 o.m01, .int .i64 o.m12, .int .i64 o.m02] 23)) := (Below.refl _ _).alloc (Nat.le_refl _) _
  have HB := Lib.hid hB; clear hB
  go_enter Try.func71, Try.ntmps71
  obtain h | h | h : i + j = 1 ∨ i + j = 2 ∨ i + j = 3 := by omega
  · have h1 : (((i : Int) + j) == 1) = true := by rw [beq_iff_eq]; omega
    have h2 : o.m i j = o.m01 := by unfold Hy.Ord.m; rw [if_pos h]
    rw [h2]
    go_wp2_with fail
    go_ret
    exact ⟨rfl, HB.out⟩
  · have h1 : (((i : Int) + j) == 1) = false := by rw [beq_eq_false_iff_ne]; omega
    have h3 : (((i : Int) + j) == 3) = false := by rw [beq_eq_false_iff_ne]; omega
    have h2 : o.m i j = o.m02 := by unfold Hy.Ord.m; rw [if_neg (by omega), if_pos h]
    rw [h2]
    go_wp2_with fail
    go_ret
    exact ⟨rfl, HB.out⟩
  · have h1 : (((i : Int) + j) == 1) = false := by rw [beq_eq_false_iff_ne]; omega
    have h3 : (((i : Int) + j) == 3) = true := by rw [beq_iff_eq]; omega
    have h2 : o.m i j = o.m12 := by unfold Hy.Ord.m; rw [if_neg (by omega), if_neg (by omega)]
    rw [h2]
    go_wp2_with fail
    go_ret
    exact ⟨rfl, HB.out⟩

set_option maxRecDepth 100000 in
set_option maxHeartbeats 400000 in
theorem r03_CheckWord (l : List UInt8) (w : World) (hl : l.length ≤ 9223372036854775807) :
    Calls Try.prog 12 #[str l] w fun e w' => e = .returned (.int .i64 (Hy.wordErr l)) ∧ Below w.heap.size w w' := by
  unfold str
  go_enter Try.func12, Try.ntmps12
  go_wp2_with fail
  go_loop [3] (fun i => ∃ k : Nat, k ≤ l.length ∧ i = .int .i64 k ∧ Hid ((l.take k).any (2 < ·) = false)) (fun i => l.length - (intOf i).toNat)
  case atStart => exact ⟨0, Nat.zero_le _, rfl, rfl⟩
  case round =>
    obtain ⟨k, hk, rfl, HK⟩ := hrel
    by_cases hlt : k < l.length
    · have hix := run_index_str l k l[k] (List.getElem?_eq_getElem hlt)
      by_cases h2 : 2 < l[k]
      · have g : decide ((2 : Int) < (l[k].toNat : Int)) = true := by rw [decide_eq_true_iff]; exact_mod_cast (UInt8.lt_iff_toNat_lt.1 h2)
        go_wp2_with fail
        go_ret
        exact ⟨ret_int (Hy.wordErr_bad hlt h2).symm, Below.refl _ _⟩
      · have g : decide ((2 : Int) < (l[k].toNat : Int)) = false := by rw [decide_eq_false_iff_not]; intro h; exact h2 (UInt8.lt_iff_toNat_lt.2 (by exact_mod_cast h))
        have HK' := Lib.hid (Hy.any_take_succ hlt HK.out h2)
        clear h2
        go_wp2_with fail
        go_round
        case rel => exact ⟨k + 1, by omega, by go_num, HK'.out⟩
        case measure => simp [intOf]; omega
    · obtain rfl : k = l.length := by omega
      clear hk hlt hl
      have ha : l.any (2 < ·) = false := by have := HK.out; rwa [List.take_length] at this
      have HA := Lib.hid ha; clear ha HK
      have hd : decide ((l.length : Int) < (l.length : Int)) = false := by simp
      by_cases h60 : 60 < l.length
      · go_wp2_with fail
        go_ret
        exact ⟨ret_int (Hy.wordErr_long HA.out h60).symm, Below.refl _ _⟩
      · go_wp2_with fail
        go_ret
        exact ⟨ret_int (Hy.wordErr_ok HA.out (by omega)).symm, Below.refl _ _⟩

set_option maxHeartbeats 400000 in
theorem r03_divisor (a b : Nat) (w : World) (ha2 : a ≤ 100000) (hb2 : b ≤ 100000) :
    Calls Try.prog 65 #[.int .i64 a, .int .i64 b] w fun e w' => e = .returned (.int .i64 (Nat.gcd a b : Nat)) ∧ w = w' := by
  go_enter Try.func65, Try.ntmps65
  go_wp2
  go_loop [0, 1] (fun x y => ∃ (p q : Nat), x = .int .i64 p ∧ y = .int .i64 q ∧ Nat.gcd p q = Nat.gcd a b ∧ p ≤ 100000 ∧ q ≤ 100000) (fun _ y => (intOf y).toNat)
  case atStart => exact ⟨a, b, rfl, rfl, rfl, ha2, hb2⟩
  case round =>
    obtain ⟨p, q, rfl, rfl, hg, hp, hq⟩ := hrel
    have HG := Lib.hid hg; clear hg
    by_cases hz : q = 0
    · subst hz
      have h1 : (((0 : Nat) : Int) != 0) = false := rfl
      go_wp2
      go_ret
      exact ⟨ret_int (by rw [← HG.out, Nat.gcd_zero_right]), rfl⟩
    · have h1 : ((q : Int) != 0) = true := by rw [bne_iff_ne]; omega
      have h2 : ¬ ((q : Int) = 0) := by omega
      clear hz
      go_wp2
      go_round
      case rel => exact ⟨q, p % q, rfl, rfl, by rw [← HG.out, Nat.gcd_comm q, ← Nat.gcd_rec, Nat.gcd_comm], by omega, by have := Nat.mod_lt p (show 0 < q by omega); omega⟩
      case measure => simp [intOf]; have := Nat.mod_lt p (show 0 < q by omega); omega
end Go.Proofs.Ytbfnnlcckpabnaa
