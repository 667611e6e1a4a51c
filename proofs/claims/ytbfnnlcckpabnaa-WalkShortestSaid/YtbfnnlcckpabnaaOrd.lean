/- The small functions of package grow: the divisor, the check of orders, the check of a word. -/
import Derived.Test.YtbfnnlcckpabnaaProg
import Derived.WalkKit
import Derived.WalkSpells
import Derived.WalkLawsBesides
import Derived.Deep.LoopGhost
import Derived.Deep.QuietTactic
import Derived.BigQuiet
import Derived.Lib.Hide
import Derived.WalkSmall
import Derived.Test.YtbfnnlcckpabnaaPure
namespace Go.Proofs.Ytbfnnlcckpabnaa
set_option linter.unusedSimpArgs false
set_option linter.unusedVariables false
open Go.RowKit

theorem ret_int {k : IntKind} {a b : Int} (h : a = b) : Ending.returned (.int k a) = .returned (.int k b) := by rw [h]

set_option maxHeartbeats 400000 in
theorem grow_divisor (a b : Nat) (w : World) (ha2 : a ≤ 100000) (hb2 : b ≤ 100000) :
    Calls Try.prog 82 #[.int .i64 a, .int .i64 b] w fun e w' => e = .returned (.int .i64 (Nat.gcd a b : Nat)) ∧ Below w.heap.size w w' := by
  go_enter Try.func82, Try.ntmps82
  go_wp2
  go_loopw [0, 1] (fun x y wr => ∃ (p q : Nat), x = .int .i64 p ∧ y = .int .i64 q ∧ Nat.gcd p q = Nat.gcd a b ∧ p ≤ 100000 ∧ q ≤ 100000 ∧ Below w.heap.size w wr) (fun _ y _ => (intOf y).toNat)
  case atStart => exact ⟨a, b, rfl, rfl, rfl, ha2, hb2, Below.refl _ _⟩
  case round =>
    obtain ⟨p, q, rfl, rfl, hg, hp, hq, hB⟩ := hrel
    have HG := Lib.hid hg; clear hg
    have HB := Lib.hid hB; clear hB
    by_cases hz : q = 0
    · subst hz
      have h1 : (((0 : Nat) : Int) != 0) = false := rfl
      go_wp2
      go_ret
      exact ⟨ret_int (by rw [← HG.out, Nat.gcd_zero_right]), HB.out⟩
    · have h1 : ((q : Int) != 0) = true := by rw [bne_iff_ne]; omega
      have h2 : ¬ ((q : Int) = 0) := by omega
      clear hz
      go_wp2
      go_quiet (fail)
      go_wp2
      go_roundw
      case rel => exact ⟨q, p % q, rfl, rfl, by rw [← HG.out, Nat.gcd_comm q, ← Nat.gcd_rec, Nat.gcd_comm], by omega, by have := Nat.mod_lt p (show 0 < q by omega); omega, below_drewN HB.out _⟩
      case measure => simp [intOf]; have := Nat.mod_lt p (show 0 < q by omega); omega


def str (l : List UInt8) : Value := .string ⟨l.toArray⟩

/-- string([]byte{c}) -/
theorem run_letter (W : World) (b n : Nat) (h : W.cell? ⟨b, 0, none⟩ = some (.int .u8 n)) :
    Sem.run Try.prog (convert 35 9 (.slice (some ⟨b, 0, none⟩) 1 1)) W = .ok (str [UInt8.ofNat n]) W := by
  rw [run_convert_bytes_string (e := 5) _ _ _ _ _ _ Try.underlying35 Try.underlying5 Try.underlying9]
  rw [run_bytesToString W _ _ _ [(n : Int)]]
  · rfl
  · exact run_loadCells_list W _ [.int .u8 n] (fun j v hj => by
      cases j with
      | zero => simp at hj; subst hj; simpa [Addr.add] using h
      | succ j => simp at hj)


/-- []byte(s) -/
theorem run_bytes (l : List UInt8) (w : World) : ∃ (cap : Nat) (c : Array Value) (fr : Nat × Nat), Sem.run Try.prog (convert 9 35 (.string ⟨l.toArray⟩)) w = .ok (.slice (some ⟨w.heap.size, 0, none⟩) l.length cap) (w.drew.alloc (.cells c 5 fr)) ∧
    ∀ j (h : j < l.length), c[j]? = some (.int .u8 (l[j].toNat : Int)) := by
  refine ⟨_, _, _, run_bytes_of_string w 9 35 5 ⟨l.toArray⟩ Try.underlying9 Try.underlying35 Try.underlying5, ?_⟩
  intro j h
  unfold bytesRow
  simp [Array.getElem?_append, h]

theorem cell_new (w : World) (c : Array Value) (t : TypeId) (fr : Nat × Nat) (k : Nat) : (w.alloc (.cells c t fr)).cell? ⟨w.heap.size, k, none⟩ = c[k]? := by
  unfold World.cell?
  have : (w.alloc (.cells c t fr)).heap[w.heap.size]? = some (.cells c t fr) := by
    show (w.heap.push _)[w.heap.size]? = _
    simp
  rw [this]
  rfl

set_option maxRecDepth 100000 in
set_option maxHeartbeats 400000 in
theorem grow_Word (l : List UInt8) (w : World) (hl : l.length ≤ 140737488355328) :
    Calls Try.prog 67 #[str l] w fun e w' => e = .returned (.int .i64 (Hy.wordErr l)) ∧ Below w.heap.size w w' := by
  obtain ⟨cap, c, fr, kb, hc⟩ := run_bytes l w
  have hcell : ∀ j (h : j < l.length), (w.alloc (.cells c 5 fr)).cell? ⟨w.heap.size, j, none⟩ = some (.int .u8 (l[j].toNat : Int)) := fun j h => (cell_new _ _ _ _ _).trans (hc j h)
  have HC := Lib.hid hc; clear hc
  have HCELL := Lib.hid hcell; clear hcell
  unfold str
  go_enter Try.func67, Try.ntmps67
  go_wp2_with fail
  go_loop [8] (fun i => ∃ k : Nat, k ≤ l.length ∧ i = .int .i64 k ∧ Hid ((l.take k).any (2 < ·) = false)) (fun i => l.length - (intOf i).toNat)
  case atStart => exact ⟨0, Nat.zero_le _, rfl, rfl⟩
  case round =>
    obtain ⟨k, hk, rfl, HK⟩ := hrel
    by_cases hlt : k < l.length
    · have hcell := HCELL.out k hlt
      by_cases h2 : 2 < l[k]
      · have g : decide ((2 : Int) < (l[k].toNat : Int)) = true := by rw [decide_eq_true_iff]; exact_mod_cast (UInt8.lt_iff_toNat_lt.1 h2)
        go_wp2_with fail
        go_ret
        exact ⟨ret_int (Hy.wordErr_bad hlt h2).symm, ((Below.refl _ _).alloc (Nat.le_refl _) _).drew⟩
      · have g : decide ((2 : Int) < (l[k].toNat : Int)) = false := by rw [decide_eq_false_iff_not]; intro h; exact h2 (UInt8.lt_iff_toNat_lt.2 (by exact_mod_cast h))
        have HK' := Lib.hid (Hy.any_take_succ hlt HK.out h2)
        clear h2
        go_wp2_with fail
        go_round
        case rel => exact ⟨k + 1, by omega, by go_num, HK'.out⟩
        case measure => simp [intOf]; omega
    · obtain rfl : k = l.length := by omega
      clear hk hlt hl
      have ha : l.any (2 < ·) = false := by have := HK.out; rwa [List.take_length] at this
      have HA := Lib.hid ha; clear ha HK
      have hd : decide ((l.length : Int) < (l.length : Int)) = false := by simp
      by_cases h60 : 60 < l.length
      · go_wp2_with fail
        go_ret
        exact ⟨ret_int (Hy.wordErr_long HA.out h60).symm, ((Below.refl _ _).alloc (Nat.le_refl _) _).drew⟩
      · go_wp2_with fail
        go_ret
        exact ⟨ret_int (Hy.wordErr_ok HA.out (by omega)).symm, ((Below.refl _ _).alloc (Nat.le_refl _) _).drew⟩

theorem wrap64_small {x : Int} (h0 : 0 ≤ x) (h1 : x ≤ 4611686018427387904) : wrap64 x = x := by unfold wrap64; omega

def ordersV (a b c : Int) : Value := .agg #[.int .i64 a, .int .i64 b, .int .i64 c]

theorem run_index3 (a b c m : Int) (k : Nat) (h : [a, b, c][k]? = some m) (w : World) : (Instr.index 67 (.agg #[.int .i64 a, .int .i64 b, .int .i64 c]) (.int .i64 k)).run Try.prog w = .ok (.int .i64 m) w := by
  obtain rfl | rfl | rfl : k = 0 ∨ k = 1 ∨ k = 2 := by have := (List.getElem?_eq_some_iff.1 h).1; simp at this; omega
  all_goals
    simp at h
    subst h
    kernel_rfl

set_option maxRecDepth 100000 in
set_option maxHeartbeats 1000000 in
theorem grow_Check (a b c : Int) (w : World) :
    Calls Try.prog 66 #[ordersV a b c] w fun e w' => e = .returned (.int .i64 (Hy.ordErr a b c)) ∧ Below w.heap.size w w' := by
  unfold ordersV
  go_enter Try.func66, Try.ntmps66
  go_wp2_with fail
  go_loopw [4, 5, 6, 17] (fun lv sm al i wr => ∃ (k l s al' : Nat), k ≤ 3 ∧ i = .int .i64 k ∧ lv = .int .i64 l ∧ sm = .int .i64 s ∧ al = .int .i64 al' ∧ Hid (Hy.pre [a, b, c] k = some (l, s, al')) ∧ Hid (Below w.heap.size w wr)) (fun _ _ _ i _ => 3 - (intOf i).toNat)
  case atStart => exact ⟨0, 1, 0, 1, by omega, rfl, rfl, rfl, rfl, rfl, (((Below.refl _ _).alloc (Nat.le_refl _) _).alloc (by simp) _)⟩
  case round =>
    obtain ⟨k, l, s, al, hk, rfl, rfl, rfl, rfl, HP, HB⟩ := hrel
    have hb := Hy.pre_bound k hk (by simpa using hk) l s al HP.out
    obtain ⟨hl1, hl2, hs2, ha1, ha2⟩ := hb
    by_cases hk3 : k = 3
    · subst hk3
      have hfin := Hy.ordErr_pre a b c
      rw [HP.out] at hfin
      simp only at hfin
      by_cases h1 : al ≤ s
      · rw [if_pos h1] at hfin
        have HF := Lib.hid hfin; clear hfin
        go_wp2_with fail
        go_ret
        exact ⟨ret_int HF.out.symm, HB.out⟩
      · rw [if_neg h1] at hfin
        have h1' : s < al := by omega
        by_cases h2 : 60 < l
        · rw [if_pos h2] at hfin
          have HF := Lib.hid hfin; clear hfin
          go_wp2_with fail
          go_ret
          exact ⟨ret_int HF.out.symm, HB.out⟩
        · rw [if_neg h2] at hfin
          have h2' : l ≤ 60 := by omega
          have HF := Lib.hid hfin; clear hfin
          go_wp2_with fail
          go_ret
          exact ⟨ret_int HF.out.symm, HB.out⟩
    · have hlt : k < 3 := by omega
      obtain ⟨m, hm⟩ : ∃ m, [a, b, c][k]? = some m := ⟨[a, b, c][k], List.getElem?_eq_getElem (by simpa using hlt)⟩
      have hix := run_index3 a b c m k hm
      have hsucc := Hy.pre_succ hm
      rw [HP.out] at hsucc
      cases hbad : Hy.badOrder m with
      | true =>
        have hfin := Hy.ordErr_pre a b c
        rw [Hy.pre_bad rfl hm hbad] at hfin
        simp only at hfin
        have HF := Lib.hid hfin; clear hfin hsucc
        have HM := Lib.hid hm; clear hm
        simp [Hy.badOrder] at hbad
        by_cases g1 : m < 0
        · clear hbad
          go_wp2_with fail
          go_ret
          exact ⟨ret_int HF.out.symm, HB.out⟩
        · by_cases g2 : m = 1
          · have g3 : (m == 1) = true := by rw [beq_iff_eq]; exact g2
            clear hbad g2
            have g1' : 0 ≤ m := by omega
            go_wp2_with fail
            go_ret
            exact ⟨ret_int HF.out.symm, HB.out⟩
          · have g3 : (m == 1) = false := by rw [beq_eq_false_iff_ne]; exact g2
            have g4 : 12 < m := by omega
            have g1' : 0 ≤ m := by omega
            clear hbad g2
            go_wp2_with fail
            go_ret
            exact ⟨ret_int HF.out.symm, HB.out⟩
      | false =>
        rw [hbad] at hsucc
        obtain ⟨g1, g2, g4⟩ := Hy.not_bad hbad
        have g3 : (m == 1) = false := by rw [beq_eq_false_iff_ne]; exact g2
        have HM := Lib.hid hm; clear hm
        clear hbad g2
        obtain ⟨n, rfl⟩ := Int.eq_ofNat_of_zero_le g1
        simp only [Bool.false_eq_true, if_false, Option.map_some, Int.toNat_natCast] at hsucc
        by_cases hn : 0 < n
        · have hg : 0 < Nat.gcd l n := Nat.gcd_pos_of_pos_right _ hn
          have hg2 : Nat.gcd l n ≤ l := Nat.le_of_dvd (by omega) (Nat.gcd_dvd_left _ _)
          have hq : l / Nat.gcd l n ≤ l := Nat.div_le_self _ _
          have hq2 : l / Nat.gcd l n * n ≤ 1728 * 12 := Nat.mul_le_mul (by omega) (by omega)
          have hs3 : s * n ≤ 432 * 12 := Nat.mul_le_mul (by omega) (by omega)
          have ha3 : al * n ≤ 1728 * 12 := Nat.mul_le_mul (by omega) (by omega)
          have HS := Lib.hid hsucc; clear hsucc
          clear g1
          go_wp2_with fail
          refine (grow_divisor l n _ (by omega) (by omega)).mono ?_
          rintro e w2 ⟨rfl, hB2⟩
          have HB2 := Lib.hid hB2; clear hB2
          go_wp2_with fail
          go_roundw
          case rel =>
            refine ⟨k + 1, l / Nat.gcd l n * n, s * n + al, al * n, by omega, by go_num, ?_, by go_num, by go_num, ?_, ?_⟩
            · have e1 : (l : Int) / (Nat.gcd l n : Int) = ((l / Nat.gcd l n : Nat) : Int) := (Int.natCast_ediv _ _).symm
              rw [e1, wrap64_small (x := ((l / Nat.gcd l n : Nat) : Int)) (Int.natCast_nonneg _) (by omega), ← Int.natCast_mul, wrap64_small (x := ((l / Nat.gcd l n * n : Nat) : Int)) (Int.natCast_nonneg _) (by omega)]
            · have := HS.out
              unfold Hy.ordStep at this
              rw [if_pos hn] at this
              exact this
            · exact HB.out.trans (HB2.out.mono HB.out.size)
          case measure => simp [intOf]; omega
        · obtain rfl : n = 0 := by omega
          have HS := Lib.hid hsucc; clear hsucc
          clear g1 hn g4 g3
          have g3 : (((0 : Nat) : Int) == 1) = false := rfl
          have g5 : decide ((0 : Int) < ((0 : Nat) : Int)) = false := rfl
          go_wp2_with fail
          go_roundw
          case rel =>
            refine ⟨k + 1, l, s, al, by omega, by go_num, rfl, rfl, rfl, ?_, HB⟩
            have := HS.out
            unfold Hy.ordStep at this
            rw [if_neg (by omega)] at this
            exact this
          case measure => simp [intOf]; omega
end Go.Proofs.Ytbfnnlcckpabnaa
