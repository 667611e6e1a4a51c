import Derived.Test.YtdckpjagmbdkgaaAid
import Derived.Deep.RegionWith
import Derived.Deep.RegionHeld3
import Derived.Deep.DeepCutAuto
import Derived.Deep.DeepMust
import Derived.Test.YtdckpjagmbdkgaaQueue

/- The small functions of the specification of layer 3: letters, the order of two mirrors, the checks. -/
namespace Go.Proofs.Ytdckpjagmbdkgaa
set_option linter.unusedSimpArgs false
set_option linter.unusedVariables false
open Go.RowKit

set_option maxRecDepth 100000 in
set_option maxHeartbeats 1000000 in
theorem r03_letter (i : Nat) (hi : i < 256) (w : World) :
    Calls Try.prog 92 #[.int .i64 i] w fun e w' => e = .returned (str (Hy.letter i)) ∧ w' = w.alloc (.cells #[.int .u8 i] 5) := by
  have kl := run_letter (w.alloc (.cells #[.int .u8 i] 5)) w.heap.size i (by simp)
  unfold str at *
  go_enter Try.func92, Try.ntmps92
  go_wp2_with fail
  go_ret
  exact ⟨rfl, rfl⟩

set_option maxRecDepth 100000 in
set_option maxHeartbeats 1000000 in
theorem r03_other (a b n : Nat) (hn : n ≤ 100) (w : World) :
    Calls Try.prog 93 #[.int .i64 a, .int .i64 b, .int .i64 n] w fun e w' => e = .returned (.int .i64 (if n % 2 = 0 then a else b : Nat)) ∧ w = w' := by
  go_enter Try.func93, Try.ntmps93
  by_cases h : n % 2 = 0
  · have h1 : ((n : Int) % 2 == 0) = true := by rw [beq_iff_eq]; omega
    rw [if_pos h]
    clear h
    go_wp2_with fail
    go_ret
    exact ⟨rfl, rfl⟩
  · have h1 : ((n : Int) % 2 == 0) = false := by rw [beq_eq_false_iff_ne]; omega
    rw [if_neg h]
    clear h
    go_wp2_with fail
    go_ret
    exact ⟨rfl, rfl⟩

set_option maxRecDepth 100000 in
set_option maxHeartbeats 1000000 in
theorem r03_Between (o : Hy.Ord) (i j : Nat) (hi : i < 3) (hj : j < 3) (hij : i ≠ j) (w : World) :
    Calls Try.prog 70 #[ordersV o.m01 o.m12 o.m02, .int .i64 i, .int .i64 j] w fun e w' => e = .returned (.int .i64 (o.m i j)) ∧ Below w.heap.size w w' := by
  unfold ordersV
  have hB : Below w.heap.size w (w.alloc (.cells #[.int .i64 o.m01, .int .i64 o.m12, .int .i64 o.m02] 23)) := (Below.refl _ _).alloc (Nat.le_refl _) _
  have HB := Lib.hid hB; clear hB
  go_enter Try.func70, Try.ntmps70
  obtain h | h | h : i + j = 1 ∨ i + j = 2 ∨ i + j = 3 := by omega
  · have h1 : (((i : Int) + j) == 1) = true := by rw [beq_iff_eq]; omega
    have h2 : o.m i j = o.m01 := by unfold Hy.Ord.m; rw [if_pos h]
    rw [h2]
    go_wp2_with fail
    go_ret
    exact ⟨rfl, HB.out⟩
  · have h1 : (((i : Int) + j) == 1) = false := by rw [beq_eq_false_iff_ne]; omega
    have h3 : (((i : Int) + j) == 3) = false := by rw [beq_eq_false_iff_ne]; omega
    have h2 : o.m i j = o.m02 := by unfold Hy.Ord.m; rw [if_neg (by omega), if_pos h]
    rw [h2]
    go_wp2_with fail
    go_ret
    exact ⟨rfl, HB.out⟩
  · have h1 : (((i : Int) + j) == 1) = false := by rw [beq_eq_false_iff_ne]; omega
    have h3 : (((i : Int) + j) == 3) = true := by rw [beq_iff_eq]; omega
    have h2 : o.m i j = o.m12 := by unfold Hy.Ord.m; rw [if_neg (by omega), if_neg (by omega)]
    rw [h2]
    go_wp2_with fail
    go_ret
    exact ⟨rfl, HB.out⟩

set_option maxRecDepth 100000 in
set_option maxHeartbeats 400000 in
theorem r03_CheckWord (l : List UInt8) (w : World) (hl : l.length ≤ 9223372036854775807) :
    Calls Try.prog 18 #[str l] w fun e w' => e = .returned (.int .i64 (Hy.wordErr l)) ∧ Below w.heap.size w w' := by
  unfold str
  go_enter Try.func18, Try.ntmps18
  go_wp2_with fail
  go_loop [3] (fun i => ∃ k : Nat, k ≤ l.length ∧ i = .int .i64 k ∧ Hid ((l.take k).any (2 < ·) = false)) (fun i => l.length - (intOf i).toNat)
  case atStart => exact ⟨0, Nat.zero_le _, rfl, rfl⟩
  case round =>
    obtain ⟨k, hk, rfl, HK⟩ := hrel
    by_cases hlt : k < l.length
    · have hix := run_index_str l k l[k] (List.getElem?_eq_getElem hlt)
      by_cases h2 : 2 < l[k]
      · have g : decide ((2 : Int) < (l[k].toNat : Int)) = true := by rw [decide_eq_true_iff]; exact_mod_cast (UInt8.lt_iff_toNat_lt.1 h2)
        go_wp2_with fail
        go_ret
        exact ⟨ret_int (Hy.wordErr_bad hlt h2).symm, Below.refl _ _⟩
      · have g : decide ((2 : Int) < (l[k].toNat : Int)) = false := by rw [decide_eq_false_iff_not]; intro h; exact h2 (UInt8.lt_iff_toNat_lt.2 (by exact_mod_cast h))
        have HK' := Lib.hid (Hy.any_take_succ hlt HK.out h2)
        clear h2
        go_wp2_with fail
        go_round
        case rel => exact ⟨k + 1, by omega, by go_num, HK'.out⟩
        case measure => simp [intOf]; omega
    · obtain rfl : k = l.length := by omega
      clear hk hlt hl
      have ha : l.any (2 < ·) = false := by have := HK.out; rwa [List.take_length] at this
      have HA := Lib.hid ha; clear ha HK
      have hd : decide ((l.length : Int) < (l.length : Int)) = false := by simp
      by_cases h60 : 60 < l.length
      · go_wp2_with fail
        go_ret
        exact ⟨ret_int (Hy.wordErr_long HA.out h60).symm, Below.refl _ _⟩
      · go_wp2_with fail
        go_ret
        exact ⟨ret_int (Hy.wordErr_ok HA.out (by omega)).symm, Below.refl _ _⟩

set_option maxHeartbeats 400000 in
theorem r03_divisor (a b : Nat) (w : World) (ha2 : a ≤ 100000) (hb2 : b ≤ 100000) :
    Calls Try.prog 76 #[.int .i64 a, .int .i64 b] w fun e w' => e = .returned (.int .i64 (Nat.gcd a b : Nat)) ∧ w = w' := by
  go_enter Try.func76, Try.ntmps76
  go_wp2
  go_loop [0, 1] (fun x y => ∃ (p q : Nat), x = .int .i64 p ∧ y = .int .i64 q ∧ Nat.gcd p q = Nat.gcd a b ∧ p ≤ 100000 ∧ q ≤ 100000) (fun _ y => (intOf y).toNat)
  case atStart => exact ⟨a, b, rfl, rfl, rfl, ha2, hb2⟩
  case round =>
    obtain ⟨p, q, rfl, rfl, hg, hp, hq⟩ := hrel
    have HG := Lib.hid hg; clear hg
    by_cases hz : q = 0
    · subst hz
      have h1 : (((0 : Nat) : Int) != 0) = false := rfl
      go_wp2
      go_ret
      exact ⟨ret_int (by rw [← HG.out, Nat.gcd_zero_right]), rfl⟩
    · have h1 : ((q : Int) != 0) = true := by rw [bne_iff_ne]; omega
      have h2 : ¬ ((q : Int) = 0) := by omega
      clear hz
      go_wp2
      go_round
      case rel => exact ⟨q, p % q, rfl, rfl, by rw [← HG.out, Nat.gcd_comm q, ← Nat.gcd_rec, Nat.gcd_comm], by omega, by have := Nat.mod_lt p (show 0 < q by omega); omega⟩
      case measure => simp [intOf]; have := Nat.mod_lt p (show 0 < q by omega); omega
end Go.Proofs.Ytdckpjagmbdkgaa

/- The check of orders of the specification of layer 3, and words turned about. -/
namespace Go.Proofs.Ytdckpjagmbdkgaa
set_option linter.unusedSimpArgs false
set_option linter.unusedVariables false
open Go.RowKit

/-- The sum of the angles, in parts of 27720. -/
def asum (L : List Int) (k : Nat) : Option Nat := (L.take k).foldl (fun s m => if Hy.badOrder m then none else s.map (· + 27720 / m.toNat)) (some 0)

theorem asum_succ {L : List Int} {k : Nat} {m : Int} (h : L[k]? = some m) : asum L (k + 1) = if Hy.badOrder m then none else (asum L k).map (· + 27720 / m.toNat) := by
  unfold asum
  obtain ⟨hk, rfl⟩ := List.getElem?_eq_some_iff.1 h
  rw [List.take_succ_eq_append_getElem hk, List.foldl_append]
  rfl

theorem asum_bound {L : List Int} : ∀ k, k ≤ L.length → ∀ s, asum L k = some s → s ≤ 27720 * k ∧ (∀ j (hj : j < k) m, L[j]? = some m → Hy.badOrder m = false) := by
  intro k
  induction k with
  | zero => intro _ s h; cases h; exact ⟨by omega, fun j hj => by omega⟩
  | succ k ih =>
    intro hk s h
    obtain ⟨m, hm⟩ : ∃ m, L[k]? = some m := ⟨L[k], List.getElem?_eq_getElem (by omega)⟩
    rw [asum_succ hm] at h
    cases hb : Hy.badOrder m with
    | true => rw [hb] at h; cases h
    | false =>
      rw [hb] at h
      cases hp : asum L k with
      | none => rw [hp] at h; cases h
      | some s' =>
        rw [hp] at h
        simp only [Bool.false_eq_true, if_false, Option.map_some, Option.some.injEq] at h
        obtain ⟨h1, h2⟩ := ih (by omega) s' hp
        have : 27720 / m.toNat ≤ 27720 := Nat.div_le_self _ _
        refine ⟨by omega, fun j hj m' hm' => ?_⟩
        by_cases hjk : j = k
        · subst hjk; cases hm.symm.trans hm'; exact hb
        · exact h2 j (by omega) m' hm'

theorem ordErr_asum_all : ∀ p : Nat, p < 13 → ∀ q : Nat, q < 13 → ∀ r : Nat, r < 13 →
    (match asum [(p : Int), (q : Int), (r : Int)] 3, Hy.pre [(p : Int), (q : Int), (r : Int)] 3 with
      | some s, some t => decide (Hy.ordErr p q r = if 27720 ≤ s then 1 else if 60 < t.1 then 4 else 0)
      | none, none => decide (Hy.ordErr p q r = 1)
      | _, _ => false) = true := by decide +kernel

theorem ordErr_bad {a b c : Int} {k : Nat} {m : Int} (h : [a, b, c][k]? = some m) (hb : Hy.badOrder m = true) : Hy.ordErr a b c = 1 := by
  rw [Hy.ordErr_pre, Hy.pre_bad rfl h hb]

theorem ordErr_asum {a b c : Int} {s : Nat} (h : asum [a, b, c] 3 = some s) : ∃ t, Hy.pre [a, b, c] 3 = some t ∧ Hy.ordErr a b c = if 27720 ≤ s then 1 else if 60 < t.1 then 4 else 0 := by
  obtain ⟨_, h2⟩ := asum_bound (L := [a, b, c]) 3 (by simp) s h
  obtain ⟨a1, _, a3⟩ := Hy.not_bad (h2 0 (by omega) a rfl)
  obtain ⟨b1, _, b3⟩ := Hy.not_bad (h2 1 (by omega) b rfl)
  obtain ⟨c1, _, c3⟩ := Hy.not_bad (h2 2 (by omega) c rfl)
  obtain ⟨p, rfl⟩ := Int.eq_ofNat_of_zero_le a1
  obtain ⟨q, rfl⟩ := Int.eq_ofNat_of_zero_le b1
  obtain ⟨r, rfl⟩ := Int.eq_ofNat_of_zero_le c1
  have := ordErr_asum_all p (by omega) q (by omega) r (by omega)
  rw [h] at this
  cases hp : Hy.pre [(p : Int), (q : Int), (r : Int)] 3 with
  | none => rw [hp] at this; cases this
  | some t =>
    rw [hp] at this
    exact ⟨t, rfl, by simpa using this⟩

set_option maxRecDepth 100000 in
set_option maxHeartbeats 1000000 in
theorem r03_Level (a b c : Int) (t : Nat × Nat × Nat) (ht : Hy.pre [a, b, c] 3 = some t) (w : World) :
    Calls Try.prog 49 #[ordersV a b c] w fun e w' => e = .returned (.int .i64 t.1) ∧ Below w.heap.size w w' := by
  have hgood : ∀ k, k < 3 → ∀ m, [a, b, c][k]? = some m → Hy.badOrder m = false := fun k hk m hm => by
    cases hb : Hy.badOrder m with
    | false => rfl
    | true => rw [Hy.pre_bad rfl hm hb] at ht; cases ht
  have HT := Lib.hid ht; clear ht
  have HG := Lib.hid hgood; clear hgood
  have hcell : ∀ k m, [a, b, c][k]? = some m → ((w.alloc (.cells #[.int .i64 a, .int .i64 b, .int .i64 c] 23)).alloc (.cells #[.int .i64 a, .int .i64 b, .int .i64 c] 3)).cell? ⟨w.heap.size + 1, k, none⟩ = some (.int .i64 m) := fun k m hm => by
    have h := cell_new (w.alloc (.cells #[.int .i64 a, .int .i64 b, .int .i64 c] 23)) #[.int .i64 a, .int .i64 b, .int .i64 c] 3 (0, 0) k
    rw [World.size_alloc] at h
    rw [h]
    have := congrArg (Option.map (Value.int .i64)) hm
    rw [← List.getElem?_map] at this
    simpa using this
  have HCELL := Lib.hid hcell; clear hcell
  unfold ordersV
  go_enter Try.func49, Try.ntmps49
  go_wp2_with fail
  obtain ⟨W0, hW0⟩ : ∃ W0, ((w.alloc (.cells #[.int .i64 a, .int .i64 b, .int .i64 c] 23)).alloc (.cells #[.int .i64 a, .int .i64 b, .int .i64 c] 3)) = W0 := ⟨_, rfl⟩
  rw [hW0]
  have hs0 : W0.heap.size = w.heap.size + 2 := by rw [← hW0]; simp
  have hB0 : Below w.heap.size w W0 := by rw [← hW0]; exact ((Below.refl _ _).alloc (Nat.le_refl _) _).alloc (by simp) _
  rw [hW0] at HCELL
  have HS0 := Lib.hid hs0; clear hs0
  have HB0 := Lib.hid hB0; clear hB0
  have HW0 := Lib.hid hW0; clear hW0
  go_loopw [3, 5] (fun lv i wr => ∃ (k l s al' : Nat), k ≤ 3 ∧ i = .int .i64 k ∧ lv = .int .i64 l ∧ Hid (Hy.pre [a, b, c] k = some (l, s, al')) ∧ Hid (Below W0.heap.size W0 wr)) (fun _ i _ => 3 - (intOf i).toNat)
  case atStart => exact ⟨0, 1, 0, 1, by omega, rfl, rfl, rfl, Below.refl _ _⟩
  case round =>
    obtain ⟨k, l, s, al, hk, rfl, rfl, HP, HB⟩ := hrel
    obtain ⟨hl1, hl2, hs2, ha1, ha2⟩ := Hy.pre_bound k hk (by simpa using hk) l s al HP.out
    by_cases hk3 : k = 3
    · subst hk3
      have h := HP.out.symm.trans HT.out
      have HH := Lib.hid h; clear h
      go_wp2_with fail
      go_ret
      have h := HH.out
      simp only [Option.some.injEq] at h
      subst h
      exact ⟨rfl, HB0.out.trans (HB.out.mono (by have := HS0.out; omega))⟩
    · have hlt : k < 3 := by omega
      obtain ⟨m, hm⟩ : ∃ m, [a, b, c][k]? = some m := ⟨[a, b, c][k], List.getElem?_eq_getElem (by simpa using hlt)⟩
      have hcell := ((bcell HB.out).1 (w.heap.size + 1) k (by have := HS0.out; omega)).trans (HCELL.out k m hm)
      have hsucc := Hy.pre_succ hm
      rw [HP.out, HG.out k hlt m hm] at hsucc
      obtain ⟨g1, g2, g4⟩ := Hy.not_bad (HG.out k hlt m hm)
      have HM := Lib.hid hm; clear hm
      obtain ⟨n, rfl⟩ := Int.eq_ofNat_of_zero_le g1
      simp only [Bool.false_eq_true, if_false, Option.map_some, Int.toNat_natCast] at hsucc
      clear g1 g2
      by_cases hn : 0 < n
      · have hg : 0 < Nat.gcd l n := Nat.gcd_pos_of_pos_right _ hn
        have hg2 : Nat.gcd l n ≤ l := Nat.le_of_dvd (by omega) (Nat.gcd_dvd_left _ _)
        have hq : l / Nat.gcd l n ≤ l := Nat.div_le_self _ _
        have hq2 : l / Nat.gcd l n * n ≤ 1728 * 12 := Nat.mul_le_mul (by omega) (by omega)
        have HS := Lib.hid hsucc; clear hsucc
        have HDIV := Lib.hid (fun W => (r03_divisor l n W (by omega) (by omega)).mono fun _ _ h => And.intro h.1 h.2.symm)
        go_wp2_with fail
        go_quiet (first | (go_at_call 76; exact Calls.quiet_of_same (HDIV.out _)))
        go_wp2_with fail
        go_roundw
        case rel =>
          refine ⟨k + 1, l / Nat.gcd l n * n, s * n + al, al * n, by omega, by go_num, ?_, ?_, ?_⟩
          · have e1 : (l : Int) / (Nat.gcd l n : Int) = ((l / Nat.gcd l n : Nat) : Int) := (Int.natCast_ediv _ _).symm
            rw [e1, wrap64_small (x := ((l / Nat.gcd l n : Nat) : Int)) (Int.natCast_nonneg _) (by omega), ← Int.natCast_mul, wrap64_small (x := ((l / Nat.gcd l n * n : Nat) : Int)) (Int.natCast_nonneg _) (by omega)]
          · have := HS.out
            unfold Hy.ordStep at this
            rw [if_pos hn] at this
            exact this
          · exact below_drewN HB.out _
        case measure => simp [intOf]; omega
      · obtain rfl : n = 0 := by omega
        have HS := Lib.hid hsucc; clear hsucc
        have g5 : decide ((0 : Int) < ((0 : Nat) : Int)) = false := rfl
        go_wp2_with fail
        go_roundw
        case rel =>
          refine ⟨k + 1, l, s, al, by omega, by go_num, rfl, ?_, HB⟩
          have := HS.out
          unfold Hy.ordStep at this
          rw [if_neg (by omega)] at this
          exact this
        case measure => simp [intOf]; omega
theorem wrapEq (x : Int) : IntKind.i64.wrap x = wrap64 x := by rw [IntKind.wrap_i64]; unfold wrap64; rfl
theorem wrap_add (a b : Nat) (h : a + b ≤ 1000000) : IntKind.i64.wrap ((a : Int) + (b : Int)) = ((a + b : Nat) : Int) := by
  rw [wrapEq, wrap64_small (by omega) (by omega)]; omega

set_option maxRecDepth 100000 in
set_option maxHeartbeats 1000000 in
theorem r03_Allowed (a b c : Int) (w : World) :
    Calls Try.prog 26 #[ordersV a b c] w fun e w' => e = .returned (.int .i64 (Hy.ordErr a b c)) ∧ Below w.heap.size w w' := by
  have hcell : ∀ k m, [a, b, c][k]? = some m → ((w.alloc (.cells #[.int .i64 a, .int .i64 b, .int .i64 c] 23)).alloc (.cells #[.int .i64 a, .int .i64 b, .int .i64 c] 3)).cell? ⟨w.heap.size + 1, k, none⟩ = some (.int .i64 m) := fun k m hm => by
    have h := cell_new (w.alloc (.cells #[.int .i64 a, .int .i64 b, .int .i64 c] 23)) #[.int .i64 a, .int .i64 b, .int .i64 c] 3 (0, 0) k
    rw [World.size_alloc] at h
    rw [h]
    have := congrArg (Option.map (Value.int .i64)) hm
    rw [← List.getElem?_map] at this
    simpa using this
  have HCELL := Lib.hid hcell; clear hcell
  have HLEV := Lib.hid (fun W t ht => r03_Level a b c t ht W)
  unfold ordersV at *
  go_enter Try.func26, Try.ntmps26
  go_wp2_with fail
  obtain ⟨W0, hW0⟩ : ∃ W0, ((w.alloc (.cells #[.int .i64 a, .int .i64 b, .int .i64 c] 23)).alloc (.cells #[.int .i64 a, .int .i64 b, .int .i64 c] 3)) = W0 := ⟨_, rfl⟩
  have hl0 : W0.heap[w.heap.size]? = some (.cells #[.int .i64 a, .int .i64 b, .int .i64 c] 23 (0, 0)) := by
    rw [← hW0]
    rw [heap_alloc_lt _ _ (by simp)]
    exact alloc_heap_new w _
  rw [hW0]
  have hs0 : W0.heap.size = w.heap.size + 2 := by rw [← hW0]; simp
  have hB0 : Below w.heap.size w W0 := by rw [← hW0]; exact ((Below.refl _ _).alloc (Nat.le_refl _) _).alloc (by simp) _
  rw [hW0] at HCELL
  have HS0 := Lib.hid hs0; clear hs0
  have HB0 := Lib.hid hB0; clear hB0
  have HW0 := Lib.hid hW0; clear hW0
  have c0 := (cell_of_heap (k := 0) hl0)
  have c1 := (cell_of_heap (k := 1) hl0)
  have c2 := (cell_of_heap (k := 2) hl0)
  simp at c0 c1 c2
  clear hl0
  go_loop [4, 5] (fun sm i => ∃ (k s : Nat), k ≤ 3 ∧ i = .int .i64 k ∧ sm = .int .i64 s ∧ Hid (asum [a, b, c] k = some s)) (fun _ i => 3 - (intOf i).toNat)
  case atStart => exact ⟨0, 0, by omega, rfl, rfl, rfl⟩
  case round =>
    obtain ⟨k, s, hk, rfl, rfl, HP⟩ := hrel
    obtain ⟨hs2, _⟩ := asum_bound (L := [a, b, c]) k (by simpa using hk) s HP.out
    have hs3 : s ≤ 83160 := by omega
    clear hs2
    by_cases hk3 : k = 3
    · subst hk3
      obtain ⟨⟨lv, sm, al⟩, ht, hfin⟩ := ordErr_asum HP.out
      obtain ⟨⟨hl1, hl2⟩, _⟩ : (1 ≤ lv ∧ lv ≤ 1728) ∧ True := ⟨⟨(Hy.pre_bound (L := [a, b, c]) 3 (by omega) (by simp) lv sm al ht).1, (Hy.pre_bound (L := [a, b, c]) 3 (by omega) (by simp) lv sm al ht).2.1⟩, trivial⟩
      simp only at hfin
      have HT := Lib.hid ht; clear ht
      by_cases h1 : 27720 ≤ s
      · rw [if_pos h1] at hfin
        have HF := Lib.hid hfin; clear hfin
        have g1 : decide ((27720 : Int) ≤ (s : Int)) = true := by rw [decide_eq_true_iff]; omega
        clear h1 hs3
        go_wp2_with fail
        go_ret
        exact ⟨ret_int HF.out.symm, HB0.out⟩
      · rw [if_neg h1] at hfin
        have g1 : decide ((27720 : Int) ≤ (s : Int)) = false := by rw [decide_eq_false_iff_not]; omega
        clear h1 hs3
        by_cases h2 : 60 < lv
        · rw [if_pos h2] at hfin
          have HF := Lib.hid hfin; clear hfin
          go_wp2_with fail
          refine (HLEV.out _ (lv, sm, al) HT.out).mono ?_
          rintro e w2 ⟨rfl, hB2⟩
          have HB2 := Lib.hid hB2; clear hB2
          go_wp2_with fail
          go_ret
          exact ⟨ret_int HF.out.symm, HB0.out.trans (HB2.out.mono (by have := HS0.out; omega))⟩
        · rw [if_neg h2] at hfin
          have h2' : lv ≤ 60 := by omega
          have HF := Lib.hid hfin; clear hfin
          go_wp2_with fail
          refine (HLEV.out _ (lv, sm, al) HT.out).mono ?_
          rintro e w2 ⟨rfl, hB2⟩
          have HB2 := Lib.hid hB2; clear hB2
          go_wp2_with fail
          go_ret
          exact ⟨ret_int HF.out.symm, HB0.out.trans (HB2.out.mono (by have := HS0.out; omega))⟩
    · have hlt : k < 3 := by omega
      obtain ⟨m, hm⟩ : ∃ m, [a, b, c][k]? = some m := ⟨[a, b, c][k], List.getElem?_eq_getElem (by simpa using hlt)⟩
      have hcell := HCELL.out k m hm
      have hsucc := asum_succ hm
      rw [HP.out] at hsucc
      cases hbad : Hy.badOrder m with
      | true =>
        have HF := Lib.hid (ordErr_bad hm hbad)
        have HM := Lib.hid hm; clear hm hsucc
        simp [Hy.badOrder] at hbad
        have g0 : (m != 0) = true := by rw [bne_iff_ne]; omega
        by_cases g1 : m < 2
        · clear hbad
          go_wp2_with fail
          go_ret
          exact ⟨ret_int HF.out.symm, HB0.out⟩
        · have g2 : 12 < m := by omega
          clear hbad
          go_wp2_with fail
          go_ret
          exact ⟨ret_int HF.out.symm, HB0.out⟩
      | false =>
        rw [hbad] at hsucc
        obtain ⟨g1, g2, g4⟩ := Hy.not_bad hbad
        have HM := Lib.hid hm; clear hm
        clear hbad
        obtain ⟨n, rfl⟩ := Int.eq_ofNat_of_zero_le g1
        simp only [Bool.false_eq_true, if_false, Option.map_some, Int.toNat_natCast] at hsucc
        have HS := Lib.hid hsucc; clear hsucc
        by_cases hn : 0 < n
        · have g0 : ((n : Int) != 0) = true := by rw [bne_iff_ne]; omega
          have g3 : ¬ ((n : Int) < 2) := by omega
          have g5 : ¬ ((12 : Int) < n) := by omega
          have g6 : ¬ ((n : Int) = 0) := by omega
          have hq : 27720 / n ≤ 27720 := Nat.div_le_self _ _
          have e1 : (27720 : Int) / (n : Int) = ((27720 / n : Nat) : Int) := (Int.natCast_ediv _ _).symm
          have e2 : IntKind.i64.wrap ((s : Int) + 27720 / (n : Int)) = ((s + 27720 / n : Nat) : Int) := by
            rw [e1]
            exact wrap_add s (27720 / n) (by omega)
          clear g1 g2 e1
          go_wp2_with fail
          go_round
          case rel => exact ⟨k + 1, s + 27720 / n, by omega, by go_num, by go_num, HS⟩
          case measure => simp [intOf]; omega
        · obtain rfl : n = 0 := by omega
          have g0 : (((0 : Nat) : Int) != 0) = false := rfl
          clear g1 g2 g4
          go_wp2_with fail
          go_round
          case rel => exact ⟨k + 1, s, by omega, by go_num, rfl, by simpa using HS⟩
          case measure => simp [intOf]; omega

theorem slice_one (l : List UInt8) (k : Nat) (hk : k < l.length) : (⟨l.toArray⟩ : ByteArray).extract k (k + 1) = ⟨[l[k]].toArray⟩ := by
  apply ByteArray.ext
  simp
  cases h : l.drop k with
  | nil => rw [List.drop_eq_nil_iff] at h; omega
  | cons x r =>
    rw [List.drop_eq_getElem_cons hk] at h
    cases h
    rfl
end Go.Proofs.Ytdckpjagmbdkgaa

/- The graph of the specification of layer 3 in memory. -/
namespace Go.Proofs.Ytdckpjagmbdkgaa
set_option linter.unusedSimpArgs false
set_option linter.unusedVariables false
open Go.RowKit

def ix (x : Option Nat) : Value := match x with | none => .int .i64 (-1) | some j => .int .i64 (j : Nat)
def r03cells (n : Hy.Node) : List Value := [.int .i64 n.word.length, ix (n.to 0), ix (n.to 1), ix (n.to 2), .bool (n.down 0), .bool (n.down 1), .bool (n.down 2), str n.word]
def flat (G : List Hy.Node) : List Value := G.flatMap r03cells

theorem flat_get : ∀ {G : List Hy.Node} {i : Nat} {n : Hy.Node} {j : Nat}, G[i]? = some n → j < 8 → (flat G)[i * 8 + j]? = (r03cells n)[j]?
  | [], _, _, _, h, _ => by simp at h
  | m :: G, 0, n, j, h, hj => by
    cases h
    show (r03cells m ++ flat G)[0 * 8 + j]? = _
    rw [List.getElem?_append_left (by show _ < 8; omega), Nat.zero_mul, Nat.zero_add]
  | m :: G, i + 1, n, j, h, hj => by
    show (r03cells m ++ flat G)[(i + 1) * 8 + j]? = _
    rw [List.getElem?_append_right (by show 8 ≤ _; omega)]
    have := flat_get (G := G) (i := i) (n := n) (j := j) (by simpa using h) hj
    rw [← this]
    congr 1
    show (i + 1) * 8 + j - 8 = _
    omega

theorem flat_length (G : List Hy.Node) : (flat G).length = G.length * 8 := by
  induction G with
  | nil => rfl
  | cons m G ih =>
    show (r03cells m ++ flat G).length = _
    rw [List.length_append, ih]
    show 8 + _ = (G.length + 1) * 8
    omega

theorem flat_append (G : List Hy.Node) (n : Hy.Node) : flat (G ++ [n]) = flat G ++ r03cells n := by
  unfold flat; rw [List.flatMap_append]; simp

theorem flat_set : ∀ {G : List Hy.Node} {i : Nat} {n n' : Hy.Node} {j : Nat} {u : Value}, G[i]? = some n → j < 8 → r03cells n' = (r03cells n).set j u → flat (G.set i n') = (flat G).set (i * 8 + j) u
  | [], _, _, _, _, _, h, _, _ => by simp at h
  | m :: G, 0, n, n', j, u, h, hj, hc => by
    cases h
    show r03cells n' ++ flat G = (r03cells m ++ flat G).set (0 * 8 + j) u
    rw [Nat.zero_mul, Nat.zero_add, List.set_append_left _ _ (by show _ < 8; omega), hc]
  | m :: G, i + 1, n, n', j, u, h, hj, hc => by
    show r03cells m ++ flat (G.set i n') = (r03cells m ++ flat G).set ((i + 1) * 8 + j) u
    rw [List.set_append_right _ _ (by show 8 ≤ _; omega), flat_set (G := G) (i := i) (n := n) (by simpa using h) hj hc]
    congr 2
    show _ = (i + 1) * 8 + j - 8
    omega

theorem cells_setTo {n : Hy.Node} {s j : Nat} (hs : s < 3) : r03cells (Hy.setTo s j n) = (r03cells n).set (1 + s) (.int .i64 j) := by
  obtain rfl | rfl | rfl : s = 0 ∨ s = 1 ∨ s = 2 := by omega
  all_goals rfl
theorem cells_setDown {n : Hy.Node} {s : Nat} (hs : s < 3) : r03cells (Hy.setDown s n) = (r03cells n).set (4 + s) (.bool true) := by
  obtain rfl | rfl | rfl : s = 0 ∨ s = 1 ∨ s = 2 := by omega
  all_goals rfl
theorem cells_setWord {n : Hy.Node} {l : List UInt8} (hl : l.length = n.word.length) : r03cells (Hy.setWord l n) = (r03cells n).set 7 (str l) := by
  show [Value.int .i64 l.length, _, _, _, _, _, _, _] = _
  rw [hl]
  rfl

theorem QRow.set {W : World} {g size : Nat} {v : Value} {n : Nat} {xs : List Value} {off cap : Nat} (h : QRow W g size v n xs) (hv : v = .slice (some ⟨g, off, none⟩) n cap) {j : Nat} (hj : j < xs.length) (u : Value) :
    QRow (W.setCell ⟨g, off + j, none⟩ u) g size v n (xs.set j u) := by
  obtain ⟨off', cap', h1, h2, h3, h4, h5, h6, h7⟩ := h
  have hh : off' = off ∧ cap' = cap := by rw [h1] at hv; simp at hv; exact hv
  obtain ⟨rfl, rfl⟩ := hh
  have hsz : j < cap' * size := by
    have : n * size ≤ cap' * size := Nat.mul_le_mul_right _ h2
    omega
  refine ⟨off', cap', h1, h2, h3, by rw [List.length_set]; exact h4, fun k x hk => ?_, fun k hk => ?_, by simpa [World.setCell] using h7⟩
  · by_cases hkj : k = j
    · subst hkj
      rw [List.getElem?_set_self hj] at hk
      cases hk
      obtain ⟨z, hz⟩ := Option.isSome_iff_exists.1 (h6 k hsz).1
      exact World.cell?_setCell_same _ _ _ hz
    · rw [List.getElem?_set_ne (Ne.symm hkj)] at hk
      rw [World.cell?_setCell_other _ _ _ _ (by simp; try omega)]
      exact h5 k x hk
  · rw [World.frozen?_setCell]
    refine ⟨?_, (h6 k hk).2⟩
    by_cases hkj : k = j
    · subst hkj
      obtain ⟨z, hz⟩ := Option.isSome_iff_exists.1 (h6 k hsz).1
      rw [World.cell?_setCell_same _ _ _ hz]; rfl
    · rw [World.cell?_setCell_other _ _ _ _ (by simp; try omega)]
      exact (h6 k hk).1

/-- The graph in memory. -/
structure RG (w : World) (o : Hy.Ord) (B : Nat → Prop) (gb rb : Nat) (v : Value) (G : List Hy.Node) : Prop where
  graph : w.heap[gb]? = some (.cells #[.int .i64 o.m01, .int .i64 o.m12, .int .i64 o.m02, v] 91 (0, 0))
  row : QRow w rb 8 v G.length (flat G)
  ne : gb ≠ rb
  lo : B gb ∧ B rb
  closed : ∀ (i : Nat) (n : Hy.Node) (s j : Nat), G[i]? = some n → n.to s = some j → j < G.length

theorem RG.drew {w : World} {o : Hy.Ord} {B : Nat → Prop} {gb rb : Nat} {v : Value} {G : List Hy.Node} (h : RG w o B gb rb v G) : RG w.drew o B gb rb v G :=
  ⟨h.graph, h.row.of_heap rfl (Nat.le_refl _), h.ne, h.lo, h.closed⟩

theorem RG.heap {w w' : World} {o : Hy.Ord} {B : Nat → Prop} {gb rb : Nat} {v : Value} {G : List Hy.Node} (h : RG w o B gb rb v G) (hb : Below w.heap.size w w') : RG w' o B gb rb v G := by
  have h1 : gb < w.heap.size := (Array.getElem?_eq_some_iff.1 h.graph).1
  have h2 : rb < w.heap.size := by obtain ⟨_, _, _, _, _, _, _, _, h7⟩ := h.row; exact h7
  exact ⟨(hb.block gb h1).trans h.graph, h.row.of_heap (hb.block rb h2) hb.size, h.ne, h.lo, h.closed⟩

def R03Post (o : Hy.Ord) (B : Nat → Prop) (gb : Nat) (G G' : List Hy.Node) (y : Nat) (w : World) (e : Ending) (w' : World) : Prop :=
  ∃ rb' v', e = .returned (.int .i64 y) ∧ RG w' o B gb rb' v' G' ∧ Only B w w' ∧ G.length ≤ G'.length ∧ y < G'.length

theorem geq_ix (y : Nat) : decide ((0 : Int) ≤ (y : Int)) = true := by rw [decide_eq_true_iff]; omega

/-- The cells of a node. -/
structure NodeAt (w : World) (rb a : Nat) (n : Hy.Node) : Prop where
  nlen : w.cell? ⟨rb, a, none⟩ = some (.int .i64 n.word.length)
  nto : ∀ s, s < 3 → w.cell? ⟨rb, a + 1 + s, none⟩ = some (ix (n.to s))
  ndown : ∀ s, s < 3 → w.cell? ⟨rb, a + 4 + s, none⟩ = some (.bool (n.down s))
  nword : w.cell? ⟨rb, a + 7, none⟩ = some (str n.word)
  nfree : ∀ j, j < 8 → w.frozen? ⟨rb, a + j, none⟩ = false

theorem RG.opened {w : World} {o : Hy.Ord} {B : Nat → Prop} {gb rb : Nat} {v : Value} {G : List Hy.Node} (h : RG w o B gb rb v G) : ∃ off cap, v = .slice (some ⟨rb, off, none⟩) G.length cap ∧ w.cell? ⟨gb, 3, none⟩ = some (.slice (some ⟨rb, off, none⟩) G.length cap) ∧
    (∀ i n, G[i]? = some n → NodeAt w rb (off + i * 8) n) ∧ gb ≠ rb ∧ gb < w.heap.size ∧ rb < w.heap.size := by
  have hg := cell_of_heap (k := 3) h.graph
  have hgl : gb < w.heap.size := (Array.getElem?_eq_some_iff.1 h.graph).1
  obtain ⟨off, cap, hv, h2, h3, h4, h5, h6, h7⟩ := h.row
  refine ⟨off, cap, hv, ?_, fun i n hi => ?_, h.ne, hgl, h7⟩
  · rw [hg, hv]; rfl
  · have key : ∀ j, j < 8 → w.cell? ⟨rb, off + (i * 8 + j), none⟩ = (r03cells n)[j]? := fun j hj => by
      have := flat_get hi hj
      have hl : j < (r03cells n).length := hj
      rw [List.getElem?_eq_getElem hl] at this ⊢
      exact h5 _ _ this
    have hil : i < G.length := (List.getElem?_eq_some_iff.1 hi).1
    refine ⟨?_, fun s hs => ?_, fun s hs => ?_, ?_, fun j hj => ?_⟩
    · have := key 0 (by omega)
      rw [Nat.add_zero] at this; exact this
    · rw [show off + i * 8 + 1 + s = off + (i * 8 + (1 + s)) by omega, key _ (by omega)]
      obtain rfl | rfl | rfl : s = 0 ∨ s = 1 ∨ s = 2 := by omega
      all_goals rfl
    · rw [show off + i * 8 + 4 + s = off + (i * 8 + (4 + s)) by omega, key _ (by omega)]
      obtain rfl | rfl | rfl : s = 0 ∨ s = 1 ∨ s = 2 := by omega
      all_goals rfl
    · rw [show off + i * 8 + 7 = off + (i * 8 + 7) by omega, key 7 (by omega)]; rfl
    · rw [show off + i * 8 + j = off + (i * 8 + j) by omega]
      exact (h6 _ (by omega)).2

/-- A cell of a node is written. -/
theorem RG.put {w : World} {o : Hy.Ord} {B : Nat → Prop} {gb rb off cap : Nat} {G : List Hy.Node} (h : RG w o B gb rb (.slice (some ⟨rb, off, none⟩) G.length cap) G) {i : Nat} {n n' : Hy.Node} (hi : G[i]? = some n) {j : Nat} (hj : j < 8) {u : Value}
    (hn : r03cells n' = (r03cells n).set j u) (hc : ∀ s k, n'.to s = some k → k < G.length) : RG (w.setCell ⟨rb, off + i * 8 + j, none⟩ u) o B gb rb (.slice (some ⟨rb, off, none⟩) G.length cap) (G.set i n') := by
  have hil : i < G.length := (List.getElem?_eq_some_iff.1 hi).1
  refine ⟨?_, ?_, h.ne, h.lo, fun a m s k ha hk => ?_⟩
  · have : (w.setCell ⟨rb, off + i * 8 + j, none⟩ u).heap[gb]? = w.heap[gb]? := Below.heap_setCell _ _ _ _ h.ne
    rw [this]; exact h.graph
  · rw [List.length_set, show off + i * 8 + j = off + (i * 8 + j) by omega, flat_set hi hj hn]
    exact h.row.set rfl (by rw [flat_length]; omega) u
  · rw [List.length_set]
    rw [List.getElem?_set] at ha
    by_cases hia : i = a
    · subst hia
      rw [if_pos rfl, if_pos hil] at ha
      cases ha
      exact hc s k hk
    · rw [if_neg hia] at ha
      exact h.closed a m s k ha hk

set_option maxRecDepth 100000 in
set_option maxHeartbeats 1000000 in
theorem r03_step_known {w : World} {o : Hy.Ord} {B : Nat → Prop} {gb rb : Nat} {v : Value} {G : List Hy.Node} (h : RG w o B gb rb v G) {x s y : Nat} (hs : s < 3) {n : Hy.Node} (hx : G[x]? = some n) (hy : n.to s = some y) :
    Calls Try.prog 69 #[.pointer (some ⟨gb, 0, none⟩), .int .i64 x, .int .i64 s] w (R03Post o B gb G G y w) := by
  have hP : R03Post o B gb G G y w (.returned (.int .i64 y)) w := ⟨rb, v, rfl, h, Only.refl _ _, Nat.le_refl _, h.closed x n s y hx hy⟩
  have hxl : x < G.length := (List.getElem?_eq_some_iff.1 hx).1
  obtain ⟨off, cap, rfl, hg, hnode, _⟩ := h.opened
  have hc := (hnode x n hx).nto s hs
  rw [hy] at hc
  unfold ix at hc
  simp only at hc
  have HP := Lib.hid hP; clear hP
  have HX := Lib.hid hx; clear hx
  have HY := Lib.hid hy; clear hy
  clear hnode h
  go_enter Try.func69, Try.ntmps69
  go_wp2_with fail
  go_ret
  exact HP.out
end Go.Proofs.Ytdckpjagmbdkgaa
