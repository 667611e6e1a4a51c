import Derived.Test.YtfdklmpkienfhaaGreatAid
import Derived.Deep.RegionWith
import Derived.Deep.RegionHeld3
import Derived.Deep.DeepCutAuto
import Derived.Deep.DeepMust
import Derived.Test.YtfdklmpkienfhaaGreatQueue

/- The small functions of the specification of layer 3: letters, the order of two mirrors, the checks. -/
namespace Go.Proofs.YtfdklmpkienfhaaGreat
set_option linter.unusedSimpArgs false
set_option linter.unusedVariables false
open Go.RowKit

set_option maxRecDepth 100000 in
set_option maxHeartbeats 1000000 in
theorem r03_Between (o : Hy.Ord) (i j : Nat) (hi : i < 3) (hj : j < 3) (hij : i ≠ j) (w : World) :
    Calls Tryz.prog 106 #[ordersV o.m01 o.m12 o.m02, .int .i64 i, .int .i64 j] w fun e w' => e = .returned (.int .i64 (o.m i j)) ∧ Below w.heap.size w w' := by
  unfold ordersV
  have hB : Below w.heap.size w (w.alloc (.cells #[.int .i64 o.m01, .int .i64 o.m12, .int .i64 o.m02] 23)) := (Below.refl _ _).alloc (Nat.le_refl _) _
  have HB := Lib.hid hB; clear hB
  go_enter Tryz.func106, Tryz.ntmps106
  obtain h | h | h : i + j = 1 ∨ i + j = 2 ∨ i + j = 3 := by omega
  · have h1 : (((i : Int) + j) == 1) = true := by rw [beq_iff_eq]; omega
    have h2 : o.m i j = o.m01 := by unfold Hy.Ord.m; rw [if_pos h]
    rw [h2]
    go_wp2_with fail
    go_ret
    exact ⟨rfl, HB.out⟩
  · have h1 : (((i : Int) + j) == 1) = false := by rw [beq_eq_false_iff_ne]; omega
    have h3 : (((i : Int) + j) == 3) = false := by rw [beq_eq_false_iff_ne]; omega
    have h2 : o.m i j = o.m02 := by unfold Hy.Ord.m; rw [if_neg (by omega), if_pos h]
    rw [h2]
    go_wp2_with fail
    go_ret
    exact ⟨rfl, HB.out⟩
  · have h1 : (((i : Int) + j) == 1) = false := by rw [beq_eq_false_iff_ne]; omega
    have h3 : (((i : Int) + j) == 3) = true := by rw [beq_iff_eq]; omega
    have h2 : o.m i j = o.m12 := by unfold Hy.Ord.m; rw [if_neg (by omega), if_neg (by omega)]
    rw [h2]
    go_wp2_with fail
    go_ret
    exact ⟨rfl, HB.out⟩

set_option maxRecDepth 100000 in
set_option maxHeartbeats 400000 in
theorem r03_CheckWord (l : List UInt8) (w : World) (hl : l.length ≤ 9223372036854775807) :
    Calls Tryz.prog 32 #[str l] w fun e w' => e = .returned (.int .i64 (Hy.wordErr l)) ∧ Below w.heap.size w w' := by
  unfold str
  go_enter Tryz.func32, Tryz.ntmps32
  go_wp2_with fail
  go_loop [3] (fun i => ∃ k : Nat, k ≤ l.length ∧ i = .int .i64 k ∧ Hid ((l.take k).any (2 < ·) = false)) (fun i => l.length - (intOf i).toNat)
  case atStart => exact ⟨0, Nat.zero_le _, rfl, rfl⟩
  case round =>
    obtain ⟨k, hk, rfl, HK⟩ := hrel
    by_cases hlt : k < l.length
    · have hix := run_index_str l k l[k] (List.getElem?_eq_getElem hlt)
      by_cases h2 : 2 < l[k]
      · have g : decide ((2 : Int) < (l[k].toNat : Int)) = true := by rw [decide_eq_true_iff]; exact_mod_cast (UInt8.lt_iff_toNat_lt.1 h2)
        go_wp2_with fail
        go_ret
        exact ⟨ret_int (Hy.wordErr_bad hlt h2).symm, Below.refl _ _⟩
      · have g : decide ((2 : Int) < (l[k].toNat : Int)) = false := by rw [decide_eq_false_iff_not]; intro h; exact h2 (UInt8.lt_iff_toNat_lt.2 (by exact_mod_cast h))
        have HK' := Lib.hid (Hy.any_take_succ hlt HK.out h2)
        clear h2
        go_wp2_with fail
        go_round
        case rel => exact ⟨k + 1, by omega, by go_num, HK'.out⟩
        case measure => simp [intOf]; omega
    · obtain rfl : k = l.length := by omega
      clear hk hlt hl
      have ha : l.any (2 < ·) = false := by have := HK.out; rwa [List.take_length] at this
      have HA := Lib.hid ha; clear ha HK
      have hd : decide ((l.length : Int) < (l.length : Int)) = false := by simp
      by_cases h60 : 60 < l.length
      · go_wp2_with fail
        go_ret
        exact ⟨ret_int (Hy.wordErr_long HA.out h60).symm, Below.refl _ _⟩
      · go_wp2_with fail
        go_ret
        exact ⟨ret_int (Hy.wordErr_ok HA.out (by omega)).symm, Below.refl _ _⟩

set_option maxHeartbeats 400000 in
theorem r03_divisor (a b : Nat) (w : World) (ha2 : a ≤ 100000) (hb2 : b ≤ 100000) :
    Calls Tryz.prog 169 #[.int .i64 a, .int .i64 b] w fun e w' => e = .returned (.int .i64 (Nat.gcd a b : Nat)) ∧ w = w' := by
  go_enter Tryz.func169, Tryz.ntmps169
  go_wp2
  go_loop [0, 1] (fun x y => ∃ (p q : Nat), x = .int .i64 p ∧ y = .int .i64 q ∧ Nat.gcd p q = Nat.gcd a b ∧ p ≤ 100000 ∧ q ≤ 100000) (fun _ y => (intOf y).toNat)
  case atStart => exact ⟨a, b, rfl, rfl, rfl, ha2, hb2⟩
  case round =>
    obtain ⟨p, q, rfl, rfl, hg, hp, hq⟩ := hrel
    have HG := Lib.hid hg; clear hg
    by_cases hz : q = 0
    · subst hz
      have h1 : (((0 : Nat) : Int) != 0) = false := rfl
      go_wp2
      go_ret
      exact ⟨ret_int (by rw [← HG.out, Nat.gcd_zero_right]), rfl⟩
    · have h1 : ((q : Int) != 0) = true := by rw [bne_iff_ne]; omega
      have h2 : ¬ ((q : Int) = 0) := by omega
      clear hz
      go_wp2
      go_round
      case rel => exact ⟨q, p % q, rfl, rfl, by rw [← HG.out, Nat.gcd_comm q, ← Nat.gcd_rec, Nat.gcd_comm], by omega, by have := Nat.mod_lt p (show 0 < q by omega); omega⟩
      case measure => simp [intOf]; have := Nat.mod_lt p (show 0 < q by omega); omega
end Go.Proofs.YtfdklmpkienfhaaGreat

/- The check of orders of the specification of layer 3, and words turned about. -/
namespace Go.Proofs.YtfdklmpkienfhaaGreat
set_option linter.unusedSimpArgs false
set_option linter.unusedVariables false
open Go.RowKit

/-- The sum of the angles, in parts of 27720. -/
def asum (L : List Int) (k : Nat) : Option Nat := (L.take k).foldl (fun s m => if Hy.badOrder m then none else s.map (· + 27720 / m.toNat)) (some 0)

theorem asum_succ {L : List Int} {k : Nat} {m : Int} (h : L[k]? = some m) : asum L (k + 1) = if Hy.badOrder m then none else (asum L k).map (· + 27720 / m.toNat) := by
  unfold asum
  obtain ⟨hk, rfl⟩ := List.getElem?_eq_some_iff.1 h
  rw [List.take_succ_eq_append_getElem hk, List.foldl_append]
  rfl

theorem asum_bound {L : List Int} : ∀ k, k ≤ L.length → ∀ s, asum L k = some s → s ≤ 27720 * k ∧ (∀ j (hj : j < k) m, L[j]? = some m → Hy.badOrder m = false) := by
  intro k
  induction k with
  | zero => intro _ s h; cases h; exact ⟨by omega, fun j hj => by omega⟩
  | succ k ih =>
    intro hk s h
    obtain ⟨m, hm⟩ : ∃ m, L[k]? = some m := ⟨L[k], List.getElem?_eq_getElem (by omega)⟩
    rw [asum_succ hm] at h
    cases hb : Hy.badOrder m with
    | true => rw [hb] at h; cases h
    | false =>
      rw [hb] at h
      cases hp : asum L k with
      | none => rw [hp] at h; cases h
      | some s' =>
        rw [hp] at h
        simp only [Bool.false_eq_true, if_false, Option.map_some, Option.some.injEq] at h
        obtain ⟨h1, h2⟩ := ih (by omega) s' hp
        have : 27720 / m.toNat ≤ 27720 := Nat.div_le_self _ _
        refine ⟨by omega, fun j hj m' hm' => ?_⟩
        by_cases hjk : j = k
        · subst hjk; cases hm.symm.trans hm'; exact hb
        · exact h2 j (by omega) m' hm'

theorem ordErr_asum_all : ∀ p : Nat, p < 13 → ∀ q : Nat, q < 13 → ∀ r : Nat, r < 13 →
    (match asum [(p : Int), (q : Int), (r : Int)] 3, Hy.pre [(p : Int), (q : Int), (r : Int)] 3 with
      | some s, some t => decide (Hy.ordErr p q r = if 27720 ≤ s then 1 else if 60 < t.1 then 4 else 0)
      | none, none => decide (Hy.ordErr p q r = 1)
      | _, _ => false) = true := by decide +kernel

theorem ordErr_bad {a b c : Int} {k : Nat} {m : Int} (h : [a, b, c][k]? = some m) (hb : Hy.badOrder m = true) : Hy.ordErr a b c = 1 := by
  rw [Hy.ordErr_pre, Hy.pre_bad rfl h hb]

theorem ordErr_asum {a b c : Int} {s : Nat} (h : asum [a, b, c] 3 = some s) : ∃ t, Hy.pre [a, b, c] 3 = some t ∧ Hy.ordErr a b c = if 27720 ≤ s then 1 else if 60 < t.1 then 4 else 0 := by
  obtain ⟨_, h2⟩ := asum_bound (L := [a, b, c]) 3 (by simp) s h
  obtain ⟨a1, _, a3⟩ := Hy.not_bad (h2 0 (by omega) a rfl)
  obtain ⟨b1, _, b3⟩ := Hy.not_bad (h2 1 (by omega) b rfl)
  obtain ⟨c1, _, c3⟩ := Hy.not_bad (h2 2 (by omega) c rfl)
  obtain ⟨p, rfl⟩ := Int.eq_ofNat_of_zero_le a1
  obtain ⟨q, rfl⟩ := Int.eq_ofNat_of_zero_le b1
  obtain ⟨r, rfl⟩ := Int.eq_ofNat_of_zero_le c1
  have := ordErr_asum_all p (by omega) q (by omega) r (by omega)
  rw [h] at this
  cases hp : Hy.pre [(p : Int), (q : Int), (r : Int)] 3 with
  | none => rw [hp] at this; cases this
  | some t =>
    rw [hp] at this
    exact ⟨t, rfl, by simpa using this⟩

set_option maxRecDepth 100000 in
set_option maxHeartbeats 1000000 in
theorem r03_Level (a b c : Int) (t : Nat × Nat × Nat) (ht : Hy.pre [a, b, c] 3 = some t) (w : World) :
    Calls Tryz.prog 149 #[ordersV a b c] w fun e w' => e = .returned (.int .i64 t.1) ∧ Below w.heap.size w w' := by
  have hgood : ∀ k, k < 3 → ∀ m, [a, b, c][k]? = some m → Hy.badOrder m = false := fun k hk m hm => by
    cases hb : Hy.badOrder m with
    | false => rfl
    | true => rw [Hy.pre_bad rfl hm hb] at ht; cases ht
  have HT := Lib.hid ht; clear ht
  have HG := Lib.hid hgood; clear hgood
  have hcell : ∀ k m, [a, b, c][k]? = some m → ((w.alloc (.cells #[.int .i64 a, .int .i64 b, .int .i64 c] 23)).alloc (.cells #[.int .i64 a, .int .i64 b, .int .i64 c] 3)).cell? ⟨w.heap.size + 1, k, none⟩ = some (.int .i64 m) := fun k m hm => by
    have h := cell_new (w.alloc (.cells #[.int .i64 a, .int .i64 b, .int .i64 c] 23)) #[.int .i64 a, .int .i64 b, .int .i64 c] 3 (0, 0) k
    rw [World.size_alloc] at h
    rw [h]
    have := congrArg (Option.map (Value.int .i64)) hm
    rw [← List.getElem?_map] at this
    simpa using this
  have HCELL := Lib.hid hcell; clear hcell
  unfold ordersV
  go_enter Tryz.func149, Tryz.ntmps149
  go_wp2_with fail
  obtain ⟨W0, hW0⟩ : ∃ W0, ((w.alloc (.cells #[.int .i64 a, .int .i64 b, .int .i64 c] 23)).alloc (.cells #[.int .i64 a, .int .i64 b, .int .i64 c] 3)) = W0 := ⟨_, rfl⟩
  rw [hW0]
  have hs0 : W0.heap.size = w.heap.size + 2 := by rw [← hW0]; simp
  have hB0 : Below w.heap.size w W0 := by rw [← hW0]; exact ((Below.refl _ _).alloc (Nat.le_refl _) _).alloc (by simp) _
  rw [hW0] at HCELL
  have HS0 := Lib.hid hs0; clear hs0
  have HB0 := Lib.hid hB0; clear hB0
  have HW0 := Lib.hid hW0; clear hW0
  go_loopw [3, 5] (fun lv i wr => ∃ (k l s al' : Nat), k ≤ 3 ∧ i = .int .i64 k ∧ lv = .int .i64 l ∧ Hid (Hy.pre [a, b, c] k = some (l, s, al')) ∧ Hid (Below W0.heap.size W0 wr)) (fun _ i _ => 3 - (intOf i).toNat)
  case atStart => exact ⟨0, 1, 0, 1, by omega, rfl, rfl, rfl, Below.refl _ _⟩
  case round =>
    obtain ⟨k, l, s, al, hk, rfl, rfl, HP, HB⟩ := hrel
    obtain ⟨hl1, hl2, hs2, ha1, ha2⟩ := Hy.pre_bound k hk (by simpa using hk) l s al HP.out
    by_cases hk3 : k = 3
    · subst hk3
      have h := HP.out.symm.trans HT.out
      have HH := Lib.hid h; clear h
      go_wp2_with fail
      go_ret
      have h := HH.out
      simp only [Option.some.injEq] at h
      subst h
      exact ⟨rfl, HB0.out.trans (HB.out.mono (by have := HS0.out; omega))⟩
    · have hlt : k < 3 := by omega
      obtain ⟨m, hm⟩ : ∃ m, [a, b, c][k]? = some m := ⟨[a, b, c][k], List.getElem?_eq_getElem (by simpa using hlt)⟩
      have hcell := ((bcell HB.out).1 (w.heap.size + 1) k (by have := HS0.out; omega)).trans (HCELL.out k m hm)
      have hsucc := Hy.pre_succ hm
      rw [HP.out, HG.out k hlt m hm] at hsucc
      obtain ⟨g1, g2, g4⟩ := Hy.not_bad (HG.out k hlt m hm)
      have HM := Lib.hid hm; clear hm
      obtain ⟨n, rfl⟩ := Int.eq_ofNat_of_zero_le g1
      simp only [Bool.false_eq_true, if_false, Option.map_some, Int.toNat_natCast] at hsucc
      clear g1 g2
      by_cases hn : 0 < n
      · have hg : 0 < Nat.gcd l n := Nat.gcd_pos_of_pos_right _ hn
        have hg2 : Nat.gcd l n ≤ l := Nat.le_of_dvd (by omega) (Nat.gcd_dvd_left _ _)
        have hq : l / Nat.gcd l n ≤ l := Nat.div_le_self _ _
        have hq2 : l / Nat.gcd l n * n ≤ 1728 * 12 := Nat.mul_le_mul (by omega) (by omega)
        have HS := Lib.hid hsucc; clear hsucc
        have HDIV := Lib.hid (fun W => (r03_divisor l n W (by omega) (by omega)).mono fun _ _ h => And.intro h.1 h.2.symm)
        go_wp2_with fail
        go_quiet (first | (go_at_call 169; exact Calls.quiet_of_same (HDIV.out _)))
        go_wp2_with fail
        go_roundw
        case rel =>
          refine ⟨k + 1, l / Nat.gcd l n * n, s * n + al, al * n, by omega, by go_num, ?_, ?_, ?_⟩
          · have e1 : (l : Int) / (Nat.gcd l n : Int) = ((l / Nat.gcd l n : Nat) : Int) := (Int.natCast_ediv _ _).symm
            rw [e1, wrap64_small (x := ((l / Nat.gcd l n : Nat) : Int)) (Int.natCast_nonneg _) (by omega), ← Int.natCast_mul, wrap64_small (x := ((l / Nat.gcd l n * n : Nat) : Int)) (Int.natCast_nonneg _) (by omega)]
          · have := HS.out
            unfold Hy.ordStep at this
            rw [if_pos hn] at this
            exact this
          · exact below_drewN HB.out _
        case measure => simp [intOf]; omega
      · obtain rfl : n = 0 := by omega
        have HS := Lib.hid hsucc; clear hsucc
        have g5 : decide ((0 : Int) < ((0 : Nat) : Int)) = false := rfl
        go_wp2_with fail
        go_roundw
        case rel =>
          refine ⟨k + 1, l, s, al, by omega, by go_num, rfl, ?_, HB⟩
          have := HS.out
          unfold Hy.ordStep at this
          rw [if_neg (by omega)] at this
          exact this
        case measure => simp [intOf]; omega
theorem wrapEq (x : Int) : IntKind.i64.wrap x = wrap64 x := by rw [IntKind.wrap_i64]; unfold wrap64; rfl
theorem wrap_add (a b : Nat) (h : a + b ≤ 1000000) : IntKind.i64.wrap ((a : Int) + (b : Int)) = ((a + b : Nat) : Int) := by
  rw [wrapEq, wrap64_small (by omega) (by omega)]; omega

set_option maxRecDepth 100000 in
set_option maxHeartbeats 1000000 in
theorem r03_Allowed (a b c : Int) (w : World) :
    Calls Tryz.prog 103 #[ordersV a b c] w fun e w' => e = .returned (.int .i64 (Hy.ordErr a b c)) ∧ Below w.heap.size w w' := by
  have hcell : ∀ k m, [a, b, c][k]? = some m → ((w.alloc (.cells #[.int .i64 a, .int .i64 b, .int .i64 c] 23)).alloc (.cells #[.int .i64 a, .int .i64 b, .int .i64 c] 3)).cell? ⟨w.heap.size + 1, k, none⟩ = some (.int .i64 m) := fun k m hm => by
    have h := cell_new (w.alloc (.cells #[.int .i64 a, .int .i64 b, .int .i64 c] 23)) #[.int .i64 a, .int .i64 b, .int .i64 c] 3 (0, 0) k
    rw [World.size_alloc] at h
    rw [h]
    have := congrArg (Option.map (Value.int .i64)) hm
    rw [← List.getElem?_map] at this
    simpa using this
  have HCELL := Lib.hid hcell; clear hcell
  have HLEV := Lib.hid (fun W t ht => r03_Level a b c t ht W)
  unfold ordersV at *
  go_enter Tryz.func103, Tryz.ntmps103
  go_wp2_with fail
  obtain ⟨W0, hW0⟩ : ∃ W0, ((w.alloc (.cells #[.int .i64 a, .int .i64 b, .int .i64 c] 23)).alloc (.cells #[.int .i64 a, .int .i64 b, .int .i64 c] 3)) = W0 := ⟨_, rfl⟩
  have hl0 : W0.heap[w.heap.size]? = some (.cells #[.int .i64 a, .int .i64 b, .int .i64 c] 23 (0, 0)) := by
    rw [← hW0]
    rw [heap_alloc_lt _ _ (by simp)]
    exact alloc_heap_new w _
  rw [hW0]
  have hs0 : W0.heap.size = w.heap.size + 2 := by rw [← hW0]; simp
  have hB0 : Below w.heap.size w W0 := by rw [← hW0]; exact ((Below.refl _ _).alloc (Nat.le_refl _) _).alloc (by simp) _
  rw [hW0] at HCELL
  have HS0 := Lib.hid hs0; clear hs0
  have HB0 := Lib.hid hB0; clear hB0
  have HW0 := Lib.hid hW0; clear hW0
  have c0 := (cell_of_heap (k := 0) hl0)
  have c1 := (cell_of_heap (k := 1) hl0)
  have c2 := (cell_of_heap (k := 2) hl0)
  simp at c0 c1 c2
  clear hl0
  go_loop [4, 5] (fun sm i => ∃ (k s : Nat), k ≤ 3 ∧ i = .int .i64 k ∧ sm = .int .i64 s ∧ Hid (asum [a, b, c] k = some s)) (fun _ i => 3 - (intOf i).toNat)
  case atStart => exact ⟨0, 0, by omega, rfl, rfl, rfl⟩
  case round =>
    obtain ⟨k, s, hk, rfl, rfl, HP⟩ := hrel
    obtain ⟨hs2, _⟩ := asum_bound (L := [a, b, c]) k (by simpa using hk) s HP.out
    have hs3 : s ≤ 83160 := by omega
    clear hs2
    by_cases hk3 : k = 3
    · subst hk3
      obtain ⟨⟨lv, sm, al⟩, ht, hfin⟩ := ordErr_asum HP.out
      obtain ⟨⟨hl1, hl2⟩, _⟩ : (1 ≤ lv ∧ lv ≤ 1728) ∧ True := ⟨⟨(Hy.pre_bound (L := [a, b, c]) 3 (by omega) (by simp) lv sm al ht).1, (Hy.pre_bound (L := [a, b, c]) 3 (by omega) (by simp) lv sm al ht).2.1⟩, trivial⟩
      simp only at hfin
      have HT := Lib.hid ht; clear ht
      by_cases h1 : 27720 ≤ s
      · rw [if_pos h1] at hfin
        have HF := Lib.hid hfin; clear hfin
        have g1 : decide ((27720 : Int) ≤ (s : Int)) = true := by rw [decide_eq_true_iff]; omega
        clear h1 hs3
        go_wp2_with fail
        go_ret
        exact ⟨ret_int HF.out.symm, HB0.out⟩
      · rw [if_neg h1] at hfin
        have g1 : decide ((27720 : Int) ≤ (s : Int)) = false := by rw [decide_eq_false_iff_not]; omega
        clear h1 hs3
        by_cases h2 : 60 < lv
        · rw [if_pos h2] at hfin
          have HF := Lib.hid hfin; clear hfin
          go_wp2_with fail
          refine (HLEV.out _ (lv, sm, al) HT.out).mono ?_
          rintro e w2 ⟨rfl, hB2⟩
          have HB2 := Lib.hid hB2; clear hB2
          go_wp2_with fail
          go_ret
          exact ⟨ret_int HF.out.symm, HB0.out.trans (HB2.out.mono (by have := HS0.out; omega))⟩
        · rw [if_neg h2] at hfin
          have h2' : lv ≤ 60 := by omega
          have HF := Lib.hid hfin; clear hfin
          go_wp2_with fail
          refine (HLEV.out _ (lv, sm, al) HT.out).mono ?_
          rintro e w2 ⟨rfl, hB2⟩
          have HB2 := Lib.hid hB2; clear hB2
          go_wp2_with fail
          go_ret
          exact ⟨ret_int HF.out.symm, HB0.out.trans (HB2.out.mono (by have := HS0.out; omega))⟩
    · have hlt : k < 3 := by omega
      obtain ⟨m, hm⟩ : ∃ m, [a, b, c][k]? = some m := ⟨[a, b, c][k], List.getElem?_eq_getElem (by simpa using hlt)⟩
      have hcell := HCELL.out k m hm
      have hsucc := asum_succ hm
      rw [HP.out] at hsucc
      cases hbad : Hy.badOrder m with
      | true =>
        have HF := Lib.hid (ordErr_bad hm hbad)
        have HM := Lib.hid hm; clear hm hsucc
        simp [Hy.badOrder] at hbad
        have g0 : (m != 0) = true := by rw [bne_iff_ne]; omega
        by_cases g1 : m < 2
        · clear hbad
          go_wp2_with fail
          go_ret
          exact ⟨ret_int HF.out.symm, HB0.out⟩
        · have g2 : 12 < m := by omega
          clear hbad
          go_wp2_with fail
          go_ret
          exact ⟨ret_int HF.out.symm, HB0.out⟩
      | false =>
        rw [hbad] at hsucc
        obtain ⟨g1, g2, g4⟩ := Hy.not_bad hbad
        have HM := Lib.hid hm; clear hm
        clear hbad
        obtain ⟨n, rfl⟩ := Int.eq_ofNat_of_zero_le g1
        simp only [Bool.false_eq_true, if_false, Option.map_some, Int.toNat_natCast] at hsucc
        have HS := Lib.hid hsucc; clear hsucc
        by_cases hn : 0 < n
        · have g0 : ((n : Int) != 0) = true := by rw [bne_iff_ne]; omega
          have g3 : ¬ ((n : Int) < 2) := by omega
          have g5 : ¬ ((12 : Int) < n) := by omega
          have g6 : ¬ ((n : Int) = 0) := by omega
          have hq : 27720 / n ≤ 27720 := Nat.div_le_self _ _
          have e1 : (27720 : Int) / (n : Int) = ((27720 / n : Nat) : Int) := (Int.natCast_ediv _ _).symm
          have e2 : IntKind.i64.wrap ((s : Int) + 27720 / (n : Int)) = ((s + 27720 / n : Nat) : Int) := by
            rw [e1]
            exact wrap_add s (27720 / n) (by omega)
          clear g1 g2 e1
          go_wp2_with fail
          go_round
          case rel => exact ⟨k + 1, s + 27720 / n, by omega, by go_num, by go_num, HS⟩
          case measure => simp [intOf]; omega
        · obtain rfl : n = 0 := by omega
          have g0 : (((0 : Nat) : Int) != 0) = false := rfl
          clear g1 g2 g4
          go_wp2_with fail
          go_round
          case rel => exact ⟨k + 1, s, by omega, by go_num, rfl, by simpa using HS⟩
          case measure => simp [intOf]; omega

theorem slice_one (l : List UInt8) (k : Nat) (hk : k < l.length) : (⟨l.toArray⟩ : ByteArray).extract k (k + 1) = ⟨[l[k]].toArray⟩ := by
  apply ByteArray.ext
  simp
  cases h : l.drop k with
  | nil => rw [List.drop_eq_nil_iff] at h; omega
  | cons x r =>
    rw [List.drop_eq_getElem_cons hk] at h
    cases h
    rfl
end Go.Proofs.YtfdklmpkienfhaaGreat

