/- The reference's products and sums of polynomials. -/
import Derived.Test.YtdckpjagmbdkgaaS42
namespace Go.Proofs.Ytdckpjagmbdkgaa
set_option linter.unusedSimpArgs false
set_option linter.unusedVariables false
open Go.RowKit
open HySer (addAt timesGo ptimes pplus ones length_addAt length_timesGo length_ptimes)

set_option maxRecDepth 100000 in
set_option maxHeartbeats 2000000 in
theorem r04_Times {w : World} {va vb : Value} {a b : List Int} (ha : PR .i64 w va a) (hb : PR .i64 w vb b) (hla : a.length ≤ 100000) (hlb : b.length ≤ 100000) (h0a : 0 < a.length) (h0b : 0 < b.length) :
    Calls Try.prog 55 #[va, vb] w (NewI (ptimes a b) w) := by
  obtain ⟨ga, oa, ca, rfl, hcapa, hga, hcella⟩ := ha
  obtain ⟨gb, ob, cb, rfl, hcapb, hgb, hcellb⟩ := hb
  obtain ⟨n, hn⟩ : ∃ n, n = a.length + b.length - 1 := ⟨_, rfl⟩
  have hmk := make_ints w n (by omega)
  have hni : (a.length : Int) + (b.length : Int) - 1 = (n : Int) := by omega
  have HN := Lib.hid hn
  have H0 := Lib.hid (Own1.make w n (by omega))
  have HA := Lib.hid hcella
  have HBB := Lib.hid hcellb
  clear hcella hcellb hn
  go_enter Try.func55, Try.ntmps55
  go_wp2_with fail
  clear hmk
  generalize w.alloc (.cells (Array.replicate n (.int .i64 0)) 3) = W1 at *
  go_loopw [6] (fun i wr => ∃ k : Nat, i = .int .i64 k ∧ k ≤ a.length ∧ Hid (Own1 w wr w.heap.size (.slice (some ⟨w.heap.size, 0, none⟩) n n) (timesGo a b k))) (fun i _ => a.length - (intOf i).toNat)
  case atStart => exact ⟨0, rfl, Nat.zero_le _, Lib.hid (by have h := H0.out; rw [HN.out] at h ⊢; exact h)⟩
  case round =>
    clear H0
    obtain ⟨k, rfl, hk, HO⟩ := hrel
    by_cases hlt : k < a.length
    · have r1 := (HO.out.read (o := oa + k) hga).trans (HA.out k hlt)
      have hki : (k : Int) < (a.length : Int) := by omega
      obtain ⟨x, hx⟩ : ∃ x, x = a.getD k 0 := ⟨_, rfl⟩
      rw [← hx] at r1
      have HX := Lib.hid hx
      clear hx
      go_wp2_with fail
      obtain ⟨wo, hwo⟩ : ∃ wo : World, wo = wr := ⟨_, rfl⟩
      have HWO := Lib.hid hwo; clear hwo
      go_loopw [7] (fun i wq => ∃ j : Nat, i = .int .i64 j ∧ j ≤ b.length ∧ Hid (Own1 w wq w.heap.size (.slice (some ⟨w.heap.size, 0, none⟩) n n) (addAt (timesGo a b k) k x b j))) (fun i _ => b.length - (intOf i).toNat)
      case atStart => exact ⟨0, rfl, Nat.zero_le _, HO⟩
      case round =>
        clear HO r1
        obtain ⟨j, rfl, hj, HQ⟩ := hrel
        have r1 := (HQ.out.read (o := oa + k) hga).trans (HA.out k hlt)
        rw [← HX.out] at r1
        by_cases hjl : j < b.length
        · obtain ⟨-, hc, hf⟩ := HQ.out.q.at
          have hlen : (timesGo a b k).length = n := by rw [length_timesGo]; exact HN.out.symm
          have hkj : k + j < n := by have := HN.out; omega
          have c1 := hc (k + j) (by rw [length_addAt, hlen]; exact hkj)
          have f1 := hf (k + j) (by rw [length_addAt, hlen]; exact hkj)
          have r2 := (HQ.out.read (o := ob + j) hgb).trans (HBB.out j hjl)
          rw [Nat.zero_add] at c1 f1
          have hji : (j : Int) < (b.length : Int) := by omega
          obtain ⟨q, hq⟩ : ∃ q, q = k + j := ⟨_, rfl⟩
          have hqi : (k : Int) + (j : Int) = (q : Int) := by omega
          have hqn : (q : Int) < (n : Int) := by omega
          rw [← hq] at c1 f1
          have HQE := Lib.hid hq
          obtain ⟨cur, hcur⟩ : ∃ cur, cur = (addAt (timesGo a b k) k x b j).getD q 0 := ⟨_, rfl⟩
          rw [← hcur] at c1
          have HCU := Lib.hid hcur
          obtain ⟨y, hy⟩ : ∃ y, y = b.getD j 0 := ⟨_, rfl⟩
          rw [← hy] at r2
          have HY := Lib.hid hy
          have HKJ := Lib.hid hkj
          have HLN := Lib.hid hlen
          have HS := Lib.hid (show Own1 w (wr.setCell ⟨w.heap.size, q, none⟩ (.int .i64 (wrap64 (cur + wrap64 (x * y))))) w.heap.size (.slice (some ⟨w.heap.size, 0, none⟩) n n) (addAt (timesGo a b k) k x b (j + 1)) from HQ.out.addAt (by rw [HLN.out]; exact HKJ.out) (by rw [HCU.out, HY.out, HQE.out]) (by rw [HQE.out]; omega))
          clear hc hf hcur hy hq hkj hlen HQ
          go_wp2_with fail
          go_region
          all_goals go_wp2_with fail
          all_goals go_roundw
          case rel => exact ⟨j + 1, by go_num, by omega, Lib.hid HS.out.drew⟩
          case measure => simp [intOf]; omega
        · obtain rfl : j = b.length := by omega
          clear hjl hj
          go_wp2_with fail
          go_roundw
          case rel => exact ⟨k + 1, by go_num, by omega, Lib.hid (by rw [timesGo_succ, ← HX.out]; exact HQ.out)⟩
          case measure => simp [intOf]; omega
    · obtain rfl : k = a.length := by omega
      clear hlt hk
      go_wp2_with fail
      go_ret
      exact HO.out.new

theorem take_set {a : List Int} {i : Nat} (hi : i < a.length) : (a.take i ++ List.replicate (a.length - i) 0).set i (a.getD i 0) = a.take (i + 1) ++ List.replicate (a.length - (i + 1)) 0 := by
  have hl : (a.take i).length = i := by simp; omega
  rw [List.set_append_right _ _ (by rw [hl]; exact Nat.le_refl _), hl, Nat.sub_self, show a.length - i = (a.length - (i + 1)) + 1 from by omega, List.replicate_succ, List.set_cons_zero, List.take_succ_eq_append_getElem hi, List.append_assoc]
  congr 1
  simp [List.getD, List.getElem?_eq_getElem hi]
theorem take_at {a : List Int} {i : Nat} (hi : i < a.length) : (a.take i ++ List.replicate (a.length - i) 0).getD i 0 = 0 := by
  have hl : (a.take i).length = i := by simp; omega
  rw [List.getD, List.getElem?_append_right (by rw [hl]; exact Nat.le_refl _), hl, Nat.sub_self, show a.length - i = (a.length - (i + 1)) + 1 from by omega, List.replicate_succ]
  rfl
theorem wrap64_own {x : Int} (h : HySer.Ok64 x) : wrap64 x = x := by
  unfold HySer.Ok64 at h
  unfold wrap64
  omega

set_option maxRecDepth 100000 in
set_option maxHeartbeats 2000000 in
theorem r04_plus {w : World} {va vb : Value} {a b : List Int} (ha : PR .i64 w va a) (hb : PR .i64 w vb b) (hla : a.length ≤ 100000) (hab : b.length ≤ a.length) (hok : HySer.AllOk a) (k : Int) :
    Calls Try.prog 57 #[va, vb, .int .i64 k] w (NewI (pplus a b k) w) := by
  rw [pplus_le k hab]
  obtain ⟨ga, oa, ca, rfl, hcapa, hga, hcella⟩ := ha
  obtain ⟨gb, ob, cb, rfl, hcapb, hgb, hcellb⟩ := hb
  have hmk := make_ints w a.length (by omega)
  have habi : (b.length : Int) ≤ (a.length : Int) := by omega
  have HA := Lib.hid hcella
  have HBB := Lib.hid hcellb
  have HOK := Lib.hid hok
  have H0 := Lib.hid (Own1.make w a.length (by omega))
  clear hcella hcellb hok
  go_enter Try.func57, Try.ntmps57
  go_wp2_with fail
  clear hmk
  generalize w.alloc (.cells (Array.replicate a.length (.int .i64 0)) 3) = W1 at *
  go_loopw [8] (fun i wr => ∃ j : Nat, i = .int .i64 j ∧ j ≤ a.length ∧ Hid (Own1 w wr w.heap.size (.slice (some ⟨w.heap.size, 0, none⟩) a.length a.length) (a.take j ++ List.replicate (a.length - j) 0))) (fun i _ => a.length - (intOf i).toNat)
  case atStart => exact ⟨0, rfl, Nat.zero_le _, Lib.hid (by have h := H0.out; simpa using h)⟩
  case round =>
    clear H0
    obtain ⟨j, rfl, hj, HO⟩ := hrel
    by_cases hlt : j < a.length
    · obtain ⟨-, hc, hf⟩ := HO.out.q.at
      have hlen : (a.take j ++ List.replicate (a.length - j) 0).length = a.length := by simp; omega
      have c1 := hc j (by rw [hlen]; exact hlt)
      have f1 := hf j (by rw [hlen]; exact hlt)
      have r1 := (HO.out.read (o := oa + j) hga).trans (HA.out j hlt)
      rw [take_at hlt] at c1
      have hs := HO.out.set (j := j) (by rw [hlen]; exact hlt) (a.getD j 0)
      rw [take_set hlt] at hs
      rw [Nat.zero_add] at c1 f1 hs
      have hw := wrap64_own (HOK.out.getD j)
      have hw2 : wrap64 (0 + a.getD j 0) = a.getD j 0 := by rw [Int.zero_add]; exact hw
      have hji : (j : Int) < (a.length : Int) := by omega
      generalize a.getD j 0 = x at r1 hs hw hw2
      have HS := Lib.hid hs
      clear hc hf hlen hs HO
      go_wp2_with fail
      go_region
      all_goals go_wp2_with fail
      all_goals go_roundw
      case rel => exact ⟨j + 1, by go_num, by omega, Lib.hid HS.out.drew⟩
      case measure => simp [intOf]; omega
    · obtain rfl : j = a.length := by omega
      have H1 := Lib.hid (show Own1 w wr w.heap.size (.slice (some ⟨w.heap.size, 0, none⟩) a.length a.length) (addAt a 0 k b 0) from by
        have h := HO.out
        rw [List.take_of_length_le (Nat.le_refl _), Nat.sub_self, List.replicate_zero, List.append_nil] at h
        exact h)
      clear HO hlt hj
      go_wp2_with fail
      go_loopw [9] (fun i wr => ∃ j : Nat, i = .int .i64 j ∧ j ≤ b.length ∧ Hid (Own1 w wr w.heap.size (.slice (some ⟨w.heap.size, 0, none⟩) a.length a.length) (addAt a 0 k b j))) (fun i _ => b.length - (intOf i).toNat)
      case atStart => exact ⟨0, rfl, Nat.zero_le _, H1⟩
      case round =>
        clear H1
        obtain ⟨j, rfl, hj, HO⟩ := hrel
        by_cases hlt : j < b.length
        · obtain ⟨-, hc, hf⟩ := HO.out.q.at
          have c1 := hc j (by rw [length_addAt]; omega)
          have f1 := hf j (by rw [length_addAt]; omega)
          have r1 := (HO.out.read (o := ob + j) hgb).trans (HBB.out j hlt)
          rw [Nat.zero_add] at c1 f1
          have hji : (j : Int) < (b.length : Int) := by omega
          have hja : (j : Int) < (a.length : Int) := by omega
          obtain ⟨cur, hcur⟩ : ∃ cur, cur = (addAt a 0 k b j).getD j 0 := ⟨_, rfl⟩
          rw [← hcur] at c1
          obtain ⟨y, hy⟩ : ∃ y, y = b.getD j 0 := ⟨_, rfl⟩
          rw [← hy] at r1
          have HS := Lib.hid (show Own1 w (wr.setCell ⟨w.heap.size, j, none⟩ (.int .i64 (wrap64 (cur + wrap64 (k * y))))) w.heap.size (.slice (some ⟨w.heap.size, 0, none⟩) a.length a.length) (addAt a 0 k b (j + 1)) from HO.out.addAt (by omega) (by rw [hcur, hy, Nat.zero_add]) (by omega))
          clear hc hf hcur hy HO
          go_wp2_with fail
          go_region
          all_goals go_wp2_with fail
          all_goals go_roundw
          case rel => exact ⟨j + 1, by go_num, by omega, Lib.hid HS.out.drew⟩
          case measure => simp [intOf]; omega
        · obtain rfl : j = b.length := by omega
          clear hlt hj
          go_wp2_with fail
          go_ret
          exact HO.out.new
end Go.Proofs.Ytdckpjagmbdkgaa
