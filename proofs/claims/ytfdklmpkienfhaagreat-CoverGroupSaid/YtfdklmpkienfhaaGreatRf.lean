/- The specification of layer 12: points, words that lead, what is met, holds, check, lead, lowest terms, Euler. -/
import Derived.Test.YtfdklmpkienfhaaGreatK9
import Derived.Test.YtfdklmpkienfhaaGreatIso
import Derived.BigRegion
import Derived.Test.YtfdklmpkienfhaaGreatK6
import Derived.Handy
import Derived.Test.YtfdklmpkienfhaaGreatK14

/- The specification of layer 12: the shape of lists, words that lead. -/
namespace Go.Proofs.YtfdklmpkienfhaaGreat
set_option linter.unusedSimpArgs false
set_option linter.unusedVariables false
open Go.RowKit

set_option maxRecDepth 100000 in
set_option maxHeartbeats 2000000 in
theorem r12_Points (V : Nat → Value) (A : Nat → List Int) (w : World) (hA : AR w.heap.size w V A) (hlen : ∀ i, i < 3 → (A i).length ≤ 1000000000) :
    Calls Tryz.prog 104 #[actV V] w fun e w' => ((Shaped A ∧ e = .returned (.int .i64 ((A 0).length : Nat))) ∨ (¬ Shaped A ∧ e = .returned (.int .i64 (-1)))) ∧ Below w.heap.size w w' := by
  obtain ⟨a0, c0, hv0, _⟩ := hA 0 (by omega)
  have q0 := alloc_heap_new w (.cells #[V 0, V 1, V 2] 27)
  have HQ0 := Lib.hid q0
  have HB0 := Lib.hid ((Below.refl w.heap.size w).alloc (Nat.le_refl _) (.cells #[V 0, V 1, V 2] 27))
  have HA := Lib.hid hA
  have hl0 := hlen 0 (by omega)
  have HLEN := Lib.hid hlen
  obtain ⟨n, hn⟩ : ∃ n, n = (A 0).length := ⟨_, rfl⟩
  rw [← hn] at hl0 hv0 ⊢
  have HN := Lib.hid hn
  have HV0 := Lib.hid hv0
  clear q0 hA hlen hv0 hn
  unfold actV
  go_enter Tryz.func104, Tryz.ntmps104
  go_upto_region 1 with fail
  generalize w.alloc (.cells #[V 0, V 1, V 2] 27) = W0 at *
  have k0 := box_at HQ0.out (i := 0) (by omega)
  rw [HV0.out] at k0
  by_cases g0 : n < 1
  · have g0i : (n : Int) < 1 := by omega
    go_wp2_with fail
    go_ret
    exact ⟨.inr ⟨fun h => by have := h.1.1; have := HN.out; omega, rfl⟩, HB0.out⟩
  · have g0i : ¬ (n : Int) < 1 := by omega
    by_cases g1 : 200 < n
    · have g1i : (200 : Int) < (n : Int) := by omega
      go_wp2_with fail
      go_ret
      exact ⟨.inr ⟨fun h => by have := h.1.2.1; have := HN.out; omega, rfl⟩, HB0.out⟩
    · have g1i : ¬ (200 : Int) < (n : Int) := by omega
      go_wp2_with fail
      clear k0
      go_loopw [4] (fun iv wr => ∃ i : Nat, iv = .int .i64 i ∧ i ≤ 3 ∧ W0 = wr ∧ Hid (∀ i', i' < i → (A i').length = n ∧ ∀ k, k < n → 0 ≤ (A i').getD k 0 ∧ (A i').getD k 0 < (n : Int))) (fun iv _ => 3 - (intOf iv).toNat)
      case atStart => exact ⟨0, rfl, Nat.zero_le _, rfl, Lib.hid (fun i' h => by omega)⟩
      case round =>
        obtain ⟨i, rfl, hi, rfl, HP⟩ := hrel
        by_cases hi3 : i < 3
        · have hii : (i : Int) < 3 := by omega
          obtain ⟨ai, ci, hvi, hci, hcell⟩ := HA.out i hi3
          obtain ⟨m, hm⟩ : ∃ m, m = (A i).length := ⟨_, rfl⟩
          have hml : m ≤ 1000000000 := by rw [hm]; exact HLEN.out i hi3
          rw [← hm] at hvi hcell
          have ki := box_at HQ0.out hi3
          rw [hvi] at ki
          have HC := Lib.hid hcell
          have HM := Lib.hid hm
          clear hcell hvi hm
          by_cases hmn : m = n
          · have hne : ((m : Int) != (n : Int)) = false := by rw [hmn]; simp
            subst hmn
            go_wp2_with fail
            go_loopw [5] (fun kv wr => ∃ k : Nat, kv = .int .i64 k ∧ k ≤ m ∧ W0 = wr ∧ Hid (∀ j, j < k → 0 ≤ (A i).getD j 0 ∧ (A i).getD j 0 < (m : Int))) (fun kv _ => m - (intOf kv).toNat)
            case atStart => exact ⟨0, rfl, Nat.zero_le _, rfl, Lib.hid (fun j h => by omega)⟩
            case round =>
              obtain ⟨k, rfl, hk, rfl, HQ⟩ := hrel
              by_cases hkn : k < m
              · have hki : (k : Int) < (m : Int) := by omega
                obtain ⟨g, off, rfl, hg, hc⟩ := HC.out k hkn
                have ck := (HB0.out.cell (p := ⟨g, off + k, none⟩) hg).trans hc
                obtain ⟨x, hx⟩ : ∃ x, x = (A i).getD k 0 := ⟨_, rfl⟩
                rw [← hx] at ck
                have HX2 := Lib.hid hx
                clear hc hx
                by_cases h0 : x < 0
                · go_wp2_with fail
                  go_ret
                  exact ⟨.inr ⟨fun h => by have := (h.2 i hi3 k (by rw [← HM.out]; exact hkn)).1; rw [← HX2.out] at this; omega, rfl⟩, HB0.out⟩
                · by_cases h1 : (m : Int) ≤ x
                  · go_wp2_with fail
                    go_ret
                    exact ⟨.inr ⟨fun h => by have := (h.2 i hi3 k (by rw [← HM.out]; exact hkn)).2; rw [← HX2.out, ← HN.out] at this; omega, rfl⟩, HB0.out⟩
                  · go_wp2_with fail
                    go_roundw
                    case rel => exact ⟨k + 1, by go_num, by omega, trivial, Lib.hid (fun j hj => by
                      rcases Nat.lt_or_ge j k with h | h
                      · exact HQ.out j h
                      · obtain rfl : j = k := by omega
                        rw [← HX2.out]; exact ⟨by omega, by omega⟩)⟩
                    case measure => simp [intOf]; omega
              · obtain rfl : k = m := by omega
                have hki : ¬ (k : Int) < (k : Int) := by omega
                go_wp2_with fail
                go_roundw
                case rel => exact ⟨i + 1, by go_num, by omega, trivial, Lib.hid (fun i' hi' => by
                  rcases Nat.lt_or_ge i' i with h | h
                  · exact HP.out i' h
                  · obtain rfl : i' = i := by omega
                    exact ⟨HM.out.symm, HQ.out⟩)⟩
                case measure => simp [intOf]; omega
          · have hne : ((m : Int) != (n : Int)) = true := by rw [bne_iff_ne]; omega
            go_wp2_with fail
            go_ret
            refine ⟨.inr ⟨fun h => hmn ?_, rfl⟩, HB0.out⟩
            rw [HM.out, HN.out]
            exact h.len hi3
        · obtain rfl : i = 3 := by omega
          have hii : ¬ ((3 : Nat) : Int) < 3 := by omega
          go_wp2_with fail
          go_ret
          refine ⟨.inl ⟨⟨⟨by rw [← HN.out]; omega, by rw [← HN.out]; omega, by rw [← HN.out]; exact (HP.out 1 (by omega)).1, by rw [← HN.out]; exact (HP.out 2 (by omega)).1⟩, fun i hi k hk => ?_⟩, rfl⟩, HB0.out⟩
          obtain ⟨h1, h2⟩ := HP.out i hi
          rw [← HN.out]
          exact h2 k (by omega)

set_option maxRecDepth 100000 in
set_option maxHeartbeats 2000000 in
/-- The point to which a word leads. -/
theorem r12_Led (V : Nat → Value) (A : Nat → List Int) (x : Nat) (l : List UInt8) (w : World) (hA : AR w.heap.size w V A) (hs : Shaped A) (hx : x < (A 0).length) (hl : ∀ c ∈ l, c.toNat < 3) (hll : l.length ≤ 1000000000) :
    Calls Tryz.prog 150 #[actV V, .int .i64 x, str l] w fun e w' => e = .returned (.int .i64 (Cov.ledP (letters A) x l : Nat)) ∧ Below w.heap.size w w' := by
  have q0 := alloc_heap_new w (.cells #[V 0, V 1, V 2] 27)
  have HQ0 := Lib.hid q0
  have HB0 := Lib.hid ((Below.refl w.heap.size w).alloc (Nat.le_refl _) (.cells #[V 0, V 1, V 2] 27))
  have HA := Lib.hid hA
  have HSH := Lib.hid hs
  have HLT := Lib.hid hl
  obtain ⟨n, hn⟩ : ∃ n, n = (A 0).length := ⟨_, rfl⟩
  have hn200 : n ≤ 200 := by rw [hn]; exact hs.1.2.1
  rw [← hn] at hx
  have HN := Lib.hid hn
  have HX := Lib.hid hx
  obtain ⟨f, hf⟩ : ∃ f, f = letters A := ⟨_, rfl⟩
  rw [← hf]
  have HF := Lib.hid hf
  have HIN := Lib.hid (show Cov.Into f n from by rw [hf, hn]; exact hs.into)
  clear q0 hA hs hl hn hf hx
  unfold actV str
  go_enter Tryz.func150, Tryz.ntmps150
  go_upto_region 1 with fail
  generalize w.alloc (.cells #[V 0, V 1, V 2] 27) = W0 at *
  go_wp2_with fail
  go_loopw [7, 1] (fun kv pv wr => ∃ k : Nat, kv = .int .i64 k ∧ pv = .int .i64 ((Cov.ledP f x (l.take k) : Nat) : Int) ∧ k ≤ l.length ∧ W0 = wr) (fun kv _ _ => l.length - (intOf kv).toNat)
  case atStart => exact ⟨0, rfl, by simp [Cov.ledP], Nat.zero_le _, rfl⟩
  case round =>
    obtain ⟨k, rfl, rfl, hk, rfl⟩ := hrel
    obtain ⟨y, hy⟩ : ∃ y, y = Cov.ledP f x (l.take k) := ⟨_, rfl⟩
    rw [← hy]
    by_cases hkl : k < l.length
    · have hki : (k : Int) < (l.length : Int) := by omega
      obtain ⟨i, hi⟩ : ∃ i : Nat, i = l[k].toNat := ⟨_, rfl⟩
      have hi3 : i < 3 := by rw [hi]; exact HLT.out _ (List.getElem_mem hkl)
      have hii : (i : Int) < 3 := by omega
      have hyn : y < n := by rw [hy]; exact Cov.ledP_lt HIN.out _ (fun c hc => HLT.out c (List.mem_of_mem_take hc)) HX.out
      have hyi : (y : Int) < (n : Int) := by omega
      obtain ⟨ai, ci, hvi, hci, hcell⟩ := HA.out i hi3
      have hli : (A i).length = n := by rw [HSH.out.len hi3]; exact HN.out.symm
      rw [hli] at hvi hcell
      obtain ⟨g, off, rfl, hg, hc⟩ := hcell y hyn
      have m1 := box_at HQ0.out hi3
      rw [hvi] at m1
      have m2 := (HB0.out.cell (p := ⟨g, off + y, none⟩) hg).trans hc
      rw [HSH.out.at hi3 (by rw [← HN.out]; exact hyn), ← HF.out] at m2
      have HY := Lib.hid (And.intro hy hi)
      have hix := fun W => run_index_str l k l[k] (List.getElem?_eq_getElem hkl) W
      rw [← hi] at hix
      have hw64 : wrap64 (i : Int) = (i : Int) := wrap64_small (by omega) (by omega)
      clear hy hvi hcell hc hg hci hi
      go_wp2_with fail
      go_roundw
      case rel => exact ⟨k + 1, by go_num, by rw [Cov.ledP_snoc _ _ _ k hkl, ← HY.out.1, ← HY.out.2], hkl, trivial⟩
      case measure => simp [intOf]; omega
    · obtain rfl : k = l.length := by omega
      have hki : ¬ (l.length : Int) < (l.length : Int) := by omega
      rw [List.take_length] at hy
      have HY := Lib.hid hy
      clear hy
      go_wp2_with fail
      go_ret
      exact ⟨by rw [HY.out]; rfl, HB0.out⟩
end Go.Proofs.YtfdklmpkienfhaaGreat

/- The specification of layer 12: rows of two letters, the conditions of an action. -/
namespace Cov
set_option linter.unusedSimpArgs false
set_option linter.unusedVariables false
/-- The word i j, m times. -/
def rowL (i j : Nat) : Nat → List UInt8
  | 0 => []
  | m + 1 => rowL i j m ++ [UInt8.ofNat i, UInt8.ofNat j]
theorem rowL_len (i j : Nat) : ∀ m, (rowL i j m).length = 2 * m
  | 0 => rfl
  | m + 1 => by rw [rowL, List.length_append, rowL_len i j m]; simp; omega
theorem rowL_mem {i j : Nat} (hi : i < 3) (hj : j < 3) : ∀ m, ∀ c ∈ rowL i j m, c.toNat < 3
  | 0, c, h => by simp [rowL] at h
  | m + 1, c, h => by
    rw [rowL] at h
    rcases List.mem_append.1 h with h | h
    · exact rowL_mem hi hj m c h
    · simp at h
      rcases h with rfl | rfl
      · simp; omega
      · simp; omega
theorem ledP_row {f : Fn} {i j : Nat} (hi : i < 3) (hj : j < 3) (x : Nat) : ∀ m, ledP f x (rowL i j m) = rounds f i j m x
  | 0 => rfl
  | m + 1 => by
    rw [rowL, ledP_append, ledP_row hi hj x m, rounds_succ]
    have h1 : (UInt8.ofNat i).toNat = i := by simp; omega
    have h2 : (UInt8.ofNat j).toNat = j := by simp; omega
    show f (UInt8.ofNat j).toNat (f (UInt8.ofNat i).toNat (rounds f i j m x)) = _
    rw [h1, h2]
end Cov
namespace Go.Proofs.YtfdklmpkienfhaaGreat
set_option linter.unusedSimpArgs false
set_option linter.unusedVariables false
open Go.RowKit

theorem run_add_str {P : Program} (a b : List UInt8) (h : a.length + b.length ≤ 1000000) (w : World) : (Op.stringOp .add ⟨a.toArray⟩ ⟨b.toArray⟩).run P w = .ok (.string ⟨(a ++ b).toArray⟩) w := by
  have h2 : IntKind.i64.max = 2 ^ 63 - 1 := rfl
  rw [← bytes_add]
  simp only [Op.stringOp, ByteArray.size, List.size_toArray, h2]
  rw [if_neg (by simp; omega)]
  rfl

set_option maxRecDepth 100000 in
set_option maxHeartbeats 2000000 in
theorem r12_row (i j m : Nat) (hi : i < 3) (hj : j < 3) (hm : m ≤ 100) (w : World) :
    Calls Tryz.prog 151 #[.int .i64 i, .int .i64 j, .int .i64 m] w fun e w' => e = .returned (str (Cov.rowL i j m)) ∧ Below w.heap.size w w' := by
  unfold str
  go_enter Tryz.func151, Tryz.ntmps151
  go_wp2_with fail
  go_loopw [8, 7] (fun kv sv wr => ∃ k : Nat, kv = .int .i64 k ∧ sv = .string ⟨(Cov.rowL i j k).toArray⟩ ∧ k ≤ m ∧ Hid (Below w.heap.size w wr)) (fun kv _ _ => m - (intOf kv).toNat)
  case atStart => exact ⟨0, rfl, rfl, Nat.zero_le _, Lib.hid (Below.refl _ _)⟩
  case round =>
    obtain ⟨k, rfl, rfl, hk, HB⟩ := hrel
    by_cases hkm : k < m
    · have hki : (k : Int) < (m : Int) := by omega
      have hci : IntKind.u8.wrap (i : Int) = (i : Int) := by simp [IntKind.wrap, IntKind.bits, IntKind.signed]; omega
      have hcj : IntKind.u8.wrap (j : Int) = (j : Int) := by simp [IntKind.wrap, IntKind.bits, IntKind.signed]; omega
      have htx := run_text (wr.alloc (.cells #[.int .u8 i, .int .u8 j] 5)) wr.heap.size 0 2 2 [UInt8.ofNat i, UInt8.ofNat j] rfl (fun q hq => by
        have h1 : (UInt8.ofNat i).toNat = i := by simp; omega
        have h2 : (UInt8.ofNat j).toNat = j := by simp; omega
        rw [cell_new]
        have : q = 0 ∨ q = 1 := by simp at hq; omega
        rcases this with rfl | rfl
        · simp [h1]
        · simp [h2])
      have hadd := fun W => run_add_str (P := Tryz.prog) (Cov.rowL i j k) [UInt8.ofNat i, UInt8.ofNat j] (by rw [Cov.rowL_len]; simp; omega) W
      unfold str at htx
      have HB2 := Lib.hid (HB.out.trans ((Below.refl wr.heap.size wr).alloc (Nat.le_refl _) (.cells #[.int .u8 i, .int .u8 j] 5) |>.mono HB.out.size))
      go_wp2_with fail
      go_roundw
      case rel => exact ⟨k + 1, by go_num, by rw [Cov.rowL], hkm, HB2⟩
      case measure => simp [intOf]; omega
    · obtain rfl : k = m := by omega
      have hki : ¬ (k : Int) < (k : Int) := by omega
      go_wp2_with fail
      go_ret
      exact ⟨rfl, HB.out⟩
end Go.Proofs.YtfdklmpkienfhaaGreat

/- The specification of layer 12: the points in the order of their words. -/
namespace Go.Proofs.YtfdklmpkienfhaaGreat
set_option linter.unusedSimpArgs false
set_option linter.unusedVariables false
open Go.RowKit

theorem intL_at {L : List Nat} {k : Nat} (h : k < L.length) : (nums .i64 (intL L))[k]? = some (.int .i64 ((L.getD k 0 : Nat) : Int)) := by
  simp [nums, intL, List.getD, List.getElem?_eq_getElem h]

set_option maxRecDepth 100000 in
set_option maxHeartbeats 4000000 in
theorem r12_Met (V : Nat → Value) (A : Nat → List Int) (w : World) (hA : AR w.heap.size w V A) (hs : Shaped A) (p : Nat) (hp : p < (A 0).length) :
    Calls Tryz.prog 102 #[actV V, .int .i64 p] w fun e w' => ∃ v, e = .returned v ∧ GR w' 1 v (Cov.met (letters A) (A 0).length p).length (nums .i64 (intL (Cov.met (letters A) (A 0).length p))) ∧ Below w.heap.size w w' ∧ ∀ b, v.ownBlock = some b → w.heap.size ≤ b := by
  obtain ⟨n, hn⟩ : ∃ n, n = (A 0).length := ⟨_, rfl⟩
  obtain ⟨f, hf⟩ : ∃ f, f = letters A := ⟨_, rfl⟩
  rw [← hf, ← hn]
  have HNN := Lib.hid (show 1 ≤ n ∧ n ≤ 200 from by rw [hn]; exact ⟨hs.1.1, hs.1.2.1⟩)
  have HIN := Lib.hid (show Cov.Into f n from by rw [hf, hn]; exact hs.into)
  have hpn : p < n := by omega
  have HA := Lib.hid hA; have HSH := Lib.hid hs; have HNF := Lib.hid (And.intro hn hf)
  have HPN := Lib.hid hpn
  clear hA hs hp hn hf hpn
  unfold actV
  go_enter Tryz.func102, Tryz.ntmps102
  go_upto_region 2 with fail
  obtain ⟨W1, hW1⟩ : ∃ W1, W1 = (w.alloc (.cells #[V 0, V 1, V 2] 27)).alloc (.cells #[.int .i64 p] 3) := ⟨_, rfl⟩
  have HS1 := Lib.hid (show W1.heap.size = w.heap.size + 2 from by rw [hW1]; simp)
  have HB1 := Lib.hid (show Below w.heap.size w W1 from by rw [hW1]; exact ((Below.refl w.heap.size w).alloc (Nat.le_refl _) _).alloc (by simp) _)
  have HQ1 := Lib.hid (show W1.heap[w.heap.size]? = some (.cells #[V 0, V 1, V 2] 27) from by rw [hW1, Below.heap_alloc _ _ _ (by simp)]; exact alloc_heap_new w _)
  have HG1 := Lib.hid (show GR W1 1 (.slice (some ⟨w.heap.size + 1, 0, none⟩) 1 1) 1 (nums .i64 (intL [p])) from by
    rw [hW1]
    refine .inr ⟨w.heap.size + 1, ?_⟩
    have h := QRow.new (w.alloc (.cells #[V 0, V 1, V 2] 27)) [.int .i64 p] 1 1 3 rfl (by simp [maxLen])
    rw [World.size_alloc] at h
    exact h)
  rw [← hW1]
  clear hW1
  go_wp2_with fail
  go_loopw [6, 5] (fun kv v wr => ∃ k : Nat, kv = .int .i64 k ∧ k ≤ (Cov.metS f p k).length ∧ Hid (GR wr 1 v (Cov.metS f p k).length (nums .i64 (intL (Cov.metS f p k)))) ∧ Hid (∀ b, v.ownBlock = some b → w.heap.size + 1 ≤ b) ∧ Hid (Only (fun x => w.heap.size + 1 ≤ x) W1 wr)) (fun kv _ _ => n - (intOf kv).toNat)
  case atStart => exact ⟨0, rfl, Nat.zero_le _, HG1, Lib.hid (fun b hb => by simp [Value.ownBlock] at hb; omega), Lib.hid (Only.refl _ _)⟩
  case round =>
    clear HG1
    obtain ⟨k, rfl, hkl, HG, HO, HB⟩ := hrel
    obtain ⟨L, hL⟩ : ∃ L, L = Cov.metS f p k := ⟨_, rfl⟩
    have hPT : Cov.Pts n L := by rw [hL]; exact Cov.pts_metS HIN.out HPN.out k
    rw [← hL] at hkl HG
    have hLn := hPT.len
    obtain ⟨a3, c3, hve, -⟩ := HG.out.open
    subst hve
    obtain ⟨m, hm⟩ : ∃ m, m = L.length := ⟨_, rfl⟩
    rw [← hm] at HG HO hkl hLn ⊢
    have HM := Lib.hid hm; have HL := Lib.hid hL; have HPT := Lib.hid hPT
    have hn200 := HNN.out.2
    clear hm hL hPT
    by_cases hkm : k < m
    · have hki : (k : Int) < (m : Int) := by omega
      go_wp2_with fail
      go_loopw [7, 5] (fun iv v wr => ∃ i : Nat, iv = .int .i64 i ∧ i ≤ 3 ∧ Hid (GR wr 1 v (Cov.metR f L k i).length (nums .i64 (intL (Cov.metR f L k i)))) ∧ Hid (∀ b, v.ownBlock = some b → w.heap.size + 1 ≤ b) ∧ Hid (Only (fun x => w.heap.size + 1 ≤ x) W1 wr)) (fun iv _ _ => 3 - (intOf iv).toNat)
      case atStart => exact ⟨0, rfl, Nat.zero_le _, by rw [show Cov.metR f L k 0 = L from rfl, ← HM.out]; exact HG, HO, HB⟩
      case round =>
        clear HG HO HB
        obtain ⟨i, rfl, hi, HG, HO, HB⟩ := hrel
        obtain ⟨L', hL'⟩ : ∃ L', L' = Cov.metR f L k i := ⟨_, rfl⟩
        rw [← hL'] at HG
        obtain ⟨a3, c3, hve, -, hcl⟩ := HG.out.open
        subst hve
        by_cases hi3 : i < 3
        · have hii : (i : Int) < 3 := by omega
          have hPT' : Cov.Pts n L' := by rw [hL']; exact HPT.out.metR HIN.out (by rw [← HM.out]; exact hkm) i hi
          have hpre : ∃ T, L' = L ++ T := by rw [hL']; exact Cov.metR_pre f L k i
          obtain ⟨T, hT⟩ := hpre
          obtain ⟨m', hm'⟩ : ∃ m', m' = L'.length := ⟨_, rfl⟩
          have hkm' : k < m' := by rw [hm', hT, List.length_append, ← HM.out]; omega
          have hm'n : m' ≤ n := by rw [hm']; exact hPT'.len
          obtain ⟨x, hx⟩ : ∃ x, x = L'.getD k 0 := ⟨_, rfl⟩
          have hxn : x < n := by rw [hx]; exact hPT'.get (by rw [← hm']; exact hkm')
          obtain ⟨g, off, rfl, hg, hc⟩ := hcl k _ (intL_at (by rw [← hm']; exact hkm'))
          rw [← hx] at hc
          rw [← hm'] at HG HO ⊢
          obtain ⟨ai, ci, hvi, hci, hcell⟩ := HA.out i hi3
          have hli : (A i).length = n := by rw [HSH.out.len hi3]; exact HNF.out.1.symm
          rw [hli] at hvi hcell
          obtain ⟨gi, offi, rfl, hgi, hci2⟩ := hcell x hxn
          rw [HSH.out.at hi3 (by rw [← HNF.out.1]; exact hxn), ← HNF.out.2] at hci2
          have hz := HB.out.size
          have hz1 := HS1.out
          have hab := (HB.out.block w.heap.size (by omega)).trans HQ1.out
          have m1 := box_at hab hi3
          rw [hvi] at m1
          have m2 := (World.cell?_of_block (w := w) (a := ⟨gi, offi + x, none⟩) ((HB.out.block gi (by omega)).trans (HB1.out.block gi hgi))).trans hci2
          obtain ⟨y, hy⟩ : ∃ y, y = f i x := ⟨_, rfl⟩
          rw [← hy] at m2
          have l1 := fun (yy : Later wr) => ((bcell yy.h).1 w.heap.size i (by omega)).trans m1
          have l2 := fun (yy : Later wr) => ((bcell yy.h).1 gi (offi + x) (by omega)).trans m2
          have l3 := fun (yy : Later wr) => ((bcell yy.h).1 g (off + k) hg).trans hc
          have hki' : (k : Int) < (m' : Int) := by omega
          have hxi : (x : Int) < (n : Int) := by omega
          have hyn : y < n := by rw [hy]; exact HIN.out i x hi3 hxn
          have HX := Lib.hid (And.intro hx (And.intro hy (And.intro hL' (And.intro hm' hT)))); have HPT' := Lib.hid hPT'
          have HKM := Lib.hid hkm'
          clear hx hy hL' hm' hPT' hT hc hvi hcell hgi hci2 hz hz1 hab m1 m2 hkm' hcl hci hg
          go_upto_region 8 with fail
          refine wp_region_segs [([0, 1, 2, 3, 4, 5, 6, 7, 8, 9], [])] 10 (fun w' => ∃ y : Later wr, w' = y.W) ⟨⟨wr.drew, (Below.refl _ _).drew⟩, rfl⟩ (by kernel_rfl) (by kernel_rfl) ?_
          simp only [List.map_cons, List.map_nil, pickOps, List.flatMap_cons, List.flatMap_nil, List.cons_append, List.nil_append, List.take_succ_cons, List.take_zero, List.drop_succ_cons, List.drop_zero, wpSegs]
          repeat (go_big_quiet_step (fail))
          refine wpQuiet_nil ?_
          refine wpG_nil ?_
          clear l1 l2 l3
          have HG2 := Lib.hid (HG.out.later ((Below.refl wr.heap.size wr).drew))
          have HB2 := Lib.hid (HB.out.drew)
          clear HG HB
          generalize wr.drew = wd at HG2 HB2 ⊢
          go_wp2_with fail
          go_loopw [10, 9] (fun qv bv wx => ∃ q : Nat, qv = .int .i64 q ∧ bv = .bool (decide (y ∈ L'.take q)) ∧ q ≤ m' ∧ wd = wx) (fun qv _ _ => m' - (intOf qv).toNat)
          case atStart => exact ⟨0, rfl, by simp, Nat.zero_le _, rfl⟩
          case round =>
            obtain ⟨q, rfl, rfl, hq, rfl⟩ := hrel
            by_cases hqm : q < m'
            · have hqi : (q : Int) < (m' : Int) := by omega
              obtain ⟨a', c', he', -, hcl⟩ := HG2.out.open
              simp only [Value.slice.injEq] at he'
              obtain ⟨ha', -, hc'⟩ := he'
              subst ha' hc'
              obtain ⟨g', off', hg', hgl, hcq⟩ := hcl q _ (intL_at (by rw [← HX.out.2.2.2.1]; exact hqm))
              simp only [Option.some.injEq, Addr.mk.injEq, and_true] at hg'
              obtain ⟨rfl, rfl⟩ := hg'
              obtain ⟨z, hz⟩ : ∃ z, z = L'.getD q 0 := ⟨_, rfl⟩
              rw [← hz] at hcq
              have hnx : (y ∈ L'.take (q + 1)) ↔ (y ∈ L'.take q ∨ z = y) := by
                have hql : q < L'.length := by rw [← HX.out.2.2.2.1]; exact hqm
                have hzz : L'[q]? = some z := by rw [hz]; simp [List.getD, hql]
                rw [List.take_add_one, hzz]
                simp [eq_comm]
              have HNX := Lib.hid hnx
              by_cases hin : y ∈ L'.take q
              · have hd : decide (y ∈ L'.take q) = true := decide_eq_true hin
                rw [hd]
                have HIN2 := Lib.hid hin
                clear hz hnx hcl hgl hin hd
                go_wp2_with fail
                go_roundw
                case rel => exact ⟨q + 1, by go_num, by rw [decide_eq_true (HNX.out.2 (.inl HIN2.out))], hqm, trivial⟩
                case measure => simp [intOf]; omega
              · have hd : decide (y ∈ L'.take q) = false := decide_eq_false hin
                rw [hd]
                have HIN2 := Lib.hid hin
                clear hz hnx hcl hgl hin hd
                by_cases hzy : z = y
                · have hb : ((z : Int) == (y : Int)) = true := by rw [hzy]; simp
                  have HZY := Lib.hid hzy
                  clear hzy
                  go_wp2_with fail
                  go_roundw
                  case rel => exact ⟨q + 1, by go_num, by rw [decide_eq_true (HNX.out.2 (.inr HZY.out))], hqm, trivial⟩
                  case measure => simp [intOf]; omega
                · have hb : ((z : Int) == (y : Int)) = false := by rw [beq_eq_false_iff_ne]; omega
                  have HZY := Lib.hid hzy
                  clear hzy
                  go_wp2_with fail
                  go_roundw
                  case rel => exact ⟨q + 1, by go_num, by rw [decide_eq_false (fun h => (HNX.out.1 h).elim HIN2.out HZY.out)], hqm, trivial⟩
                  case measure => simp [intOf]; omega
            · obtain rfl : q = m' := by omega
              have hqi : ¬ (q : Int) < (q : Int) := by omega
              rw [show L'.take q = L' from List.take_of_length_le (by rw [← HX.out.2.2.2.1]; exact Nat.le_refl _)]
              have hnext : Cov.metR f L k (i + 1) = if y ∈ L' then L' else L' ++ [y] := by
                rw [Cov.metR, ← HX.out.2.2.1]
                unfold Cov.met1
                rw [← HX.out.1, ← HX.out.2.1]
              have HNXT := Lib.hid hnext
              clear hnext
              by_cases hin : y ∈ L'
              · have hd : decide (y ∈ L') = true := decide_eq_true hin
                rw [hd]
                have HIN2 := Lib.hid hin
                clear hin hd
                go_wp2_with fail
                go_roundw
                case rel => exact ⟨i + 1, by go_num, by omega, by rw [HNXT.out, if_pos HIN2.out, ← HX.out.2.2.2.1]; exact HG2, HO, HB2⟩
                case measure => simp [intOf]; omega
              · have hd : decide (y ∈ L') = false := decide_eq_false hin
                rw [hd]
                have HIN2 := Lib.hid hin
                have hq9 : q ≤ 900000000 := by omega
                have HQ9 := Lib.hid hq9
                clear hin hd hq9
                go_wp2_with (at_builtin; refine wpList_gr wd rowInt rfl _ _ rfl (v := .slice (some ⟨g, off, none⟩) q c3) (xs := nums .i64 (intL L')) rfl HG2.out _ [.int .i64 y] rfl rfl (by intro u hu; simp at hu; subst hu; rfl) HQ9.out ?_)
                intro v9 w9 hq9 ho9 hv9
                obtain ⟨a9, c9, hv9e, -⟩ := hq9.open
                subst hv9e
                have hz := HB2.out.size
                have hz1 := HS1.out
                have HQN := Lib.hid (show GR w9 1 (.slice a9 (q + 1) c9) (Cov.metR f L k (i + 1)).length (nums .i64 (intL (Cov.metR f L k (i + 1)))) from by
                  rw [HNXT.out, if_neg HIN2.out, List.length_append, ← HX.out.2.2.2.1]
                  have e : nums .i64 (intL (L' ++ [y])) = nums .i64 (intL L') ++ [.int .i64 y] := by simp [nums, intL]
                  rw [e]
                  exact hq9)
                have HO9 := Lib.hid (show ∀ b, (Value.slice a9 (q + 1) c9).ownBlock = some b → w.heap.size + 1 ≤ b from fun b hb => by
                  rcases hv9 b hb with h | h
                  · exact HO.out b h
                  · omega)
                have HB9 := Lib.hid (HB2.out.trans (ho9.mono (fun b hb => by
                  rcases hb with h | h
                  · exact HO.out b h
                  · omega)))
                clear hq9 ho9 hv9 hz hz1
                go_wp2_with fail
                go_roundw
                case rel => exact ⟨i + 1, by go_num, by omega, HQN, HO9, HB9⟩
                case measure => simp [intOf]; omega
        · obtain rfl : i = 3 := by omega
          have hii : ¬ ((3 : Nat) : Int) < 3 := by omega
          clear hcl
          have hnx : Cov.metS f p (k + 1) = L' := by
            rw [hL', Cov.metS, ← HL.out, if_pos (by rw [← HM.out]; exact hkm)]
          have HNX := Lib.hid hnx
          have HPRE := Lib.hid (show k + 1 ≤ L'.length from by
            obtain ⟨T, hT⟩ := Cov.metR_pre f L k 3
            rw [hL', hT, List.length_append, ← HM.out]; omega)
          obtain ⟨m', hm'⟩ : ∃ m', m' = L'.length := ⟨_, rfl⟩
          rw [← hm'] at HG HO ⊢
          have HMM := Lib.hid hm'
          clear hnx hL' hm'
          go_wp2_with fail
          go_roundw
          case rel => exact ⟨k + 1, by go_num, by rw [HNX.out]; exact HPRE.out, by rw [HNX.out, ← HMM.out]; exact HG, HO, HB⟩
          case measure => simp [intOf]; have := HNN.out; omega
    · obtain rfl : k = m := by omega
      have hki : ¬ (k : Int) < (k : Int) := by omega
      go_wp2_with fail
      go_ret
      have he : L = Cov.met f n p := by rw [HL.out]; exact Cov.met_end HIN.out HPN.out (by rw [← HL.out, ← HM.out])
      have hz1 := HS1.out
      refine ⟨_, rfl, by rw [← he, ← HM.out]; exact HG.out, HB1.out.trans (HB.out.below (fun x hx => by omega)), fun b hb => by have := HO.out b hb; omega⟩
end Go.Proofs.YtfdklmpkienfhaaGreat

/- The specification of layer 12: the conditions of an action; Check, At, Lead. -/
namespace Go.Proofs.YtfdklmpkienfhaaGreat
set_option linter.unusedSimpArgs false
set_option linter.unusedVariables false
open Go.RowKit

set_option maxRecDepth 100000 in
set_option maxHeartbeats 4000000 in
theorem r12_Holds (o : Hy.Ord) (hS : o.m01 ≤ 12 ∧ o.m12 ≤ 12 ∧ o.m02 ≤ 12) (V : Nat → Value) (A : Nat → List Int) (w : World) (hA : AR w.heap.size w V A) (hs : Shaped A) :
    Calls Tryz.prog 105 #[ordersV o.m01 o.m12 o.m02, actV V] w fun e w' => ((Cov.HoldsR o (letters A) (A 0).length ∧ e = .returned (.bool true)) ∨ (¬ Cov.HoldsR o (letters A) (A 0).length ∧ e = .returned (.bool false))) ∧ Below w.heap.size w w' := by
  have HBET := Lib.hid (fun i j hi hj hij W => r03_Between o i j hi hj hij W)
  have HROW := Lib.hid (fun i j m hi hj hm W => r12_row i j m hi hj hm W)
  have HLED := Lib.hid (fun x l W hA hx hl hll => r12_Led V A x l W hA hs hx hl hll)
  obtain ⟨W1, hW1⟩ : ∃ W1, W1 = (w.alloc (.cells #[.int .i64 o.m01, .int .i64 o.m12, .int .i64 o.m02] 23)).alloc (.cells #[V 0, V 1, V 2] 27) := ⟨_, rfl⟩
  have hs1 : W1.heap.size = w.heap.size + 2 := by rw [hW1]; simp
  have HB0 := Lib.hid (show Below w.heap.size w W1 from by
    rw [hW1]
    exact ((Below.refl w.heap.size w).alloc (Nat.le_refl _) _).alloc (by simp) _)
  have HQ0 := Lib.hid (show W1.heap[w.heap.size]? = some (.cells #[.int .i64 o.m01, .int .i64 o.m12, .int .i64 o.m02] 23) from by
    rw [hW1, Below.heap_alloc _ _ _ (by simp)]
    exact alloc_heap_new w _)
  have HQ1 := Lib.hid (show W1.heap[w.heap.size + 1]? = some (.cells #[V 0, V 1, V 2] 27) from by
    rw [hW1]
    have := alloc_heap_new (w.alloc (.cells #[.int .i64 o.m01, .int .i64 o.m12, .int .i64 o.m02] 23)) (.cells #[V 0, V 1, V 2] 27)
    rwa [World.size_alloc] at this)
  have HAW := Lib.hid (show ∀ W, Below W1.heap.size W1 W → AR W.heap.size W V A from fun W hB i hi => (((hA i hi).below HB0.out).below (hB.mono HB0.out.size)).more (Nat.le_trans HB0.out.size hB.size))
  obtain ⟨n, hn⟩ : ∃ n, n = (A 0).length := ⟨_, rfl⟩
  obtain ⟨f, hf⟩ : ∃ f, f = letters A := ⟨_, rfl⟩
  rw [← hf, ← hn] at HLED ⊢
  have HNN := Lib.hid (show 1 ≤ n ∧ n ≤ 200 from by rw [hn]; exact ⟨hs.1.1, hs.1.2.1⟩)
  have HAT := Lib.hid (show ∀ i x, i < 3 → x < n → (A i).getD x 0 = ((f i x : Nat) : Int) from fun i x hi hx => by rw [hf]; exact hs.at hi (by omega))
  have HIN := Lib.hid (show Cov.Into f n from by rw [hf, hn]; exact hs.into)
  have HL := Lib.hid (show ∀ i, i < 3 → ∃ g off cap, V i = .slice (some ⟨g, off, none⟩) n cap ∧ g < W1.heap.size ∧ ∀ (W : World), Below W1.heap.size W1 W → W.cell? ⟨w.heap.size + 1, i, none⟩ = some (.slice (some ⟨g, off, none⟩) n cap) ∧ ∀ x, x < n → W.cell? ⟨g, off + x, none⟩ = some (.int .i64 ((f i x : Nat) : Int)) from fun i hi => by
    obtain ⟨a, cap, h1, h2, h3⟩ := hA i hi
    have hl : (A i).length = n := by rw [hn]; exact hs.len hi
    rw [hl] at h1 h3
    obtain ⟨g, off, rfl, hg, _⟩ := h3 0 (by have := HNN.out; omega)
    refine ⟨g, off, cap, h1, by omega, fun W hB => ⟨?_, fun x hx => ?_⟩⟩
    · have := (hB.cell (p := ⟨w.heap.size + 1, i, none⟩) (by show w.heap.size + 1 < _; omega)).trans (box_at HQ1.out hi)
      rw [this, h1]
    · obtain ⟨g', off', e, hg', hc⟩ := h3 x hx
      simp only [Option.some.injEq, Addr.mk.injEq, and_true] at e
      obtain ⟨rfl, rfl⟩ := e
      have hBw := HB0.out.trans (hB.mono HB0.out.size)
      rw [hBw.cell (p := ⟨g, off + x, none⟩) hg, hc, HAT.out i x hi hx])
  have HM12 := Lib.hid (show ∀ i j, i < 3 → j < 3 → i < j → o.m i j ≤ 12 from fun i j hi hj hij => by rw [Cov.ord_m_comm]; exact ord_m_le o hS hj hij)
  have HS1 := Lib.hid hs1
  clear hA hs hn hf hS hs1
  unfold ordersV actV at *
  go_enter Tryz.func105, Tryz.ntmps105
  go_upto_region 1 with fail
  rw [← hW1]
  clear hW1
  go_wp2_with fail
  go_loopw [5] (fun iv wr => ∃ x : Nat, iv = .int .i64 x ∧ x ≤ n ∧ Hid (∀ x', x' < x → ∀ i, i < 3 → f i (f i x') = x' ∧ ∀ j, i < j → j < 3 → Cov.rounds f i j (o.m i j) x' = x') ∧ Hid (Below W1.heap.size W1 wr)) (fun iv _ => n - (intOf iv).toNat)
  case atStart => exact ⟨0, rfl, Nat.zero_le _, Lib.hid (fun x h => by omega), Lib.hid (Below.refl _ _)⟩
  case round =>
    obtain ⟨x, rfl, hx, HP, HB⟩ := hrel
    have hnb := HNN.out.2
    obtain ⟨g0, off0, cap0, hV0, _, hm0⟩ := HL.out 0 (by omega)
    have z0 := (hm0 wr HB.out).1
    clear hm0 hV0
    by_cases hxn : x < n
    · have hxi : (x : Int) < (n : Int) := by omega
      go_wp2_with fail
      clear z0
      go_loopw [6] (fun iv wx => ∃ i : Nat, iv = .int .i64 i ∧ i ≤ 3 ∧ Hid (∀ i', i' < i → f i' (f i' x) = x ∧ ∀ j, i' < j → j < 3 → Cov.rounds f i' j (o.m i' j) x = x) ∧ Hid (Below W1.heap.size W1 wx)) (fun iv _ => 3 - (intOf iv).toNat)
      case atStart => exact ⟨0, rfl, Nat.zero_le _, Lib.hid (fun i h => by omega), HB⟩
      case round =>
        clear HB
        obtain ⟨i, rfl, hi, HI, HB⟩ := hrel
        by_cases hi3 : i < 3
        · have hii : (i : Int) < 3 := by omega
          obtain ⟨g, off, cap, hVi, hg, hm⟩ := HL.out i hi3
          obtain ⟨m1, m2⟩ := hm wr HB.out
          have hfx : f i x < n := HIN.out i x hi3 hxn
          have m3 := m2 x hxn
          have m4 := m2 (f i x) hfx
          have hfi : ((f i x : Nat) : Int) < (n : Int) := by omega
          have hsz := HB.out.size
          have hs1 := HS1.out
          have l1 := fun (yy : Later wr) => ((bcell yy.h).1 (w.heap.size + 1) i (by omega)).trans m1
          have l3 := fun (yy : Later wr) => ((bcell yy.h).1 g (off + x) (by omega)).trans m3
          have l4 := fun (yy : Later wr) => ((bcell yy.h).1 g (off + f i x) (by omega)).trans m4
          clear m1 m2 m3 m4 hm hVi hsz hs1 hg
          go_upto_region 7 with fail
          refine wp_region_segs [([0, 1, 2, 3, 4, 5, 6, 7, 8, 9, 10, 11, 12, 13], [])] 14 (fun w' => ∃ y : Later wr, w' = y.W) ⟨⟨wr.drew, (Below.refl _ _).drew⟩, rfl⟩ (by kernel_rfl) (by kernel_rfl) ?_
          simp only [List.map_cons, List.map_nil, pickOps, List.flatMap_cons, List.flatMap_nil, List.cons_append, List.nil_append, List.take_succ_cons, List.take_zero, List.drop_succ_cons, List.drop_zero, wpSegs]
          repeat (go_big_quiet_step (fail))
          refine wpQuiet_nil ?_
          refine wpG_nil ?_
          clear l1 l3 l4
          have HB2 := Lib.hid HB.out.drew
          clear HB
          generalize wr.drew = wd at HB2 ⊢
          by_cases hinv : f i (f i x) = x
          · have hne : (((f i (f i x) : Nat) : Int) != (x : Int)) = false := by rw [hinv]; simp
            have HINV := Lib.hid hinv
            clear hinv
            go_wp2_with fail
            go_loopw [7] (fun jv wy => ∃ j : Nat, jv = .int .i64 j ∧ i + 1 ≤ j ∧ j ≤ 3 ∧ Hid (∀ j', i < j' → j' < j → Cov.rounds f i j' (o.m i j') x = x) ∧ Hid (Below W1.heap.size W1 wy)) (fun jv _ => 3 - (intOf jv).toNat)
            case atStart => exact ⟨i + 1, by go_num, Nat.le_refl _, by omega, Lib.hid (fun j h1 h2 => by omega), HB2⟩
            case round =>
              clear HB2
              obtain ⟨j, rfl, hij, hj, HJ, HB⟩ := hrel
              by_cases hj3 : j < 3
              · have hjc : (j : Int) < 3 := by omega
                have hsz := HB.out.size
                have hs1 := HS1.out
                have kh := (HB.out.block w.heap.size (by omega)).trans HQ0.out
                have ka := (HB.out.block (w.heap.size + 1) (by omega)).trans HQ1.out
                have lh : w.heap.size < wr.heap.size := by omega
                have la : w.heap.size + 1 < wr.heap.size := by omega
                have g0 := fun (y : Later wr) => ((bcell y.h).1 w.heap.size 0 lh).trans (cell_of_heap kh 0)
                have g1 := fun (y : Later wr) => ((bcell y.h).1 w.heap.size 1 lh).trans (cell_of_heap kh 1)
                have g2 := fun (y : Later wr) => ((bcell y.h).1 w.heap.size 2 lh).trans (cell_of_heap kh 2)
                have p0 := fun (y : Later wr) => ((bcell y.h).1 (w.heap.size + 1) 0 la).trans (box_at ka (i := 0) (by omega))
                have p1 := fun (y : Later wr) => ((bcell y.h).1 (w.heap.size + 1) 1 la).trans (box_at ka (i := 1) (by omega))
                have p2 := fun (y : Later wr) => ((bcell y.h).1 (w.heap.size + 1) 2 la).trans (box_at ka (i := 2) (by omega))
                simp only [List.getElem?_toArray, List.getElem?_cons_zero, List.getElem?_cons_succ] at g0 g1 g2
                have HLEN := Lib.hid (Cov.rowL_len i j (o.m i j))
                clear hsz hs1 kh ka
                go_upto_region 12 with fail
                refine wp_region_segs [([0, 1, 2, 3, 4, 5, 6, 10], [7, 8, 9])] 11 (fun w' => ∃ y : Later wr, w' = y.W) ⟨⟨wr.drew, (Below.refl _ _).drew⟩, rfl⟩ (by kernel_rfl) (by kernel_rfl) ?_
                simp only [List.map_cons, List.map_nil, pickOps, List.flatMap_cons, List.flatMap_nil, List.cons_append, List.nil_append, List.take_succ_cons, List.take_zero, List.drop_succ_cons, List.drop_zero, wpSegs]
                repeat (go_big_quiet_step (fail))
                refine wpQuiet_nil ?_
                clear g0 g1 g2 p0 p1 p2
                refine wpG_step ?_
                intro K2 hK2
                go_wp2_with fail
                refine (HBET.out i j hi3 hj3 (by omega) _).mono ?_
                rintro e w4 ⟨rfl, hB⟩
                have HB4 := Lib.hid (show Below wr.heap.size wr w4 from below_undrew hB)
                clear hB
                obtain ⟨m, hm⟩ : ∃ m, m = o.m i j := ⟨_, rfl⟩
                have hm12 : m ≤ 12 := by rw [hm]; exact HM12.out i j hi3 hj3 (by omega)
                rw [← hm] at HLEN ⊢
                have HMM := Lib.hid hm
                clear hm
                go_wp2_with fail
                refine ⟨⟨⟨w4, HB4.out⟩, rfl⟩, hK2 _ _ ?_⟩
                clear hK2
                refine wpG_step ?_
                intro K3 hK3
                go_wp2_with fail
                refine (HROW.out i j m hi3 hj3 (by omega) _).mono ?_
                rintro e w5 ⟨rfl, hB⟩
                have HB5 := Lib.hid (HB4.out.trans (hB.mono HB4.out.size))
                clear hB
                unfold str
                go_wp2_with fail
                refine ⟨⟨⟨w5, HB5.out⟩, rfl⟩, hK3 _ _ ?_⟩
                clear hK3
                refine wpG_step ?_
                intro K4 hK4
                go_wp2_with fail
                refine (HLED.out x (Cov.rowL i j m) w5 (HAW.out _ (HB.out.trans (HB5.out.mono HB.out.size))) hxn (Cov.rowL_mem hi3 hj3 m) (by have := HLEN.out; omega)).mono ?_
                rintro e w6 ⟨rfl, hB⟩
                have HB6 := Lib.hid (HB5.out.trans (hB.mono HB5.out.size))
                clear hB
                rw [Cov.ledP_row hi3 hj3]
                obtain ⟨y, hy⟩ : ∃ y, y = Cov.rounds f i j m x := ⟨_, rfl⟩
                rw [← hy]
                have HY := Lib.hid hy
                clear hy
                go_wp2_with fail
                refine ⟨⟨⟨w6, HB6.out⟩, rfl⟩, hK4 _ _ ?_⟩
                clear hK4
                refine wpG_nil ?_
                have HB7 := Lib.hid (HB.out.trans (HB6.out.mono HB.out.size))
                by_cases hyx : y = x
                · have hne2 : ((y : Int) != (x : Int)) = false := by rw [hyx]; simp
                  have HYX := Lib.hid hyx
                  clear hyx
                  go_wp2_with fail
                  go_roundw
                  case rel => exact ⟨j + 1, by go_num, by omega, by omega, Lib.hid (fun j' h1 h2 => by
                    rcases Nat.lt_or_ge j' j with h | h
                    · exact HJ.out j' h1 h
                    · obtain rfl : j' = j := by omega
                      rw [← HMM.out, ← HY.out]
                      exact HYX.out), HB7⟩
                  case measure => simp [intOf]; omega
                · have hne2 : ((y : Int) != (x : Int)) = true := by rw [bne_iff_ne]; omega
                  have HYX := Lib.hid hyx
                  clear hyx
                  go_wp2_with fail
                  go_ret
                  exact ⟨.inr ⟨fun h => HYX.out (by rw [HY.out, HMM.out]; exact (h x hxn i hi3).2 j (by omega) hj3), rfl⟩, HB0.out.trans (HB7.out.mono HB0.out.size)⟩
              · obtain rfl : j = 3 := by omega
                have hjc : ¬ ((3 : Nat) : Int) < 3 := by omega
                go_wp2_with fail
                go_roundw
                case rel => exact ⟨i + 1, by go_num, by omega, Lib.hid (fun i' hi' => by
                  rcases Nat.lt_or_ge i' i with h | h
                  · exact HI.out i' h
                  · obtain rfl : i' = i := by omega
                    exact ⟨HINV.out, fun j' h1 h2 => HJ.out j' h1 h2⟩), HB⟩
                case measure => simp [intOf]; omega
          · have hne : (((f i (f i x) : Nat) : Int) != (x : Int)) = true := by rw [bne_iff_ne]; omega
            have HINV := Lib.hid hinv
            clear hinv
            go_wp2_with fail
            go_ret
            exact ⟨.inr ⟨fun h => HINV.out (h x hxn i hi3).1, rfl⟩, HB0.out.trans (HB2.out.mono HB0.out.size)⟩
        · obtain rfl : i = 3 := by omega
          have hii : ¬ ((3 : Nat) : Int) < 3 := by omega
          go_wp2_with fail
          go_roundw
          case rel => exact ⟨x + 1, by go_num, by omega, Lib.hid (fun x' hx' i hi => by
            rcases Nat.lt_or_ge x' x with h | h
            · exact HP.out x' h i hi
            · obtain rfl : x' = x := by omega
              exact HI.out i hi), HB⟩
          case measure => simp [intOf]; omega
    · obtain rfl : x = n := by omega
      have hxi : ¬ (x : Int) < (x : Int) := by omega
      go_wp2_with fail
      go_ret
      exact ⟨.inl ⟨fun x hx i hi => HP.out x hx i hi, rfl⟩, HB0.out.trans (HB.out.mono HB0.out.size)⟩
end Go.Proofs.YtfdklmpkienfhaaGreat

/- The specification of layer 12: Check, At, Lead. -/
namespace Go.Proofs.YtfdklmpkienfhaaGreat
set_option linter.unusedSimpArgs false
set_option linter.unusedVariables false
open Go.RowKit

theorem actErr_ord {a b c : Int} {A : Nat → List Int} (h : Hy.ordErr a b c ≠ 0) : actErr a b c A = Hy.ordErr a b c := by unfold actErr; rw [if_pos h]
theorem actErr_shape {a b c : Int} {A : Nat → List Int} (h : Hy.ordErr a b c = 0) (hs : ¬ Shaped A) : actErr a b c A = 1 := by unfold actErr; rw [if_neg (by simpa using h), if_pos hs]
theorem actErr_whole {a b c : Int} {A : Nat → List Int} (h : Hy.ordErr a b c = 0) (hs : Shaped A) (hw : Whole (ordN a b c) A) : actErr a b c A = 0 := by unfold actErr; rw [if_neg (by simpa using h), if_neg (by simpa using hs), if_pos hw]
theorem actErr_no {a b c : Int} {A : Nat → List Int} (h : Hy.ordErr a b c = 0) (hs : Shaped A) (hw : ¬ Whole (ordN a b c) A) : actErr a b c A = 30 := by unfold actErr; rw [if_neg (by simpa using h), if_neg (by simpa using hs), if_neg hw]

set_option maxRecDepth 100000 in
set_option maxHeartbeats 4000000 in
theorem r12_Check (a b c : Int) (V : Nat → Value) (A : Nat → List Int) (w : World) (hA : AR w.heap.size w V A) (hlen : ∀ i, i < 3 → (A i).length ≤ 1000000000) :
    Calls Tryz.prog 39 #[ordersV a b c, actV V] w fun e w' => e = .returned (.int .i64 (actErr a b c A)) ∧ Below w.heap.size w w' := by
  have HALL := Lib.hid (fun W => r03_Allowed a b c W)
  have HPTS := Lib.hid (fun W hA => r12_Points V A W hA hlen)
  obtain ⟨W1, hW1⟩ : ∃ W1, W1 = (w.alloc (.cells #[.int .i64 a, .int .i64 b, .int .i64 c] 23)).alloc (.cells #[V 0, V 1, V 2] 27) := ⟨_, rfl⟩
  have hs1 : W1.heap.size = w.heap.size + 2 := by rw [hW1]; simp
  have HB0 := Lib.hid (show Below w.heap.size w W1 from by
    rw [hW1]
    exact ((Below.refl w.heap.size w).alloc (Nat.le_refl _) _).alloc (by simp) _)
  have HQ0 := Lib.hid (show W1.heap[w.heap.size]? = some (.cells #[.int .i64 a, .int .i64 b, .int .i64 c] 23) from by
    rw [hW1, Below.heap_alloc _ _ _ (by simp)]
    exact alloc_heap_new w _)
  have HQ1 := Lib.hid (show W1.heap[w.heap.size + 1]? = some (.cells #[V 0, V 1, V 2] 27) from by
    rw [hW1]
    have := alloc_heap_new (w.alloc (.cells #[.int .i64 a, .int .i64 b, .int .i64 c] 23)) (.cells #[V 0, V 1, V 2] 27)
    rwa [World.size_alloc] at this)
  have HAW := Lib.hid (show ∀ W, Below W1.heap.size W1 W → AR W.heap.size W V A from fun W hB i hi => (((hA i hi).below HB0.out).below (hB.mono HB0.out.size)).more (Nat.le_trans HB0.out.size hB.size))
  have HBX := Lib.hid (show ∀ W, Below W1.heap.size W1 W → W.heap[w.heap.size]? = some (.cells #[.int .i64 a, .int .i64 b, .int .i64 c] 23) ∧ W.heap[w.heap.size + 1]? = some (.cells #[V 0, V 1, V 2] 27) from fun W hB =>
    ⟨(hB.block _ (by omega)).trans HQ0.out, (hB.block _ (by omega)).trans HQ1.out⟩)
  have HHOLDS := Lib.hid (fun (ho : Hy.ordErr a b c = 0) W hA hs => r12_Holds (ordN a b c) (ordN_le ho) V A W hA hs)
  have HMET := Lib.hid (fun W hA hs hp => r12_Met V A W hA hs 0 hp)
  have HOV := Lib.hid (fun (ho : Hy.ordErr a b c = 0) => ordN_v ho)
  clear hA hlen hs1
  unfold ordersV actV at *
  go_enter Tryz.func39, Tryz.ntmps39
  go_upto_region 1 with fail
  rw [← hW1]
  clear hW1
  obtain ⟨q0, q1⟩ := HBX.out W1 (Below.refl _ _)
  have k0 := cell_of_heap q0 0
  have k1 := cell_of_heap q0 1
  have k2 := cell_of_heap q0 2
  simp only [List.getElem?_toArray, List.getElem?_cons_zero, List.getElem?_cons_succ] at k0 k1 k2
  clear q0 q1
  go_wp2_with fail
  refine (HALL.out _).mono ?_
  rintro e w2 ⟨rfl, hB⟩
  have HB2 := Lib.hid hB
  clear hB k0 k1 k2
  by_cases ho : Hy.ordErr a b c = 0
  · rw [ho]
    have HO := Lib.hid ho
    clear ho
    obtain ⟨q0, q1⟩ := HBX.out w2 HB2.out
    have p0 := box_at q1 (i := 0) (by omega)
    have p1 := box_at q1 (i := 1) (by omega)
    have p2 := box_at q1 (i := 2) (by omega)
    clear q0 q1
    go_wp2_with fail
    refine (HPTS.out _ (HAW.out _ HB2.out)).mono ?_
    rintro e w3 ⟨hcase, hB⟩
    have HB3 := Lib.hid (HB2.out.trans (hB.mono HB2.out.size))
    clear hB p0 p1 p2
    rcases hcase with ⟨hsh, rfl⟩ | ⟨hsh, rfl⟩
    · obtain ⟨n, hn⟩ : ∃ n, n = (A 0).length := ⟨_, rfl⟩
      rw [← hn]
      have hn0 : ¬ (n : Int) < 0 := by omega
      obtain ⟨q0, q1⟩ := HBX.out w3 HB3.out
      have k0 := cell_of_heap q0 0
      have k1 := cell_of_heap q0 1
      have k2 := cell_of_heap q0 2
      simp only [List.getElem?_toArray, List.getElem?_cons_zero, List.getElem?_cons_succ] at k0 k1 k2
      have p0 := box_at q1 (i := 0) (by omega)
      have p1 := box_at q1 (i := 1) (by omega)
      have p2 := box_at q1 (i := 2) (by omega)
      have HSH := Lib.hid hsh
      have HN := Lib.hid hn
      clear q0 q1 hsh hn
      go_wp2_with fail
      have hh := HHOLDS.out HO.out w3 (HAW.out _ HB3.out) HSH.out
      rw [← HOV.out HO.out] at hh
      refine hh.mono ?_
      clear hh k0 k1 k2 p0 p1 p2
      rintro e w4 ⟨hcase, hB⟩
      have HB4 := Lib.hid (HB3.out.trans (hB.mono HB3.out.size))
      clear hB
      rcases hcase with ⟨hh, rfl⟩ | ⟨hh, rfl⟩
      · have HHH := Lib.hid hh
        obtain ⟨q0, q1⟩ := HBX.out w4 HB4.out
        have p0 := box_at q1 (i := 0) (by omega)
        have p1 := box_at q1 (i := 1) (by omega)
        have p2 := box_at q1 (i := 2) (by omega)
        clear q0 q1 hh
        go_wp2_with fail
        refine (HMET.out _ (HAW.out _ HB4.out) HSH.out HSH.out.1.1).mono ?_
        rintro e w5 ⟨v, rfl, hg, hB, -⟩
        have HB5 := Lib.hid (HB4.out.trans (hB.mono HB4.out.size))
        obtain ⟨a3, c3, hve, -⟩ := hg.open
        obtain ⟨m, hm⟩ : ∃ m, m = (Cov.met (letters A) (A 0).length 0).length := ⟨_, rfl⟩
        rw [← hm] at hve
        subst hve
        have HM := Lib.hid hm
        clear hB hg p0 p1 p2 hm
        by_cases hmn : m = n
        · have hne : ((m : Int) != (n : Int)) = false := by rw [hmn]; simp
          have HMN := Lib.hid hmn
          clear hmn
          go_wp2_with fail
          go_ret
          exact ⟨ret_int (actErr_whole HO.out HSH.out ⟨(Cov.holds_same HSH.out.into).2 HHH.out, by rw [← HM.out, HMN.out, HN.out]⟩).symm, HB0.out.trans (HB5.out.mono HB0.out.size)⟩
        · have hne : ((m : Int) != (n : Int)) = true := by rw [bne_iff_ne]; omega
          have HMN := Lib.hid hmn
          clear hmn
          go_wp2_with fail
          go_ret
          exact ⟨ret_int (actErr_no HO.out HSH.out (fun h => HMN.out (by rw [HM.out, HN.out]; exact h.2))).symm, HB0.out.trans (HB5.out.mono HB0.out.size)⟩
      · have HHH := Lib.hid hh
        clear hh
        go_wp2_with fail
        go_ret
        exact ⟨ret_int (actErr_no HO.out HSH.out (fun h => HHH.out ((Cov.holds_same HSH.out.into).1 h.1))).symm, HB0.out.trans (HB4.out.mono HB0.out.size)⟩
    · have HSH := Lib.hid hsh
      clear hsh
      go_wp2_with fail
      go_ret
      exact ⟨ret_int (actErr_shape HO.out HSH.out).symm, HB0.out.trans (HB3.out.mono HB0.out.size)⟩
  · have hne : (Hy.ordErr a b c != 0) = true := by rw [bne_iff_ne]; exact ho
    have HE := Lib.hid (actErr_ord (A := A) ho)
    clear ho
    generalize Hy.ordErr a b c = er at *
    go_wp2_with fail
    go_ret
    exact ⟨ret_int HE.out.symm, HB0.out.trans (HB2.out.mono HB0.out.size)⟩

set_option maxRecDepth 100000 in
set_option maxHeartbeats 4000000 in
theorem r12_At (a b c : Int) (V : Nat → Value) (A : Nat → List Int) (p : Int) (w : World) (hA : AR w.heap.size w V A) (hlen : ∀ i, i < 3 → (A i).length ≤ 1000000000) :
    Calls Tryz.prog 35 #[ordersV a b c, actV V, .int .i64 p] w fun e w' => e = .returned (.int .i64 (atErr a b c A p)) ∧ Below w.heap.size w w' := by
  have HCH := Lib.hid (fun W hA => r12_Check a b c V A W hA hlen)
  obtain ⟨W1, hW1⟩ : ∃ W1, W1 = (w.alloc (.cells #[.int .i64 a, .int .i64 b, .int .i64 c] 23)).alloc (.cells #[V 0, V 1, V 2] 27) := ⟨_, rfl⟩
  have hs1 : W1.heap.size = w.heap.size + 2 := by rw [hW1]; simp
  have HB0 := Lib.hid (show Below w.heap.size w W1 from by
    rw [hW1]
    exact ((Below.refl w.heap.size w).alloc (Nat.le_refl _) _).alloc (by simp) _)
  have q0 : W1.heap[w.heap.size]? = some (.cells #[.int .i64 a, .int .i64 b, .int .i64 c] 23) := by
    rw [hW1, Below.heap_alloc _ _ _ (by simp)]
    exact alloc_heap_new w _
  have q1 : W1.heap[w.heap.size + 1]? = some (.cells #[V 0, V 1, V 2] 27) := by
    rw [hW1]
    have := alloc_heap_new (w.alloc (.cells #[.int .i64 a, .int .i64 b, .int .i64 c] 23)) (.cells #[V 0, V 1, V 2] 27)
    rwa [World.size_alloc] at this
  have HAW := Lib.hid (show AR W1.heap.size W1 V A from fun i hi => ((hA i hi).below HB0.out).more HB0.out.size)
  have HQ1 := Lib.hid q1
  have HS1 := Lib.hid hs1
  obtain ⟨a0, c0, hv0, _⟩ := hA 0 (by omega)
  obtain ⟨n, hn⟩ : ∃ n, n = (A 0).length := ⟨_, rfl⟩
  rw [← hn] at hv0
  have HV0 := Lib.hid hv0
  have HN := Lib.hid hn
  clear hA hlen hs1 hv0 hn
  unfold ordersV actV at *
  go_enter Tryz.func35, Tryz.ntmps35
  go_upto_region 1 with fail
  rw [← hW1]
  clear hW1
  have k0 := cell_of_heap q0 0
  have k1 := cell_of_heap q0 1
  have k2 := cell_of_heap q0 2
  simp only [List.getElem?_toArray, List.getElem?_cons_zero, List.getElem?_cons_succ] at k0 k1 k2
  have p0 := box_at q1 (i := 0) (by omega)
  have p1 := box_at q1 (i := 1) (by omega)
  have p2 := box_at q1 (i := 2) (by omega)
  clear q0 q1
  go_wp2_with fail
  refine (HCH.out _ HAW.out).mono ?_
  rintro e w2 ⟨rfl, hB⟩
  have HB2 := Lib.hid hB
  clear hB k0 k1 k2 p0 p1 p2
  obtain ⟨er, her⟩ : ∃ er, er = actErr a b c A := ⟨_, rfl⟩
  rw [← her]
  by_cases hz : er = 0
  · have HZ := Lib.hid (show actErr a b c A = 0 by rw [← her]; exact hz)
    subst hz
    clear her
    have p0 := (HB2.out.block _ (show w.heap.size + 1 < W1.heap.size by have := HS1.out; omega)).trans HQ1.out
    have p0 := box_at p0 (i := 0) (by omega)
    rw [HV0.out] at p0
    by_cases h0 : p < 0
    · go_wp2_with fail
      go_ret
      exact ⟨ret_int (by unfold atErr; rw [if_neg (by simpa using HZ.out), if_neg (by omega)]), HB0.out.trans (HB2.out.mono HB0.out.size)⟩
    · by_cases h1 : (n : Int) ≤ p
      · have HH1 := Lib.hid h1
        go_wp2_with fail
        go_ret
        exact ⟨ret_int (by unfold atErr; have := HH1.out; rw [if_neg (by simpa using HZ.out), if_neg (by rw [← HN.out]; omega)]), HB0.out.trans (HB2.out.mono HB0.out.size)⟩
      · have HH1 := Lib.hid h1
        have HH0 := Lib.hid h0
        go_wp2_with fail
        go_ret
        exact ⟨ret_int (by unfold atErr; have := HH1.out; have := HH0.out; rw [if_neg (by simpa using HZ.out), if_pos (by rw [← HN.out]; omega)]), HB0.out.trans (HB2.out.mono HB0.out.size)⟩
  · have HE := Lib.hid (show atErr a b c A p = er by unfold atErr; rw [if_pos (by rw [← her]; exact hz), ← her])
    have hne : (er != 0) = true := by rw [bne_iff_ne]; exact hz
    clear her hz
    go_wp2_with fail
    go_ret
    exact ⟨ret_int HE.out.symm, HB0.out.trans (HB2.out.mono HB0.out.size)⟩

end Go.Proofs.YtfdklmpkienfhaaGreat

/- The specification of layer 12: Euler's number. -/
namespace Go.Proofs.YtfdklmpkienfhaaGreat
set_option linter.unusedSimpArgs false
set_option linter.unusedVariables false
open Go.RowKit

set_option maxRecDepth 100000 in
set_option maxHeartbeats 1000000 in
theorem r05_Lowest (x : Int) (d : Nat) (w : World) (hx : x.natAbs ≤ 1000000000000) (hd : 0 < d ∧ d ≤ 1000000) :
    Calls Tryz.prog 108 #[.int .i64 x, .int .i64 d] w fun e w' => e = .returned (.agg #[.int .i64 (Cov.low x d).1, .int .i64 (Cov.low x d).2]) ∧ Below w.heap.size w w' := by
  obtain ⟨W1, hW1⟩ : ∃ W1, W1 = w.alloc (.cells #[.int .i64 0, .int .i64 0] 54) := ⟨_, rfl⟩
  have HQ := Lib.hid (show W1.heap[w.heap.size]? = some (.cells #[.int .i64 0, .int .i64 0] 54) from by rw [hW1]; exact alloc_heap_new w _)
  have HB := Lib.hid (show Below w.heap.size w W1 from by rw [hW1]; exact (Below.refl _ _).alloc (Nat.le_refl _) _)
  obtain ⟨m, hm⟩ : ∃ m : Nat, m = x.natAbs := ⟨_, rfl⟩
  have hml : m ≤ 1000000000000 := by omega
  have HM := Lib.hid hm
  have hx1 : x ≤ 1000000000000 := by omega
  have hx2 : -1000000000000 ≤ x := by omega
  have hwn : wrap64 (-x) = -x := by unfold wrap64; omega
  have hd1 := hd.1
  have hd2 := hd.2
  clear hx hd
  go_enter Tryz.func108, Tryz.ntmps108
  go_upto_region 1 with fail
  rw [← hW1]
  clear hW1
  go_cut [5] from 8 to 12 (fun av wx => av = .int .i64 (m : Int) ∧ W1 = wx)
  case first =>
    by_cases h0 : -x ≤ x
    · go_wp2_with fail
      go_meet
      exact ⟨by rw [HM.out]; congr 1; omega, rfl⟩
    · go_wp2_with fail
      go_meet
      exact ⟨by rw [HM.out]; congr 1; omega, rfl⟩
  case rest =>
    obtain ⟨rfl, rfl⟩ := hcut
    go_wp2_with fail
    go_loopw [5, 6] (fun av bv wr => ∃ p q : Nat, av = .int .i64 (p : Int) ∧ bv = .int .i64 (q : Int) ∧ Hid (Nat.gcd p q = Nat.gcd m d) ∧ p ≤ 1000000000000 ∧ q ≤ 1000000000000 ∧ W1 = wr) (fun _ bv _ => (intOf bv).toNat)
    case atStart => exact ⟨m, d, rfl, rfl, Lib.hid rfl, hml, by omega, rfl⟩
    case round =>
      obtain ⟨p, q, rfl, rfl, HG, hp, hq, rfl⟩ := hrel
      by_cases hz : q = 0
      · subst hz
        have h1 : (((0 : Nat) : Int) != 0) = false := rfl
        have hgp : p = Nat.gcd m d := by rw [← HG.out, Nat.gcd_zero_right]
        have hpos : 0 < p := by rw [hgp]; exact Nat.gcd_pos_of_pos_right _ hd1
        have hgx : (Int.gcd x d : Int) = (p : Int) := by rw [hgp, HM.out]; rfl
        have hpz : ¬ ((p : Int) = 0) := by omega
        have hp1 : (p : Int) ≠ -1 := by omega
        have e1 : x.tdiv (p : Int) = (Cov.low x d).1 := by rw [← hgx, tdiv_gcd]; rfl
        have e2 : (d : Int).tdiv (p : Int) = (Cov.low x d).2 := by rw [← hgx, tdiv_gcd']; rfl
        have hb1 : (x.tdiv (p : Int)).natAbs ≤ 1000000000000 := by rw [Int.natAbs_tdiv]; exact Nat.le_trans (Nat.div_le_self _ _) (by omega)
        have hb2 : ((d : Int).tdiv (p : Int)).natAbs ≤ 1000000 := by rw [Int.natAbs_tdiv]; exact Nat.le_trans (Nat.div_le_self _ _) (by omega)
        have hdp : (d : Int) / (p : Int) = (d : Int).tdiv (p : Int) := (Int.tdiv_eq_ediv_of_nonneg (by omega)).symm
        have HU := Lib.hid e1
        have HV := Lib.hid (show wrap64 ((d : Int) / (p : Int)) = (Cov.low x d).2 by
          rw [hdp, ← e2]
          obtain ⟨v, hv⟩ : ∃ v, v = (d : Int).tdiv (p : Int) := ⟨_, rfl⟩
          rw [← hv] at hb2 ⊢
          unfold wrap64; omega)
        have c0 := cell_of_heap HQ.out 0
        have c1 := cell_of_heap HQ.out 1
        have f0 := free_of_heap HQ.out 0
        have f1 := free_of_heap HQ.out 1
        simp only [List.getElem?_toArray, List.getElem?_cons_zero, List.getElem?_cons_succ] at c0 c1 f0 f1
        clear hgp hgx e1 e2 hb1 hb2 hdp
        go_upto_region 7 with fail
        refine wp_region_segs [([0, 1, 2, 3, 4, 5, 6], [])] 7 (fun w' => ∃ y : Later W1, w' = y.W) ⟨⟨W1.drew, (Below.refl _ _).drew⟩, rfl⟩ (by kernel_rfl) (by kernel_rfl) ?_
        simp only [List.map_cons, List.map_nil, pickOps, List.flatMap_cons, List.flatMap_nil, List.cons_append, List.nil_append, List.take_succ_cons, List.take_zero, List.drop_succ_cons, List.drop_zero, wpSegs]
        repeat (go_big_quiet_step (fail))
        refine wpQuiet_nil ?_
        refine wpG_nil ?_
        go_wp2_with fail
        clear c0 c1 f0 f1
        obtain ⟨u, hu⟩ : ∃ u, u = x.tdiv (p : Int) := ⟨_, rfl⟩
        obtain ⟨v, hv⟩ : ∃ v, v = wrap64 ((d : Int) / (p : Int)) := ⟨_, rfl⟩
        rw [← hu, ← hv]
        have h9 : ((W1.setCell ⟨w.heap.size, 0, none⟩ (.int .i64 u)).setCell ⟨w.heap.size, 1, none⟩ (.int .i64 v)).heap[w.heap.size]? = some (.cells #[.int .i64 u, .int .i64 v] 54) := by
          have h0 := heap_setCell_same W1 w.heap.size 0 _ _ (.int .i64 u) HQ.out
          have h1 := heap_setCell_same _ w.heap.size 1 _ _ (.int .i64 v) h0
          simpa using h1
        have hone : Only (fun k => k = w.heap.size) W1 ((W1.setCell ⟨w.heap.size, 0, none⟩ (.int .i64 u)).setCell ⟨w.heap.size, 1, none⟩ (.int .i64 v)).drew := ((only_one W1 _ 0 _).trans (only_one _ _ 1 _)).drew
        have h9' : ((W1.setCell ⟨w.heap.size, 0, none⟩ (.int .i64 u)).setCell ⟨w.heap.size, 1, none⟩ (.int .i64 v)).drew.heap[w.heap.size]? = some (.cells #[.int .i64 u, .int .i64 v] 54) := h9
        show bodyPost _ _ _ _ _ ((W1.setCell ⟨w.heap.size, 0, none⟩ (.int .i64 u)).setCell ⟨w.heap.size, 1, none⟩ (.int .i64 v)).drew
        generalize ((W1.setCell ⟨w.heap.size, 0, none⟩ (.int .i64 u)).setCell ⟨w.heap.size, 1, none⟩ (.int .i64 v)).drew = W9 at hone h9' ⊢
        have r0 := cell_of_heap h9' 0
        have r1 := cell_of_heap h9' 1
        simp only [List.getElem?_toArray, List.getElem?_cons_zero, List.getElem?_cons_succ] at r0 r1
        refine bodyPost_ret (v := .agg #[.int .i64 u, .int .i64 v]) (by simp [results, Tryz.results108, go_sem, r0, r1]) rfl ?_
        exact ⟨by rw [hu, hv, HU.out, HV.out], HB.out.trans (hone.below (fun k hk => by omega))⟩
      · have h1 : ((q : Int) != 0) = true := by rw [bne_iff_ne]; omega
        have h2 : ¬ ((q : Int) = 0) := by omega
        have HZ := Lib.hid hz
        clear hz
        go_wp2_with fail
        go_roundw
        case rel => exact ⟨q, p % q, rfl, rfl, Lib.hid (by rw [← HG.out, Nat.gcd_comm q, ← Nat.gcd_rec, Nat.gcd_comm]), hq, by have := Nat.mod_lt p (show 0 < q by have := HZ.out; omega); omega, trivial⟩
        case measure => simp [intOf]; have := Nat.mod_lt p (show 0 < q by have := HZ.out; omega); omega

end Go.Proofs.YtfdklmpkienfhaaGreat
