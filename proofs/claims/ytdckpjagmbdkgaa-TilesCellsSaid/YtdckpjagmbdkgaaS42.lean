/- The reference's polynomials: rows of ones, the orders. -/
import Derived.Test.YtdckpjagmbdkgaaS41
namespace Go.Proofs.Ytdckpjagmbdkgaa
set_option linter.unusedSimpArgs false
set_option linter.unusedVariables false
open Go.RowKit
open HySer (ones)

theorem Own1.push {w wr w' : World} {g g' : Nat} {v v' : Value} {l : List Int} {x : Int} (h : Own1 w wr g v l) (hq : QRow w' g' 1 v' (l.length + 1) (nums .i64 l ++ [.int .i64 x])) (ho : Only (fun k => k = g ∨ wr.heap.size ≤ k) wr w') (hg : g' = g ∨ wr.heap.size ≤ g') : Own1 w w' g' v' (l ++ [x]) := by
  have hs := h.below.size
  have hge := h.ge
  refine ⟨?_, by omega, h.below.trans (ho.below fun k hk => by omega)⟩
  unfold IQ
  rw [List.length_append]
  simpa [nums] using hq
theorem Own1.nil (w : World) (t : TypeId) : Own1 w (w.alloc (.cells #[] t)) w.heap.size (.slice (some ⟨w.heap.size, 0, none⟩) 0 0) [] :=
  ⟨QRow.new w [] 0 1 t (by simp) (by decide), Nat.le_refl _, (Below.refl _ _).alloc (Nat.le_refl _) _⟩

set_option maxRecDepth 100000 in
set_option maxHeartbeats 1000000 in
theorem r04_row (m : Nat) (hm : m ≤ 1000) (w : World) : Calls Try.prog 56 #[.int .i64 m] w (NewI (ones m) w) := by
  have H0 := Lib.hid (Own1.nil w 3)
  go_enter Try.func56, Try.ntmps56
  go_wp2_with fail
  go_loopw [3, 4] (fun v iv wr => ∃ k g : Nat, iv = .int .i64 k ∧ k ≤ m ∧ Hid (Own1 w wr g v (ones k))) (fun _ iv _ => m - (intOf iv).toNat)
  case atStart => exact ⟨0, _, rfl, Nat.zero_le _, H0⟩
  case round =>
    clear H0
    obtain ⟨k, g, rfl, hk, HQ⟩ := hrel
    by_cases hlt : k < m
    · have hki : (k : Int) < (m : Int) := by omega
      obtain ⟨off, cap, rfl, -⟩ := HQ.out.q.open
      have hL : (ones k).length = k := by simp [ones]
      have HL := Lib.hid hL
      have HQR := Lib.hid (show QRow wr g 1 (.slice (some ⟨g, off, none⟩) (ones k).length cap) (ones k).length (nums .i64 (ones k)) from HQ.out.q)
      rw [hL] at HQR ⊢
      clear hL
      go_wp2_with (at_builtin; refine wpList_queueSrc_grow1 rowInt rfl _ _ rfl (v := .slice (some ⟨g, off, none⟩) k cap) (xs := nums .i64 (ones k)) (n := k) rfl HQR.out 1 [.int .i64 1] 3 rfl rfl (fun u hu => by simp at hu; subst hu; rfl) ?c3 ?_)
      case c3 => omega
      intro v' w' g' h2 h3 h4
      have HN := Lib.hid (show Own1 w w' g' v' (ones (k + 1)) from by
        have e : ones (k + 1) = ones k ++ [1] := by simp [ones, List.replicate_succ']
        rw [e]
        exact HQ.out.push (by rw [HL.out]; exact h2) h3 h4)
      clear h2 h3 h4 HQ HQR
      go_wp2_with fail
      go_roundw
      case rel => exact ⟨k + 1, g', by go_num, by omega, HN⟩
      case measure => simp [intOf]; omega
    · obtain rfl : k = m := by omega
      go_wp2_with fail
      go_ret
      exact HQ.out.new

/-- The world when the orders are looked through. -/
def orW (o : Hy.Ord) (w : World) : World := ((w.alloc (.cells #[.int .i64 o.m01, .int .i64 o.m12, .int .i64 o.m02] 23)).alloc (.cells #[.int .i64 o.m01, .int .i64 o.m12, .int .i64 o.m02] 3)).alloc (.cells #[] 3)
theorem orW_size (o : Hy.Ord) (w : World) : (orW o w).heap.size = w.heap.size + 3 := by simp [orW]
theorem orW_cell (o : Hy.Ord) (w : World) {k : Nat} (hk : k < 3) : (orW o w).cell? ⟨w.heap.size + 1, k, none⟩ = some (.int .i64 (([o.m01, o.m12, o.m02].getD k 0 : Nat) : Int)) := by
  have h1 := alloc_heap_new (w.alloc (.cells #[.int .i64 o.m01, .int .i64 o.m12, .int .i64 o.m02] 23)) (.cells #[.int .i64 o.m01, .int .i64 o.m12, .int .i64 o.m02] 3)
  have h2 := ((Below.refl _ ((w.alloc (.cells #[.int .i64 o.m01, .int .i64 o.m12, .int .i64 o.m02] 23)).alloc (.cells #[.int .i64 o.m01, .int .i64 o.m12, .int .i64 o.m02] 3))).alloc (Nat.le_refl _) (.cells #[] 3)).block (w.heap.size + 1) (by simp)
  have hb : (orW o w).heap[w.heap.size + 1]? = some (.cells #[.int .i64 o.m01, .int .i64 o.m12, .int .i64 o.m02] 3) := h2.trans (by simpa using h1)
  rw [cell_of_heap hb k]
  match k, hk with
  | 0, _ => rfl
  | 1, _ => rfl
  | 2, _ => rfl
theorem orW_own (o : Hy.Ord) (w : World) : Own1 w (orW o w) (w.heap.size + 2) (.slice (some ⟨w.heap.size + 2, 0, none⟩) 0 0) [] := by
  have h := QRow.new ((w.alloc (.cells #[.int .i64 o.m01, .int .i64 o.m12, .int .i64 o.m02] 23)).alloc (.cells #[.int .i64 o.m01, .int .i64 o.m12, .int .i64 o.m02] 3)) [] 0 1 3 (by simp) (by decide)
  refine ⟨?_, by omega, (((Below.refl _ _).alloc (Nat.le_refl _) _).alloc (by simp) _).alloc (by simp; omega) _⟩
  unfold IQ orW
  simpa [nums] using h

set_option maxRecDepth 100000 in
set_option maxHeartbeats 1000000 in
theorem r04_orders (o : Hy.Ord) (w : World) : Calls Try.prog 54 #[ordersV o.m01 o.m12 o.m02] w (NewI (ints (Hy.orders o)) w) := by
  have H0 := Lib.hid (orW_own o w)
  have HC := Lib.hid (fun (k : Nat) (hk : k < 3) => orW_cell o w hk)
  have HZ := Lib.hid (orW_size o w)
  unfold ordersV
  go_enter Try.func54, Try.ntmps54
  go_upto_region 4 with fail
  change Code.wp _ _ _ _ (orW o w)
  obtain ⟨w0, hw0⟩ : ∃ w0, w0 = orW o w := ⟨_, rfl⟩
  rw [← hw0] at H0 HC HZ ⊢
  clear hw0
  have HX := Lib.hid (show ∀ w', Below (w.heap.size + 2) w0 w' → ∀ k, k < 3 → w'.cell? ⟨w.heap.size + 1, k, none⟩ = some (.int .i64 (([o.m01, o.m12, o.m02].getD k 0 : Nat) : Int)) from fun w' hb k hk => (hb.cell (p := ⟨w.heap.size + 1, k, none⟩) (by simp only; omega)).trans (HC.out k hk))
  go_loopw [4, 5] (fun v iv wr => ∃ k g : Nat, iv = .int .i64 k ∧ k ≤ 3 ∧ Hid (Own1 w wr g v (ints (someOrd o k))) ∧ w.heap.size + 2 ≤ g ∧ Hid (Below (w.heap.size + 2) w0 wr)) (fun _ iv _ => 3 - (intOf iv).toNat)
  case atStart => exact ⟨0, _, rfl, Nat.zero_le _, H0, Nat.le_refl _, Lib.hid (Below.refl _ _)⟩
  case round =>
    clear H0
    obtain ⟨k, g, rfl, hk, HQ, hg2, HB⟩ := hrel
    by_cases hlt : k < 3
    · have hki : (k : Int) < 3 := by omega
      have c1 := HX.out wr HB.out k hlt
      have hsucc := someOrd_succ o hlt
      obtain ⟨m, hm⟩ : ∃ m, m = [o.m01, o.m12, o.m02].getD k 0 := ⟨_, rfl⟩
      rw [← hm] at c1 hsucc
      clear hm
      by_cases hp : 0 < m
      · rw [if_pos hp] at hsucc
        have HSU := Lib.hid (show ints (someOrd o (k + 1)) = ints (someOrd o k) ++ [(m : Int)] from by rw [hsucc]; simp [ints])
        have hne : ¬ (m : Int) = 0 := by omega
        obtain ⟨off, cap, rfl, -⟩ := HQ.out.q.open
        obtain ⟨l, hl⟩ : ∃ l, l = ints (someOrd o k) := ⟨_, rfl⟩
        rw [← hl] at HQ HSU ⊢
        have hl3 : l.length ≤ 3 := by
          have : ([o.m01, o.m12, o.m02].take k).length ≤ 3 := by simp; omega
          have h2 := List.length_filter_le (0 < ·) ([o.m01, o.m12, o.m02].take k)
          rw [hl]; unfold ints someOrd; rw [List.length_map]; omega
        have HQR := Lib.hid (show QRow wr g 1 (.slice (some ⟨g, off, none⟩) l.length cap) l.length (nums .i64 l) from HQ.out.q)
        clear hl hsucc hp
        go_wp2_with (at_builtin; refine wpList_queueSrc_grow1 rowInt rfl _ _ rfl (v := .slice (some ⟨g, off, none⟩) l.length cap) (xs := nums .i64 l) (n := l.length) rfl HQR.out 1 [.int .i64 m] 3 rfl rfl (fun u hu => by simp at hu; subst hu; rfl) ?c3 ?_)
        case c3 => omega
        intro v' w' g' h2 h3 h4
        have hsz := HB.out.size
        have hz := HZ.out
        have HN := Lib.hid (show Own1 w w' g' v' (ints (someOrd o (k + 1))) from by
          rw [HSU.out]
          exact HQ.out.push h2 h3 h4)
        have HB2 := Lib.hid (HB.out.trans (h3.below (fun x hx => by omega)))
        have hg3 : w.heap.size + 2 ≤ g' := by omega
        clear h2 h3 h4 HQ HQR HB hsz hz
        go_wp2_with fail
        go_roundw
        case rel => exact ⟨k + 1, g', by go_num, by omega, HN, hg3, HB2⟩
        case measure => simp [intOf]; omega
      · rw [if_neg hp] at hsucc
        obtain rfl : m = 0 := by omega
        have HN := Lib.hid (show Own1 w wr g u4 (ints (someOrd o (k + 1))) from by rw [hsucc]; exact HQ.out)
        clear hsucc hp HQ
        go_wp2_with fail
        go_roundw
        case rel => exact ⟨k + 1, g, by go_num, by omega, HN, hg2, HB⟩
        case measure => simp [intOf]; omega
    · obtain rfl : k = 3 := by omega
      rw [someOrd_all] at HQ
      go_wp2_with fail
      go_ret
      exact HQ.out.new
end Go.Proofs.Ytdckpjagmbdkgaa
