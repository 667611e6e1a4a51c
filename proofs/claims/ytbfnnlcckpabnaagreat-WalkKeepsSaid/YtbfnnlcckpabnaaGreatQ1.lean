import Derived.Test.YtbfnnlcckpabnaaGreatS8
import Derived.Test.YtbfnnlcckpabnaaGreatRel
import Derived.OwnWalkIn

/- The specification of layer 7: a list without a wall, with a wall. -/
namespace Go.Proofs.YtbfnnlcckpabnaaGreat
set_option linter.unusedSimpArgs false
set_option linter.unusedVariables false
open Go.RowKit

/-- The first k elements of a list in which, at the place n, d elements are replaced. -/
def sx {α : Type} (T : List α) (n : Nat) (mid : List α) (d k : Nat) : List α := if n < k then T.take n ++ mid ++ (T.take k).drop (n + d) else T.take k

theorem sx_out {α : Type} {T : List α} {n k : Nat} {mid : List α} {d : Nat} (hd : d ≤ 1) (h : (k = n ∧ d = 1) ∨ k = T.length) : sx T n mid d (k + 1) = sx T n mid d k ++ (if k = n then mid else []) := by
  unfold sx
  by_cases h1 : k = n
  · subst h1
    rw [if_pos (by omega), if_neg (by omega), if_pos rfl]
    have : (T.take (k + 1)).drop (k + d) = [] := by
      rw [List.drop_eq_nil_iff, List.length_take]
      omega
    rw [this, List.append_nil]
  · have h2 : k = T.length := by omega
    rw [if_neg h1, List.append_nil]
    have : T.take (k + 1) = T.take k := by rw [List.take_of_length_le (by omega), List.take_of_length_le (by omega)]
    rw [this]
    by_cases h3 : n < k
    · rw [if_pos (by omega), if_pos h3]
    · rw [if_neg (by omega), if_neg h3]

theorem sx_in {α : Type} {T : List α} {n k : Nat} {mid : List α} {d : Nat} (hd : d ≤ 1) (hk : k < T.length) (h : ¬ (k = n ∧ d = 1)) : sx T n mid d (k + 1) = sx T n mid d k ++ (if k = n then mid else []) ++ [T[k]] := by
  unfold sx
  have hl : (T.take k).length = k := by simp; omega
  rw [List.take_succ_eq_append_getElem hk]
  by_cases h1 : k = n
  · subst h1
    rw [if_pos (by omega), if_neg (by omega), if_pos rfl]
    obtain rfl : d = 0 := by omega
    rw [Nat.add_zero, List.drop_left' hl]
  · rw [if_neg h1, List.append_nil]
    by_cases h3 : n < k
    · rw [if_pos (by omega), if_pos h3, List.drop_append_of_le_length (by omega)]
      simp
    · rw [if_neg (by omega), if_neg h3]

theorem sx_len {α : Type} (T : List α) (n : Nat) (mid : List α) (d k : Nat) : (sx T n mid d k).length ≤ T.length + mid.length := by
  unfold sx
  split
  · simp; omega
  · simp; omega

theorem sx_zero {α : Type} (T : List α) (n : Nat) (mid : List α) (d : Nat) : sx T n mid d 0 = [] := by
  unfold sx; simp

theorem sx_erase {α : Type} {T : List α} {n : Nat} (hn : n < T.length) : sx T n [] 1 T.length = T.eraseIdx n := by
  unfold sx
  rw [if_pos hn, List.take_length, List.append_nil, List.eraseIdx_eq_take_drop_succ]

theorem sx_insert {α : Type} {T : List α} {n : Nat} (hn : n ≤ T.length) (a : α) : sx T n [a] 0 (T.length + 1) = T.insertIdx n a := by
  unfold sx
  have h1 : T.take (T.length + 1) = T := List.take_of_length_le (by omega)
  rw [if_pos (by omega), h1, Nat.add_zero, take_insert hn]

theorem below_grown {N base : Nat} {w w' : World} {e : TypeId} {size : Nat} {v : Value} {n : Nat} {xs : List Value} (h : w.ownsRow base e size v n xs) (hg : w.grownBy w' v.ownBlock) (hN : N ≤ base) (hb : N ≤ w.heap.size) : Below N w w' :=
  ⟨hg.os, hg.tape, hg.output, hg.size, fun k hk => hg.block k (by omega) (fun hh => by
    have := (h.lt k hh.symm).1
    omega)⟩

/-- One more element of two cells. -/
theorem row_snoc {α : Type} {e0 e1 : α → Value} {w' : World} {base : Nat} {e : TypeId} {v' : Value} {L L' : List α} {a : α} (h : w'.ownsRow base e 2 v' (L.length + 1) (flat2 e0 e1 L ++ [e0 a, e1 a])) (hL : L' = L ++ [a]) : w'.ownsRow base e 2 v' L'.length (flat2 e0 e1 L') := by
  subst hL
  rw [List.length_append, flat2_append]
  exact h

theorem new_two {w : World} {x y : Value} {t : TypeId} : ∀ (j : Nat) (u : Value), [x, y][j]? = some u → (w.alloc (.cells #[x, y] t)).cell? ((⟨w.heap.size, 0, none⟩ : Addr).add j) = some u := fun j u hj => by
  have h := alloc_heap_new w (.cells #[x, y] t)
  rcases j with _ | _ | j
  · simp at hj; subst hj; exact cell_of_heap h 0
  · simp at hj; subst hj; exact cell_of_heap h 1
  · simp at hj

set_option maxRecDepth 100000 in
set_option maxHeartbeats 4000000 in
theorem r07_withoutWall {w : World} {v : Value} {T : WallList} (h : Pairs encW0 encW1 w v T) (hT : T.length ≤ 1000) (n : Nat) (hn : n < T.length) :
    Calls Tryz.prog 58 #[v, .int .i64 n] w fun e w' => ∃ v', e = .returned v' ∧ Pairs encW0 encW1 w' v' (T.eraseIdx n) ∧ Below w.heap.size w w' := by
  have H := Lib.hid h
  obtain ⟨base, cap, rfl, hcells⟩ := h
  have HC := Lib.hid hcells
  obtain ⟨i0, hi0, hzi0, hzi1, hzi2⟩ := info_parts infoWall
  have HI0 := Lib.hid hi0
  clear hcells hi0
  go_enter Tryz.func58, Tryz.ntmps58
  go_wp2_with fail
  go_loopw [5, 6] (fun v i wr => ∃ k : Nat, k ≤ T.length ∧ i = .int .i64 k ∧ Hid (Below w.heap.size w wr) ∧ Hid (wr.ownsRow w.heap.size 83 2 v (sx T n [] 1 k).length (flat2 encW0 encW1 (sx T n [] 1 k)))) (fun _ i _ => T.length - (intOf i).toNat)
  case atStart =>
    refine ⟨0, Nat.zero_le _, rfl, (Below.refl _ _).alloc (Nat.le_refl _) _, ?_⟩
    rw [sx_zero]
    exact World.ownsRow_made w #[] 0 (Nat.le_refl _) (by unfold maxLen; omega) rfl
  case round =>
    obtain ⟨k, hk, rfl, HB, HR⟩ := hrel
    by_cases hlt : k < T.length
    · obtain ⟨g, off, rfl, hg, hc0, hc1⟩ := HC.out k hlt
      have e0 := ((bcell HB.out).1 g (off + k * 2) hg).trans hc0
      have e1 := ((bcell HB.out).1 g (off + k * 2 + 1) hg).trans hc1
      clear hc0 hc1
      simp only [encW0, encW1, str] at e0 e1
      by_cases hkn : k = n
      · have hsx := sx_out (T := T) (n := n) (k := k) (mid := []) (d := 1) (Nat.le_refl _) (.inl ⟨hkn, rfl⟩)
        rw [ite_self, List.append_nil] at hsx
        have HSX := Lib.hid hsx; clear hsx
        subst hkn
        go_wp2_with fail
        go_roundw
        case rel => exact ⟨k + 1, by omega, by go_num, HB, by rw [HSX.out]; exact HR.out⟩
        case measure => simp [intOf] <;> omega
      · have hsx := sx_in (T := T) (n := n) (mid := []) (d := 1) (Nat.le_refl _) hlt (by omega)
        rw [ite_self, List.append_nil] at hsx
        have HSX := Lib.hid hsx; clear hsx
        have hsl := sx_len T n [] 1 k
        have hsz := HB.out.size
        go_wp2_with (at_builtin; refine wpList_append_own _ rfl _ _ 35 rfl w.heap.size 83 i0 (.agg #[.string ⟨#[]⟩, .int .i64 0]) 2 24 Tryz.underlying35 HI0.out hzi0 hzi1 hzi2 rfl (by decide) _ _ _ rfl (HR.out.alloc _) ⟨wr.heap.size, 0, none⟩ 1 1 [encW0 T[k], encW1 T[k]] rfl rfl new_two ?c2 ?c3 ?c4 ?c5 ?_)
        case c2 => intro u hu; simp at hu; rcases hu with rfl | rfl <;> rfl
        case c3 => unfold maxLen; simp at hsl; omega
        case c4 => simp at hsl; omega
        case c5 => simp; omega
        intro v' w3 hown' hgrow _
        have HB3 := Lib.hid (((HB.out.alloc hsz _)).grown hgrow (by simp; omega) (fun j hj => (HR.out.lt j hj).1))
        have HO := Lib.hid (row_snoc hown' HSX.out)
        clear hown' hgrow
        go_wp2_with fail
        go_roundw
        case rel => exact ⟨k + 1, by omega, by go_num, HB3, HO⟩
        case measure => simp [intOf] <;> omega
    · obtain rfl : k = T.length := by omega
      have hR := HR.out
      rw [sx_erase hn] at hR
      have HP := Lib.hid (ownsRow_pairs hR)
      clear hR hlt
      go_wp2_with fail
      go_ret
      exact ⟨_, rfl, HP.out, HB.out⟩

set_option maxRecDepth 100000 in
set_option maxHeartbeats 4000000 in
theorem r07_withWall {w : World} {v : Value} {T : WallList} (h : Pairs encW0 encW1 w v T) (hT : T.length ≤ 1000) (n : Nat) (hn : n ≤ T.length) (a : List UInt8 × Int) :
    Calls Tryz.prog 57 #[v, .int .i64 n, .agg #[str a.1, .int .i64 a.2]] w fun e w' => ∃ v', e = .returned v' ∧ Pairs encW0 encW1 w' v' (T.insertIdx n a) ∧ Below w.heap.size w w' := by
  have H := Lib.hid h
  obtain ⟨base, cap, rfl, hcells⟩ := h
  have HC := Lib.hid hcells
  obtain ⟨i0, hi0, hzi0, hzi1, hzi2⟩ := info_parts infoWall
  have HI0 := Lib.hid hi0
  clear hcells hi0
  unfold str
  go_enter Tryz.func57, Tryz.ntmps57
  go_wp2_with fail
  obtain ⟨W0, hW0⟩ : ∃ W0, w.alloc (.cells #[.string ⟨a.1.toArray⟩, .int .i64 a.2] 83) = W0 := ⟨_, rfl⟩
  have hb0 : W0.heap[w.heap.size]? = some (.cells #[.string ⟨a.1.toArray⟩, .int .i64 a.2] 83 (0, 0)) := by rw [← hW0]; exact alloc_heap_new w _
  have hB0 : Below w.heap.size w W0 := by rw [← hW0]; exact (Below.refl _ _).alloc (Nat.le_refl _) _
  have hs0 : W0.heap.size = w.heap.size + 1 := by rw [← hW0]; simp
  rw [hW0]
  clear hW0
  have HB0 := Lib.hid hB0
  have HBL := Lib.hid hb0
  clear hB0 hb0
  go_loopw [7, 8] (fun v i wr => ∃ k : Nat, k ≤ T.length + 1 ∧ i = .int .i64 k ∧ Hid (Below w.heap.size w wr) ∧ w.heap.size < wr.heap.size ∧ Hid (wr.heap[w.heap.size]? = some (.cells #[.string ⟨a.1.toArray⟩, .int .i64 a.2] 83 (0, 0))) ∧ Hid (wr.ownsRow (w.heap.size + 1) 83 2 v (sx T n [a] 0 k).length (flat2 encW0 encW1 (sx T n [a] 0 k)))) (fun _ i _ => T.length + 1 - (intOf i).toNat)
  case atStart =>
    refine ⟨0, Nat.zero_le _, rfl, HB0.out.alloc (by omega) _, by simp; omega, ?_, ?_⟩
    · exact (heap_alloc_lt _ _ (by omega)).trans HBL.out
    · rw [sx_zero]
      have := World.ownsRow_made (base := w.heap.size + 1) (e := 83) (size := 2) W0 #[] 0 (by omega) (by unfold maxLen; omega) rfl
      rw [hs0] at this
      exact this
  case round =>
    obtain ⟨k, hk, rfl, HB, hwl, HAB, HR⟩ := hrel
    have hsl := sx_len T n [a] 0 k
    by_cases hlt : k < T.length
    · obtain ⟨g, off, rfl, hg, hc0, hc1⟩ := HC.out k hlt
      have HE := Lib.hid (fun W (hW : Below w.heap.size w W) => And.intro (((bcell hW).1 g (off + k * 2) hg).trans hc0) (((bcell hW).1 g (off + k * 2 + 1) hg).trans hc1))
      clear hc0 hc1
      have hsx := sx_in (T := T) (n := n) (mid := [a]) (d := 0) (by omega) hlt (by omega)
      by_cases hkn : k = n
      · subst hkn
        rw [if_pos rfl] at hsx
        have HSX := Lib.hid hsx; clear hsx
        have p0 := cell_of_heap HAB.out 0
        have p1 := cell_of_heap HAB.out 1
        simp at p0 p1
        have hsz_w3 := (HB.out).size
        go_wp2_with (at_builtin; refine wpList_append_own _ rfl _ _ 35 rfl (w.heap.size + 1) 83 i0 (.agg #[.string ⟨#[]⟩, .int .i64 0]) 2 24 Tryz.underlying35 HI0.out hzi0 hzi1 hzi2 rfl (by decide) _ _ _ rfl ((HR.out).alloc _) ⟨wr.heap.size, 0, none⟩ 1 1 [encW0 a, encW1 a] rfl rfl new_two ?c2 ?c3 ?c4 ?c5 ?_)
        case c2 => intro u hu; simp at hu; rcases hu with rfl | rfl <;> rfl
        case c3 => unfold maxLen; simp at hsl ⊢; omega
        case c4 => simp at hsl ⊢; omega
        case c5 => simp; omega
        intro v_w3 w3 hown_w3 hgrow_w3 _
        have HB_w3 := Lib.hid (((HB.out).alloc hsz_w3 _).grown hgrow_w3 (by simp; omega) (fun j hj => by have := ((HR.out).lt j hj).1; omega))
        have HO_w3 := Lib.hid (row_snoc hown_w3 (rfl : sx T k [a] 0 k ++ [a] = sx T k [a] 0 k ++ [a]))
        have hws_w3 : w.heap.size < w3.heap.size := Nat.lt_of_lt_of_le (by simp; omega) hgrow_w3.size
        clear hown_w3
        generalize sx T k [a] 0 k ++ [a] = L3 at HO_w3 HSX
        have hsl3 : L3.length ≤ T.length + 1 := by have := sx_len T k [a] 0 (k + 1); rw [HSX.out] at this; simp at this; omega
        obtain ⟨e0, e1⟩ := HE.out _ HB_w3.out
        simp only [encW0, encW1, str] at e0 e1
        have HAB3 := Lib.hid ((hgrow_w3.block w.heap.size (by simp; omega) (fun hh => by have := (HR.out.lt _ hh.symm).1; omega)).trans ((heap_alloc_lt _ _ hwl).trans HAB.out))
        clear hgrow_w3
        have hsz_w4 := (HB_w3.out).size
        go_wp2_with (at_builtin; refine wpList_append_own _ rfl _ _ 35 rfl (w.heap.size + 1) 83 i0 (.agg #[.string ⟨#[]⟩, .int .i64 0]) 2 24 Tryz.underlying35 HI0.out hzi0 hzi1 hzi2 rfl (by decide) _ _ _ rfl ((HO_w3.out).alloc _) ⟨w3.heap.size, 0, none⟩ 1 1 [encW0 T[k], encW1 T[k]] rfl rfl new_two ?c2 ?c3 ?c4 ?c5 ?_)
        case c2 => intro u hu; simp at hu; rcases hu with rfl | rfl <;> rfl
        case c3 => unfold maxLen; simp at hsl ⊢; omega
        case c4 => simp at hsl ⊢; omega
        case c5 => simp; omega
        intro v_w4 w4 hown_w4 hgrow_w4 _
        have HB_w4 := Lib.hid (((HB_w3.out).alloc hsz_w4 _).grown hgrow_w4 (by simp; omega) (fun j hj => by have := ((HO_w3.out).lt j hj).1; omega))
        have HO_w4 := Lib.hid (row_snoc hown_w4 HSX.out)
        have hws_w4 : w.heap.size < w4.heap.size := Nat.lt_of_lt_of_le (by simp; omega) hgrow_w4.size
        clear hown_w4
        have HAB4 := Lib.hid ((hgrow_w4.block w.heap.size (by simp; omega) (fun hh => by have := (HO_w3.out.lt _ hh.symm).1; omega)).trans ((heap_alloc_lt _ _ hws_w3).trans HAB3.out))
        clear hgrow_w4
        go_wp2_with fail
        go_roundw
        case rel => exact ⟨k + 1, by omega, by go_num, HB_w4, hws_w4, HAB4, HO_w4⟩
        case measure => simp [intOf] <;> omega
      · rw [if_neg hkn, List.append_nil] at hsx
        have HSX := Lib.hid hsx; clear hsx
        obtain ⟨e0, e1⟩ := HE.out _ HB.out
        simp only [encW0, encW1, str] at e0 e1
        have hsz_w4 := (HB.out).size
        go_wp2_with (at_builtin; refine wpList_append_own _ rfl _ _ 35 rfl (w.heap.size + 1) 83 i0 (.agg #[.string ⟨#[]⟩, .int .i64 0]) 2 24 Tryz.underlying35 HI0.out hzi0 hzi1 hzi2 rfl (by decide) _ _ _ rfl ((HR.out).alloc _) ⟨wr.heap.size, 0, none⟩ 1 1 [encW0 T[k], encW1 T[k]] rfl rfl new_two ?c2 ?c3 ?c4 ?c5 ?_)
        case c2 => intro u hu; simp at hu; rcases hu with rfl | rfl <;> rfl
        case c3 => unfold maxLen; simp at hsl ⊢; omega
        case c4 => simp at hsl ⊢; omega
        case c5 => simp; omega
        intro v_w4 w4 hown_w4 hgrow_w4 _
        have HB_w4 := Lib.hid (((HB.out).alloc hsz_w4 _).grown hgrow_w4 (by simp; omega) (fun j hj => by have := ((HR.out).lt j hj).1; omega))
        have HO_w4 := Lib.hid (row_snoc hown_w4 HSX.out)
        have hws_w4 : w.heap.size < w4.heap.size := Nat.lt_of_lt_of_le (by simp; omega) hgrow_w4.size
        clear hown_w4
        have HAB4 := Lib.hid ((hgrow_w4.block w.heap.size (by simp; omega) (fun hh => by have := (HR.out.lt _ hh.symm).1; omega)).trans ((heap_alloc_lt _ _ hwl).trans HAB.out))
        clear hgrow_w4
        go_wp2_with fail
        go_roundw
        case rel => exact ⟨k + 1, by omega, by go_num, HB_w4, hws_w4, HAB4, HO_w4⟩
        case measure => simp [intOf] <;> omega
    · by_cases hk2 : k = T.length
      · subst hk2
        have hsx := sx_out (T := T) (n := n) (k := T.length) (mid := [a]) (d := 0) (by omega) (.inr rfl)
        by_cases hkn : T.length = n
        · subst hkn
          rw [if_pos rfl] at hsx
          have HSX := Lib.hid hsx; clear hsx
          have p0 := cell_of_heap HAB.out 0
          have p1 := cell_of_heap HAB.out 1
          simp at p0 p1
          have hsz_w3 := (HB.out).size
          go_wp2_with (at_builtin; refine wpList_append_own _ rfl _ _ 35 rfl (w.heap.size + 1) 83 i0 (.agg #[.string ⟨#[]⟩, .int .i64 0]) 2 24 Tryz.underlying35 HI0.out hzi0 hzi1 hzi2 rfl (by decide) _ _ _ rfl ((HR.out).alloc _) ⟨wr.heap.size, 0, none⟩ 1 1 [encW0 a, encW1 a] rfl rfl new_two ?c2 ?c3 ?c4 ?c5 ?_)
          case c2 => intro u hu; simp at hu; rcases hu with rfl | rfl <;> rfl
          case c3 => unfold maxLen; simp at hsl ⊢; omega
          case c4 => simp at hsl ⊢; omega
          case c5 => simp; omega
          intro v_w3 w3 hown_w3 hgrow_w3 _
          have HB_w3 := Lib.hid (((HB.out).alloc hsz_w3 _).grown hgrow_w3 (by simp; omega) (fun j hj => by have := ((HR.out).lt j hj).1; omega))
          have HO_w3 := Lib.hid (row_snoc hown_w3 HSX.out)
          have hws_w3 : w.heap.size < w3.heap.size := Nat.lt_of_lt_of_le (by simp; omega) hgrow_w3.size
          clear hown_w3
          have HAB3 := Lib.hid ((hgrow_w3.block w.heap.size (by simp; omega) (fun hh => by have := (HR.out.lt _ hh.symm).1; omega)).trans ((heap_alloc_lt _ _ hwl).trans HAB.out))
          clear hgrow_w3
          go_wp2_with fail
          go_roundw
          case rel => exact ⟨T.length + 1, by omega, by go_num, HB_w3, hws_w3, HAB3, HO_w3⟩
          case measure => simp [intOf] <;> omega
        · rw [if_neg hkn, List.append_nil] at hsx
          have HSX := Lib.hid hsx; clear hsx
          go_wp2_with fail
          go_roundw
          case rel => exact ⟨T.length + 1, by omega, by go_num, HB, hwl, HAB, by rw [HSX.out]; exact HR.out⟩
          case measure => simp [intOf] <;> omega
      · obtain rfl : k = T.length + 1 := by omega
        have hR := HR.out
        rw [sx_insert hn] at hR
        have HP := Lib.hid (ownsRow_pairs hR)
        clear hR hlt hk2
        go_wp2_with fail
        go_ret
        exact ⟨_, rfl, HP.out, HB.out⟩
end Go.Proofs.YtbfnnlcckpabnaaGreat

/- The specification of layer 7: PutWall. -/
namespace Go.Proofs.YtbfnnlcckpabnaaGreat
set_option linter.unusedSimpArgs false
set_option linter.unusedVariables false
open Go.RowKit
open Hy (Lets IsNF Eqv Le)

theorem wallPlace_lt {t : List UInt8} {m : Int} : ∀ {T : WallList} {i : Nat}, (wallPlace t m T i).1 ≤ i + T.length ∧ ((wallPlace t m T i).2 = true → (wallPlace t m T i).1 < i + T.length)
  | [], i => by simp [wallPlace]
  | (k, n) :: r, i => by
    unfold wallPlace
    by_cases he : k = t ∧ n = m
    · rw [if_pos he]; simp
    · rw [if_neg he]
      by_cases ha : wallAhead t m k n = true
      · rw [if_pos ha]; simp
      · rw [if_neg ha]
        obtain ⟨h1, h2⟩ := wallPlace_lt (t := t) (m := m) (T := r) (i := i + 1)
        simp only [List.length_cons]
        exact ⟨by omega, fun h => by have := h2 h; omega⟩

theorem pairs_ne {α : Type} {e0 e1 : α → Value} (he : ∀ a, ∃ s, e0 a = .string s) {w : World} {v : Value} {T : List α} (h : Pairs e0 e1 w v T) {mb : Nat} {a b c : Int} {n1 n2 c1 c2 : Nat} {p1 p2 : Option Addr} {t : TypeId}
    (hm : w.heap[mb]? = some (.cells #[.int .i64 a, .int .i64 b, .int .i64 c, .slice p1 n1 c1, .slice p2 n2 c2] t (0, 0))) : ∀ (k : Nat) (hk : k < T.length), ∀ g off, w.cell? ⟨g, off + k * 2, none⟩ = some (e0 T[k]) → g ≠ mb := by
  rintro k hk g off hc rfl
  have := cell_of_heap hm (off + k * 2)
  rw [hc] at this
  obtain ⟨s, hs⟩ := he T[k]
  rw [hs] at this
  rcases hj : off + k * 2 with _ | _ | _ | _ | _ | j <;> rw [hj] at this <;> simp at this

/-- A list of the map is kept when the map's own block is written. -/
theorem pairs_keep {α : Type} {e0 e1 : α → Value} (he : ∀ a, ∃ s, e0 a = .string s) {w w' : World} {v : Value} {T : List α} (h : Pairs e0 e1 w v T) {mb : Nat} {a b c : Int} {n1 n2 c1 c2 : Nat} {p1 p2 : Option Addr} {t : TypeId}
    (hm : w.heap[mb]? = some (.cells #[.int .i64 a, .int .i64 b, .int .i64 c, .slice p1 n1 c1, .slice p2 n2 c2] t (0, 0))) (ho : Only (fun k => k = mb ∨ w.heap.size ≤ k) w w') : Pairs e0 e1 w' v T := by
  have hne := pairs_ne he h hm
  obtain ⟨base, cap, h1, h2⟩ := h
  refine ⟨base, cap, h1, fun k hk => ?_⟩
  obtain ⟨g, off, h3, h4, h5, h6⟩ := h2 k hk
  have hb := ho.block g (by have := hne k hk g off h5; omega)
  exact ⟨g, off, h3, Nat.lt_of_lt_of_le h4 ho.size, (World.cell?_of_block (a := ⟨g, _, none⟩) hb).trans h5, (World.cell?_of_block (a := ⟨g, _, none⟩) hb).trans h6⟩

theorem pairs_slice {α : Type} {e0 e1 : α → Value} {w : World} {v : Value} {T : List α} (h : Pairs e0 e1 w v T) : ∃ p c, v = .slice p T.length c := by
  obtain ⟨base, cap, h1, _⟩ := h
  exact ⟨base, cap, h1⟩

theorem Map7.below {w w' : World} {mb : Nat} {o : Hy.Ord} {WL : WallList} {TL : ThingList} (h : Map7 w mb o WL TL) (hb : Below w.heap.size w w') : Map7 w' mb o WL TL := by
  obtain ⟨vw, vt, h1, h2, h3⟩ := h
  exact ⟨vw, vt, (hb.block mb (Array.getElem?_eq_some_iff.1 h1).1).trans h1, h2.below hb, h3.below hb⟩

/-- The map has another list of walls. -/
theorem map7_walls {w1 w2 : World} {mb : Nat} {o : Hy.Ord} {WL' : WallList} {TL : ThingList} {pw pt q2 : Option Addr} {nw nt n2 cw ct k2 : Nat}
    (hm : w1.heap[mb]? = some (.cells #[.int .i64 o.m01, .int .i64 o.m12, .int .i64 o.m02, .slice pw nw cw, .slice pt nt ct] 38 (0, 0)))
    (hb : Below w1.heap.size w1 w2) (hp : Pairs encW0 encW1 w2 (.slice q2 n2 k2) WL') (ht : Pairs encT0 encT1 w1 (.slice pt nt ct) TL) : Map7 (w2.setCell ⟨mb, 3, none⟩ (.slice q2 n2 k2)) mb o WL' TL := by
  have hm2 := (hb.block mb (Array.getElem?_eq_some_iff.1 hm).1).trans hm
  have ho : Only (fun k => k = mb ∨ w2.heap.size ≤ k) w2 (w2.setCell ⟨mb, 3, none⟩ (.slice q2 n2 k2)) := (Only.refl _ w2).setCell (p := ⟨mb, 3, none⟩) (.inl rfl) _
  exact ⟨_, _, heap_setCell_same _ _ _ _ _ _ hm2, pairs_keep (fun a => ⟨_, rfl⟩) hp hm2 ho, pairs_keep (fun a => ⟨_, rfl⟩) (ht.below hb) hm2 ho⟩

theorem map7_things {w1 w2 : World} {mb : Nat} {o : Hy.Ord} {WL : WallList} {TL' : ThingList} {pw pt q2 : Option Addr} {nw nt n2 cw ct k2 : Nat}
    (hm : w1.heap[mb]? = some (.cells #[.int .i64 o.m01, .int .i64 o.m12, .int .i64 o.m02, .slice pw nw cw, .slice pt nt ct] 38 (0, 0)))
    (hb : Below w1.heap.size w1 w2) (hp : Pairs encT0 encT1 w2 (.slice q2 n2 k2) TL') (ht : Pairs encW0 encW1 w1 (.slice pw nw cw) WL) : Map7 (w2.setCell ⟨mb, 4, none⟩ (.slice q2 n2 k2)) mb o WL TL' := by
  have hm2 := (hb.block mb (Array.getElem?_eq_some_iff.1 hm).1).trans hm
  have ho : Only (fun k => k = mb ∨ w2.heap.size ≤ k) w2 (w2.setCell ⟨mb, 4, none⟩ (.slice q2 n2 k2)) := (Only.refl _ w2).setCell (p := ⟨mb, 4, none⟩) (.inl rfl) _
  exact ⟨_, _, heap_setCell_same _ _ _ _ _ _ hm2, pairs_keep (fun a => ⟨_, rfl⟩) (ht.below hb) hm2 ho, pairs_keep (fun a => ⟨_, rfl⟩) hp hm2 ho⟩

set_option maxRecDepth 100000 in
set_option maxHeartbeats 4000000 in
theorem r07_PutWall {w : World} {mb : Nat} {o : Hy.Ord} (F : Hy.Fine o) (hS : Small o) {WL : WallList} {TL : ThingList} (h : Map7 w mb o WL TL) (hT : WL.length ≤ 1000) {tile nu nv : List UInt8} (hz : Hy.wordErr tile = 0) {m : Nat} (hm : m < 3) (there : Bool)
    (hu : IsNF o tile nu) (hv : IsNF o (tile ++ Hy.letter m) nv) :
    Calls Tryz.prog 26 #[.pointer (some ⟨mb, 0, none⟩), .agg #[str tile, .int .i64 m], .bool there] w fun e w' =>
      e = .returned (.int .i64 (putWall7 WL (Hy.nearOf nu nv, (m : Int)) there).1) ∧ Map7 w' mb o (putWall7 WL (Hy.nearOf nu nv, (m : Int)) there).2 TL ∧ Only (fun k => k = mb ∨ w.heap.size ≤ k) w w' := by
  have htl := (Hy.wordErr_letters hz).2
  have HNEAR := Lib.hid (fun W => r07_Near F hS (lets_of_err hz) (by omega) hm hu hv W)
  have HCW := Lib.hid (fun W => r03_CheckWord tile W (by omega))
  rw [hz] at HCW
  have HMAP := Lib.hid (fun W (hW : Below w.heap.size w W) => h.below hW)
  generalize Hy.nearOf nu nv = nr at *
  clear hz hu hv
  unfold str at *
  go_enter Tryz.func26, Tryz.ntmps26
  go_upto_region 1 with fail
  obtain ⟨W0, hW0⟩ : ∃ W0, w.alloc (.cells #[.string ⟨tile.toArray⟩, .int .i64 m] 64) = W0 := ⟨_, rfl⟩
  have hb0 : W0.heap[w.heap.size]? = some (.cells #[.string ⟨tile.toArray⟩, .int .i64 m] 64 (0, 0)) := by rw [← hW0]; exact alloc_heap_new w _
  have hB0 : Below w.heap.size w W0 := by rw [← hW0]; exact (Below.refl _ _).alloc (Nat.le_refl _) _
  have hs0 : W0.heap.size = w.heap.size + 1 := by rw [← hW0]; simp
  rw [hW0]
  clear hW0
  have b0 := cell_of_heap hb0 0
  simp at b0
  go_wp2_with fail
  refine (HCW.out _).mono ?_
  rintro e w1 ⟨rfl, hB1⟩
  have hb1 := (hB1.block w.heap.size (by omega)).trans hb0
  have HB1 := Lib.hid (hB0.trans (hB1.mono (by omega)))
  have b1 := cell_of_heap hb1 1
  have c0 := cell_of_heap hb1 0
  simp at b1 c0
  have hbl : w.heap.size < w1.heap.size := (Array.getElem?_eq_some_iff.1 hb1).1
  have HBX := Lib.hid hb1
  clear hb1 hb0 hB0 hB1 b0
  obtain ⟨vw, vt, hm1, hp1, hp2⟩ := HMAP.out _ HB1.out
  obtain ⟨pw, cw, rfl⟩ := pairs_slice hp1
  obtain ⟨pt, ct, rfl⟩ := pairs_slice hp2
  have m0 := cell_of_heap hm1 0
  have m1 := cell_of_heap hm1 1
  have m2 := cell_of_heap hm1 2
  simp at m0 m1 m2
  have HM1 := Lib.hid hm1
  have HP1 := Lib.hid hp1
  have HP2 := Lib.hid hp2
  clear hm1 hp1 hp2
  go_upto_region 6 with fail
  go_cut [8] (fun s8 wx => ∃ sb : Nat, s8 = .pointer (some ⟨sb, 0, none⟩) ∧ Hid (Below w1.heap.size w1 wx) ∧ Hid (wx.heap[sb]? = some (.cells #[.string ⟨nr.toArray⟩, .int .i64 m] 83 (0, 0))) ∧ w1.heap.size ≤ sb)
  case first =>
    have hmbl : mb < w1.heap.size := (Array.getElem?_eq_some_iff.1 HM1.out).1
    have HST := Lib.hid (fun (W : World) (hW : Below w1.heap.size w1 W) => (⟨((bcell hW).1 mb 0 hmbl).trans m0, ((bcell hW).1 mb 1 hmbl).trans m1, ((bcell hW).1 mb 2 hmbl).trans m2, ((bcell hW).1 _ 0 hbl).trans c0, ((bcell hW).1 _ 1 hbl).trans b1⟩ : W.cell? ⟨mb, 0, none⟩ = some (.int .i64 o.m01) ∧ W.cell? ⟨mb, 1, none⟩ = some (.int .i64 o.m12) ∧ W.cell? ⟨mb, 2, none⟩ = some (.int .i64 o.m02) ∧ W.cell? ⟨w.heap.size, 0, none⟩ = some (.string ⟨tile.toArray⟩) ∧ W.cell? ⟨w.heap.size, 1, none⟩ = some (.int .i64 m)))
    go_region_held3 (fun w' => w'.cell? ⟨mb, 0, none⟩ = some (.int .i64 o.m01) ∧ w'.cell? ⟨mb, 1, none⟩ = some (.int .i64 o.m12) ∧ w'.cell? ⟨mb, 2, none⟩ = some (.int .i64 o.m02) ∧ w'.cell? ⟨w.heap.size, 0, none⟩ = some (.string ⟨tile.toArray⟩) ∧ w'.cell? ⟨w.heap.size, 1, none⟩ = some (.int .i64 m))
      (first | go_keep | (exact HST.out _ HB2.out) | (exact HST.out _ ((HB2.out.setCell (Nat.le_refl _) _).setCell (Nat.le_refl _) _)) | (exact HST.out _ ((HB2.out.setCell HB2.out.size _).setCell HB2.out.size _)))
      ((first
        | (go_at_call 38; refine (HNEAR.out _).mono ?_; rintro e w2 ⟨rfl, hB2⟩; have HX2 := Lib.hid hB2; have HB2 := Lib.hid (show Below w1.heap.size w1 w2 from by first | exact hB2 | exact below_undrew hB2 | exact below_unalloc hB2 | exact ((Below.refl _ _).alloc (Nat.le_refl _) _).trans (hB2.mono (by simp))); obtain ⟨n0, n1, n2, n3, n4⟩ := HST.out _ HB2.out; obtain ⟨hc2, hf2⟩ := bcell hB2; have hz2 := hB2.size; (try simp at hz2 hc2 hf2); clear hB2)))
    all_goals go_wp2_with fail
    · go_meet
      case rel => exact ⟨w2.heap.size, rfl, HB2.out.alloc HB2.out.size _, alloc_heap_new w2 _, HB2.out.size⟩
    · go_meet
      case rel =>
        have h2 : w2.heap[w1.heap.size]? = _ := (HX2.out.block w1.heap.size (by simp)).trans (alloc_heap_new w1 _)
        exact ⟨w1.heap.size, rfl, (HB2.out.setCell (Nat.le_refl _) _).setCell (Nat.le_refl _) _, two_stores h2, Nat.le_refl _⟩
  case rest =>
    obtain ⟨sb, rfl, HB5, HSB, hsb⟩ := hcut
    have HB1c := Lib.hid (HB1.out.trans (HB5.out.mono HB1.out.size))
    have hmbl : mb < w1.heap.size := (Array.getElem?_eq_some_iff.1 HM1.out).1
    have hsl : sb < wc.heap.size := (Array.getElem?_eq_some_iff.1 HSB.out).1
    have hm5 := (HB5.out.block mb hmbl).trans HM1.out
    have hmcl : mb < wc.heap.size := (Array.getElem?_eq_some_iff.1 hm5).1
    have HM5 := Lib.hid hm5
    have HP5 := Lib.hid (HP1.out.below HB5.out)
    have HT5 := Lib.hid (HP2.out.below HB5.out)
    have HAT := Lib.hid (fun W (hW : Below wc.heap.size wc W) => r07_wallAt (HP5.out.below hW) (by omega) nr (m : Int))
    have m3 := cell_of_heap hm5 3
    have s0 := cell_of_heap HSB.out 0
    have s1 := cell_of_heap HSB.out 1
    simp at m3 s0 s1
    clear m0 m1 m2 hm5 HB5 HM1 HP1 HP2
    obtain ⟨hpl1, hpl2⟩ := wallPlace_lt (t := nr) (m := (m : Int)) (T := WL) (i := 0)
    have hput : putWall7 WL (nr, (m : Int)) there = if there = true ∧ (wallPlace nr m WL 0).2 = false then (if 100 ≤ WL.length then (4, WL) else (0, WL.insertIdx (wallPlace nr m WL 0).1 (nr, (m : Int))))
      else if there = false ∧ (wallPlace nr m WL 0).2 = true then (0, WL.eraseIdx (wallPlace nr m WL 0).1) else (0, WL) := rfl
    have HPUT := Lib.hid hput
    clear hput
    generalize hpl : wallPlace nr m WL 0 = pl at *
    obtain ⟨pa, pi⟩ := pl
    simp only at hpl1 hpl2 HAT HPUT
    unfold str at HAT
    clear hpl
    go_upto_region 7 with fail
    go_cut [9] (fun s9 wx => ∃ pb : Nat, s9 = .pointer (some ⟨pb, 0, none⟩) ∧ Hid (Below wc.heap.size wc wx) ∧ Hid (wx.heap[pb]? = some (.cells #[.int .i64 pa, .bool pi] 93 (0, 0))) ∧ wc.heap.size ≤ pb)
    case first =>
      have HST := Lib.hid (fun (W : World) (hW : Below wc.heap.size wc W) => (⟨((bcell hW).1 mb 3 hmcl).trans m3, ((bcell hW).1 sb 0 hsl).trans s0, ((bcell hW).1 sb 1 hsl).trans s1⟩ : W.cell? ⟨mb, 3, none⟩ = some (.slice pw WL.length cw) ∧ W.cell? ⟨sb, 0, none⟩ = some (.string ⟨nr.toArray⟩) ∧ W.cell? ⟨sb, 1, none⟩ = some (.int .i64 m)))
      go_region_held3 (fun w' => w'.cell? ⟨mb, 3, none⟩ = some (.slice pw WL.length cw) ∧ w'.cell? ⟨sb, 0, none⟩ = some (.string ⟨nr.toArray⟩) ∧ w'.cell? ⟨sb, 1, none⟩ = some (.int .i64 m))
        (first | go_keep | (exact HST.out _ HB2.out) | (exact HST.out _ ((HB2.out.setCell (Nat.le_refl _) _).setCell (Nat.le_refl _) _)) | (exact HST.out _ ((HB2.out.setCell HB2.out.size _).setCell HB2.out.size _)))
        ((first
          | (go_at_call 39; refine (HAT.out _ (by first | exact Below.refl _ _ | exact (Below.refl _ _).drew | exact (Below.refl _ _).alloc (Nat.le_refl _) _ | exact ((Below.refl _ _).alloc (Nat.le_refl _) _).drew)).mono ?_; rintro e w2 ⟨rfl, hB2⟩; have HX2 := Lib.hid hB2; have HB2 := Lib.hid (show Below wc.heap.size wc w2 from by first | exact hB2 | exact below_undrew hB2 | exact below_unalloc hB2 | exact ((Below.refl _ _).alloc (Nat.le_refl _) _).trans (hB2.mono (by simp))); obtain ⟨n0, n1, n2⟩ := HST.out _ HB2.out; obtain ⟨hc2, hf2⟩ := bcell hB2; have hz2 := hB2.size; (try simp at hz2 hc2 hf2); clear hB2)))
      all_goals go_wp2_with fail
      · go_meet
        case rel => exact ⟨w2.heap.size, rfl, HB2.out.alloc HB2.out.size _, alloc_heap_new w2 _, HB2.out.size⟩
      · go_meet
        case rel =>
          have h2 : w2.heap[wc.heap.size]? = _ := (HX2.out.block wc.heap.size (by simp)).trans (alloc_heap_new wc _)
          exact ⟨wc.heap.size, rfl, (HB2.out.setCell (Nat.le_refl _) _).setCell (Nat.le_refl _) _, two_stores h2, Nat.le_refl _⟩
    case rest =>
      obtain ⟨pb, rfl, HB6, HPB, hpb⟩ := hcut
      have hm6 := (HB6.out.block mb hmcl).trans HM5.out
      have HB6c := Lib.hid (HB1c.out.trans (HB6.out.mono HB1c.out.size))
      have HP6 := Lib.hid (HP5.out.below HB6.out)
      have HT6 := Lib.hid (HT5.out.below HB6.out)
      have hml : mb < wc.heap.size := (Array.getElem?_eq_some_iff.1 hm6).1
      have hs6 := (HB6.out.block sb hsl).trans HSB.out
      have hsl6 : sb < wc.heap.size := (Array.getElem?_eq_some_iff.1 hs6).1
      have hpl6 : pb < wc.heap.size := (Array.getElem?_eq_some_iff.1 HPB.out).1
      have m3 := cell_of_heap hm6 3
      have f3 := free_of_heap hm6 3
      have s0 := cell_of_heap hs6 0
      have s1 := cell_of_heap hs6 1
      have p0 := cell_of_heap HPB.out 0
      have p1 := cell_of_heap HPB.out 1
      simp at m3 s0 s1 p0 p1
      have HM6 := Lib.hid hm6
      have HMAP6 := HMAP.out _ HB6c.out
      have HMAP6 := Lib.hid HMAP6
      clear hm6 hs6
      cases there with
      | true =>
        cases pi with
        | true =>
          go_wp2_with fail
          go_ret
          exact ⟨by rw [HPUT.out]; rfl, by rw [HPUT.out]; exact HMAP6.out, Only.of_below HB6c.out (fun k hk => .inr hk)⟩
        | false =>
          by_cases h100 : 100 ≤ WL.length
          · have hP : putWall7 WL (nr, (m : Int)) true = (4, WL) := by rw [HPUT.out]; simp [h100]
            have HP := Lib.hid hP; clear hP
            go_wp2_with fail
            go_ret
            exact ⟨by rw [HP.out]; rfl, by rw [HP.out]; exact HMAP6.out, Only.of_below HB6c.out (fun k hk => .inr hk)⟩
          · have hP : putWall7 WL (nr, (m : Int)) true = (0, WL.insertIdx pa (nr, (m : Int))) := by rw [HPUT.out]; simp [h100]
            have HP := Lib.hid hP; clear hP
            have HWW := Lib.hid (fun W (hW : Below wc.heap.size wc W) => r07_withWall (HP6.out.below hW) hT pa (by omega) (nr, (m : Int)))
            unfold str at HWW
            go_upto_region 11 with fail
            go_region_with ((first
              | (go_at_call 57; refine (HWW.out _ (by first | exact Below.refl _ _ | exact (Below.refl _ _).drew)).mono ?_; rintro e w2 ⟨v2, rfl, hP2, hB2⟩; obtain ⟨q2, k2, rfl⟩ := pairs_slice hP2; have HP2 := Lib.hid hP2; have HB2 := Lib.hid (show Below wc.heap.size wc w2 from by first | exact hB2 | exact below_undrew hB2); obtain ⟨hc2, hf2⟩ := bcell HB2.out; have m32 := (hc2 mb 3 hml).trans m3; have f32 := (hf2 mb 3 hml).trans f3; clear hB2 hP2 hc2 hf2)))
            all_goals go_wp2_with fail
            all_goals go_ret
            all_goals exact ⟨by rw [HP.out]; rfl, by rw [HP.out]; exact map7_walls HM6.out HB2.out HP2.out HT6.out, ((Only.of_below HB6c.out (fun k hk => .inr hk)).trans (Only.of_below HB2.out (fun k hk => .inr (Nat.le_trans HB6c.out.size hk)))).setCell (p := ⟨mb, 3, none⟩) (.inl rfl) _⟩
      | false =>
        cases pi with
        | false =>
          go_wp2_with fail
          go_ret
          exact ⟨by rw [HPUT.out]; rfl, by rw [HPUT.out]; exact HMAP6.out, Only.of_below HB6c.out (fun k hk => .inr hk)⟩
        | true =>
          have hlt : pa < WL.length := by have := hpl2 rfl; omega
          have hP : putWall7 WL (nr, (m : Int)) false = (0, WL.eraseIdx pa) := by rw [HPUT.out]; simp
          have HP := Lib.hid hP; clear hP
          have HWW := Lib.hid (fun W (hW : Below wc.heap.size wc W) => r07_withoutWall (HP6.out.below hW) hT pa hlt)
          go_upto_region 13 with fail
          go_region_with ((first
            | (go_at_call 58; refine (HWW.out _ (by first | exact Below.refl _ _ | exact (Below.refl _ _).drew)).mono ?_; rintro e w2 ⟨v2, rfl, hP2, hB2⟩; obtain ⟨q2, k2, rfl⟩ := pairs_slice hP2; have HP2 := Lib.hid hP2; have HB2 := Lib.hid (show Below wc.heap.size wc w2 from by first | exact hB2 | exact below_undrew hB2); obtain ⟨hc2, hf2⟩ := bcell HB2.out; have m32 := (hc2 mb 3 hml).trans m3; have f32 := (hf2 mb 3 hml).trans f3; clear hB2 hP2 hc2 hf2)))
          all_goals go_wp2_with fail
          all_goals go_ret
          all_goals exact ⟨by rw [HP.out]; rfl, by rw [HP.out]; exact map7_walls HM6.out HB2.out HP2.out HT6.out, ((Only.of_below HB6c.out (fun k hk => .inr hk)).trans (Only.of_below HB2.out (fun k hk => .inr (Nat.le_trans HB6c.out.size hk)))).setCell (p := ⟨mb, 3, none⟩) (.inl rfl) _⟩
end Go.Proofs.YtbfnnlcckpabnaaGreat
