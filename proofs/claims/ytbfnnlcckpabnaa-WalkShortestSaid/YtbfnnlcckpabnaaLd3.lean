/- walk.reader: tile. -/
import Derived.Test.YtbfnnlcckpabnaaLd2
import Derived.Test.YtbfnnlcckpabnaaImg
namespace Go.Proofs.Ytbfnnlcckpabnaa
set_option linter.unusedSimpArgs false
set_option linter.unusedVariables false
open Go.RowKit

theorem takeText_iff {l t r : List UInt8} (h : takeText l = some (t, r)) : ∃ c l', l = c :: l' ∧ c.toNat ≤ l'.length ∧ t = l'.take c.toNat ∧ r = l'.drop c.toNat := by
  cases l with
  | nil => cases h
  | cons c l =>
    have h' : (if l.length < c.toNat then none else some (l.take c.toNat, l.drop c.toNat)) = some (t, r) := h
    by_cases hc : l.length < c.toNat
    · rw [if_pos hc] at h'; cases h'
    · rw [if_neg hc] at h'
      have e1 : l.take c.toNat = t := congrArg Prod.fst (Option.some.inj h')
      have e2 : l.drop c.toNat = r := congrArg Prod.snd (Option.some.inj h')
      exact ⟨c, l, rfl, by omega, e1.symm, e2.symm⟩

theorem takeText_none {l : List UInt8} (h : takeText l = none) : l = [] ∨ ∃ c l', l = c :: l' ∧ l'.length < c.toNat := by
  cases l with
  | nil => exact .inl rfl
  | cons c l =>
    have h' : (if l.length < c.toNat then none else some (l.take c.toNat, l.drop c.toNat)) = none := h
    by_cases hc : l.length < c.toNat
    · exact .inr ⟨c, l, rfl, hc⟩
    · rw [if_neg hc] at h'; cases h'

/-- The map that is being read. -/
abbrev mptr (mb : Nat) : Value := .pointer (some ⟨mb, 0, none⟩)

theorem takeTile_none {o : Hy.Ord} {l : List UInt8} (h : takeTile o l = none) : takeText l = none ∨ ∃ t r, takeText l = some (t, r) ∧ ¬ (Hy.wordErr t = 0 ∧ Hy.norm o 1000 t = some t) := by
  unfold takeTile at h
  cases ht : takeText l with
  | none => exact .inl rfl
  | some p =>
    obtain ⟨w', r'⟩ := p
    rw [ht] at h
    simp only at h
    split at h
    · cases h
    · rename_i hc
      exact .inr ⟨w', r', rfl, hc⟩

/-- The word that a tile is held against, and whether it is it. -/
theorem norm_of {o : Hy.Ord} (F : Hy.Fine o) (t : List UInt8) : ∃ nf e : _, Hy.wordErr t = e ∧ (e = 0 → Hy.norm o 1000 t = some nf) ∧ ((Hy.wordErr t = 0 ∧ Hy.norm o 1000 t = some t) ↔ (e = 0 ∧ nf = t)) := by
  by_cases he : Hy.wordErr t = 0
  · obtain ⟨n, h1, _⟩ := Hy.norm_ok F (fuel := 1000) (lets_of_err he) (by have := (Hy.wordErr_letters he).2; omega) (by have := (Hy.wordErr_letters he).2; omega)
    refine ⟨n, 0, he, fun _ => h1, ?_⟩
    rw [h1]
    simp [he]
  · exact ⟨[], _, rfl, fun h => absurd h he, by simp [he]⟩

/-- A tile was read: a normal word, or no image. -/
def TilePost (N rb mb : Nat) (w : World) (o : Hy.Ord) (t r : List UInt8) (e : Ending) (w' : World) : Prop :=
  if Hy.wordErr t = 0 ∧ Hy.norm o 1000 t = some t then RdPost N rb (mptr mb) w (str t) r e w' else BadPost rb w e w'

set_option maxRecDepth 100000 in
set_option maxHeartbeats 2000000 in
theorem walk_tile {N : Nat} {w : World} {rb mb wb tb : Nat} {o : Hy.Ord} {l : List UInt8} (F : Hy.Fine o) (ho : Small o) (hok : Hy.ordErr o.m01 o.m12 o.m02 = 0) (h : Rd N w rb (mptr mb) l) (hm : w.heap[mb]? = some (.cells (mapCells o wb tb) 52 (0, 0))) (hne : mb ≠ rb) {t r : List UInt8} (ht : takeText l = some (t, r)) :
    Calls Try.prog 54 #[.pointer (some ⟨rb, 0, none⟩)] w (TilePost N rb mb w o t r) := by
  obtain ⟨c, l', rfl, hc, rfl, rfl⟩ := takeText_iff ht
  have HA := Lib.hid (fun (W : World) (hW : W.heap = w.heap) => walk_byte1 (h.heap hW))
  have hmlt := (Array.getElem?_eq_some_iff.1 hm).1
  have hlen : (l'.take c.toNat).length ≤ 255 := by have := c.toNat_lt; simp; omega
  obtain ⟨nf, er, he, hnf, hiff⟩ := norm_of F (l'.take c.toNat)
  have hall : Hy.allErr o.m01 o.m12 o.m02 [l'.take c.toNat] = er := by rw [Hy.allErr_ok hok, Hy.wordsErr_one, he]
  have HNORM := Lib.hid (fun (W : World) => words_Normal o.m01 o.m12 o.m02 (l'.take c.toNat) W (by omega) 1000 nf (fun h0 => by rw [hall] at h0; exact hnf h0))
  rw [hall] at HNORM
  have HIFF := Lib.hid hiff
  have HM := Lib.hid hm
  generalize hT : l'.take c.toNat = T at *
  generalize hR : l'.drop c.toNat = R at *
  have HT := Lib.hid hT; have HR0 := Lib.hid hR
  have HC := Lib.hid hc
  clear h hm he hnf hall hiff hT hR hc
  unfold ordersV str at *
  go_enter Try.func54, Try.ntmps54
  go_wp2_with fail
  go_cut [3] (fun s wx => s = .string ⟨T.toArray⟩ ∧ Hid (Rd N wx rb (mptr mb) R) ∧ Hid (Only (fun k => k = rb ∨ w.heap.size ≤ k) w wx))
  case first =>
    go_region_held3 (fun w' => True) (first | go_keep | trivial)
      ((first
        | (go_at_call 51; refine (HA.out _ (by rfl)).mono ?_; rintro e w1 ⟨rfl, h1, h2⟩; have hO1 : Only (fun k => k = rb ∨ w.heap.size ≤ k) w w1 := (by first | exact only_undrew h2 | exact h2); have HO1 := Lib.hid hO1; have HB := Lib.hid (fun (W : World) (hW : W.heap = w1.heap) => walk_bytes (h1.heap hW) HC.out); clear h1 h2 hO1 HA; rw [HT.out, HR0.out] at HB; unfold str at HB)
        | (go_at_call 56; refine (HB.out _ (by rfl)).mono ?_; rintro e w2 ⟨rfl, h1, h2⟩; have hO2 : Only (fun k => k = rb ∨ w1.heap.size ≤ k) w1 w2 := (by first | exact only_undrew h2 | exact h2); have HO2 := Lib.hid (HO1.out.step hO2); have HR := Lib.hid h1; clear h1 h2 hO2 HB)))
    all_goals go_wp2_with fail
    all_goals go_meet
    case rel => exact ⟨rfl, HR, HO2⟩
  case rest =>
    obtain ⟨rfl, HR, HO⟩ := hcut
    have hm1 := (HO.out.block mb (by rintro (h | h) <;> omega)).trans HM.out
    have q0 := cell_of_heap hm1 0
    have q1 := cell_of_heap hm1 1
    have q2 := cell_of_heap hm1 2
    obtain ⟨v, hv1, hv2, hv3⟩ := HR.out
    have q3 := cell_of_heap hv1 1
    simp [mapCells, mptr] at q0 q1 q2 q3
    clear hv1 hv2 hv3 hm1
    go_wp2_with fail
    refine (HNORM.out _).mono ?_
    rintro e w3 ⟨rfl, hB3⟩
    have HR3 := Lib.hid (HR.out.below hB3)
    have HO3 := Lib.hid (HO.out.trans (Only.of_below hB3 (fun k hk => .inr (Nat.le_trans HO.out.size hk))))
    clear hB3 q0 q1 q2 q3
    have HNO := Lib.hid (fun W => walk_need_ok W)
    have HNB := Lib.hid (fun W => walk_need_bad W)
    by_cases he : er = 0
    · subst he
      rw [if_pos rfl]
      by_cases hn : nf = T
      · subst hn
        have HOK := Lib.hid (HIFF.out.2 ⟨rfl, rfl⟩)
        clear HIFF
        go_wp2_with fail
        refine (HNO.out _).mono ?_
        rintro e w4 ⟨rfl, rfl⟩
        go_wp2_with fail
        go_ret
        unfold TilePost
        rw [if_pos HOK.out]
        exact ⟨rfl, HR3.out, HO3.out⟩
      · have HN := Lib.hid (fun h => hn (HIFF.out.1 h).2)
        have g1 : ((⟨nf.toArray⟩ : ByteArray) == ⟨T.toArray⟩) = false := by rw [bytes_beq, beq_eq_false_iff_ne]; exact hn
        have g2 : (nf == T) = false := by rw [beq_eq_false_iff_ne]; exact hn
        have g3 : ¬ ((⟨nf.toArray⟩ : ByteArray) = ⟨T.toArray⟩) := fun h => hn (by have := congrArg ByteArray.data h; simpa using this)
        clear hn
        go_wp2_with fail
        refine (HNB.out _).mono ?_
        rintro e w4 ⟨rfl, rfl⟩
        refine ⟨rfl, ?_⟩
        unfold TilePost
        rw [if_neg HN.out]
        exact ⟨rfl, HO3.out⟩
    · have HN := Lib.hid (fun h => he (HIFF.out.1 h).1)
      rw [if_neg he]
      have g1 : (er == 0) = false := by rw [beq_eq_false_iff_ne]; exact he
      clear he
      go_wp2_with fail
      refine (HNB.out _).mono ?_
      rintro e w4 ⟨rfl, rfl⟩
      refine ⟨rfl, ?_⟩
      unfold TilePost
      rw [if_neg HN.out]
      exact ⟨rfl, HO3.out⟩

set_option maxRecDepth 100000 in
set_option maxHeartbeats 2000000 in
theorem walk_tile_bad {N : Nat} {w : World} {rb : Nat} {mp : Value} {l : List UInt8} (h : Rd N w rb mp l) (ht : takeText l = none) :
    Calls Try.prog 54 #[.pointer (some ⟨rb, 0, none⟩)] w (BadPost rb w) := by
  rcases takeText_none ht with rfl | ⟨c, l', rfl, hc⟩
  · have HA := Lib.hid (fun (W : World) (hW : W.heap = w.heap) => walk_byte1_bad (h.heap hW))
    clear h ht
    go_enter Try.func54, Try.ntmps54
    go_wp2_with fail
    go_region_with ((first
        | (go_at_call 51; refine (HA.out _ (by rfl)).mono ?_; rintro e w1 ⟨rfl, h2⟩; have hO1 : Only (fun k => k = rb ∨ w.heap.size ≤ k) w w1 := (by first | exact only_undrew h2 | exact h2); refine panic_way ⟨rfl, rfl, hO1⟩ ?_)))
    all_goals trivial
  · have HA := Lib.hid (fun (W : World) (hW : W.heap = w.heap) => walk_byte1 (h.heap hW))
    have HC := Lib.hid hc
    clear h ht hc
    go_enter Try.func54, Try.ntmps54
    go_wp2_with fail
    go_region_with ((first
        | (go_at_call 51; refine (HA.out _ (by rfl)).mono ?_; rintro e w1 ⟨rfl, h1, h2⟩; have hO1 : Only (fun k => k = rb ∨ w.heap.size ≤ k) w w1 := (by first | exact only_undrew h2 | exact h2); have HO1 := Lib.hid hO1; have HB := Lib.hid (fun (W : World) (hW : W.heap = w1.heap) => walk_bytes_bad (h1.heap hW) HC.out); clear h1 h2 hO1 HA)
        | (go_at_call 56; refine (HB.out _ (by rfl)).mono ?_; rintro e w2 ⟨rfl, h2⟩; have hO2 : Only (fun k => k = rb ∨ w1.heap.size ≤ k) w1 w2 := (by first | exact only_undrew h2 | exact h2); refine panic_way ⟨rfl, rfl, HO1.out.step hO2⟩ ?_)))
    all_goals trivial
end Go.Proofs.Ytbfnnlcckpabnaa
