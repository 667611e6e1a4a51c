/- The reader of the specification of layer 7: byte, text. -/
import Derived.Test.YtbfnnlcckpabnaaGreatImg
import Derived.Test.YtbfnnlcckpabnaaGreatLd1
import Derived.BigQuiet
import Derived.Test.YtbfnnlcckpabnaaGreatLd5
import Derived.OwnWalkIn
namespace Go.Proofs.YtbfnnlcckpabnaaGreat
set_option linter.unusedSimpArgs false
set_option linter.unusedVariables false
open Go.RowKit
/-- The reader in block rb: at the place at, failed or not. -/
def R7 (N : Nat) (w : World) (rb : Nat) (L : List UInt8) (p : Nat) (ok : Bool) : Prop :=
  ∃ v, w.heap[rb]? = some (.cells #[v, .int .i64 p, .bool ok] 88 (0, 0)) ∧ N ≤ rb ∧ BSlice N w v L ∧ p ≤ L.length ∧ L.length ≤ 9223372036854775807

theorem R7.only {N : Nat} {w w' : World} {rb : Nat} {L : List UInt8} {p : Nat} {ok : Bool} (h : R7 N w rb L p ok) {B : Nat → Prop} (hb : Only B w w') (h1 : ¬ B rb) (h2 : ∀ k, k < N → ¬ B k) : R7 N w' rb L p ok := by
  obtain ⟨v, h3, h4, h5, h6⟩ := h
  exact ⟨v, (hb.block rb h1).trans h3, h4, h5.of_heap fun g hg => hb.block g (h2 g hg), h6⟩

theorem R7.lt {N : Nat} {w : World} {rb : Nat} {L : List UInt8} {p : Nat} {ok : Bool} (h : R7 N w rb L p ok) : N ≤ rb ∧ rb < w.heap.size ∧ p ≤ L.length ∧ L.length ≤ 9223372036854775807 := by
  obtain ⟨v, h3, h4, h5, h6⟩ := h
  exact ⟨h4, (Array.getElem?_eq_some_iff.1 h3).1, h6⟩

theorem R7.below {N : Nat} {w w' : World} {rb : Nat} {L : List UInt8} {p : Nat} {ok : Bool} (h : R7 N w rb L p ok) (hb : Below w.heap.size w w') : R7 N w' rb L p ok := by
  have hlt := h.lt
  obtain ⟨v, h3, h4, h5, h6⟩ := h
  exact ⟨v, (hb.block rb hlt.2.1).trans h3, h4, h5.of_heap fun g hg => hb.block g (by omega), h6⟩

theorem R7.drew {N : Nat} {w : World} {rb : Nat} {L : List UInt8} {p : Nat} {ok : Bool} (h : R7 N w rb L p ok) (n : Nat) : R7 N (w.drewN n) rb L p ok := by
  obtain ⟨v, h3, h4, h5, h6⟩ := h
  exact ⟨v, h3, h4, h5, h6⟩

/-- A byte was read, or there was none. -/
def ByteEff (L : List UInt8) (p : Nat) (ok : Bool) (x : Int) (p' : Nat) (ok' : Bool) : Prop :=
  (∃ c, L[p]? = some c ∧ x = (c.toNat : Int) ∧ p' = p + 1 ∧ ok' = ok) ∨ (p = L.length ∧ x = 0 ∧ p' = p ∧ ok' = false)

theorem ByteEff.range {L : List UInt8} {p : Nat} {ok : Bool} {x : Int} {p' : Nat} {ok' : Bool} (h : ByteEff L p ok x p' ok') : 0 ≤ x ∧ x ≤ 255 := by
  rcases h with ⟨c, _, rfl, _⟩ | ⟨_, rfl, _⟩
  · have := c.toNat_lt; omega
  · omega

theorem ByteEff.step {L : List UInt8} {p : Nat} {ok : Bool} {x : Int} {p' : Nat} {ok' : Bool} (h : ByteEff L p ok x p' ok') : p' ≤ p + 1 := by
  rcases h with ⟨c, _, _, rfl, _⟩ | ⟨_, _, rfl, _⟩ <;> omega

theorem one3_store {w : World} {b : Nat} {x y z v : Value} {t : TypeId} (h : w.heap[b]? = some (.cells #[x, y, z] t (0, 0))) : (w.setCell ⟨b, 1, none⟩ v).heap[b]? = some (.cells #[x, v, z] t (0, 0)) :=
  heap_setCell_same _ _ _ _ _ _ h
theorem two3_store {w : World} {b : Nat} {x y z v : Value} {t : TypeId} (h : w.heap[b]? = some (.cells #[x, y, z] t (0, 0))) : (w.setCell ⟨b, 2, none⟩ v).heap[b]? = some (.cells #[x, y, v] t (0, 0)) :=
  heap_setCell_same _ _ _ _ _ _ h

theorem only_self {rb : Nat} (w : World) (i : Nat) (v : Value) : Only (fun k => k = rb) w (w.setCell ⟨rb, i, none⟩ v) := Only.setCell (B := fun k => k = rb) (Only.refl _ w) (p := ⟨rb, i, none⟩) rfl v

theorem R7.setAt {N : Nat} {w : World} {rb : Nat} {L : List UInt8} {p q : Nat} {ok : Bool} (h : R7 N w rb L p ok) (hq : q ≤ L.length) {z : Int} (hz : z = (q : Int)) : R7 N (w.setCell ⟨rb, 1, none⟩ (.int .i64 z)) rb L q ok := by
  subst hz
  obtain ⟨v, h3, h4, h5, h6, h7⟩ := h
  exact ⟨v, one3_store h3, h4, h5.of_heap fun g hg => (only_self (rb := rb) w 1 (.int .i64 q)).block g (by omega), hq, h7⟩
theorem R7.setOk {N : Nat} {w : World} {rb : Nat} {L : List UInt8} {p : Nat} {ok k : Bool} (h : R7 N w rb L p ok) : R7 N (w.setCell ⟨rb, 2, none⟩ (.bool k)) rb L p k := by
  obtain ⟨v, h3, h4, h5, h6, h7⟩ := h
  exact ⟨v, two3_store h3, h4, h5.of_heap fun g hg => (only_self (rb := rb) w 2 (.bool k)).block g (by omega), h6, h7⟩

set_option maxRecDepth 100000 in
set_option maxHeartbeats 1000000 in
theorem r07_byte {N : Nat} {w : World} {rb : Nat} {L : List UInt8} {p : Nat} {ok : Bool} (h : R7 N w rb L p ok) :
    Calls Tryz.prog 36 #[.pointer (some ⟨rb, 0, none⟩)] w fun e w' => ∃ x p' ok', e = .returned (.int .i64 x) ∧ ByteEff L p ok x p' ok' ∧ R7 N w' rb L p' ok' ∧ Only (fun k => k = rb ∨ w.heap.size ≤ k) w w' := by
  have H := Lib.hid h
  obtain ⟨v, hr, hN, hb, hp, hL⟩ := h
  obtain ⟨a, cap, rfl, hcap, hcells⟩ := hb
  have c0 := cell_of_heap hr 0
  have c1 := cell_of_heap hr 1
  have c2 := cell_of_heap hr 2
  have f0 := free_of_heap hr 0
  have f1 := free_of_heap hr 1
  have f2 := free_of_heap hr 2
  simp at c0 c1 c2
  clear hr
  by_cases hlt : p < L.length
  · obtain ⟨g, off, rfl, hg, hc⟩ := hcells p hlt
    have HLT := Lib.hid hlt
    have hgr : ¬ g = rb := by omega
    have hgr2 : ¬ rb = g := by omega
    clear hcells
    have HWR := Lib.hid (wrap64_small (x := (L[p].toNat : Int)) (by omega) (by have := L[p].toNat_lt; omega))
    go_enter Tryz.func36, Tryz.ntmps36
    go_wp2_with fail
    go_quiet (fail)
    go_wp2_with fail
    go_quiet (fail)
    go_wp2_with fail
    go_ret
    refine ⟨_, p + 1, ok, rfl, .inl ⟨L[p], List.getElem?_eq_getElem HLT.out, HWR.out, rfl, rfl⟩, ((H.out.drew _).setAt HLT.out (by omega)).drew _, ?_⟩
    exact (((Only.refl _ w).drewN _).setCell (p := ⟨rb, 1, none⟩) (.inl rfl) _).drewN _
  · have heq : p = L.length := by omega
    have HEQ := Lib.hid heq
    clear hcells
    go_enter Tryz.func36, Tryz.ntmps36
    go_wp2_with fail
    go_quiet (fail)
    go_wp2_with fail
    go_ret
    refine ⟨0, p, false, rfl, .inr ⟨HEQ.out, rfl, rfl, rfl⟩, (H.out.drew _).setOk, ?_⟩
    exact ((Only.refl _ w).drewN _).setCell (p := ⟨rb, 2, none⟩) (.inl rfl) _

/-- A text was read, or there was none. -/
def TextEff (L : List UInt8) (p : Nat) (ok : Bool) (t : List UInt8) (p' : Nat) (ok' : Bool) : Prop :=
  takeText (L.drop p) = some (t, L.drop p') ∧ ok' = ok ∨ (takeText (L.drop p) = none ∧ t = [] ∧ ok' = false)

theorem drop_cons {L : List UInt8} {p : Nat} {c : UInt8} (h : L[p]? = some c) : L.drop p = c :: L.drop (p + 1) := by
  obtain ⟨hp, rfl⟩ := List.getElem?_eq_some_iff.1 h
  exact List.drop_eq_getElem_cons hp

set_option maxRecDepth 100000 in
set_option maxHeartbeats 1000000 in
theorem r07_text {N : Nat} {w : World} {rb : Nat} {L : List UInt8} {p : Nat} {ok : Bool} (h : R7 N w rb L p ok) (hp0 : p ≤ 1000000) :
    Calls Tryz.prog 40 #[.pointer (some ⟨rb, 0, none⟩)] w fun e w' => ∃ t p' ok', e = .returned (str t) ∧ TextEff L p ok t p' ok' ∧ R7 N w' rb L p' ok' ∧ Only (fun k => k = rb ∨ w.heap.size ≤ k) w w' ∧ p' ≤ p + 300 := by
  have HB := Lib.hid (r07_byte h)
  clear h
  go_enter Tryz.func40, Tryz.ntmps40
  go_wp2_with fail
  refine HB.out.mono ?_
  rintro e w1 ⟨x, p1, ok1, rfl, hE, hR, hO⟩
  have HO := Lib.hid hO
  have HE := Lib.hid hE
  obtain ⟨hx0, hx1⟩ := hE.range
  have hstep := hE.step
  have hp1 : p1 ≤ 1000001 := by omega
  obtain ⟨n, rfl⟩ := Int.eq_ofNat_of_zero_le hx0
  have H := Lib.hid hR
  obtain ⟨v, hr, hN, hb, hp, hL⟩ := hR
  have c0 := cell_of_heap hr 0
  have c1 := cell_of_heap hr 1
  have c2 := cell_of_heap hr 2
  have f1 := free_of_heap hr 1
  have f2 := free_of_heap hr 2
  simp at c0 c1 c2
  have HRW := Lib.hid hr
  clear hr hE hO HB
  by_cases hlt : p1 + n ≤ L.length
  · obtain ⟨a1, k1, hw1, hw2⟩ := hb.window (P := Tryz.prog) 42 5 9 Tryz.underlying42 Tryz.underlying5 Tryz.underlying9 size_u8 hlt
    obtain ⟨a, cap, rfl, hcap, hcells⟩ := hb
    clear hcells
    have g1 : ¬ (L.length : Int) < (p1 : Int) + (n : Int) := by omega
    have g2 : ¬ L.length < p1 + n := by omega
    go_wp2_with fail
    go_quiet (fail)
    go_wp2_with fail
    obtain ⟨W2, hW2⟩ : ∃ W2, (w1.drewN nq).setCell ⟨rb, 1, none⟩ (.int .i64 ((p1 : Int) + (n : Int))) = W2 := ⟨_, rfl⟩
    have hr2 : W2.heap[rb]? = some (.cells #[.slice a L.length cap, .int .i64 ((p1 : Int) + (n : Int)), .bool ok1] 88 (0, 0)) := by rw [← hW2]; exact one3_store HRW.out
    have hR2 : R7 N W2 rb L (p1 + n) ok1 := by rw [← hW2]; exact (H.out.drew nq).setAt hlt (by omega)
    have hO2 : Only (fun k => k = rb ∨ w.heap.size ≤ k) w W2 := by rw [← hW2]; exact (HO.out.drewN nq).setCell (p := ⟨rb, 1, none⟩) (.inl rfl) _
    have hg2 : ∀ g, g < N → W2.heap[g]? = w1.heap[g]? := fun g hg => by rw [← hW2]; exact (only_self (rb := rb) (w1.drewN nq) 1 _).block g (by omega)
    rw [hW2]
    have hw3 := fun m => hw2 (W2.drewN m) hg2
    have d0 := cell_of_heap hr2 0
    have d1 := cell_of_heap hr2 1
    simp at d0 d1
    have hw4 : ∀ W' : World, (Instr.slice 42 (.slice a L.length cap) (some (.int .i64 (p1 : Int))) (some (.int .i64 ((p1 : Int) + (n : Int)))) none).run Tryz.prog W' = .ok (.slice a1 n k1) W' := fun W' => by
      have := hw1 W'
      rw [Int.natCast_add] at this
      exact this
    have HW2 := Lib.hid hW2
    have HR2 := Lib.hid hR2
    have HO2 := Lib.hid hO2
    have HLT := Lib.hid hlt
    clear hW2 hR2 hO2 hg2 hr2 c0 c1 c2 f1 f2 hw1 hw2
    go_quiet (fail)
    go_wp2_with fail
    go_ret
    refine ⟨(L.drop p1).take n, p1 + n, ok1, rfl, ?_, HR2.out.drew _, HO2.out.drewN _, by omega⟩
    rcases HE.out with ⟨c, hc, hnc, rfl, rfl⟩ | ⟨rfl, hn, rfl, rfl⟩
    · left
      have hn : n = c.toNat := by omega
      subst hn
      refine ⟨?_, rfl⟩
      rw [drop_cons hc]
      show (if (L.drop (p + 1)).length < c.toNat then none else some ((L.drop (p + 1)).take c.toNat, (L.drop (p + 1)).drop c.toNat)) = _
      rw [if_neg (by have := HLT.out; simp; omega), List.drop_drop]
    · right
      have hn : n = 0 := by omega
      subst hn
      refine ⟨?_, by simp, rfl⟩
      rw [List.drop_length]
      rfl
  · obtain ⟨a, cap, rfl, hcap, hcells⟩ := hb
    clear hcells
    have HLT := Lib.hid hlt
    have g1 : (L.length : Int) < (p1 : Int) + (n : Int) := by omega
    have g2 : L.length < p1 + n := by omega
    clear hlt
    go_wp2_with fail
    go_quiet (fail)
    go_wp2_with fail
    go_ret
    refine ⟨[], p1, false, rfl, .inr ⟨?_, rfl, rfl⟩, (H.out.drew _).setOk, (HO.out.drewN _).setCell (p := ⟨rb, 2, none⟩) (.inl rfl) _, by omega⟩
    rcases HE.out with ⟨c, hc, hnc, rfl, rfl⟩ | ⟨rfl, hn, rfl, rfl⟩
    · have hn : n = c.toNat := by omega
      rw [drop_cons hc]
      show (if (L.drop (p + 1)).length < c.toNat then none else some ((L.drop (p + 1)).take c.toNat, (L.drop (p + 1)).drop c.toNat)) = _
      rw [if_pos (by simp; omega)]
    · rw [List.drop_length]
      rfl

section
open Hy (Lets IsNF Eqv Le)
/-- A tile was read, or there was none. -/
def TileEff (o : Hy.Ord) (L : List UInt8) (p : Nat) (ok : Bool) (t : List UInt8) (p' : Nat) (ok' : Bool) : Prop :=
  takeTile o (L.drop p) = some (t, L.drop p') ∧ ok' = ok ∨ (takeTile o (L.drop p) = none ∧ t = [] ∧ ok' = false)

theorem TextEff.tile {o : Hy.Ord} {L t : List UInt8} {p p' : Nat} {ok ok' : Bool} (h : TextEff L p ok t p' ok') (h2 : Hy.wordErr t = 0 ∧ Hy.norm o 1000 t = some t) : TileEff o L p ok t p' ok' := by
  rcases h with ⟨h, rfl⟩ | ⟨h, rfl, rfl⟩
  · left
    unfold takeTile
    rw [h]
    simp only
    rw [if_pos h2]
    simp
  · right
    unfold takeTile
    rw [h]
    exact ⟨rfl, rfl, rfl⟩

theorem TextEff.not_tile {o : Hy.Ord} {L t : List UInt8} {p p' : Nat} {ok ok' : Bool} (h : TextEff L p ok t p' ok') (h2 : ¬ (Hy.wordErr t = 0 ∧ Hy.norm o 1000 t = some t)) : TileEff o L p ok [] p' false := by
  right
  unfold takeTile
  rcases h with ⟨h, rfl⟩ | ⟨h, rfl, rfl⟩
  · rw [h]
    simp only
    rw [if_neg h2]
    simp
  · rw [h]
    exact ⟨rfl, rfl, rfl⟩

theorem TextEff.len {L t : List UInt8} {p p' : Nat} {ok ok' : Bool} (h : TextEff L p ok t p' ok') : t.length ≤ 255 := by
  rcases h with ⟨h, _⟩ | ⟨_, rfl, _⟩
  · exact (takeText_len h).1
  · simp

set_option maxRecDepth 100000 in
set_option maxHeartbeats 1000000 in
theorem r07_normal {o : Hy.Ord} (F : Hy.Fine o) (hS : Small o) {N : Nat} {w : World} {rb : Nat} {L : List UInt8} {p : Nat} {ok : Bool} (h : R7 N w rb L p ok) (hp0 : p ≤ 1000000) :
    Calls Tryz.prog 37 #[.pointer (some ⟨rb, 0, none⟩), ordersV o.m01 o.m12 o.m02] w fun e w' => ∃ t p' ok', e = .returned (str t) ∧ TileEff o L p ok t p' ok' ∧ R7 N w' rb L p' ok' ∧ Only (fun k => k = rb ∨ w.heap.size ≤ k) w w' ∧ p' ≤ p + 300 := by
  have hrlt := h.lt.2.1
  unfold ordersV
  have hob := alloc_heap_new w (.cells #[.int .i64 o.m01, .int .i64 o.m12, .int .i64 o.m02] 23)
  obtain ⟨W0, hW0⟩ : ∃ W0, w.alloc (.cells #[.int .i64 o.m01, .int .i64 o.m12, .int .i64 o.m02] 23) = W0 := ⟨_, rfl⟩
  have hB0 : Below w.heap.size w W0 := by rw [← hW0]; exact (Below.refl _ _).alloc (Nat.le_refl _) _
  rw [hW0] at hob
  have HT := Lib.hid (r07_text (h.below hB0) hp0)
  have hs0 : W0.heap.size = w.heap.size + 1 := by rw [← hW0]; simp
  have HOB := Lib.hid hob
  have HB0 := Lib.hid hB0
  clear h hob hB0
  go_enter Tryz.func37, Tryz.ntmps37
  go_wp2_with fail
  clear hW0
  refine HT.out.mono ?_
  rintro e w1 ⟨t, p1, ok1, rfl, hE, hR, hO, hst⟩
  have HST := Lib.hid hst
  clear hst
  have HE := Lib.hid hE
  have HR := Lib.hid hR
  have hob1 := (hO.block w.heap.size (by omega)).trans HOB.out
  have HO := Lib.hid ((Only.of_below (B := fun k => k = rb ∨ w.heap.size ≤ k) HB0.out (fun k hk => .inr hk)).step hO)
  have hlen := hE.len
  have HCW := Lib.hid (fun W => r03_CheckWord t W (by omega))
  have HF2 := Lib.hid (fun W => (HR.out.below (w' := W)))
  obtain ⟨v, hr, hN, hb, hp, hL⟩ := hR
  have f2 := free_of_heap hr 2
  have c2 := cell_of_heap hr 2
  simp at c2
  have q0 := cell_of_heap hob1 0
  have q1 := cell_of_heap hob1 1
  have q2 := cell_of_heap hob1 2
  simp at q0 q1 q2
  have HOB1 := Lib.hid hob1
  clear hE hO hob1 HT hr hb q0 q1 q2
  by_cases he : Hy.wordErr t = 0
  case neg =>
    have HN := Lib.hid (fun h : Hy.wordErr t = 0 ∧ Hy.norm o 1000 t = some t => he h.1)
    have g1 : (Hy.wordErr t != 0) = true := by rw [bne_iff_ne]; exact he
    generalize Hy.wordErr t = er at HCW g1
    clear he
    unfold str at HCW ⊢
    go_wp2_with fail
    refine (HCW.out _).mono ?_
    rintro e w2 ⟨rfl, hB2⟩
    have f22 := ((bcell hB2).2 rb 2 HR.out.lt.2.1).trans f2
    have c22 := ((bcell hB2).1 rb 2 HR.out.lt.2.1).trans c2
    have HR2 := Lib.hid (HR.out.below hB2)
    have HO2 := Lib.hid (HO.out.trans (Only.of_below hB2 (fun k hk => .inr (Nat.le_trans HO.out.size hk))))
    clear hB2 f2 c2
    go_wp2_with fail
    go_ret
    refine ⟨[], p1, false, rfl, HE.out.not_tile HN.out, HR2.out.setOk, HO2.out.setCell (p := ⟨rb, 2, none⟩) (.inl rfl) _, HST.out⟩
  case pos =>
    obtain ⟨nf, hnf, hNF⟩ := Hy.norm_ok F (fuel := 1000) (lets_of_err he) (by omega) (by omega)
    have HW := Lib.hid (fun W => r03_Word_nf F hS (lets_of_err he) (by omega) hNF W)
    have hiff : (Hy.wordErr t = 0 ∧ Hy.norm o 1000 t = some t) ↔ nf = t := by rw [hnf]; simp [he]
    have HIFF := Lib.hid hiff
    rw [he] at HCW
    clear he hnf hNF hiff
    unfold str ordersV at *
    go_wp2_with fail
    refine (HCW.out _).mono ?_
    rintro e w2 ⟨rfl, hB2⟩
    have hob2 := (hB2.block w.heap.size (Array.getElem?_eq_some_iff.1 HOB1.out).1).trans HOB1.out
    have q0 := cell_of_heap hob2 0
    have q1 := cell_of_heap hob2 1
    have q2 := cell_of_heap hob2 2
    simp at q0 q1 q2
    have HB2 := Lib.hid hB2
    clear hB2 hob2
    go_wp2_with fail
    refine (HW.out _).mono ?_
    rintro e w3 ⟨rfl, hB3'⟩
    have hB3 := HB2.out.trans (hB3'.mono HB2.out.size)
    clear hB3'
    have hbc := bcell hB3
    have hlt1 := (HR.out).lt.2.1
    have c23 := (hbc.1 rb 2 hlt1).trans c2
    have f23 := (hbc.2 rb 2 hlt1).trans f2
    have HR3 := Lib.hid (HR.out.below hB3)
    have HO3 := Lib.hid (HO.out.trans (Only.of_below hB3 (fun k hk => .inr (Nat.le_trans HO.out.size hk))))
    clear hbc hB3 c2 f2 q0 q1 q2
    by_cases hn : nf = t
    · have HT := Lib.hid (HIFF.out.2 hn)
      clear HIFF
      subst hn
      go_wp2_with fail
      go_ret
      exact ⟨nf, p1, ok1, rfl, HE.out.tile HT.out, HR3.out, HO3.out, HST.out⟩
    · have HN := Lib.hid (fun h => hn (HIFF.out.1 h))
      have g1 : ((⟨nf.toArray⟩ : ByteArray) == ⟨t.toArray⟩) = false := by rw [bytes_beq, beq_eq_false_iff_ne]; exact hn
      have g2 : (nf == t) = false := by rw [beq_eq_false_iff_ne]; exact hn
      have g3 : ¬ ((⟨nf.toArray⟩ : ByteArray) = ⟨t.toArray⟩) := fun h => hn (by have := congrArg ByteArray.data h; simpa using this)
      have g4 : ((⟨nf.toArray⟩ : ByteArray) != ⟨t.toArray⟩) = true := by rw [bne, g1]; rfl
      clear hn HIFF
      go_wp2_with fail
      go_ret
      exact ⟨[], p1, false, rfl, HE.out.not_tile HN.out, HR3.out.setOk, HO3.out.setCell (p := ⟨rb, 2, none⟩) (.inl rfl) _, HST.out⟩
end

section
variable {P : Program}

/-- An append to a row of one's own, in a region that draws its order. -/
theorem step_append_own {w : World} {ops : Array Oper} {o : Oper} {a : Act} {K : Act → World → Prop} {Q : Exit → Act → World → Prop} {E : Prop} (hgd : o.guard = none) (s x : Operand) (t : TypeId)
    (ho : o.op = .call { callee := .builtin .append, args := #[s, x], argTypes := #[t, t] })
    {base size : Nat} {e : TypeId} {v : Value} {n : Nat} {xs : List Value} (hs : a.eval s = v) (hq : w.ownsRow base e size v n xs)
    (i : TypeInfo) (z : Value) (bytes : Nat) (ht : P.underlying t = some (.slice e)) (hi : P.info? e = some i) (hz : i.zero = some z)
    (hsize : i.size = size) (hby : i.bytes = bytes) (hzs : z.cells.size = size) (hsz : 0 < size)
    (ad : Addr) (m c : Nat) (news : List Value) (hx : a.eval x = .slice (some ad) m c) (hl : news.length = m * size) (hnews : ∀ j u, news[j]? = some u → w.cell? (ad.add j) = some u) (h1 : ∀ u ∈ news, u.oneCell' = true)
    (h63 : n + m ≤ maxLen) (hbytes : (n + m) * bytes ≤ 140737488355328) (hbase : base ≤ w.heap.size)
    (h : ∀ v' w', w'.ownsRow base e size v' (n + m) (xs ++ news) → w.grownBy w' v.ownBlock → K (a.put o.dst v') w') :
    if Region.wanted o (yielded ops a.tmps) = true then Oper.wp P o a w K Q else E := by
  have hw : Region.wanted o (yielded ops a.tmps) = true := by simp [Region.wanted, hgd]
  rw [if_pos hw]
  obtain ⟨v', w', hr, h2, h3, _⟩ := run_append_own (P := P) w base t o.type e i z size bytes ht hi hz hsize hby hzs hsz v n xs hq ad m c news hl hnews h1 h63 hbytes hbase
  unfold Oper.wp execOp
  simp only [ho, resolve, invoke, builtin, Sem.run_bind, Sem.run_pure, Result.andThen_ok, List.map_toArray, List.map_cons, List.map_nil, hs, hx, hr]
  exact h v' w' h2 h3
end

theorem ownsRow_form {w : World} {base : Nat} {e : TypeId} {size : Nat} {v : Value} {n : Nat} {xs : List Value} (h : w.ownsRow base e size v n xs) : ∃ (p : Option Addr) (c : Nat), v = .slice p n c := by
  rcases h.2 with ⟨rfl, rfl⟩ | ⟨g, cap, cur, rfl, _⟩
  · exact ⟨_, _, rfl⟩
  · exact ⟨_, _, rfl⟩

def flat2 {α : Type} (e0 e1 : α → Value) : List α → List Value
  | [] => []
  | a :: r => e0 a :: e1 a :: flat2 e0 e1 r

theorem flat2_length {α : Type} (e0 e1 : α → Value) : ∀ l : List α, (flat2 e0 e1 l).length = l.length * 2
  | [] => rfl
  | a :: r => by simp [flat2, flat2_length e0 e1 r]; omega

theorem flat2_append {α : Type} (e0 e1 : α → Value) : ∀ (l r : List α), flat2 e0 e1 (l ++ r) = flat2 e0 e1 l ++ flat2 e0 e1 r
  | [], _ => rfl
  | a :: l, r => by simp [flat2, flat2_append e0 e1 l r]

theorem flat2_get {α : Type} (e0 e1 : α → Value) : ∀ (l : List α) (k : Nat) (hk : k < l.length), (flat2 e0 e1 l)[k * 2]? = some (e0 l[k]) ∧ (flat2 e0 e1 l)[k * 2 + 1]? = some (e1 l[k])
  | a :: l, 0, _ => ⟨rfl, rfl⟩
  | a :: l, k + 1, hk => by
    have := flat2_get e0 e1 l k (by simpa using hk)
    rw [show (k + 1) * 2 = k * 2 + 1 + 1 by omega]
    simpa [flat2] using this

theorem ownsRow_pairs {α : Type} {e0 e1 : α → Value} {w : World} {base : Nat} {e : TypeId} {v : Value} {T : List α} (h : w.ownsRow base e 2 v T.length (flat2 e0 e1 T)) : Pairs e0 e1 w v T := by
  obtain ⟨h1, h2⟩ := h
  rcases h2 with ⟨rfl, h0⟩ | ⟨g, cap, cur, rfl, hb, hg, _, _, _, htake⟩
  · exact ⟨none, 0, by rw [h0], fun k hk => absurd hk (by omega)⟩
  · refine ⟨some ⟨g, 0, none⟩, cap, rfl, fun k hk => ⟨g, 0, rfl, (Array.getElem?_eq_some_iff.1 hg).1, ?_⟩⟩
    obtain ⟨f1, f2⟩ := flat2_get e0 e1 T k hk
    rw [Nat.zero_add]
    have key : ∀ j u, (flat2 e0 e1 T)[j]? = some u → w.cell? ⟨g, j, none⟩ = some u := fun j u hj => by
      rw [cell_of_heap hg]
      rw [← htake] at hj
      have hj' := hj
      rw [List.getElem?_take] at hj'
      split at hj'
      · simpa using hj'
      · cases hj'
    exact ⟨key _ _ f1, key _ _ f2⟩

abbrev encW0 (p : List UInt8 × Int) : Value := str p.1
abbrev encW1 (p : List UInt8 × Int) : Value := .int .i64 p.2
abbrev encT0 (p : List UInt8 × List UInt8) : Value := str p.1
abbrev encT1 (p : List UInt8 × List UInt8) : Value := str p.2

/-- What is kept while the specification reads an image. -/
structure LInv (rb mb : Nat) (o : Hy.Ord) (w0 W : World) (L : List UInt8) (p : Nat) (ok : Bool) (vw vt : Value) (WL : WallList) (TL : ThingList) : Prop where
  rd : R7 w0.heap.size W rb L p ok
  map : W.heap[mb]? = some (.cells #[.int .i64 o.m01, .int .i64 o.m12, .int .i64 o.m02, vw, vt] 38 (0, 0))
  walls : W.ownsRow w0.heap.size 83 2 vw WL.length (flat2 encW0 encW1 WL)
  things : W.ownsRow w0.heap.size 85 2 vt TL.length (flat2 encT0 encT1 TL)
  below : Below w0.heap.size w0 W
  rge : w0.heap.size ≤ rb
  mge : w0.heap.size ≤ mb

section
variable {rb mb : Nat} {o : Hy.Ord} {w0 W W' : World} {L : List UInt8} {p p' : Nat} {ok ok' : Bool} {vw vt : Value} {WL : WallList} {TL : ThingList}

theorem LInv.ne (h : LInv rb mb o w0 W L p ok vw vt WL TL) : rb ≠ mb := by
  rintro rfl
  obtain ⟨v, h1, _⟩ := h.rd
  rw [h.map] at h1
  cases h1

theorem row_block {w : World} {base : Nat} {e : TypeId} {size : Nat} {v : Value} {n : Nat} {xs : List Value} (h : w.ownsRow base e size v n xs) {g : Nat} (hg : v.ownBlock = some g) : ∃ cur, w.heap[g]? = some (.cells cur e (0, 0)) ∧ base ≤ g := by
  rcases h.2 with ⟨rfl, _⟩ | ⟨g', cap, cur, rfl, hb, hgg, _⟩
  · cases hg
  · cases hg
    exact ⟨cur, hgg, hb⟩

theorem row_keep {w w' : World} {base : Nat} {e : TypeId} {size : Nat} {v : Value} {n : Nat} {xs : List Value} (h : w.ownsRow base e size v n xs) (hh : ∀ (g : Nat) (cur : Array Value), w.heap[g]? = some (.cells cur e (0, 0)) → w'.heap[g]? = w.heap[g]?) : w'.ownsRow base e size v n xs := by
  refine ⟨h.1, ?_⟩
  rcases h.2 with hn | ⟨g, cap, cur, rfl, hb, hgg, rest⟩
  · exact .inl hn
  · exact .inr ⟨g, cap, cur, rfl, hb, (hh g cur hgg).trans hgg, rest⟩

/-- Blocks of the reader or new ones have changed. -/
theorem LInv.reads (h : LInv rb mb o w0 W L p ok vw vt WL TL) (hr : R7 w0.heap.size W' rb L p' ok') (ho : Only (fun k => k = rb ∨ W.heap.size ≤ k) W W') : LInv rb mb o w0 W' L p' ok' vw vt WL TL := by
  have hne := h.ne
  have hml := (Array.getElem?_eq_some_iff.1 h.map).1
  obtain ⟨v, h1, _⟩ := h.rd
  have key : ∀ (e : TypeId), e ≠ 88 → ∀ (g : Nat) (cur : Array Value), W.heap[g]? = some (.cells cur e (0, 0)) → W'.heap[g]? = W.heap[g]? := fun e he g cur hg => by
    refine ho.block g ?_
    have hgl := (Array.getElem?_eq_some_iff.1 hg).1
    rintro (rfl | hh)
    · rw [h1] at hg
      cases hg
      exact he rfl
    · omega
  refine ⟨hr, (ho.block mb (by omega)).trans h.map, row_keep h.walls (key _ (by decide)), row_keep h.things (key _ (by decide)), h.below.trans ⟨ho.os, ho.tape, ho.output, ho.size, fun k hk => ho.block k ?_⟩, h.rge, h.mge⟩
  have := h.rge
  have := h.below.size
  omega

theorem LInv.grow (h : LInv rb mb o w0 W L p ok vw vt WL TL) (hb : Below W.heap.size W W') : LInv rb mb o w0 W' L p ok vw vt WL TL :=
  h.reads (h.rd.below hb) (Only.of_below hb (fun k hk => .inr hk))

/-- A wall is appended. -/
theorem LInv.addWall (h : LInv rb mb o w0 W L p ok vw vt WL TL) {v' : Value} {e : List UInt8 × Int} (hr : W'.ownsRow w0.heap.size 83 2 v' (WL.length + 1) (flat2 encW0 encW1 WL ++ [encW0 e, encW1 e])) (hg : W.grownBy W' vw.ownBlock) :
    LInv rb mb o w0 (W'.setCell ⟨mb, 3, none⟩ v') L p ok v' vt (WL ++ [e]) TL := by
  have hne := h.ne
  have hml := (Array.getElem?_eq_some_iff.1 h.map).1
  have hbl : ∀ (b : Nat) (cur : Array Value) (e : TypeId), e ≠ 83 → W.heap[b]? = some (.cells cur e (0, 0)) → W'.heap[b]? = W.heap[b]? := fun b cur e he hb => by
    refine hg.block b (Array.getElem?_eq_some_iff.1 hb).1 (fun hh => ?_)
    obtain ⟨c2, h2, _⟩ := row_block h.walls hh.symm
    rw [hb] at h2
    cases h2
    exact he rfl
  obtain ⟨v, h1, h2, h3⟩ := h.rd
  have hm' := (hbl mb _ _ (by decide) h.map).trans h.map
  have hset := Only.setCell (B := fun k => k = mb) (Only.refl _ W') (p := ⟨mb, 3, none⟩) rfl v'
  have hlow : ∀ k, k < w0.heap.size → (W'.setCell ⟨mb, 3, none⟩ v').heap[k]? = W.heap[k]? := fun k hk => by
    have := h.mge
    have := h.below.size
    refine (hset.block k (by omega)).trans (hg.block k (by omega) (fun hh => ?_))
    obtain ⟨_, _, h5⟩ := row_block h.walls hh.symm
    omega
  refine ⟨⟨v, ?_, h2, h3.1.of_heap hlow, h3.2⟩, heap_setCell_same _ _ _ _ _ _ hm', ?_, ?_, ?_, h.rge, h.mge⟩
  · exact (hset.block rb hne).trans ((hbl rb _ _ (by decide) h1).trans h1)
  · rw [List.length_append, flat2_append]
    refine row_keep hr (fun g cur hg' => hset.block g ?_)
    rintro rfl
    rw [hm'] at hg'
    cases hg'
  · refine row_keep h.things (fun g cur hg' => ?_)
    refine (hset.block g ?_).trans (hbl g _ _ (by decide) hg')
    rintro rfl
    rw [h.map] at hg'
    cases hg'
  · exact h.below.trans ⟨hset.os.trans hg.os, hset.tape.trans hg.tape, hset.output.trans hg.output, Nat.le_trans hg.size hset.size, hlow⟩

/-- A thing is appended. -/
theorem LInv.addThing (h : LInv rb mb o w0 W L p ok vw vt WL TL) {v' : Value} {e : List UInt8 × List UInt8} (hr : W'.ownsRow w0.heap.size 85 2 v' (TL.length + 1) (flat2 encT0 encT1 TL ++ [encT0 e, encT1 e])) (hg : W.grownBy W' vt.ownBlock) :
    LInv rb mb o w0 (W'.setCell ⟨mb, 4, none⟩ v') L p ok vw v' WL (TL ++ [e]) := by
  have hne := h.ne
  have hml := (Array.getElem?_eq_some_iff.1 h.map).1
  have hbl : ∀ (b : Nat) (cur : Array Value) (e : TypeId), e ≠ 85 → W.heap[b]? = some (.cells cur e (0, 0)) → W'.heap[b]? = W.heap[b]? := fun b cur e he hb => by
    refine hg.block b (Array.getElem?_eq_some_iff.1 hb).1 (fun hh => ?_)
    obtain ⟨c2, h2, _⟩ := row_block h.things hh.symm
    rw [hb] at h2
    cases h2
    exact he rfl
  obtain ⟨v, h1, h2, h3⟩ := h.rd
  have hm' := (hbl mb _ _ (by decide) h.map).trans h.map
  have hset := Only.setCell (B := fun k => k = mb) (Only.refl _ W') (p := ⟨mb, 4, none⟩) rfl v'
  have hlow : ∀ k, k < w0.heap.size → (W'.setCell ⟨mb, 4, none⟩ v').heap[k]? = W.heap[k]? := fun k hk => by
    have := h.mge
    have := h.below.size
    refine (hset.block k (by omega)).trans (hg.block k (by omega) (fun hh => ?_))
    obtain ⟨_, _, h5⟩ := row_block h.things hh.symm
    omega
  refine ⟨⟨v, ?_, h2, h3.1.of_heap hlow, h3.2⟩, heap_setCell_same _ _ _ _ _ _ hm', ?_, ?_, ?_, h.rge, h.mge⟩
  · exact (hset.block rb hne).trans ((hbl rb _ _ (by decide) h1).trans h1)
  · refine row_keep h.walls (fun g cur hg' => ?_)
    refine (hset.block g ?_).trans (hbl g _ _ (by decide) hg')
    rintro rfl
    rw [h.map] at hg'
    cases hg'
  · rw [List.length_append, flat2_append]
    refine row_keep hr (fun g cur hg' => hset.block g ?_)
    rintro rfl
    rw [hm'] at hg'
    cases hg'
  · exact h.below.trans ⟨hset.os.trans hg.os, hset.tape.trans hg.tape, hset.output.trans hg.output, Nat.le_trans hg.size hset.size, hlow⟩
end

/-- A map of the specification. -/
def Map7 (w : World) (mb : Nat) (o : Hy.Ord) (WL : WallList) (TL : ThingList) : Prop :=
  ∃ vw vt, w.heap[mb]? = some (.cells #[.int .i64 o.m01, .int .i64 o.m12, .int .i64 o.m02, vw, vt] 38 (0, 0)) ∧ Pairs encW0 encW1 w vw WL ∧ Pairs encT0 encT1 w vt TL

/-- The specification has loaded an image, or there is none. -/
def LoadPost7 (P : Option (Hy.Ord × WallList × ThingList)) (w : World) (e : Ending) (w' : World) : Prop :=
  ∃ mb, e = .returned (.tuple #[.pointer (some ⟨mb, 0, none⟩), .bool P.isSome]) ∧ Below w.heap.size w w' ∧ w.heap.size ≤ mb ∧ ∀ o WL TL, P = some (o, WL, TL) → Map7 w' mb o WL TL

theorem LoadPost7.bad {P : Option (Hy.Ord × WallList × ThingList)} {w w' : World} {mb : Nat} (h : P = none) (hb : Below w.heap.size w w') (hm : w.heap.size ≤ mb) : LoadPost7 P w (.returned (.tuple #[.pointer (some ⟨mb, 0, none⟩), .bool false])) w' := by
  subst h
  exact ⟨mb, rfl, hb, hm, fun _ _ _ h => by cases h⟩

theorem LInv.map7 {rb mb : Nat} {o : Hy.Ord} {w0 W : World} {L : List UInt8} {p : Nat} {ok : Bool} {vw vt : Value} {WL : WallList} {TL : ThingList} (h : LInv rb mb o w0 W L p ok vw vt WL TL) : Map7 W mb o WL TL :=
  ⟨vw, vt, h.map, ownsRow_pairs h.walls, ownsRow_pairs h.things⟩
end Go.Proofs.YtbfnnlcckpabnaaGreat
