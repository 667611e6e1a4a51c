/- The plane of package grow: made, and walked along a word. -/
import Derived.Test.YtbfnnlcckpabnaaStep
namespace Go.Proofs.Ytbfnnlcckpabnaa
set_option linter.unusedSimpArgs false
set_option linter.unusedVariables false
open Go.RowKit

set_option maxRecDepth 100000 in
set_option maxHeartbeats 1000000 in
theorem grow_table (a b c : Int) (w : World) :
    Calls Try.prog 83 #[ordersV a b c] w fun e w' => e = .returned (.agg #[.int .i64 0, .int .i64 a, .int .i64 c, .int .i64 a, .int .i64 0, .int .i64 b, .int .i64 c, .int .i64 b, .int .i64 0]) ∧ Below w.heap.size w w' := by
  unfold ordersV
  go_enter Try.func83, Try.ntmps83
  go_wp2_with fail
  exact bodyPost_ret (v := .agg #[.int .i64 0, .int .i64 a, .int .i64 c, .int .i64 a, .int .i64 0, .int .i64 b, .int .i64 c, .int .i64 b, .int .i64 0]) (by simp [results, Try.results83, go_sem]) rfl ⟨rfl, ((Below.refl _ _).alloc (Nat.le_refl _) _).alloc (by simp) _⟩

def NewPost (o : Hy.Ord) (w : World) (e : Ending) (w' : World) : Prop :=
  ∃ (pb : Nat) (bs : Nat → Nat), e = .returned (.pointer (some ⟨pb, 0, none⟩)) ∧ GRep w' o (fun k => w.heap.size ≤ k) pb bs Hy.start ∧ w.heap.size ≤ pb ∧ Below w.heap.size w w'

set_option maxRecDepth 100000 in
set_option maxHeartbeats 1000000 in
theorem grow_New (o : Hy.Ord) (w : World) :
    Calls Try.prog 68 #[ordersV o.m01 o.m12 o.m02] w (NewPost o w) := by
  go_enter Try.func68, Try.ntmps68
  unfold ordersV
  go_wp2_with fail
  refine (grow_table o.m01 o.m12 o.m02 _).mono ?_
  rintro e w1 ⟨rfl, hB⟩
  have HB := Lib.hid hB; clear hB
  go_wp2_with fail
  go_ret
  refine ⟨w1.heap.size + 1, fun _ => w1.heap.size, rfl, ?_, ?_, ?_⟩
  · refine ⟨?_, ?_, ?_, ?_, ?_, ?_⟩
    · have := alloc_heap_new (w1.alloc (.cells (nodeCells (fun _ => w1.heap.size) (Hy.fresh [])) 148)) (.cells (planeCells o w1.heap.size) 144)
      rw [World.size_alloc] at this
      exact this
    · intro i n hi
      have h0 : i = 0 := by
        have := (List.getElem?_eq_some_iff.1 hi).1
        simpa [Hy.start] using this
      subst h0
      cases hi
      have := alloc_heap_new w1 (.cells (nodeCells (fun _ => w1.heap.size) (Hy.fresh [])) 148)
      exact (heap_alloc_lt _ _ (by simp)).trans this
    · intro i j hi hj _
      simp [Hy.start] at hi hj
      omega
    · intro i hi
      omega
    · intro i hi
      have := HB.out.size
      simp at this
      show w.heap.size ≤ w1.heap.size
      omega
    · intro i n s j hi hj
      have h0 : i = 0 := by
        have := (List.getElem?_eq_some_iff.1 hi).1
        simpa [Hy.start] using this
      subst h0
      cases hi
      cases hj
  · have := HB.out.size
    simp at this
    omega
  · have hs := HB.out.size
    simp at hs
    exact (((((Below.refl _ _).alloc (Nat.le_refl _) _).trans (HB.out.mono (by simp))).alloc (by omega) _).alloc (by simp; omega) _)

theorem GRep.sub {w : World} {o : Hy.Ord} {B B' : Nat → Prop} {pb : Nat} {bs : Nat → Nat} {G : List Hy.Node} (h : GRep w o B pb bs G) (hB : ∀ i, i < G.length → B' (bs i)) : GRep w o B' pb bs G :=
  ⟨h.plane, h.node, h.inj, h.ne, hB, h.closed⟩

set_option maxRecDepth 100000 in
set_option maxHeartbeats 1000000 in
theorem grow_Walk {o : Hy.Ord} (ho : Small o) (fuel : Nat) {w : World} {own : Nat → Prop} {pb : Nat} {bs : Nat → Nat} {G : List Hy.Node} (h : GRep w o own pb bs G) (hF : Free own w) (l : List UInt8) (hl : ∀ (k : Nat) (hk : k < l.length), l[k].toNat < 3) (hlen : l.length ≤ 1000) (x : Nat) (hx : x < G.length) (G' : List Hy.Node) (y : Nat) (hr : Hy.walk o fuel G x l = some (G', y)) :
    Calls Try.prog 69 #[.pointer (some ⟨pb, 0, none⟩), .pointer (some ⟨bs x, 0, none⟩), str l] w (StepPost o own pb bs G G' y w) := by
  obtain ⟨cap, c, fr, kb, hc⟩ := run_bytes l w
  have IH := Lib.hid (grow_step ho (B := fun k => own k ∧ k ≠ w.heap.size) (pb := pb) fuel)
  have HC := Lib.hid hc; clear hc
  have HL := Lib.hid hl; clear hl
  have HR := Lib.hid hr; clear hr
  have HF := Lib.hid hF; clear hF
  have H := Lib.hid h; clear h
  unfold str
  go_enter Try.func69, Try.ntmps69
  go_wp2_with fail
  obtain ⟨W0, hW0⟩ : ∃ W0, (w.alloc (.cells c 5 fr)).drew = W0 := ⟨_, rfl⟩
  rw [hW0]
  have hs0 : W0.heap.size = w.heap.size + 1 := by rw [← hW0]; simp [World.drew]
  have hb0 : W0.heap[w.heap.size]? = some (.cells c 5 fr) := by rw [← hW0]; exact alloc_heap_new w _
  have hG0 : GRep W0 o (fun k => own k ∧ k ≠ w.heap.size) pb bs G := by
    rw [← hW0]
    exact ((H.out.alloc _).drew).sub (fun i hi => ⟨H.out.lo i hi, Nat.ne_of_lt (H.out.lt hi)⟩)
  have hF0 : Free (fun k => own k ∧ k ≠ w.heap.size) W0 := fun k hk => ⟨HF.out k (by omega), by omega⟩
  have hO0 : Only own w W0 := by rw [← hW0]; exact ((Only.refl own w).alloc HF.out _).drew
  have HW0 := Lib.hid hW0; clear hW0
  have HS0 := Lib.hid hs0; clear hs0
  have HB0 := Lib.hid hb0; clear hb0
  have HG0 := Lib.hid hG0; clear hG0
  have HF0 := Lib.hid hF0; clear hF0
  have HO0 := Lib.hid hO0; clear hO0
  clear kb
  go_loopw [1, 12] (fun tv i wr => ∃ (k : Nat) (bq : Nat → Nat) (Gq : List Hy.Node) (xq : Nat), k ≤ l.length ∧ i = .int .i64 k ∧ tv = .pointer (some ⟨bq xq, 0, none⟩) ∧ Hid (GRep wr o (fun k => own k ∧ k ≠ w.heap.size) pb bq Gq) ∧ Hid (Hy.walk o fuel Gq xq (l.drop k) = some (G', y)) ∧
    Hid (∀ i, i < G.length → bq i = bs i) ∧ Hid (Only (fun k => own k ∧ k ≠ w.heap.size) W0 wr) ∧ G.length ≤ Gq.length ∧ xq < Gq.length) (fun _ i _ => l.length - (intOf i).toNat)
  case atStart => exact ⟨0, bs, G, x, Nat.zero_le _, rfl, rfl, HG0, HR, fun _ _ => rfl, Only.refl _ _, Nat.le_refl _, hx⟩
  case round =>
    obtain ⟨k, bq, Gq, xq, hk, rfl, rfl, HGq, HRq, HAq, HOq, hlq, hxq⟩ := hrel
    by_cases hlt : k < l.length
    · have hcell : wr.cell? ⟨w.heap.size, k, none⟩ = some (.int .u8 (l[k].toNat : Int)) := by
        rw [cell_of_heap ((HOq.out.block w.heap.size (by simp)).trans HB0.out)]
        exact HC.out k hlt
      have hr := HRq.out
      rw [List.drop_eq_getElem_cons hlt] at hr
      obtain ⟨Gn, xn, hs, hr'⟩ := Hy.walk_cons hr
      have h3 := HL.out k hlt
      have hcall := IH.out wr bq Gq xq l[k].toNat Gn xn HGq.out (HF0.out.grow HOq.out.size) h3 hs
      have HCALL := Lib.hid hcall; clear hcall hs hr
      have HRN := Lib.hid hr'; clear hr'
      go_wp2_with fail
      refine HCALL.out.mono ?_
      rintro e w3 ⟨bn, rfl, h3, hag, hB3, hlen3, hzn⟩
      clear HCALL
      have H3 := Lib.hid h3; clear h3
      have HAG := Lib.hid hag; clear hag
      have HB3 := Lib.hid hB3; clear hB3
      go_wp2_with fail
      go_roundw
      case rel => exact ⟨k + 1, bn, Gn, xn, by omega, by go_num, rfl, H3, HRN, fun i hi => (HAG.out i (by omega)).trans (HAq.out i hi), HOq.out.trans HB3.out, by omega, hzn⟩
      case measure => simp [intOf]; omega
    · obtain rfl : k = l.length := by omega
      clear hlt hk
      go_wp2_with fail
      go_ret
      have hr := HRq.out
      rw [List.drop_length] at hr
      cases hr
      exact ⟨bq, rfl, HGq.out.sub (fun i hi => (HGq.out.lo i hi).1), HAq.out, HO0.out.trans (HOq.out.mono (fun k hk => hk.1)), hlq, hxq⟩
end Go.Proofs.Ytbfnnlcckpabnaa
