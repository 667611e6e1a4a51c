import Derived.Test.YtdckpjagmbdkgaaT1
import Derived.Test.YtdckpjagmbdkgaaInts
import Derived.Deep.RegionHeld3

/- The functions of package words that package tiles calls: the inverse, and whether two words lead to the same tile. -/
namespace Go.Proofs.Ytdckpjagmbdkgaa
set_option linter.unusedSimpArgs false
set_option linter.unusedVariables false
open Go.RowKit

def NormalAt (o : Hy.Ord) (own : Nat → Prop) (pb : Nat) (bs : Nat → Nat) (G G' : List Hy.Node) (x : List UInt8) (w : World) (e : Ending) (w' : World) : Prop :=
  ∃ bs' : Nat → Nat, e = .returned (str x) ∧ GRep w' o own pb bs' G' ∧ (∀ i, i < G.length → bs' i = bs i) ∧ Only own w w' ∧ G.length ≤ G'.length

set_option maxRecDepth 100000 in
set_option maxHeartbeats 1000000 in
theorem words_normal_at {o : Hy.Ord} (ho : Small o) (fuel : Nat) {w : World} {own : Nat → Prop} {pb : Nat} {bs : Nat → Nat} {G : List Hy.Node} (hG0 : 0 < G.length) (h : GRep w o own pb bs G) (sb : Nat) (ws : List (List UInt8)) (cap : Nat) (hF : Free own w)
    (hs : ∀ (k : Nat) (hk : k < ws.length), w.cell? ⟨sb, k, none⟩ = some (str ws[k])) (hsb : ¬ own sb) (hw : Hy.wordsErr ws = 0) (hn : ws.length ≤ 1000)
    (G' : List Hy.Node) (y : Nat) (n : Hy.Node) (hr : Hy.walk o fuel G 0 ws.flatten = some (G', y)) (hy : G'[y]? = some n) :
    Calls Try.prog 67 #[.agg #[.pointer (some ⟨pb, 0, none⟩)], .slice (some ⟨sb, 0, none⟩) ws.length cap] w (NormalAt o own pb bs G G' n.word w) := by
  go_enter Try.func67, Try.ntmps67
  have hp : w.cell? ⟨pb, 9, none⟩ = some (.pointer (some ⟨bs 0, 0, none⟩)) := cell_of_heap h.plane 9
  have hps : pb < w.heap.size := (Array.getElem?_eq_some_iff.1 h.plane).1
  have hpa : ∀ ob, (w.alloc ob).cell? ⟨pb, 9, none⟩ = some (.pointer (some ⟨bs 0, 0, none⟩)) := fun ob => (World.cell?_alloc_lt w ob _ hps).trans hp
  have H := Lib.hid h; clear h
  have HR := Lib.hid hr; clear hr
  have HY := Lib.hid hy; clear hy
  have HF := Lib.hid hF; clear hF
  have HS := Lib.hid hs; clear hs
  have HW := Lib.hid hw; clear hw
  clear hp
  go_wp2_with fail
  obtain ⟨W0, hW0⟩ : ∃ W0, w.alloc (.cells #[.pointer (some ⟨pb, 0, none⟩)] 121) = W0 := ⟨_, rfl⟩
  rw [hW0]
  have hs0 : W0.heap.size = w.heap.size + 1 := by rw [← hW0]; simp
  have hb0 : W0.heap[w.heap.size]? = some (.cells #[.pointer (some ⟨pb, 0, none⟩)] 121 (0, 0)) := by rw [← hW0]; exact alloc_heap_new w _
  have hG0 : GRep W0 o (fun k => own k ∧ k ≠ w.heap.size) pb bs G := by
    rw [← hW0]
    exact (H.out.alloc _).sub (fun i hi => ⟨H.out.lo i hi, Nat.ne_of_lt (H.out.lt hi)⟩)
  have hF0 : Free (fun k => own k ∧ k ≠ w.heap.size) W0 := fun k hk => ⟨HF.out k (by omega), by omega⟩
  have hO0 : Only own w W0 := by rw [← hW0]; exact ((Only.refl own w).alloc HF.out _)
  have hS0 : ∀ (k : Nat) (hk : k < ws.length), W0.cell? ⟨sb, k, none⟩ = some (str ws[k]) := fun k hk => by
    have h1 := HS.out k hk
    rw [← hW0]; exact (World.cell?_alloc_lt w _ _ (World.block_lt_of_cell? _ _ h1)).trans h1
  have HW0 := Lib.hid hW0; clear hW0
  have HS0 := Lib.hid hs0; clear hs0
  have HB0 := Lib.hid hb0; clear hb0
  have HG0 := Lib.hid hG0; clear hG0
  have HF0 := Lib.hid hF0; clear hF0
  have HO0 := Lib.hid hO0; clear hO0
  have HSS := Lib.hid hS0; clear hS0
  clear hpa
  go_loopw [5, 15] (fun tv i wr => ∃ (k : Nat) (bq : Nat → Nat) (Gq : List Hy.Node) (xq : Nat), k ≤ ws.length ∧ i = .int .i64 k ∧ tv = .pointer (some ⟨bq xq, 0, none⟩) ∧ Hid (GRep wr o (fun k => own k ∧ k ≠ w.heap.size) pb bq Gq) ∧ Hid (Hy.walk o fuel Gq xq (ws.drop k).flatten = some (G', y)) ∧
    Hid (∀ i, i < G.length → bq i = bs i) ∧ Hid (Only (fun k => own k ∧ k ≠ w.heap.size) W0 wr) ∧ G.length ≤ Gq.length ∧ xq < Gq.length) (fun _ i _ => ws.length - (intOf i).toNat)
  case atStart => exact ⟨0, bs, G, 0, Nat.zero_le _, rfl, rfl, HG0, HR, fun _ _ => rfl, Only.refl _ _, Nat.le_refl _, hG0⟩
  case round =>
    obtain ⟨k, bq, Gq, xq, hk, rfl, rfl, HGq, HRq, HAq, HOq, hlq, hxq⟩ := hrel
    by_cases hlt : k < ws.length
    · have hcell : wr.cell? ⟨sb, k, none⟩ = some (str ws[k]) := by
        rw [World.cell?_of_block (w := W0) (HOq.out.block sb (fun h => hsb h.1))]
        exact HSS.out k hlt
      have hpl : wr.cell? ⟨w.heap.size, 0, none⟩ = some (.pointer (some ⟨pb, 0, none⟩)) := by
        rw [cell_of_heap ((HOq.out.block w.heap.size (by simp)).trans HB0.out)]
        rfl
      have hr := HRq.out
      rw [List.drop_eq_getElem_cons hlt, List.flatten_cons] at hr
      obtain ⟨Gn, xn, hs, hr'⟩ := Hy.walk_append hr
      obtain ⟨h3, h4⟩ := Hy.wordErr_letters (Hy.wordsErr_zero HW.out ws[k] (List.getElem_mem hlt))
      have hcall := grow_Walk ho fuel HGq.out (HF0.out.grow HOq.out.size) ws[k] h3 (by omega) xq hxq Gn xn hs
      have HCALL := Lib.hid hcall; clear hcall hs hr h3 h4
      have HRN := Lib.hid hr'; clear hr'
      go_wp2_with fail
      refine HCALL.out.mono ?_
      rintro e w3 ⟨bn, rfl, h3, hag, hB3, hlen3, hzn⟩
      clear HCALL
      have H3 := Lib.hid h3; clear h3
      have HAG := Lib.hid hag; clear hag
      have HB3 := Lib.hid hB3; clear hB3
      go_wp2_with fail
      go_roundw
      case rel => exact ⟨k + 1, bn, Gn, xn, by omega, by go_num, rfl, H3, HRN, fun i hi => (HAG.out i (by omega)).trans (HAq.out i hi), HOq.out.trans HB3.out, by omega, hzn⟩
      case measure => simp [intOf]; omega
    · obtain rfl : k = ws.length := by omega
      clear hlt hk
      have hr := HRq.out
      rw [List.drop_length] at hr
      cases hr
      have hw := HGq.out.cWord HY.out
      go_wp2_with fail
      go_ret
      exact ⟨bq, rfl, HGq.out.sub (fun i hi => (HGq.out.lo i hi).1), HAq.out, HO0.out.trans (HOq.out.mono (fun k hk => hk.1)), hlq⟩

theorem rev_bytes (l : List UInt8) (k : Nat) (hk : k < l.length) : nums .u8 ((l.reverse.take (k + 1)).map (fun c : UInt8 => (c.toNat : Int)) ++ List.replicate (l.length - (k + 1)) 0) =
    nums .u8 (((l.reverse.take k).map (fun c : UInt8 => (c.toNat : Int)) ++ List.replicate (l.length - k) 0).set k ((l[l.length - 1 - k]'(by omega)).toNat : Int)) := by
  congr 1
  have hr : k < l.reverse.length := by simpa using hk
  rw [List.take_succ_eq_append_getElem hr, List.map_append, List.set_append_right _ _ (by simp; omega)]
  have h1 : (List.map (fun c : UInt8 => (c.toNat : Int)) (l.reverse.take k)).length = k := by simp; omega
  rw [h1, Nat.sub_self, show l.length - k = (l.length - (k + 1)) + 1 from by omega, List.replicate_succ, List.set_cons_zero]
  simp [List.getElem_reverse]

set_option maxRecDepth 100000 in
set_option maxHeartbeats 1000000 in
/-- A word turned about. -/
theorem grow_Back (l : List UInt8) (w : World) (hl : l.length ≤ 1000) :
    Calls Try.prog 68 #[str l] w fun e w' => e = .returned (str l.reverse) ∧ Below w.heap.size w w' := by
  have hmk := make_bytes w l.length (by omega)
  unfold str
  go_enter Try.func68, Try.ntmps68
  go_wp2_with fail
  have hq := IQ.zeros .u8 w l.length 5 (by omega)
  have hb : Below w.heap.size w (w.alloc (.cells (Array.replicate l.length (.int .u8 0)) 5)) := (Below.refl _ _).alloc (Nat.le_refl _) _
  generalize w.alloc (.cells (Array.replicate l.length (.int .u8 0)) 5) = W1 at *
  have HQ := Lib.hid hq
  have HB := Lib.hid hb
  clear hq hb hmk
  go_loopw [10] (fun i wr => ∃ k : Nat, i = .int .i64 k ∧ k ≤ l.length ∧ Hid (IQ .u8 wr w.heap.size (.slice (some ⟨w.heap.size, 0, none⟩) l.length l.length) ((l.reverse.take k).map (fun c : UInt8 => (c.toNat : Int)) ++ List.replicate (l.length - k) 0)) ∧ Hid (Below w.heap.size w wr)) (fun i _ => l.length - (intOf i).toNat)
  case atStart => exact ⟨0, rfl, Nat.zero_le _, Lib.hid (by simpa using HQ.out), HB⟩
  case round =>
    clear HQ HB
    obtain ⟨k, rfl, hk, HQr, HBr⟩ := hrel
    by_cases hlt : k < l.length
    · obtain ⟨-, hc, hf⟩ := HQr.out.at
      have c1 := hc k (by simp; omega)
      have f1 := hf k (by simp; omega)
      rw [Nat.zero_add] at c1 f1
      have hix := run_index_str l (l.length - 1 - k) (l[l.length - 1 - k]'(by omega)) (List.getElem?_eq_getElem (by omega))
      have hn1 : ((l.length - 1 - k : Nat) : Int) = (l.length : Int) - 1 - (k : Int) := by omega
      rw [hn1] at hix
      have hset := HQr.out.set (j := k) (by simp; omega) ((l[l.length - 1 - k]'(by omega)).toNat : Int)
      have hki : (k : Int) < (l.length : Int) := by omega
      have HS : Hid (IQ .u8 (wr.setCell ⟨w.heap.size, k, none⟩ (.int .u8 ((l[l.length - 1 - k]'(by omega)).toNat : Int))) w.heap.size (.slice (some ⟨w.heap.size, 0, none⟩) l.length l.length) ((l.reverse.take (k + 1)).map (fun c : UInt8 => (c.toNat : Int)) ++ List.replicate (l.length - (k + 1)) 0)) := Lib.hid (by
        unfold IQ
        rw [rev_bytes l k hlt]
        have h2 : ((l.reverse.take (k + 1)).map (fun c : UInt8 => (c.toNat : Int)) ++ List.replicate (l.length - (k + 1)) (0 : Int)).length = ((((l.reverse.take k).map (fun c : UInt8 => (c.toNat : Int)) ++ List.replicate (l.length - k) (0 : Int))).set k ((l[l.length - 1 - k]'(by omega)).toNat : Int)).length := by simp; omega
        rw [h2]
        have h3 := hset
        unfold IQ at h3
        rw [Nat.zero_add] at h3
        exact h3)
      generalize (l[l.length - 1 - k]'(by omega)).toNat = x at *
      clear hc hf hset hn1
      go_wp2_with fail
      go_roundw
      case rel => exact ⟨k + 1, by go_num, by omega, HS, HBr.out.setCell (p := ⟨w.heap.size, k, none⟩) (Nat.le_refl _) _⟩
      case measure => simp [intOf]; omega
    · obtain rfl : k = l.length := by omega
      obtain ⟨-, hc, hf⟩ := HQr.out.at
      have hcv := run_text wr w.heap.size 0 l.length l.length l.reverse (by simp) (fun j hj => by
        have := hc j (by simp at hj ⊢; omega)
        rw [this]
        have hj' : j < l.length := by simpa using hj
        congr 1
        simp [List.getD, List.getElem?_append, hj', List.getElem_reverse])
      unfold str at hcv
      clear hc hf hlt hk
      go_wp2_with fail
      go_ret
      exact ⟨rfl, HBr.out⟩

theorem wordsErr_rev {u : List UInt8} (h : Hy.wordsErr [u] = 0) : Hy.wordsErr [u.reverse] = 0 := by
  rw [Hy.wordsErr_one] at h ⊢
  obtain ⟨h1, h2⟩ := Hy.wordErr_letters h
  have : ∀ c ∈ u, ¬ 2 < c := fun c hc => by
    obtain ⟨i, hi, rfl⟩ := List.getElem_of_mem hc
    have := h1 i hi
    rw [UInt8.lt_iff_toNat_lt]
    show ¬ 2 < _
    omega
  refine Hy.wordErr_ok ?_ (by simpa using h2)
  rw [List.any_eq_false]
  intro c hc
  have := this c (List.mem_reverse.1 hc)
  simpa using this

theorem GRep.later {w w' : World} {o : Hy.Ord} {B : Nat → Prop} {pb : Nat} {bs : Nat → Nat} {G : List Hy.Node} (h : GRep w o B pb bs G) (hb : Below w.heap.size w w') : GRep w' o B pb bs G :=
  ⟨(hb.block pb (Array.getElem?_eq_some_iff.1 h.plane).1).trans h.plane, fun i n hi => (hb.block _ (h.lt (List.getElem?_eq_some_iff.1 hi).1)).trans (h.node i n hi), h.inj, h.ne, h.lo, h.closed⟩

set_option maxRecDepth 100000 in
set_option maxHeartbeats 1000000 in
theorem words_Inverse_badOrd (a b c : Int) (u : List UInt8) (w : World) (he : Hy.ordErr a b c ≠ 0) :
    Calls Try.prog 36 #[ordersV a b c, str u] w fun e w' => e = .returned (.tuple #[str [], .int .i64 (Hy.ordErr a b c)]) ∧ Below w.heap.size w w' := by
  have HCALL := Lib.hid (fun v W => words_begun_badOrd a b c v W he)
  unfold ordersV str at *
  go_enter_defers Try.func36, Try.ntmps36
  go_wp2_with fail
  refine (HCALL.out _ _).mono ?_
  rintro e w1 ⟨rfl, hB⟩
  have h1 : w1.heap[w.heap.size + 1]? = some (.cells #[.int .i64 0] 24 (0, 0)) := by
    have := alloc_heap_new (w.alloc (.cells #[.int .i64 a, .int .i64 b, .int .i64 c] 23)) (.cells #[.int .i64 0] 24)
    rw [World.size_alloc] at this
    exact (hB.block (w.heap.size + 1) (by simp)).trans ((heap_alloc_lt _ _ (by simp)).trans this)
  have c1 : w1.cell? ⟨w.heap.size + 1, 0, none⟩ = some (.int .i64 0) := cell_of_heap h1 0
  have f1 : w1.frozen? ⟨w.heap.size + 1, 0, none⟩ = false := free_of_heap h1 0
  have HB := Lib.hid hB; clear hB
  have H1 := Lib.hid h1; clear h1
  have HE := Lib.hid he; clear he
  go_wp2_with fail
  refine leaves_cons (f := 65) (args := #[.pointer (some ⟨w.heap.size + 1, 0, none⟩)]) (by simp) (by simp [go_sem]) ?_
  refine (words_caught_panic ⟨w.heap.size + 1, 0, none⟩ 0 (Hy.ordErr a b c) _ c1 f1).mono ?_
  rintro e u' w'' ⟨rfl, rfl, rfl⟩
  have hcs : (w1.setCell ⟨w.heap.size + 1, 0, none⟩ (.int .i64 (Hy.ordErr a b c))).cell? ⟨w.heap.size + 1, 0, none⟩ = some (.int .i64 (Hy.ordErr a b c)) := World.cell?_setCell_same _ _ _ c1
  simp [Leaves, settle, results, Try.results36, go_sem, hcs]
  exact ((((((Below.refl _ _).alloc (Nat.le_refl _) _).alloc (by simp) _).alloc (by simp; omega) _).trans (HB.out.mono (by simp; omega))).setCell (by simp) _)

set_option maxRecDepth 100000 in
set_option maxHeartbeats 1000000 in
theorem words_Inverse_badWord (o : Hy.Ord) (u : List UInt8) (w : World) (he : Hy.ordErr o.m01 o.m12 o.m02 = 0) (hu : u.length ≤ 9223372036854775807) (hw : Hy.wordsErr [u] ≠ 0) :
    Calls Try.prog 36 #[ordersV o.m01 o.m12 o.m02, str u] w fun e w' => e = .returned (.tuple #[str [], .int .i64 (Hy.wordsErr [u])]) ∧ Below w.heap.size w w' := by
  have HCALL := Lib.hid (fun sb W cap hs hsb => words_begun o sb [u] W he (by simp) (by simp; exact hu) cap hs hsb)
  have HE := Lib.hid he; clear he
  have HW := Lib.hid hw; clear hw
  have HU := Lib.hid hu; clear hu
  unfold ordersV str at *
  go_enter_defers Try.func36, Try.ntmps36
  go_wp2_with fail
  refine (HCALL.out _ _ _ ?_ ?_).mono ?_
  · intro k hk
    simp at hk
    have this' := cell_new ((w.alloc (.cells #[.int .i64 o.m01, .int .i64 o.m12, .int .i64 o.m02] 23)).alloc (.cells #[.int .i64 0] 24)) #[.string ⟨u.toArray⟩] 9 (0, 0) k
    rw [World.size_alloc, World.size_alloc] at this'
    refine this'.trans ?_
    obtain rfl : k = 0 := by omega
    rfl
  · simp
  rintro e w1 hb
  unfold BegunPost at hb
  rw [if_neg HW.out] at hb
  obtain ⟨rfl, hB⟩ := hb
  have h1 : w1.heap[w.heap.size + 1]? = some (.cells #[.int .i64 0] 24 (0, 0)) := by
    have := alloc_heap_new (w.alloc (.cells #[.int .i64 o.m01, .int .i64 o.m12, .int .i64 o.m02] 23)) (.cells #[.int .i64 0] 24)
    rw [World.size_alloc] at this
    exact (hB.block (w.heap.size + 1) (by simp)).trans ((heap_alloc_lt _ _ (by simp)).trans this)
  have c1 : w1.cell? ⟨w.heap.size + 1, 0, none⟩ = some (.int .i64 0) := cell_of_heap h1 0
  have f1 : w1.frozen? ⟨w.heap.size + 1, 0, none⟩ = false := free_of_heap h1 0
  have HB := Lib.hid hB; clear hB
  have H1 := Lib.hid h1; clear h1
  go_wp2_with fail
  refine leaves_cons (f := 65) (args := #[.pointer (some ⟨w.heap.size + 1, 0, none⟩)]) (by simp) (by simp [go_sem]) ?_
  refine (words_caught_panic ⟨w.heap.size + 1, 0, none⟩ 0 (Hy.wordsErr [u]) _ c1 f1).mono ?_
  rintro e u' w'' ⟨rfl, rfl, rfl⟩
  have hcs : (w1.setCell ⟨w.heap.size + 1, 0, none⟩ (.int .i64 (Hy.wordsErr [u]))).cell? ⟨w.heap.size + 1, 0, none⟩ = some (.int .i64 (Hy.wordsErr [u])) := World.cell?_setCell_same _ _ _ c1
  simp [Leaves, settle, results, Try.results36, go_sem, hcs]
  exact ((((((Below.refl _ _).alloc (Nat.le_refl _) _).alloc (by simp) _).alloc (by simp; omega) _).trans (HB.out.mono (by simp; omega))).setCell (by simp) _)

set_option maxRecDepth 100000 in
set_option maxHeartbeats 1000000 in
theorem words_Inverse_ok (o : Hy.Ord) (ho : Small o) (u : List UInt8) (w : World) (he : Hy.ordErr o.m01 o.m12 o.m02 = 0) (hw : Hy.wordsErr [u] = 0) (fuel : Nat) (nf : List UInt8) (hnf : Hy.norm o fuel u.reverse = some nf) :
    Calls Try.prog 36 #[ordersV o.m01 o.m12 o.m02, str u] w fun e w' => e = .returned (.tuple #[str nf, .int .i64 0]) ∧ Below w.heap.size w w' := by
  have hu : u.length ≤ 60 := (Hy.wordErr_letters (Hy.wordsErr_zero hw u (by simp))).2
  have HCALL := Lib.hid (fun sb W cap hs hsb => words_begun o sb [u] W he (by simp) (by simp; omega) cap hs hsb)
  have hwe := hw
  have HWE := Lib.hid hwe; clear hwe
  have HE := Lib.hid he; clear he
  have HW := Lib.hid hw; clear hw
  have HU := Lib.hid hu; clear hu
  have HO := Lib.hid ho; clear ho
  obtain ⟨G', y, n, hr, hy, rfl⟩ := Hy.norm_some hnf
  have HR := Lib.hid hr; clear hr
  have HY := Lib.hid hy; clear hy
  clear hnf
  have HBK := Lib.hid (fun W => grow_Back u W (by have := HU.out; omega))
  have HWB := Lib.hid (wordsErr_rev HWE.out)
  unfold ordersV str at *
  go_enter_defers Try.func36, Try.ntmps36
  go_wp2_with fail
  refine (HCALL.out _ _ _ ?_ ?_).mono ?_
  · intro k hk
    simp at hk
    have this' := cell_new ((w.alloc (.cells #[.int .i64 o.m01, .int .i64 o.m12, .int .i64 o.m02] 23)).alloc (.cells #[.int .i64 0] 24)) #[.string ⟨u.toArray⟩] 9 (0, 0) k
    rw [World.size_alloc, World.size_alloc] at this'
    refine this'.trans ?_
    obtain rfl : k = 0 := by omega
    rfl
  · simp
  rintro e w1 hb
  unfold BegunPost at hb
  rw [HWE.out, if_pos rfl] at hb
  obtain ⟨pb, bs, rfl, hG, hpb, hB⟩ := hb
  have h1 : w1.heap[w.heap.size + 1]? = some (.cells #[.int .i64 0] 24 (0, 0)) := by
    have := alloc_heap_new (w.alloc (.cells #[.int .i64 o.m01, .int .i64 o.m12, .int .i64 o.m02] 23)) (.cells #[.int .i64 0] 24)
    rw [World.size_alloc] at this
    exact (hB.block (w.heap.size + 1) (by simp)).trans ((heap_alloc_lt _ _ (by simp)).trans this)
  have HB := Lib.hid hB; clear hB
  have H1 := Lib.hid h1; clear h1
  have HG := Lib.hid hG; clear hG
  have HPB := Lib.hid hpb; clear hpb
  go_wp2_with fail
  refine (HBK.out _).mono ?_
  rintro e w2 ⟨rfl, hB2⟩
  have H1 := Lib.hid ((hB2.block (w.heap.size + 1) (by have := HB.out.size; simp at this; omega)).trans H1.out)
  have HG := Lib.hid (HG.out.later hB2)
  have HB := Lib.hid (HB.out.trans (hB2.mono HB.out.size))
  clear hB2
  go_wp2_with fail
  have hz : w.heap.size + 3 ≤ w2.heap.size := by have := HB.out.size; simp at this; omega
  refine (words_normal HO.out fuel (own := fun k => w.heap.size + 3 ≤ k ∧ k ≠ w2.heap.size) (pb := pb) (bs := bs) ((HG.out.alloc _).sub (fun i hi => ⟨?_, Nat.ne_of_lt (HG.out.lt hi)⟩)) w2.heap.size [u.reverse] 1 ?_ ?_ ?_ HWB.out (by simp) (w.heap.size + 3) (fun k hk => hk.1) G' y n ?_ HY.out).mono ?_
  · have := HG.out.lo i hi; simp at this; omega
  · intro k hk; simp at hk; exact ⟨by omega, by omega⟩
  · intro k hk
    simp at hk
    have this' := cell_new w2 #[.string ⟨u.reverse.toArray⟩] 9 (0, 0) k
    refine this'.trans ?_
    obtain rfl : k = 0 := by omega
    rfl
  · intro h; exact h.2 rfl
  · simpa using HR.out
  rintro e w3 ⟨rfl, hB3⟩
  have h3 : w3.heap[w.heap.size + 1]? = some (.cells #[.int .i64 0] 24 (0, 0)) :=
    (hB3.block (w.heap.size + 1) (by omega)).trans ((heap_alloc_lt _ _ (by omega)).trans H1.out)
  have c1 : w3.cell? ⟨w.heap.size + 1, 0, none⟩ = some (.int .i64 0) := cell_of_heap h3 0
  have f1 : w3.frozen? ⟨w.heap.size + 1, 0, none⟩ = false := free_of_heap h3 0
  have HB3 := Lib.hid hB3; clear hB3
  have H3 := Lib.hid h3; clear h3
  unfold str
  go_wp2_with fail
  refine leaves_cons (f := 65) (args := #[.pointer (some ⟨w.heap.size + 1, 0, none⟩)]) (by simp) (by simp [go_sem]) ?_
  refine (words_caught_idle ⟨w.heap.size + 1, 0, none⟩ _).mono ?_
  rintro e u' w'' ⟨rfl, rfl, rfl⟩
  have hcs : (w3.setCell ⟨w.heap.size + 1, 0, none⟩ (.int .i64 0)).cell? ⟨w.heap.size + 1, 0, none⟩ = some (.int .i64 0) := World.cell?_setCell_same _ _ _ c1
  simp [Leaves, settle, results, Try.results36, go_sem, hcs]
  have hb : Below w.heap.size w w2 := (((((Below.refl _ _).alloc (Nat.le_refl _) _).alloc (by simp) _).alloc (by simp; omega) _).trans (HB.out.mono (by simp; omega)))
  exact ((hb.alloc (by omega) _).trans (HB3.out.mono (by omega))).setCell (by simp) _

/-- words.Inverse. -/
theorem words_Inverse (a b c : Int) (u : List UInt8) (w : World) (hu : u.length ≤ 9223372036854775807) (fuel : Nat) (nf : List UInt8) (hnf : Hy.allErr a b c [u] = 0 → Hy.norm (Hy.toOrd a b c) fuel u.reverse = some nf) :
    Calls Try.prog 36 #[ordersV a b c, str u] w fun e w' => e = .returned (.tuple #[str (if Hy.allErr a b c [u] = 0 then nf else []), .int .i64 (Hy.allErr a b c [u])]) ∧ Below w.heap.size w w' := by
  by_cases h1 : Hy.ordErr a b c = 0
  · have h0 := Hy.ordErr_zero h1
    rw [Hy.allErr_ok h1] at *
    obtain ⟨o, hoo⟩ : ∃ o, o = Hy.toOrd a b c := ⟨_, rfl⟩
    have ea : (o.m01 : Int) = a := by rw [hoo]; show ((a.toNat : Nat) : Int) = a; omega
    have eb : (o.m12 : Int) = b := by rw [hoo]; show ((b.toNat : Nat) : Int) = b; omega
    have ec : (o.m02 : Int) = c := by rw [hoo]; show ((c.toNat : Nat) : Int) = c; omega
    rw [← hoo] at hnf
    clear hoo
    subst ea eb ec
    by_cases h2 : Hy.wordsErr [u] = 0
    · rw [if_pos h2, h2]
      exact words_Inverse_ok o ⟨by omega, by omega, by omega⟩ u w h1 h2 fuel nf (hnf h2)
    · rw [if_neg h2]
      exact words_Inverse_badWord o u w h1 hu h2
  · rw [Hy.allErr_bad h1, if_neg h1]
    exact words_Inverse_badOrd a b c u w h1
end Go.Proofs.Ytdckpjagmbdkgaa

/- words.Same: whether two words lead to the same tile. -/
namespace Go.Proofs.Ytdckpjagmbdkgaa
set_option linter.unusedSimpArgs false
set_option linter.unusedVariables false
open Go.RowKit

set_option maxRecDepth 100000 in
set_option maxHeartbeats 1000000 in
theorem words_Same_badOrd (a b c : Int) (u v : List UInt8) (w : World) (he : Hy.ordErr a b c ≠ 0) :
    Calls Try.prog 35 #[ordersV a b c, str u, str v] w fun e w' => e = .returned (.tuple #[.bool false, .int .i64 (Hy.ordErr a b c)]) ∧ Below w.heap.size w w' := by
  have HCALL := Lib.hid (fun v W => words_begun_badOrd a b c v W he)
  unfold ordersV str at *
  go_enter_defers Try.func35, Try.ntmps35
  go_wp2_with fail
  refine (HCALL.out _ _).mono ?_
  rintro e w1 ⟨rfl, hB⟩
  have h1 : w1.heap[w.heap.size + 1]? = some (.cells #[.int .i64 0] 24 (0, 0)) := by
    have := alloc_heap_new (w.alloc (.cells #[.int .i64 a, .int .i64 b, .int .i64 c] 23)) (.cells #[.int .i64 0] 24)
    rw [World.size_alloc] at this
    exact (hB.block (w.heap.size + 1) (by simp)).trans ((heap_alloc_lt _ _ (by simp)).trans this)
  have c1 : w1.cell? ⟨w.heap.size + 1, 0, none⟩ = some (.int .i64 0) := cell_of_heap h1 0
  have f1 : w1.frozen? ⟨w.heap.size + 1, 0, none⟩ = false := free_of_heap h1 0
  have HB := Lib.hid hB; clear hB
  have H1 := Lib.hid h1; clear h1
  have HE := Lib.hid he; clear he
  go_wp2_with fail
  refine leaves_cons (f := 65) (args := #[.pointer (some ⟨w.heap.size + 1, 0, none⟩)]) (by simp) (by simp [go_sem]) ?_
  refine (words_caught_panic ⟨w.heap.size + 1, 0, none⟩ 0 (Hy.ordErr a b c) _ c1 f1).mono ?_
  rintro e u' w'' ⟨rfl, rfl, rfl⟩
  have hcs : (w1.setCell ⟨w.heap.size + 1, 0, none⟩ (.int .i64 (Hy.ordErr a b c))).cell? ⟨w.heap.size + 1, 0, none⟩ = some (.int .i64 (Hy.ordErr a b c)) := World.cell?_setCell_same _ _ _ c1
  simp [Leaves, settle, results, Try.results35, go_sem, hcs]
  exact ((((((Below.refl _ _).alloc (Nat.le_refl _) _).alloc (by simp) _).alloc (by simp; omega) _).trans (HB.out.mono (by simp; omega))).setCell (by simp) _)

set_option maxRecDepth 100000 in
set_option maxHeartbeats 1000000 in
theorem words_Same_badWord (o : Hy.Ord) (u v : List UInt8) (w : World) (he : Hy.ordErr o.m01 o.m12 o.m02 = 0) (hu : u.length ≤ 9223372036854775807) (hv : v.length ≤ 9223372036854775807) (hw : Hy.wordsErr [u, v] ≠ 0) :
    Calls Try.prog 35 #[ordersV o.m01 o.m12 o.m02, str u, str v] w fun e w' => e = .returned (.tuple #[.bool false, .int .i64 (Hy.wordsErr [u, v])]) ∧ Below w.heap.size w w' := by
  have HCALL := Lib.hid (fun sb W cap hs hsb => words_begun o sb [u, v] W he (by simp) (by simp; exact ⟨hu, hv⟩) cap hs hsb)
  have HE := Lib.hid he; clear he
  have HW := Lib.hid hw; clear hw
  have HU := Lib.hid hu; clear hu
  have HV := Lib.hid hv; clear hv
  unfold ordersV str at *
  go_enter_defers Try.func35, Try.ntmps35
  go_wp2_with fail
  refine (HCALL.out _ _ _ ?_ ?_).mono ?_
  · intro k hk
    simp at hk
    have this' := cell_new ((w.alloc (.cells #[.int .i64 o.m01, .int .i64 o.m12, .int .i64 o.m02] 23)).alloc (.cells #[.int .i64 0] 24)) #[.string ⟨u.toArray⟩, .string ⟨v.toArray⟩] 9 (0, 0) k
    rw [World.size_alloc, World.size_alloc] at this'
    refine this'.trans ?_
    obtain rfl | rfl : k = 0 ∨ k = 1 := by omega
    all_goals rfl
  · simp
  rintro e w1 hb
  unfold BegunPost at hb
  rw [if_neg HW.out] at hb
  obtain ⟨rfl, hB⟩ := hb
  have h1 : w1.heap[w.heap.size + 1]? = some (.cells #[.int .i64 0] 24 (0, 0)) := by
    have := alloc_heap_new (w.alloc (.cells #[.int .i64 o.m01, .int .i64 o.m12, .int .i64 o.m02] 23)) (.cells #[.int .i64 0] 24)
    rw [World.size_alloc] at this
    exact (hB.block (w.heap.size + 1) (by simp)).trans ((heap_alloc_lt _ _ (by simp)).trans this)
  have c1 : w1.cell? ⟨w.heap.size + 1, 0, none⟩ = some (.int .i64 0) := cell_of_heap h1 0
  have f1 : w1.frozen? ⟨w.heap.size + 1, 0, none⟩ = false := free_of_heap h1 0
  have HB := Lib.hid hB; clear hB
  have H1 := Lib.hid h1; clear h1
  go_wp2_with fail
  refine leaves_cons (f := 65) (args := #[.pointer (some ⟨w.heap.size + 1, 0, none⟩)]) (by simp) (by simp [go_sem]) ?_
  refine (words_caught_panic ⟨w.heap.size + 1, 0, none⟩ 0 (Hy.wordsErr [u, v]) _ c1 f1).mono ?_
  rintro e u' w'' ⟨rfl, rfl, rfl⟩
  have hcs : (w1.setCell ⟨w.heap.size + 1, 0, none⟩ (.int .i64 (Hy.wordsErr [u, v]))).cell? ⟨w.heap.size + 1, 0, none⟩ = some (.int .i64 (Hy.wordsErr [u, v])) := World.cell?_setCell_same _ _ _ c1
  simp [Leaves, settle, results, Try.results35, go_sem, hcs]
  exact ((((((Below.refl _ _).alloc (Nat.le_refl _) _).alloc (by simp) _).alloc (by simp; omega) _).trans (HB.out.mono (by simp; omega))).setCell (by simp) _)

/-- A post at the normal end alone. -/
def onlyNormal (Q : Exit → Act → World → Prop) : Exit → Act → World → Prop
  | .normal, a, w => Q .normal a w
  | _, _, _ => False
theorem onlyNormal_imp (Q : Exit → Act → World → Prop) : ∀ e a w, onlyNormal Q e a w → Q e a w := by
  intro e a w h
  cases e <;> first | exact h | exact h.elim

theorem alloc_new2 (w : World) (a b : Obj) : ((w.alloc a).alloc b).heap[w.heap.size + 1]? = some b := by
  have := alloc_heap_new (w.alloc a) b
  rwa [World.size_alloc] at this

/-- The plane of some words stands, with some graph. -/
def PlaneSt (o : Hy.Ord) (N pb : Nat) (W : World) : Prop := ∃ bs G, 0 < G.length ∧ Hy.Inv o G Hy.No ∧ G[0]?.map (·.word) = some [] ∧ GRep W o (fun k => N ≤ k) pb bs G
/-- Blocks that are no tiles stay. -/
def Kept (W w' : World) : Prop := ∀ (b : Nat) (c : Array Value) (T : TypeId) (fr : Nat × Nat), W.heap[b]? = some (.cells c T fr) → T ≠ 150 → w'.heap[b]? = W.heap[b]?

theorem Kept.get {W w' : World} (h : Kept W w') {b : Nat} {c : Array Value} {T : TypeId} {fr : Nat × Nat} (hb : W.heap[b]? = some (.cells c T fr)) (hT : T ≠ 150) : w'.heap[b]? = some (.cells c T fr) := (h b c T fr hb hT).trans hb

theorem PlaneSt.later {o : Hy.Ord} {N pb : Nat} {W w' : World} (h : PlaneSt o N pb W) (hb : Below W.heap.size W w') : PlaneSt o N pb w' := by
  obtain ⟨bs, G, h1, h2, h3, h4⟩ := h
  exact ⟨bs, G, h1, h2, h3, h4.later hb⟩

theorem tile_ne_string : (9 : TypeId) ≠ 150 := by decide
theorem plane_ne_string : (9 : TypeId) ≠ 146 := by decide

/-- The normal word of a word, whatever graph there is. -/
theorem words_normal_st {o : Hy.Ord} (ho : Small o) (F : Hy.Fine o) {N pb : Nat} {W : World} (h : PlaneSt o N pb W) (hN : N ≤ W.heap.size) {sb : Nat} {l : List UInt8} (hs : W.heap[sb]? = some (.cells #[str l] 9 (0, 0))) (hl : Hy.wordErr l = 0) :
    Calls Try.prog 67 #[.agg #[.pointer (some ⟨pb, 0, none⟩)], .slice (some ⟨sb, 0, none⟩) 1 1] W fun e w' => ∃ x, e = .returned (str x) ∧ PlaneSt o N pb w' ∧ Kept W w' ∧ Only (fun k => N ≤ k) W w' := by
  obtain ⟨bs, G, h1, I, h3, hG⟩ := h
  obtain ⟨h5, h6⟩ := Hy.wordErr_letters hl
  have hL : Hy.Lets l := fun c hc => by
    obtain ⟨i, hi, rfl⟩ := List.getElem_of_mem hc
    exact h5 i hi
  have h0 : Hy.wd G 0 = [] := I.root
  obtain ⟨G', y, hr, I', X, hlead, _⟩ := Hy.walk_ok F (lim := 1000) (fuel := 1000) l G 0 I h1 hL (by rw [h0]; simp; omega) (by rw [h0]; simp; omega)
  have hr' := Hy.walk_of_L o 1000 l G 0 (G', y) hr
  have hy : y < G'.length := Hy.leads_lt I' (Nat.lt_of_lt_of_le h1 X.len) hlead
  have hsl : sb < W.heap.size := (Array.getElem?_eq_some_iff.1 hs).1
  have hns : ∀ i, i < G.length → bs i ≠ sb := by
    intro i hi he
    have := hG.node i G[i] (List.getElem?_eq_getElem hi)
    rw [he, hs] at this
    simp only [Option.some.injEq, Obj.cells.injEq] at this
    exact tile_ne_string this.2.1
  refine (words_normal_at ho 1000 (own := fun k => W.heap.size ≤ k ∨ ∃ i, i < G.length ∧ k = bs i) h1 (hG.sub (fun i hi => .inr ⟨i, hi, rfl⟩)) sb [l] 1 (fun k hk => .inl hk) ?_ ?_ ?_ (by simp) G' y G'[y] (by simpa using hr') (List.getElem?_eq_getElem hy)).mono ?_
  · intro k hk
    simp at hk
    subst hk
    rw [cell_of_heap hs]; rfl
  · rintro (h | ⟨i, hi, h⟩)
    · omega
    · exact hns i hi h.symm
  · rw [Hy.wordsErr_one]; exact hl
  · rintro e w' ⟨bs', rfl, hG', hag, hO, hlen⟩
    have hO' : Only (fun k => N ≤ k) W w' := hO.mono (fun k hk => by
      rcases hk with hk | ⟨i, hi, rfl⟩
      · omega
      · exact hG.lo i hi)
    refine ⟨_, rfl, ⟨bs', G', Nat.lt_of_lt_of_le h1 hlen, I', ?_, hG'.sub (fun i hi => ?_)⟩, ?_, hO'⟩
    · have : Hy.wd G' 0 = [] := I'.root
      have h00 : 0 < G'.length := Nat.lt_of_lt_of_le h1 hlen
      unfold Hy.wd at this
      rw [List.getElem?_eq_getElem h00] at this ⊢
      simp only at this
      simp [this]
    · rcases hG'.lo i hi with hk | ⟨j, hj, hk⟩
      · show N ≤ _; omega
      · rw [hk]; exact hG.lo j hj
    · intro b c T fr hb hT
      refine hO.block b ?_
      rintro (hk | ⟨i, hi, rfl⟩)
      · have := (Array.getElem?_eq_some_iff.1 hb).1; omega
      · have := hG.node i G[i] (List.getElem?_eq_getElem hi)
        rw [hb] at this
        simp only [Option.some.injEq, Obj.cells.injEq] at this
        exact hT this.2.1

set_option maxRecDepth 100000 in
set_option maxHeartbeats 1000000 in
theorem words_Same_ok (o : Hy.Ord) (ho : Small o) (u v : List UInt8) (w : World) (he : Hy.ordErr o.m01 o.m12 o.m02 = 0) (hw : Hy.wordsErr [u, v] = 0) (F : Hy.Fine o) :
    Calls Try.prog 35 #[ordersV o.m01 o.m12 o.m02, str u, str v] w fun e w' => ∃ b, e = .returned (.tuple #[.bool b, .int .i64 0]) ∧ Below w.heap.size w w' := by
  have hu : u.length ≤ 60 := (Hy.wordErr_letters (Hy.wordsErr_zero hw u (by simp))).2
  have hv : v.length ≤ 60 := (Hy.wordErr_letters (Hy.wordsErr_zero hw v (by simp))).2
  have HCALL := Lib.hid (fun sb W cap hs hsb => words_begun o sb [u, v] W he (by simp) (by simp; omega) cap hs hsb)
  have hwe := hw
  have HWE := Lib.hid hwe; clear hwe
  have HE := Lib.hid he; clear he
  have HW := Lib.hid hw; clear hw
  have HU := Lib.hid hu; clear hu
  have HV := Lib.hid hv; clear hv
  have HO := Lib.hid ho; clear ho
  have HFI := Lib.hid F; clear F
  unfold ordersV str at *
  go_enter_defers Try.func35, Try.ntmps35
  go_wp2_with fail
  refine (HCALL.out _ _ _ ?_ ?_).mono ?_
  · intro k hk
    simp at hk
    have this' := cell_new ((w.alloc (.cells #[.int .i64 o.m01, .int .i64 o.m12, .int .i64 o.m02] 23)).alloc (.cells #[.int .i64 0] 24)) #[.string ⟨u.toArray⟩, .string ⟨v.toArray⟩] 9 (0, 0) k
    rw [World.size_alloc, World.size_alloc] at this'
    refine this'.trans ?_
    obtain rfl | rfl : k = 0 ∨ k = 1 := by omega
    all_goals rfl
  · simp
  rintro e w1 hb
  unfold BegunPost at hb
  rw [HWE.out, if_pos rfl] at hb
  obtain ⟨pb, bs, rfl, hG, hpb, hB⟩ := hb
  have h1 : w1.heap[w.heap.size + 1]? = some (.cells #[.int .i64 0] 24 (0, 0)) := by
    have := alloc_heap_new (w.alloc (.cells #[.int .i64 o.m01, .int .i64 o.m12, .int .i64 o.m02] 23)) (.cells #[.int .i64 0] 24)
    rw [World.size_alloc] at this
    exact (hB.block (w.heap.size + 1) (by simp)).trans ((heap_alloc_lt _ _ (by simp)).trans this)
  have HB := Lib.hid hB; clear hB
  have H1 := Lib.hid h1; clear h1
  have HG := Lib.hid hG; clear hG
  have HPB := Lib.hid hpb; clear hpb
  go_upto_region 3 with fail
  obtain ⟨W2, hW2⟩ : ∃ W2, w1.alloc (.cells #[.pointer (some ⟨pb, 0, none⟩)] 121) = W2 := ⟨_, rfl⟩
  have hb2 : Below w1.heap.size w1 W2 := by rw [← hW2]; exact (Below.refl _ _).alloc (Nat.le_refl _) _
  have q2 : W2.heap[w1.heap.size]? = some (.cells #[.pointer (some ⟨pb, 0, none⟩)] 121 (0, 0)) := by rw [← hW2]; exact alloc_heap_new w1 _
  have hz : w.heap.size + 3 ≤ w1.heap.size := by have := HB.out.size; simp at this; omega
  have hst : PlaneSt o (w.heap.size + 3) pb W2 := by
    refine ⟨bs, Hy.start, by simp [Hy.start], Hy.inv_start o, rfl, (HG.out.later hb2).sub (fun i hi => ?_)⟩
    have := HG.out.lo i hi
    simp at this
    omega
  have HST := Lib.hid hst
  have HQ2 := Lib.hid q2
  have HB2 := Lib.hid hb2
  have d0 := cell_of_heap q2 0
  simp at d0
  have HN := Lib.hid (fun (W : World) (sb : Nat) (l : List UInt8) (h : PlaneSt o (w.heap.size + 3) pb W) (hN : w.heap.size + 3 ≤ W.heap.size) (hs : W.heap[sb]? = some (.cells #[str l] 9 (0, 0))) (hl : Hy.wordErr l = 0) => words_normal_st HO.out HFI.out h hN hs hl)
  rw [hW2]
  clear hW2 hb2 q2 hst
  have HUE := Lib.hid (Hy.wordsErr_zero HWE.out u (by simp))
  have HVE := Lib.hid (Hy.wordsErr_zero HWE.out v (by simp))
  have HE2 := Lib.hid ((HB2.out.block (w.heap.size + 1) (by omega)).trans H1.out)
  have HZ := Lib.hid (show w.heap.size + 3 ≤ w1.heap.size ∧ w1.heap.size ≤ W2.heap.size from ⟨hz, HB2.out.size⟩)
  clear hz
  have HLATE := Lib.hid (fun (W : World) (ob : Obj) => (((Below.refl _ W).alloc (Nat.le_refl _) ob).drew : Below W.heap.size W (W.alloc ob).drew))
  have hlt2 : w1.heap.size < W2.heap.size := (Array.getElem?_eq_some_iff.1 HQ2.out).1
  have da := fun ob => (World.cell?_alloc_lt W2 ob ⟨w1.heap.size, 0, none⟩ hlt2).trans d0
  have daa := fun ob ob' => (World.cell?_alloc_lt (W2.alloc ob) ob' ⟨w1.heap.size, 0, none⟩ (by simp; omega)).trans (da ob)
  unfold str at HN
  refine Code.wp_mono (onlyNormal_imp _) ?_
  go_region_held3 (fun w' => w'.cell? ⟨w1.heap.size, 0, none⟩ = some (.pointer (some ⟨pb, 0, none⟩))) (first | go_keep | (with_reducible exact d5) | (with_reducible exact d4) | exact d4a _ | exact da _ | exact daa _ _ | exact (World.cell?_setCell_other _ _ _ _ (by have := HZ.out; simp; try omega)).trans d5) ((go_at_call 67; first
    | (refine (HN.out _ _ u ?_ ?_ ?_ HUE.out).mono ?_; (first | exact HST.out.later (((Below.refl _ _).alloc (Nat.le_refl _) _).drew) | exact HST.out.later ((((Below.refl _ _).alloc (Nat.le_refl _) _).alloc (by simp) _).drew)); (have := HZ.out; simp [World.drew]; omega); (first | exact alloc_heap_new _ _ | exact alloc_new2 _ _ _ | exact (heap_alloc_lt _ _ (by simp)).trans (alloc_heap_new _ _)); rintro e w4 ⟨x1, rfl, hP4, hK4, hO4⟩; have q4 := hK4.get (by first | exact (heap_alloc_lt _ _ (Array.getElem?_eq_some_iff.1 HQ2.out).1).trans HQ2.out | exact (heap_alloc_lt _ _ (Nat.lt_of_lt_of_le (Array.getElem?_eq_some_iff.1 HQ2.out).1 (by simp))).trans ((heap_alloc_lt _ _ (Array.getElem?_eq_some_iff.1 HQ2.out).1).trans HQ2.out)) (by decide); have d4 := cell_of_heap q4 0; simp at d4; have d4a := fun ob => (World.cell?_alloc_lt w4 ob ⟨w1.heap.size, 0, none⟩ (Array.getElem?_eq_some_iff.1 q4).1).trans d4; have HQ4 := Lib.hid q4; clear q4; have HE4 := Lib.hid ((hO4.block (w.heap.size + 1) (by omega)).trans (by first | exact (heap_alloc_lt _ _ (by have := HZ.out; omega)).trans HE2.out | exact (heap_alloc_lt _ _ (by have := HZ.out; simp; omega)).trans ((heap_alloc_lt _ _ (by have := HZ.out; omega)).trans HE2.out))); have HS4 := Lib.hid (show w.heap.size + 3 ≤ w4.heap.size from by have := hO4.size; have := HZ.out; simp [World.drew] at *; omega); have HW4 := Lib.hid (show Below w.heap.size W2 w4 from by first | exact (((Below.refl _ _).alloc (by have := HZ.out; omega) _).drew).trans (hO4.below (fun k hk => by omega)) | exact ((((Below.refl _ _).alloc (by have := HZ.out; omega) _).alloc (by have := HZ.out; simp; omega) _).drew).trans (hO4.below (fun k hk => by omega))); have HP4 := Lib.hid hP4; have HK4 := Lib.hid hK4; have HO4 := Lib.hid hO4; clear hP4 hK4 hO4)
    | (refine (HN.out _ _ v ?_ ?_ ?_ HVE.out).mono ?_; (first | exact HP4.out | exact HP4.out.later ((Below.refl _ _).alloc (Nat.le_refl _) _)); (have := HS4.out; (try simp); omega); (first | exact alloc_heap_new _ _ | exact HK4.out.get (alloc_heap_new _ _) (by decide) | exact HK4.out.get (alloc_new2 _ _ _) (by decide) | exact HK4.out.get ((heap_alloc_lt _ _ (by simp)).trans (alloc_heap_new _ _)) (by decide)); rintro e w5 ⟨x2, rfl, hP5, hK5, hO5⟩; have q5 := (hO5.block (w.heap.size + 1) (by omega)).trans (by first | exact HE4.out | exact (heap_alloc_lt _ _ (by have := HS4.out; omega)).trans HE4.out); have d5 : w5.cell? ⟨w1.heap.size, 0, none⟩ = some (.pointer (some ⟨pb, 0, none⟩)) := cell_of_heap (hK5.get (by first | exact HQ4.out | exact (heap_alloc_lt _ _ (Array.getElem?_eq_some_iff.1 HQ4.out).1).trans HQ4.out) (by decide)) 0; have c5 := cell_of_heap q5 0; have f5 := free_of_heap q5 0; simp at c5; have HW5 := Lib.hid (show Below w.heap.size W2 w5 from by first | exact HW4.out.trans (hO5.below (fun k hk => by omega)) | exact (HW4.out.alloc (by have := HS4.out; omega) _).trans (hO5.below (fun k hk => by omega))); clear q5 hP5 hK5 hO5)))
  all_goals simp only [onlyNormal]
  all_goals go_wp2_with fail
  all_goals
    refine leaves_cons (f := 65) (args := #[.pointer (some ⟨w.heap.size + 1, 0, none⟩)]) (by simp) (by simp [go_sem]) ?_
    refine (words_caught_idle ⟨w.heap.size + 1, 0, none⟩ _).mono ?_
    rintro e u' w'' ⟨rfl, rfl, rfl⟩
    have hcs : (w5.setCell ⟨w.heap.size + 1, 0, none⟩ (.int .i64 0)).cell? ⟨w.heap.size + 1, 0, none⟩ = some (.int .i64 0) := World.cell?_setCell_same _ _ _ c5
    simp [Leaves, settle, results, Try.results35, go_sem, hcs]
    have hb : Below w.heap.size w w1 := (((((Below.refl _ _).alloc (Nat.le_refl _) _).alloc (by simp) _).alloc (by simp; omega) _).trans (HB.out.mono (by simp; omega)))
    exact ⟨(Classical.em _).symm, ((hb.trans (HB2.out.mono (by have := HZ.out; omega))).trans HW5.out).setCell (p := ⟨w.heap.size + 1, 0, none⟩) (Nat.le_succ _) _⟩


/-- words.Same. -/
theorem words_Same (a b c : Int) (u v : List UInt8) (w : World) (hu : u.length ≤ 9223372036854775807) (hv : v.length ≤ 9223372036854775807) :
    Calls Try.prog 35 #[ordersV a b c, str u, str v] w fun e w' => ∃ x, e = .returned (.tuple #[.bool x, .int .i64 (Hy.allErr a b c [u, v])]) ∧ Below w.heap.size w w' := by
  by_cases h1 : Hy.ordErr a b c = 0
  · have h0 := Hy.ordErr_zero h1
    have F := Hy.fine_of h1
    rw [Hy.allErr_ok h1] at *
    obtain ⟨o, hoo⟩ : ∃ o, o = Hy.toOrd a b c := ⟨_, rfl⟩
    have ea : (o.m01 : Int) = a := by rw [hoo]; show ((a.toNat : Nat) : Int) = a; omega
    have eb : (o.m12 : Int) = b := by rw [hoo]; show ((b.toNat : Nat) : Int) = b; omega
    have ec : (o.m02 : Int) = c := by rw [hoo]; show ((c.toNat : Nat) : Int) = c; omega
    rw [← hoo] at F
    clear hoo
    subst ea eb ec
    by_cases h2 : Hy.wordsErr [u, v] = 0
    · rw [h2]
      exact words_Same_ok o ⟨by omega, by omega, by omega⟩ u v w h1 h2 F
    · exact (words_Same_badWord o u v w h1 hu hv h2).mono fun e w' h => ⟨false, h.1, h.2⟩
  · rw [Hy.allErr_bad h1]
    exact (words_Same_badOrd a b c u v w h1).mono fun e w' h => ⟨false, h.1, h.2⟩

end Go.Proofs.Ytdckpjagmbdkgaa

/- tiles.Far: how many mirrors lie between two tiles. -/
namespace Go.Proofs.Ytdckpjagmbdkgaa
set_option linter.unusedSimpArgs false
set_option linter.unusedVariables false
open Go.RowKit
open Hy (Lets IsNF Eqv Le)

theorem lets_of_err {l : List UInt8} (h : Hy.wordErr l = 0) : Lets l := fun c hc => by
  obtain ⟨i, hi, rfl⟩ := List.getElem_of_mem hc
  exact (Hy.wordErr_letters h).1 i hi
theorem wordErr_lets {l : List UInt8} (hl : Lets l) (h : l.length ≤ 60) : Hy.wordErr l = 0 := by
  refine Hy.wordErr_ok ?_ h
  rw [List.any_eq_false]
  intro c hc
  have := hl c hc
  simp only [decide_eq_true_eq, UInt8.lt_iff_toNat_lt]
  show ¬ 2 < _
  omega
theorem lets_rev {l : List UInt8} (h : Lets l) : Lets l.reverse := fun c hc => h c (List.mem_reverse.1 hc)

/-- The error of orders and two words: the parts. -/
theorem allErr_two {a b c : Int} {u v : List UInt8} (h : Hy.allErr a b c [u, v] = 0) : Hy.ordErr a b c = 0 ∧ Hy.wordErr u = 0 ∧ Hy.wordErr v = 0 := by
  unfold Hy.allErr at h
  split at h
  · rename_i h1; exact absurd h h1
  · rename_i h1
    rw [Hy.wordsErr_two] at h
    split at h
    · rename_i h2; exact absurd h h2
    · rename_i h2; exact ⟨by simpa using h1, by simpa using h2, h⟩
theorem allErr_mk {a b c : Int} {u v : List UInt8} (h1 : Hy.ordErr a b c = 0) (h2 : Hy.wordErr u = 0) (h3 : Hy.wordErr v = 0) : Hy.allErr a b c [u, v] = 0 := by
  rw [Hy.allErr_ok h1, Hy.wordsErr_two, h2, h3]; rfl
theorem allErr_mk1 {a b c : Int} {u : List UInt8} (h1 : Hy.ordErr a b c = 0) (h2 : Hy.wordErr u = 0) : Hy.allErr a b c [u] = 0 := by
  rw [Hy.allErr_ok h1, Hy.wordsErr_one, h2]

/-- The distance. -/
def farOf (a b c : Int) (u v : List UInt8) : Nat := if Hy.allErr a b c [u, v] = 0 then ((Hy.norm (Hy.toOrd a b c) 1000 (u.reverse ++ v)).getD []).length else 0

theorem farOf_nf {a b c : Int} {u v want : List UInt8} (h : Hy.allErr a b c [u, v] = 0) (hw : IsNF (Hy.toOrd a b c) (u.reverse ++ v) want) : farOf a b c u v = want.length := by
  obtain ⟨h1, h2, h3⟩ := allErr_two h
  have F := Hy.fine_of h1
  have l2 := (Hy.wordErr_letters h2).2
  have l3 := (Hy.wordErr_letters h3).2
  obtain ⟨n, e1, e2⟩ := Hy.norm_ok F (fuel := 1000) (w := u.reverse ++ v) (Hy.Lets.app.2 ⟨lets_rev (lets_of_err h2), lets_of_err h3⟩) (by simp; omega) (by simp; omega)
  unfold farOf
  rw [if_pos h, e1, hw.uniq e2]; rfl

set_option maxRecDepth 100000 in
set_option maxHeartbeats 1000000 in
theorem t04_Far (a b c : Int) (u v : List UInt8) (w : World) (hu : u.length ≤ 9223372036854775807) (hv : v.length ≤ 9223372036854775807) :
    Calls Try.prog 15 #[ordersV a b c, str u, str v] w fun e w' => e = .returned (.tuple #[.int .i64 (farOf a b c u v), .int .i64 (Hy.allErr a b c [u, v])]) ∧ Below w.heap.size w w' := by
  have HSAME := Lib.hid (fun W => words_Same a b c u v W hu hv)
  have hb0 : Below w.heap.size w (w.alloc (.cells #[.int .i64 a, .int .i64 b, .int .i64 c] 23)) := (Below.refl _ _).alloc (Nat.le_refl _) _
  have q0 := alloc_heap_new w (.cells #[.int .i64 a, .int .i64 b, .int .i64 c] 23)
  by_cases he : Hy.allErr a b c [u, v] = 0
  · obtain ⟨h1, h2, h3⟩ := allErr_two he
    have F := Hy.fine_of h1
    have l2 := (Hy.wordErr_letters h2).2
    have l3 := (Hy.wordErr_letters h3).2
    obtain ⟨n, e1, e2⟩ := Hy.norm_ok F (fuel := 1000) (w := u.reverse) (lets_rev (lets_of_err h2)) (by simp; omega) (by simp; omega)
    have hnl : n.length ≤ 60 := by have := e2.len; simp at this; omega
    have hnL : Lets n := (Hy.same_tile F e2.eqv).1.2 (lets_rev (lets_of_err h2))
    have hnE := wordErr_lets hnL hnl
    obtain ⟨m, e3, e4⟩ := Hy.norm_ok F (fuel := 1000) (w := n ++ v) (Hy.Lets.app.2 ⟨hnL, lets_of_err h3⟩) (by simp; omega) (by simp; omega)
    have hfar : farOf a b c u v = m.length := farOf_nf he (e4.congr (e2.eqv.right v))
    have HINV := Lib.hid (fun W => words_Inverse a b c u W hu 1000 n (fun _ => e1))
    rw [if_pos (allErr_mk1 h1 h2), allErr_mk1 h1 h2] at HINV
    have HTIM := Lib.hid (fun W => words_Times a b c n v W (by omega) hv 1000 m (fun _ => e3))
    rw [if_pos (allErr_mk h1 hnE h3), allErr_mk h1 hnE h3] at HTIM
    rw [hfar, he]
    rw [he] at HSAME
    have HB0 := Lib.hid hb0
    have HQ0 := Lib.hid q0
    have hml : m.length ≤ 9223372036854775807 := by have := e4.len; simp at this; omega
    unfold ordersV str at *
    clear he h1 h2 h3 F l2 l3 e1 e2 hnl hnL hnE e3 e4 hfar q0 hu hv
    go_enter Try.func15, Try.ntmps15
    go_upto_region 1 with fail
    generalize w.alloc (.cells #[.int .i64 a, .int .i64 b, .int .i64 c] 23) = W0 at *
    have k0 := cell_of_heap HQ0.out 0
    have k1 := cell_of_heap HQ0.out 1
    have k2 := cell_of_heap HQ0.out 2
    simp at k0 k1 k2
    clear hb0
    have hl0 : w.heap.size < W0.heap.size := (Array.getElem?_eq_some_iff.1 HQ0.out).1
    go_wp2_with fail
    refine (HSAME.out _).mono ?_
    rintro e w1 ⟨x, rfl, hB1⟩
    have HQ1 := Lib.hid ((hB1.block w.heap.size hl0).trans HQ0.out)
    have HB1 := Lib.hid (HB0.out.trans (hB1.mono HB0.out.size))
    have i0 := cell_of_heap HQ1.out 0
    have i1 := cell_of_heap HQ1.out 1
    have i2 := cell_of_heap HQ1.out 2
    simp at i0 i1 i2
    have hl1 : w.heap.size < w1.heap.size := (Array.getElem?_eq_some_iff.1 HQ1.out).1
    clear k0 k1 k2 hB1 hl0
    go_wp2_with fail
    refine (HINV.out _).mono ?_
    rintro e w2 ⟨rfl, hB2⟩
    have HQ2 := Lib.hid ((hB2.block w.heap.size hl1).trans HQ1.out)
    have HB2 := Lib.hid (HB1.out.trans (hB2.mono HB1.out.size))
    have j0 := cell_of_heap HQ2.out 0
    have j1 := cell_of_heap HQ2.out 1
    have j2 := cell_of_heap HQ2.out 2
    simp at j0 j1 j2
    clear i0 i1 i2 hB2 hl1
    go_wp2_with fail
    refine (HTIM.out _).mono ?_
    rintro e w3 ⟨rfl, hB3⟩
    have HB3 := Lib.hid (HB2.out.trans (hB3.mono HB2.out.size))
    clear hB3 j0 j1 j2
    go_wp2_with fail
    go_ret2
    exact ⟨rfl, HB3.out⟩
  · have hfar : farOf a b c u v = 0 := by unfold farOf; rw [if_neg he]
    rw [hfar]
    have g1 : (Hy.allErr a b c [u, v] != 0) = true := by rw [bne_iff_ne]; exact he
    have HB0 := Lib.hid hb0
    have HQ0 := Lib.hid q0
    generalize Hy.allErr a b c [u, v] = er at *
    unfold ordersV str at *
    clear he hfar q0 hu hv
    go_enter Try.func15, Try.ntmps15
    go_upto_region 1 with fail
    generalize w.alloc (.cells #[.int .i64 a, .int .i64 b, .int .i64 c] 23) = W0 at *
    have k0 := cell_of_heap HQ0.out 0
    have k1 := cell_of_heap HQ0.out 1
    have k2 := cell_of_heap HQ0.out 2
    simp at k0 k1 k2
    clear hb0
    go_wp2_with fail
    refine (HSAME.out _).mono ?_
    rintro e w1 ⟨x, rfl, hB1⟩
    have HB1 := Lib.hid (HB0.out.trans (hB1.mono HB0.out.size))
    clear k0 k1 k2 hB1
    go_wp2_with fail
    go_ret2
    exact ⟨rfl, HB1.out⟩
end Go.Proofs.Ytdckpjagmbdkgaa
