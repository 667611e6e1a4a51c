import Derived.Test.YtdckpjagmbdkgaaOrd

/- The functions of package words: what they return, and that nothing that was there before changes. -/
namespace Go.Proofs.Ytdckpjagmbdkgaa
set_option linter.unusedSimpArgs false
set_option linter.unusedVariables false
open Go.RowKit

def panicV (e : Int) : Value := .iface 140 (.int .i64 e)

theorem run_assert_refused (e : Int) (w : World) : Sem.run Try.prog (Instr.typeAssert (.iface 140 (.int .i64 e)) 20 140 true) w = .ok (.tuple #[.int .i64 e, .bool true]) w := by
  kernel_rfl
theorem run_assert_nil (w : World) : Sem.run Try.prog (Instr.typeAssert .nilIface 20 140 true) w = .ok (.tuple #[.int .i64 0, .bool false]) w := by
  kernel_rfl

set_option maxRecDepth 100000 in
theorem words_caught_panic (p : Addr) (x e : Int) (w : World) (hc : w.cell? p = some (.int .i64 x)) (hz : w.frozen? p = false) :
    CallsD Try.prog 65 #[.pointer (some p)] (.panicking [{ v := panicV e, recovered := false }]) w fun en u' w' =>
      en = .returned (.tuple #[]) ∧ u' = .panicking [{ v := panicV e, recovered := true }] ∧ w' = w.setCell p (.int .i64 e) := by
  unfold panicV
  refine callsD_of_wpS Try.func65 rfl fun c₀ cs hu => ?_
  apply wpS_seq
  apply wpS_region
  simp [wpOpsS, go_sem, recoverD, hu, Try.ntmps65, Exit.thenS, run_assert_refused]
  apply wpS_seq
  apply wpS_region
  simp [wpOpsS, go_sem, Exit.thenS]
  refine wpS_cond (t := true) (by simp [Act.eval]) ?_
  simp only [if_true]
  apply wpS_region
  simp [wpOpsS, go_sem, hc, hz, bodyPostS, results, Try.results65]
  done

set_option maxRecDepth 100000 in
theorem words_caught_idle (p : Addr) (w : World) :
    CallsD Try.prog 65 #[.pointer (some p)] .returning w fun en u' w' =>
      en = .returned (.tuple #[]) ∧ u' = .returning ∧ w' = w := by
  refine callsD_of_wpS Try.func65 rfl fun c₀ cs hu => ?_
  apply wpS_seq
  apply wpS_region
  simp [wpOpsS, go_sem, recoverD, hu, Try.ntmps65, Exit.thenS, run_assert_nil]
  apply wpS_seq
  apply wpS_region
  simp [wpOpsS, go_sem, Exit.thenS]
  refine wpS_cond (t := false) (by simp [Act.eval]) ?_
  simp only [Bool.false_eq_true, if_false]
  refine wpS_of_wp (wp_skip ?_)
  cases c₀
  simp_all [bodyPostS, results, Try.results65]

theorem GRep.setOther {w : World} {o : Hy.Ord} {B : Nat → Prop} {pb : Nat} {bs : Nat → Nat} {G : List Hy.Node} (h : GRep w o B pb bs G) {a : Addr} (h1 : pb ≠ a.block) (h2 : ∀ i, i < G.length → bs i ≠ a.block) (v : Value) : GRep (w.setCell a v) o B pb bs G := by
  refine ⟨?_, ?_, h.inj, h.ne, h.lo, h.closed⟩
  · rw [heap_setCell_other _ _ _ _ h1]; exact h.plane
  · intro i n hi
    rw [heap_setCell_other _ _ _ _ (h2 i (List.getElem?_eq_some_iff.1 hi).1)]; exact h.node i n hi

theorem below_cell {w w1 : World} {N : Nat} (h : Below N w w1) {b : Nat} (hb : b < N) (k : Nat) : w1.cell? ⟨b, k, none⟩ = w.cell? ⟨b, k, none⟩ := h.cell (p := ⟨b, k, none⟩) hb

set_option maxRecDepth 100000 in
set_option maxHeartbeats 1000000 in
theorem words_begun_badOrd (a b c : Int) (v : Value) (w : World) (he : Hy.ordErr a b c ≠ 0) :
    Calls Try.prog 66 #[ordersV a b c, v] w fun e w' => e = .panicked [{ v := panicV (Hy.ordErr a b c), recovered := false }] ∧ Below w.heap.size w w' := by
  have hne : (Hy.ordErr a b c != 0) = true := by rw [bne_iff_ne]; exact he
  clear he
  have hcall := fun W => grow_Check a b c W
  have HCALL := Lib.hid hcall; clear hcall
  unfold panicV
  generalize Hy.ordErr a b c = er at *
  unfold ordersV at *
  go_enter Try.func66, Try.ntmps66
  go_wp2_with fail
  refine (HCALL.out _).mono ?_
  rintro e w1 ⟨rfl, hB⟩
  have HB := Lib.hid hB; clear hB
  go_wp2_with fail
  exact ⟨rfl, rfl, ((((Below.refl _ _).alloc (Nat.le_refl _) _).alloc (by simp) _).trans (HB.out.mono (by simp; omega)))⟩

def BegunPost (o : Hy.Ord) (w : World) (er : Int) (e : Ending) (w' : World) : Prop :=
  if er = 0 then ∃ (pb : Nat) (bs : Nat → Nat), e = .returned (.agg #[.pointer (some ⟨pb, 0, none⟩)]) ∧ GRep w' o (fun k => w.heap.size ≤ k) pb bs Hy.start ∧ w.heap.size ≤ pb ∧ Below w.heap.size w w'
  else e = .panicked [{ v := panicV er, recovered := false }] ∧ Below w.heap.size w w'

set_option maxRecDepth 100000 in
set_option maxHeartbeats 1000000 in
theorem words_begun (o : Hy.Ord) (sb : Nat) (ws : List (List UInt8)) (w : World) (he : Hy.ordErr o.m01 o.m12 o.m02 = 0) (hn : ws.length ≤ 1000) (hw : ∀ l ∈ ws, l.length ≤ 9223372036854775807) (cap : Nat)
    (hs : ∀ (k : Nat) (hk : k < ws.length), w.cell? ⟨sb, k, none⟩ = some (str ws[k])) (hsb : sb < w.heap.size) :
    Calls Try.prog 66 #[ordersV o.m01 o.m12 o.m02, .slice (some ⟨sb, 0, none⟩) ws.length cap] w (BegunPost o w (Hy.wordsErr ws)) := by
  have hcall := fun W => grow_Check o.m01 o.m12 o.m02 W
  rw [he] at hcall
  have HCALL := Lib.hid hcall; clear hcall
  have HNEW := Lib.hid (fun W => grow_New o W)
  have HS := Lib.hid hs; clear hs
  have HW := Lib.hid hw; clear hw
  clear he
  unfold ordersV at *
  go_enter Try.func66, Try.ntmps66
  go_wp2_with fail
  refine (HCALL.out _).mono ?_
  rintro e w1 ⟨rfl, hB⟩
  have hB1 : Below w.heap.size w w1 := (((Below.refl _ _).alloc (Nat.le_refl _) _).alloc (by simp) _).trans (hB.mono (by simp; omega))
  have ho1 : w1.heap[w.heap.size]? = some (.cells #[.int .i64 o.m01, .int .i64 o.m12, .int .i64 o.m02] 23 (0, 0)) :=
    (hB.block w.heap.size (by simp; omega)).trans ((heap_alloc_lt _ _ (by simp)).trans (alloc_heap_new w _))
  have hr1 : w1.heap[w.heap.size + 1]? = some (.cells #[.pointer none] 121 (0, 0)) := by
    have := alloc_heap_new (w.alloc (.cells #[.int .i64 o.m01, .int .i64 o.m12, .int .i64 o.m02] 23)) (.cells #[.pointer none] 121)
    rw [World.size_alloc] at this
    exact (hB.block (w.heap.size + 1) (by simp)).trans this
  have HO1 := Lib.hid ho1; clear ho1
  have HR1 := Lib.hid hr1; clear hr1
  have HB := Lib.hid hB; clear hB
  have HB1 := Lib.hid hB1; clear hB1
  go_wp2_with fail
  go_loopw [17] (fun i wr => ∃ k : Nat, k ≤ ws.length ∧ i = .int .i64 k ∧ Hid (Hy.wordsErr (ws.drop k) = Hy.wordsErr ws) ∧ Hid (Below w1.heap.size w1 wr)) (fun i _ => ws.length - (intOf i).toNat)
  case atStart => exact ⟨0, Nat.zero_le _, rfl, rfl, Below.refl _ _⟩
  case round =>
    obtain ⟨k, hk, rfl, HE, HBr⟩ := hrel
    by_cases hlt : k < ws.length
    · have hcell : wr.cell? ⟨sb, k, none⟩ = some (str ws[k]) :=
        (below_cell HBr.out (by have := HB1.out.size; omega) k).trans ((below_cell HB1.out hsb k).trans (HS.out k hlt))
      have hl := HW.out ws[k] (List.getElem_mem hlt)
      have hE := HE.out
      rw [Hy.wordsErr_drop hlt] at hE
      have hcw := grow_Word ws[k] wr hl
      have HCW := Lib.hid hcw; clear hcw
      have HE' := Lib.hid hE; clear hE
      clear hl
      go_wp2_with fail
      refine HCW.out.mono ?_
      rintro e w2 ⟨rfl, hB2⟩
      have HB2 := Lib.hid hB2; clear hB2
      clear HCW
      by_cases hz : Hy.wordErr ws[k] = 0
      · have hE := HE'.out
        rw [if_neg (by simpa using hz)] at hE
        have HE2 := Lib.hid hE; clear hE
        rw [hz]
        clear hz
        go_wp2_with fail
        go_roundw
        case rel => exact ⟨k + 1, by omega, by go_num, HE2.out, HBr.out.trans (HB2.out.mono HBr.out.size)⟩
        case measure => simp [intOf]; omega
      · have hE := HE'.out
        rw [if_pos hz] at hE
        have hne : (Hy.wordErr ws[k] != 0) = true := by rw [bne_iff_ne]; exact hz
        have HE2 := Lib.hid hE; clear hE
        have HZ := Lib.hid hz; clear hz
        generalize Hy.wordErr ws[k] = er at *
        go_wp2_with fail
        refine ⟨rfl, ?_⟩
        unfold BegunPost
        rw [← HE2.out, if_neg HZ.out]
        exact ⟨rfl, HB1.out.trans ((HBr.out.trans (HB2.out.mono HBr.out.size)).mono HB1.out.size)⟩
    · obtain rfl : k = ws.length := by omega
      have hE := HE.out
      rw [List.drop_length] at hE
      have HE2 := Lib.hid hE; clear hE
      clear hk hlt
      have hor : wr.heap[w.heap.size]? = some (.cells #[.int .i64 o.m01, .int .i64 o.m12, .int .i64 o.m02] 23 (0, 0)) :=
        (HBr.out.block _ ((Array.getElem?_eq_some_iff.1 HO1.out).1)).trans HO1.out
      have c0 : wr.cell? ⟨w.heap.size, 0, none⟩ = some (.int .i64 o.m01) := cell_of_heap hor 0
      have c1 : wr.cell? ⟨w.heap.size, 1, none⟩ = some (.int .i64 o.m12) := cell_of_heap hor 1
      have c2 : wr.cell? ⟨w.heap.size, 2, none⟩ = some (.int .i64 o.m02) := cell_of_heap hor 2
      have HOR := Lib.hid hor; clear hor
      go_wp2_with fail
      refine (HNEW.out wr).mono ?_
      rintro e w3 ⟨pb, bs, rfl, hG, hpb, hB3⟩
      have hr3 := (hB3.block (w.heap.size + 1) (Nat.lt_of_lt_of_le (Array.getElem?_eq_some_iff.1 HR1.out).1 HBr.out.size)).trans ((HBr.out.block (w.heap.size + 1) (Array.getElem?_eq_some_iff.1 HR1.out).1).trans HR1.out)
      have c3 : w3.cell? ⟨w.heap.size + 1, 0, none⟩ = some (.pointer none) := cell_of_heap hr3 0
      have f3 : w3.frozen? ⟨w.heap.size + 1, 0, none⟩ = false := free_of_heap hr3 0
      have HG := Lib.hid hG; clear hG
      have HB3 := Lib.hid hB3; clear hB3
      have HPB := Lib.hid hpb; clear hpb
      clear hr3 c0 c1 c2
      go_wp2_with fail
      have hsz : w.heap.size + 1 < wr.heap.size := Nat.lt_of_lt_of_le (Array.getElem?_eq_some_iff.1 HR1.out).1 HBr.out.size
      have h0 : Hy.wordsErr ws = 0 := HE2.out.symm
      refine bodyPost_ret (v := .agg #[.pointer (some ⟨pb, 0, none⟩)]) ?_ rfl ?_
      · have hcs : (w3.setCell ⟨w.heap.size + 1, 0, none⟩ (.pointer (some ⟨pb, 0, none⟩))).cell? ⟨w.heap.size + 1, 0, none⟩ = some (.pointer (some ⟨pb, 0, none⟩)) := World.cell?_setCell_same _ _ _ c3
        simp [results, Try.results66, go_sem, hcs]
      · unfold BegunPost
        rw [if_pos h0]
        refine ⟨pb, bs, rfl, ?_, ?_, ?_⟩
        · refine (HG.out.setOther ?_ ?_ _).sub ?_
          · have := HPB.out; simp; omega
          · intro i hi
            have : wr.heap.size ≤ bs i := HG.out.lo i hi
            simp; omega
          · intro i hi
            exact Nat.le_trans (by omega) (HG.out.lo i hi)
        · have := HPB.out; have := HB1.out.size; have := HBr.out.size; omega
        · have h1 : Below w.heap.size w w3 := HB1.out.trans ((HBr.out.trans (HB3.out.mono HBr.out.size)).mono HB1.out.size)
          exact h1.setCell (by simp) _

def NormalPost (l : List UInt8) (w : World) (e : Ending) (w' : World) : Prop := e = .returned (str l) ∧ Below w.heap.size w w'

set_option maxRecDepth 100000 in
set_option maxHeartbeats 1000000 in
theorem words_normal {o : Hy.Ord} (ho : Small o) (fuel : Nat) {w : World} {own : Nat → Prop} {pb : Nat} {bs : Nat → Nat} (h : GRep w o own pb bs Hy.start) (sb : Nat) (ws : List (List UInt8)) (cap : Nat) (hF : Free own w)
    (hs : ∀ (k : Nat) (hk : k < ws.length), w.cell? ⟨sb, k, none⟩ = some (str ws[k])) (hsb : ¬ own sb) (hw : Hy.wordsErr ws = 0) (hn : ws.length ≤ 1000) (N : Nat) (hN : ∀ k, own k → N ≤ k)
    (G' : List Hy.Node) (y : Nat) (n : Hy.Node) (hr : Hy.walk o fuel Hy.start 0 ws.flatten = some (G', y)) (hy : G'[y]? = some n) :
    Calls Try.prog 67 #[.agg #[.pointer (some ⟨pb, 0, none⟩)], .slice (some ⟨sb, 0, none⟩) ws.length cap] w fun e w' => e = .returned (str n.word) ∧ Below N w w' := by
  go_enter Try.func67, Try.ntmps67
  have hp : w.cell? ⟨pb, 9, none⟩ = some (.pointer (some ⟨bs 0, 0, none⟩)) := cell_of_heap h.plane 9
  have hps : pb < w.heap.size := (Array.getElem?_eq_some_iff.1 h.plane).1
  have hpa : ∀ ob, (w.alloc ob).cell? ⟨pb, 9, none⟩ = some (.pointer (some ⟨bs 0, 0, none⟩)) := fun ob => (World.cell?_alloc_lt w ob _ hps).trans hp
  have H := Lib.hid h; clear h
  have HR := Lib.hid hr; clear hr
  have HY := Lib.hid hy; clear hy
  have HF := Lib.hid hF; clear hF
  have HS := Lib.hid hs; clear hs
  have HW := Lib.hid hw; clear hw
  have HN := Lib.hid hN; clear hN
  clear hp
  go_wp2_with fail
  obtain ⟨W0, hW0⟩ : ∃ W0, w.alloc (.cells #[.pointer (some ⟨pb, 0, none⟩)] 121) = W0 := ⟨_, rfl⟩
  rw [hW0]
  have hs0 : W0.heap.size = w.heap.size + 1 := by rw [← hW0]; simp
  have hb0 : W0.heap[w.heap.size]? = some (.cells #[.pointer (some ⟨pb, 0, none⟩)] 121 (0, 0)) := by rw [← hW0]; exact alloc_heap_new w _
  have hG0 : GRep W0 o (fun k => own k ∧ k ≠ w.heap.size) pb bs Hy.start := by
    rw [← hW0]
    exact (H.out.alloc _).sub (fun i hi => ⟨H.out.lo i hi, Nat.ne_of_lt (H.out.lt hi)⟩)
  have hF0 : Free (fun k => own k ∧ k ≠ w.heap.size) W0 := fun k hk => ⟨HF.out k (by omega), by omega⟩
  have hO0 : Only own w W0 := by rw [← hW0]; exact ((Only.refl own w).alloc HF.out _)
  have hS0 : ∀ (k : Nat) (hk : k < ws.length), W0.cell? ⟨sb, k, none⟩ = some (str ws[k]) := fun k hk => by
    have h1 := HS.out k hk
    rw [← hW0]; exact (World.cell?_alloc_lt w _ _ (World.block_lt_of_cell? _ _ h1)).trans h1
  have HW0 := Lib.hid hW0; clear hW0
  have HS0 := Lib.hid hs0; clear hs0
  have HB0 := Lib.hid hb0; clear hb0
  have HG0 := Lib.hid hG0; clear hG0
  have HF0 := Lib.hid hF0; clear hF0
  have HO0 := Lib.hid hO0; clear hO0
  have HSS := Lib.hid hS0; clear hS0
  clear hpa
  go_loopw [5, 15] (fun tv i wr => ∃ (k : Nat) (bq : Nat → Nat) (Gq : List Hy.Node) (xq : Nat), k ≤ ws.length ∧ i = .int .i64 k ∧ tv = .pointer (some ⟨bq xq, 0, none⟩) ∧ Hid (GRep wr o (fun k => own k ∧ k ≠ w.heap.size) pb bq Gq) ∧ Hid (Hy.walk o fuel Gq xq (ws.drop k).flatten = some (G', y)) ∧
    Hid (Only (fun k => own k ∧ k ≠ w.heap.size) W0 wr) ∧ xq < Gq.length) (fun _ i _ => ws.length - (intOf i).toNat)
  case atStart => exact ⟨0, bs, Hy.start, 0, Nat.zero_le _, rfl, rfl, HG0, HR, Only.refl _ _, by simp [Hy.start]⟩
  case round =>
    obtain ⟨k, bq, Gq, xq, hk, rfl, rfl, HGq, HRq, HOq, hxq⟩ := hrel
    by_cases hlt : k < ws.length
    · have hcell : wr.cell? ⟨sb, k, none⟩ = some (str ws[k]) := by
        rw [World.cell?_of_block (w := W0) (HOq.out.block sb (fun h => hsb h.1))]
        exact HSS.out k hlt
      have hpl : wr.cell? ⟨w.heap.size, 0, none⟩ = some (.pointer (some ⟨pb, 0, none⟩)) := by
        rw [cell_of_heap ((HOq.out.block w.heap.size (by simp)).trans HB0.out)]
        rfl
      have hr := HRq.out
      rw [List.drop_eq_getElem_cons hlt, List.flatten_cons] at hr
      obtain ⟨Gn, xn, hs, hr'⟩ := Hy.walk_append hr
      obtain ⟨h3, h4⟩ := Hy.wordErr_letters (Hy.wordsErr_zero HW.out ws[k] (List.getElem_mem hlt))
      have hcall := grow_Walk ho fuel HGq.out (HF0.out.grow HOq.out.size) ws[k] h3 (by omega) xq hxq Gn xn hs
      have HCALL := Lib.hid hcall; clear hcall hs hr h3 h4
      have HRN := Lib.hid hr'; clear hr'
      go_wp2_with fail
      refine HCALL.out.mono ?_
      rintro e w3 ⟨bn, rfl, h3, hag, hB3, hlen3, hzn⟩
      clear HCALL
      have H3 := Lib.hid h3; clear h3
      have HAG := Lib.hid hag; clear hag
      have HB3 := Lib.hid hB3; clear hB3
      go_wp2_with fail
      go_roundw
      case rel => exact ⟨k + 1, bn, Gn, xn, by omega, by go_num, rfl, H3, HRN, HOq.out.trans HB3.out, hzn⟩
      case measure => simp [intOf]; omega
    · obtain rfl : k = ws.length := by omega
      clear hlt hk
      have hr := HRq.out
      rw [List.drop_length] at hr
      cases hr
      have hw := HGq.out.cWord HY.out
      go_wp2_with fail
      go_ret
      exact ⟨rfl, (HO0.out.trans (HOq.out.mono (fun k hk => hk.1))).below HN.out⟩
end Go.Proofs.Ytdckpjagmbdkgaa

/- words.Normal and words.Times. -/
namespace Go.Proofs.Ytdckpjagmbdkgaa
set_option linter.unusedSimpArgs false
set_option linter.unusedVariables false
open Go.RowKit

set_option maxRecDepth 100000 in
set_option maxHeartbeats 1000000 in
theorem words_Normal_badOrd (a b c : Int) (l : List UInt8) (w : World) (he : Hy.ordErr a b c ≠ 0) :
    Calls Try.prog 71 #[ordersV a b c, str l] w fun e w' => e = .returned (.tuple #[str [], .int .i64 (Hy.ordErr a b c)]) ∧ Below w.heap.size w w' := by
  have HCALL := Lib.hid (fun v W => words_begun_badOrd a b c v W he)
  unfold ordersV str at *
  go_enter_defers Try.func71, Try.ntmps71
  go_wp2_with fail
  refine (HCALL.out _ _).mono ?_
  rintro e w1 ⟨rfl, hB⟩
  have h1 : w1.heap[w.heap.size + 1]? = some (.cells #[.int .i64 0] 24 (0, 0)) := by
    have := alloc_heap_new (w.alloc (.cells #[.int .i64 a, .int .i64 b, .int .i64 c] 23)) (.cells #[.int .i64 0] 24)
    rw [World.size_alloc] at this
    exact (hB.block (w.heap.size + 1) (by simp)).trans ((heap_alloc_lt _ _ (by simp)).trans this)
  have c1 : w1.cell? ⟨w.heap.size + 1, 0, none⟩ = some (.int .i64 0) := cell_of_heap h1 0
  have f1 : w1.frozen? ⟨w.heap.size + 1, 0, none⟩ = false := free_of_heap h1 0
  have HB := Lib.hid hB; clear hB
  have H1 := Lib.hid h1; clear h1
  have HE := Lib.hid he; clear he
  go_wp2_with fail
  refine leaves_cons (f := 65) (args := #[.pointer (some ⟨w.heap.size + 1, 0, none⟩)]) (by simp) (by simp [go_sem]) ?_
  refine (words_caught_panic ⟨w.heap.size + 1, 0, none⟩ 0 (Hy.ordErr a b c) _ c1 f1).mono ?_
  rintro e u' w'' ⟨rfl, rfl, rfl⟩
  have hcs : (w1.setCell ⟨w.heap.size + 1, 0, none⟩ (.int .i64 (Hy.ordErr a b c))).cell? ⟨w.heap.size + 1, 0, none⟩ = some (.int .i64 (Hy.ordErr a b c)) := World.cell?_setCell_same _ _ _ c1
  simp [Leaves, settle, results, Try.results71, go_sem, hcs]
  exact ((((((Below.refl _ _).alloc (Nat.le_refl _) _).alloc (by simp) _).alloc (by simp; omega) _).trans (HB.out.mono (by simp; omega))).setCell (by simp) _)

set_option maxRecDepth 100000 in
set_option maxHeartbeats 1000000 in
theorem words_Normal_badWord (o : Hy.Ord) (l : List UInt8) (w : World) (he : Hy.ordErr o.m01 o.m12 o.m02 = 0) (hl : l.length ≤ 9223372036854775807) (hw : Hy.wordErr l ≠ 0) :
    Calls Try.prog 71 #[ordersV o.m01 o.m12 o.m02, str l] w fun e w' => e = .returned (.tuple #[str [], .int .i64 (Hy.wordErr l)]) ∧ Below w.heap.size w w' := by
  have HCALL := Lib.hid (fun sb W cap hs hsb => words_begun o sb [l] W he (by simp) (by simpa using hl) cap hs hsb)
  have hwe : Hy.wordsErr [l] = Hy.wordErr l := by unfold Hy.wordsErr; rw [if_pos hw]
  have HWE := Lib.hid hwe; clear hwe
  have HE := Lib.hid he; clear he
  have HW := Lib.hid hw; clear hw
  have HL := Lib.hid hl; clear hl
  unfold ordersV str at *
  go_enter_defers Try.func71, Try.ntmps71
  go_wp2_with fail
  refine (HCALL.out _ _ _ ?_ ?_).mono ?_
  · intro k hk
    obtain rfl : k = 0 := by simpa using hk
    have := cell_new ((w.alloc (.cells #[.int .i64 o.m01, .int .i64 o.m12, .int .i64 o.m02] 23)).alloc (.cells #[.int .i64 0] 24)) #[.string ⟨l.toArray⟩] 9 (0, 0) 0
    simpa using this
  · simp
  rintro e w1 hb
  unfold BegunPost at hb
  rw [HWE.out, if_neg HW.out] at hb
  obtain ⟨rfl, hB⟩ := hb
  have h1 : w1.heap[w.heap.size + 1]? = some (.cells #[.int .i64 0] 24 (0, 0)) := by
    have := alloc_heap_new (w.alloc (.cells #[.int .i64 o.m01, .int .i64 o.m12, .int .i64 o.m02] 23)) (.cells #[.int .i64 0] 24)
    rw [World.size_alloc] at this
    exact (hB.block (w.heap.size + 1) (by simp)).trans ((heap_alloc_lt _ _ (by simp)).trans this)
  have c1 : w1.cell? ⟨w.heap.size + 1, 0, none⟩ = some (.int .i64 0) := cell_of_heap h1 0
  have f1 : w1.frozen? ⟨w.heap.size + 1, 0, none⟩ = false := free_of_heap h1 0
  have HB := Lib.hid hB; clear hB
  have H1 := Lib.hid h1; clear h1
  go_wp2_with fail
  refine leaves_cons (f := 65) (args := #[.pointer (some ⟨w.heap.size + 1, 0, none⟩)]) (by simp) (by simp [go_sem]) ?_
  refine (words_caught_panic ⟨w.heap.size + 1, 0, none⟩ 0 (Hy.wordErr l) _ c1 f1).mono ?_
  rintro e u' w'' ⟨rfl, rfl, rfl⟩
  have hcs : (w1.setCell ⟨w.heap.size + 1, 0, none⟩ (.int .i64 (Hy.wordErr l))).cell? ⟨w.heap.size + 1, 0, none⟩ = some (.int .i64 (Hy.wordErr l)) := World.cell?_setCell_same _ _ _ c1
  simp [Leaves, settle, results, Try.results71, go_sem, hcs]
  exact ((((((Below.refl _ _).alloc (Nat.le_refl _) _).alloc (by simp) _).alloc (by simp; omega) _).trans (HB.out.mono (by simp; omega))).setCell (by simp) _)

set_option maxRecDepth 100000 in
set_option maxHeartbeats 1000000 in
theorem words_Normal_ok (o : Hy.Ord) (ho : Small o) (l : List UInt8) (w : World) (he : Hy.ordErr o.m01 o.m12 o.m02 = 0) (hw : Hy.wordErr l = 0) (fuel : Nat) (nf : List UInt8) (hnf : Hy.norm o fuel l = some nf) :
    Calls Try.prog 71 #[ordersV o.m01 o.m12 o.m02, str l] w fun e w' => e = .returned (.tuple #[str nf, .int .i64 0]) ∧ Below w.heap.size w w' := by
  have hl : l.length ≤ 60 := (Hy.wordErr_letters hw).2
  have HCALL := Lib.hid (fun sb W cap hs hsb => words_begun o sb [l] W he (by simp) (by simp; omega) cap hs hsb)
  have hwe : Hy.wordsErr [l] = 0 := by unfold Hy.wordsErr; rw [if_neg (by simpa using hw)]; rfl
  have HWE := Lib.hid hwe; clear hwe
  have HE := Lib.hid he; clear he
  have HW := Lib.hid hw; clear hw
  have HL := Lib.hid hl; clear hl
  have HO := Lib.hid ho; clear ho
  obtain ⟨G', y, n, hr, hy, rfl⟩ := Hy.norm_some hnf
  have HR := Lib.hid hr; clear hr
  have HY := Lib.hid hy; clear hy
  clear hnf
  unfold ordersV str at *
  go_enter_defers Try.func71, Try.ntmps71
  go_wp2_with fail
  refine (HCALL.out _ _ _ ?_ ?_).mono ?_
  · intro k hk
    obtain rfl : k = 0 := by simpa using hk
    have := cell_new ((w.alloc (.cells #[.int .i64 o.m01, .int .i64 o.m12, .int .i64 o.m02] 23)).alloc (.cells #[.int .i64 0] 24)) #[.string ⟨l.toArray⟩] 9 (0, 0) 0
    simpa using this
  · simp
  rintro e w1 hb
  unfold BegunPost at hb
  rw [HWE.out, if_pos rfl] at hb
  obtain ⟨pb, bs, rfl, hG, hpb, hB⟩ := hb
  have h1 : w1.heap[w.heap.size + 1]? = some (.cells #[.int .i64 0] 24 (0, 0)) := by
    have := alloc_heap_new (w.alloc (.cells #[.int .i64 o.m01, .int .i64 o.m12, .int .i64 o.m02] 23)) (.cells #[.int .i64 0] 24)
    rw [World.size_alloc] at this
    exact (hB.block (w.heap.size + 1) (by simp)).trans ((heap_alloc_lt _ _ (by simp)).trans this)
  have HB := Lib.hid hB; clear hB
  have H1 := Lib.hid h1; clear h1
  have HG := Lib.hid hG; clear hG
  have HPB := Lib.hid hpb; clear hpb
  go_wp2_with fail
  have hz : w.heap.size + 3 ≤ w1.heap.size := by have := HB.out.size; simp at this; omega
  refine (words_normal HO.out fuel (own := fun k => w.heap.size + 3 ≤ k ∧ k ≠ w1.heap.size) (pb := pb) (bs := bs) ((HG.out.alloc _).sub (fun i hi => ⟨?_, Nat.ne_of_lt (HG.out.lt hi)⟩)) w1.heap.size [l] 1 ?_ ?_ ?_ HWE.out (by simp) (w.heap.size + 3) (fun k hk => hk.1) G' y n ?_ HY.out).mono ?_
  · have := HG.out.lo i hi; simp at this; omega
  · intro k hk; simp at hk; exact ⟨by omega, by omega⟩
  · intro k hk
    obtain rfl : k = 0 := by simpa using hk
    exact cell_new w1 #[.string ⟨l.toArray⟩] 9 (0, 0) 0
  · intro h; exact h.2 rfl
  · simpa using HR.out
  rintro e w2 ⟨rfl, hB2⟩
  have h2 : w2.heap[w.heap.size + 1]? = some (.cells #[.int .i64 0] 24 (0, 0)) :=
    (hB2.block (w.heap.size + 1) (by omega)).trans ((heap_alloc_lt _ _ (by omega)).trans H1.out)
  have c1 : w2.cell? ⟨w.heap.size + 1, 0, none⟩ = some (.int .i64 0) := cell_of_heap h2 0
  have f1 : w2.frozen? ⟨w.heap.size + 1, 0, none⟩ = false := free_of_heap h2 0
  have HB2 := Lib.hid hB2; clear hB2
  have H2 := Lib.hid h2; clear h2
  unfold str
  go_wp2_with fail
  refine leaves_cons (f := 65) (args := #[.pointer (some ⟨w.heap.size + 1, 0, none⟩)]) (by simp) (by simp [go_sem]) ?_
  refine (words_caught_idle ⟨w.heap.size + 1, 0, none⟩ _).mono ?_
  rintro e u' w'' ⟨rfl, rfl, rfl⟩
  have hcs : (w2.setCell ⟨w.heap.size + 1, 0, none⟩ (.int .i64 0)).cell? ⟨w.heap.size + 1, 0, none⟩ = some (.int .i64 0) := World.cell?_setCell_same _ _ _ c1
  simp [Leaves, settle, results, Try.results71, go_sem, hcs]
  have hb : Below w.heap.size w w1 := (((((Below.refl _ _).alloc (Nat.le_refl _) _).alloc (by simp) _).alloc (by simp; omega) _).trans (HB.out.mono (by simp; omega)))
  exact ((hb.alloc (by omega) _).trans (HB2.out.mono (by omega))).setCell (by simp) _

/-- words.Normal. -/
theorem words_Normal (a b c : Int) (l : List UInt8) (w : World) (hl : l.length ≤ 9223372036854775807) (fuel : Nat) (nf : List UInt8) (hnf : Hy.allErr a b c [l] = 0 → Hy.norm (Hy.toOrd a b c) fuel l = some nf) :
    Calls Try.prog 71 #[ordersV a b c, str l] w fun e w' => e = .returned (.tuple #[str (if Hy.allErr a b c [l] = 0 then nf else []), .int .i64 (Hy.allErr a b c [l])]) ∧ Below w.heap.size w w' := by
  by_cases h1 : Hy.ordErr a b c = 0
  · have h0 := Hy.ordErr_zero h1
    rw [Hy.allErr_ok h1, Hy.wordsErr_one] at *
    obtain ⟨o, hoo⟩ : ∃ o, o = Hy.toOrd a b c := ⟨_, rfl⟩
    have ea : (o.m01 : Int) = a := by rw [hoo]; show ((a.toNat : Nat) : Int) = a; omega
    have eb : (o.m12 : Int) = b := by rw [hoo]; show ((b.toNat : Nat) : Int) = b; omega
    have ec : (o.m02 : Int) = c := by rw [hoo]; show ((c.toNat : Nat) : Int) = c; omega
    rw [← hoo] at hnf
    clear hoo
    subst ea eb ec
    by_cases h2 : Hy.wordErr l = 0
    · rw [if_pos h2, h2]
      exact words_Normal_ok o ⟨by omega, by omega, by omega⟩ l w h1 h2 fuel nf (hnf h2)
    · rw [if_neg h2]
      exact words_Normal_badWord o l w h1 hl h2
  · rw [Hy.allErr_bad h1, if_neg h1]
    exact words_Normal_badOrd a b c l w h1
end Go.Proofs.Ytdckpjagmbdkgaa

/- words.Times. -/
namespace Go.Proofs.Ytdckpjagmbdkgaa
set_option linter.unusedSimpArgs false
set_option linter.unusedVariables false
open Go.RowKit

set_option maxRecDepth 100000 in
set_option maxHeartbeats 1000000 in
theorem words_Times_badOrd (a b c : Int) (u v : List UInt8) (w : World) (he : Hy.ordErr a b c ≠ 0) :
    Calls Try.prog 37 #[ordersV a b c, str u, str v] w fun e w' => e = .returned (.tuple #[str [], .int .i64 (Hy.ordErr a b c)]) ∧ Below w.heap.size w w' := by
  have HCALL := Lib.hid (fun v W => words_begun_badOrd a b c v W he)
  unfold ordersV str at *
  go_enter_defers Try.func37, Try.ntmps37
  go_wp2_with fail
  refine (HCALL.out _ _).mono ?_
  rintro e w1 ⟨rfl, hB⟩
  have h1 : w1.heap[w.heap.size + 1]? = some (.cells #[.int .i64 0] 24 (0, 0)) := by
    have := alloc_heap_new (w.alloc (.cells #[.int .i64 a, .int .i64 b, .int .i64 c] 23)) (.cells #[.int .i64 0] 24)
    rw [World.size_alloc] at this
    exact (hB.block (w.heap.size + 1) (by simp)).trans ((heap_alloc_lt _ _ (by simp)).trans this)
  have c1 : w1.cell? ⟨w.heap.size + 1, 0, none⟩ = some (.int .i64 0) := cell_of_heap h1 0
  have f1 : w1.frozen? ⟨w.heap.size + 1, 0, none⟩ = false := free_of_heap h1 0
  have HB := Lib.hid hB; clear hB
  have H1 := Lib.hid h1; clear h1
  have HE := Lib.hid he; clear he
  go_wp2_with fail
  refine leaves_cons (f := 65) (args := #[.pointer (some ⟨w.heap.size + 1, 0, none⟩)]) (by simp) (by simp [go_sem]) ?_
  refine (words_caught_panic ⟨w.heap.size + 1, 0, none⟩ 0 (Hy.ordErr a b c) _ c1 f1).mono ?_
  rintro e u' w'' ⟨rfl, rfl, rfl⟩
  have hcs : (w1.setCell ⟨w.heap.size + 1, 0, none⟩ (.int .i64 (Hy.ordErr a b c))).cell? ⟨w.heap.size + 1, 0, none⟩ = some (.int .i64 (Hy.ordErr a b c)) := World.cell?_setCell_same _ _ _ c1
  simp [Leaves, settle, results, Try.results37, go_sem, hcs]
  exact ((((((Below.refl _ _).alloc (Nat.le_refl _) _).alloc (by simp) _).alloc (by simp; omega) _).trans (HB.out.mono (by simp; omega))).setCell (by simp) _)

set_option maxRecDepth 100000 in
set_option maxHeartbeats 1000000 in
theorem words_Times_badWord (o : Hy.Ord) (u v : List UInt8) (w : World) (he : Hy.ordErr o.m01 o.m12 o.m02 = 0) (hu : u.length ≤ 9223372036854775807) (hv : v.length ≤ 9223372036854775807) (hw : Hy.wordsErr [u, v] ≠ 0) :
    Calls Try.prog 37 #[ordersV o.m01 o.m12 o.m02, str u, str v] w fun e w' => e = .returned (.tuple #[str [], .int .i64 (Hy.wordsErr [u, v])]) ∧ Below w.heap.size w w' := by
  have HCALL := Lib.hid (fun sb W cap hs hsb => words_begun o sb [u, v] W he (by simp) (by simp; exact ⟨hu, hv⟩) cap hs hsb)
  have HE := Lib.hid he; clear he
  have HW := Lib.hid hw; clear hw
  have HU := Lib.hid hu; clear hu
  have HV := Lib.hid hv; clear hv
  unfold ordersV str at *
  go_enter_defers Try.func37, Try.ntmps37
  go_wp2_with fail
  refine (HCALL.out _ _ _ ?_ ?_).mono ?_
  · intro k hk
    simp at hk
    have this' := cell_new ((w.alloc (.cells #[.int .i64 o.m01, .int .i64 o.m12, .int .i64 o.m02] 23)).alloc (.cells #[.int .i64 0] 24)) #[.string ⟨u.toArray⟩, .string ⟨v.toArray⟩] 9 (0, 0) k
    rw [World.size_alloc, World.size_alloc] at this'
    refine this'.trans ?_
    obtain rfl | rfl : k = 0 ∨ k = 1 := by omega
    all_goals rfl
  · simp
  rintro e w1 hb
  unfold BegunPost at hb
  rw [if_neg HW.out] at hb
  obtain ⟨rfl, hB⟩ := hb
  have h1 : w1.heap[w.heap.size + 1]? = some (.cells #[.int .i64 0] 24 (0, 0)) := by
    have := alloc_heap_new (w.alloc (.cells #[.int .i64 o.m01, .int .i64 o.m12, .int .i64 o.m02] 23)) (.cells #[.int .i64 0] 24)
    rw [World.size_alloc] at this
    exact (hB.block (w.heap.size + 1) (by simp)).trans ((heap_alloc_lt _ _ (by simp)).trans this)
  have c1 : w1.cell? ⟨w.heap.size + 1, 0, none⟩ = some (.int .i64 0) := cell_of_heap h1 0
  have f1 : w1.frozen? ⟨w.heap.size + 1, 0, none⟩ = false := free_of_heap h1 0
  have HB := Lib.hid hB; clear hB
  have H1 := Lib.hid h1; clear h1
  go_wp2_with fail
  refine leaves_cons (f := 65) (args := #[.pointer (some ⟨w.heap.size + 1, 0, none⟩)]) (by simp) (by simp [go_sem]) ?_
  refine (words_caught_panic ⟨w.heap.size + 1, 0, none⟩ 0 (Hy.wordsErr [u, v]) _ c1 f1).mono ?_
  rintro e u' w'' ⟨rfl, rfl, rfl⟩
  have hcs : (w1.setCell ⟨w.heap.size + 1, 0, none⟩ (.int .i64 (Hy.wordsErr [u, v]))).cell? ⟨w.heap.size + 1, 0, none⟩ = some (.int .i64 (Hy.wordsErr [u, v])) := World.cell?_setCell_same _ _ _ c1
  simp [Leaves, settle, results, Try.results37, go_sem, hcs]
  exact ((((((Below.refl _ _).alloc (Nat.le_refl _) _).alloc (by simp) _).alloc (by simp; omega) _).trans (HB.out.mono (by simp; omega))).setCell (by simp) _)

set_option maxRecDepth 100000 in
set_option maxHeartbeats 1000000 in
theorem words_Times_ok (o : Hy.Ord) (ho : Small o) (u v : List UInt8) (w : World) (he : Hy.ordErr o.m01 o.m12 o.m02 = 0) (hw : Hy.wordsErr [u, v] = 0) (fuel : Nat) (nf : List UInt8) (hnf : Hy.norm o fuel (u ++ v) = some nf) :
    Calls Try.prog 37 #[ordersV o.m01 o.m12 o.m02, str u, str v] w fun e w' => e = .returned (.tuple #[str nf, .int .i64 0]) ∧ Below w.heap.size w w' := by
  have hu : u.length ≤ 60 := (Hy.wordErr_letters (Hy.wordsErr_zero hw u (by simp))).2
  have hv : v.length ≤ 60 := (Hy.wordErr_letters (Hy.wordsErr_zero hw v (by simp))).2
  have HCALL := Lib.hid (fun sb W cap hs hsb => words_begun o sb [u, v] W he (by simp) (by simp; omega) cap hs hsb)
  have hwe := hw
  have HWE := Lib.hid hwe; clear hwe
  have HE := Lib.hid he; clear he
  have HW := Lib.hid hw; clear hw
  have HU := Lib.hid hu; clear hu
  have HV := Lib.hid hv; clear hv
  have HO := Lib.hid ho; clear ho
  obtain ⟨G', y, n, hr, hy, rfl⟩ := Hy.norm_some hnf
  have HR := Lib.hid hr; clear hr
  have HY := Lib.hid hy; clear hy
  clear hnf
  unfold ordersV str at *
  go_enter_defers Try.func37, Try.ntmps37
  go_wp2_with fail
  refine (HCALL.out _ _ _ ?_ ?_).mono ?_
  · intro k hk
    simp at hk
    have this' := cell_new ((w.alloc (.cells #[.int .i64 o.m01, .int .i64 o.m12, .int .i64 o.m02] 23)).alloc (.cells #[.int .i64 0] 24)) #[.string ⟨u.toArray⟩, .string ⟨v.toArray⟩] 9 (0, 0) k
    rw [World.size_alloc, World.size_alloc] at this'
    refine this'.trans ?_
    obtain rfl | rfl : k = 0 ∨ k = 1 := by omega
    all_goals rfl
  · simp
  rintro e w1 hb
  unfold BegunPost at hb
  rw [HWE.out, if_pos rfl] at hb
  obtain ⟨pb, bs, rfl, hG, hpb, hB⟩ := hb
  have h1 : w1.heap[w.heap.size + 1]? = some (.cells #[.int .i64 0] 24 (0, 0)) := by
    have := alloc_heap_new (w.alloc (.cells #[.int .i64 o.m01, .int .i64 o.m12, .int .i64 o.m02] 23)) (.cells #[.int .i64 0] 24)
    rw [World.size_alloc] at this
    exact (hB.block (w.heap.size + 1) (by simp)).trans ((heap_alloc_lt _ _ (by simp)).trans this)
  have HB := Lib.hid hB; clear hB
  have H1 := Lib.hid h1; clear h1
  have HG := Lib.hid hG; clear hG
  have HPB := Lib.hid hpb; clear hpb
  go_wp2_with fail
  have hz : w.heap.size + 3 ≤ w1.heap.size := by have := HB.out.size; simp at this; omega
  refine (words_normal HO.out fuel (own := fun k => w.heap.size + 3 ≤ k ∧ k ≠ w1.heap.size) (pb := pb) (bs := bs) ((HG.out.alloc _).sub (fun i hi => ⟨?_, Nat.ne_of_lt (HG.out.lt hi)⟩)) w1.heap.size [u, v] 2 ?_ ?_ ?_ HWE.out (by simp) (w.heap.size + 3) (fun k hk => hk.1) G' y n ?_ HY.out).mono ?_
  · have := HG.out.lo i hi; simp at this; omega
  · intro k hk; simp at hk; exact ⟨by omega, by omega⟩
  · intro k hk
    simp at hk
    have this' := cell_new w1 #[.string ⟨u.toArray⟩, .string ⟨v.toArray⟩] 9 (0, 0) k
    refine this'.trans ?_
    obtain rfl | rfl : k = 0 ∨ k = 1 := by omega
    all_goals rfl
  · intro h; exact h.2 rfl
  · simpa using HR.out
  rintro e w2 ⟨rfl, hB2⟩
  have h2 : w2.heap[w.heap.size + 1]? = some (.cells #[.int .i64 0] 24 (0, 0)) :=
    (hB2.block (w.heap.size + 1) (by omega)).trans ((heap_alloc_lt _ _ (by omega)).trans H1.out)
  have c1 : w2.cell? ⟨w.heap.size + 1, 0, none⟩ = some (.int .i64 0) := cell_of_heap h2 0
  have f1 : w2.frozen? ⟨w.heap.size + 1, 0, none⟩ = false := free_of_heap h2 0
  have HB2 := Lib.hid hB2; clear hB2
  have H2 := Lib.hid h2; clear h2
  unfold str
  go_wp2_with fail
  refine leaves_cons (f := 65) (args := #[.pointer (some ⟨w.heap.size + 1, 0, none⟩)]) (by simp) (by simp [go_sem]) ?_
  refine (words_caught_idle ⟨w.heap.size + 1, 0, none⟩ _).mono ?_
  rintro e u' w'' ⟨rfl, rfl, rfl⟩
  have hcs : (w2.setCell ⟨w.heap.size + 1, 0, none⟩ (.int .i64 0)).cell? ⟨w.heap.size + 1, 0, none⟩ = some (.int .i64 0) := World.cell?_setCell_same _ _ _ c1
  simp [Leaves, settle, results, Try.results37, go_sem, hcs]
  have hb : Below w.heap.size w w1 := (((((Below.refl _ _).alloc (Nat.le_refl _) _).alloc (by simp) _).alloc (by simp; omega) _).trans (HB.out.mono (by simp; omega)))
  exact ((hb.alloc (by omega) _).trans (HB2.out.mono (by omega))).setCell (by simp) _

/-- words.Normal. -/
theorem words_Times (a b c : Int) (u v : List UInt8) (w : World) (hu : u.length ≤ 9223372036854775807) (hv : v.length ≤ 9223372036854775807) (fuel : Nat) (nf : List UInt8) (hnf : Hy.allErr a b c [u, v] = 0 → Hy.norm (Hy.toOrd a b c) fuel (u ++ v) = some nf) :
    Calls Try.prog 37 #[ordersV a b c, str u, str v] w fun e w' => e = .returned (.tuple #[str (if Hy.allErr a b c [u, v] = 0 then nf else []), .int .i64 (Hy.allErr a b c [u, v])]) ∧ Below w.heap.size w w' := by
  by_cases h1 : Hy.ordErr a b c = 0
  · have h0 := Hy.ordErr_zero h1
    rw [Hy.allErr_ok h1] at *
    obtain ⟨o, hoo⟩ : ∃ o, o = Hy.toOrd a b c := ⟨_, rfl⟩
    have ea : (o.m01 : Int) = a := by rw [hoo]; show ((a.toNat : Nat) : Int) = a; omega
    have eb : (o.m12 : Int) = b := by rw [hoo]; show ((b.toNat : Nat) : Int) = b; omega
    have ec : (o.m02 : Int) = c := by rw [hoo]; show ((c.toNat : Nat) : Int) = c; omega
    rw [← hoo] at hnf
    clear hoo
    subst ea eb ec
    by_cases h2 : Hy.wordsErr [u, v] = 0
    · rw [if_pos h2, h2]
      exact words_Times_ok o ⟨by omega, by omega, by omega⟩ u v w h1 h2 fuel nf (hnf h2)
    · rw [if_neg h2]
      exact words_Times_badWord o u v w h1 hu hv h2
  · rw [Hy.allErr_bad h1, if_neg h1]
    exact words_Times_badOrd a b c u v w h1
end Go.Proofs.Ytdckpjagmbdkgaa
