/- The law CoverGroup. -/
import Derived.Test.YtfdklmpkienfhaaGreatAg
import Derived.Test.YtfdklmpkienfhaaGreatGrl
import Derived.Test.YtfdklmpkienfhaaGreatRx
import Derived.Sort.CutIn
namespace Go.Proofs.YtfdklmpkienfhaaGreat
set_option linter.unusedSimpArgs false
set_option linter.unusedVariables false
open Go.RowKit

theorem err_lets {l : List UInt8} (h : Hy.wordErr l = 0) : Hy.Lets l ∧ l.length ≤ 60 := by
  obtain ⟨h1, h2⟩ := Hy.wordErr_letters h
  refine ⟨fun c hc => ?_, h2⟩
  obtain ⟨k, hk, rfl⟩ := List.getElem_of_mem hc
  exact h1 k hk
theorem err_of_lets {l : List UInt8} (h : Hy.Lets l) (h2 : l.length ≤ 60) : Hy.wordErr l = 0 := by
  unfold Hy.wordErr
  rw [if_neg, if_neg (by omega)]
  intro h3
  obtain ⟨c, hc, h4⟩ := List.any_eq_true.1 h3
  have := h c hc
  have h5 : 2 < c := of_decide_eq_true h4
  have : (2 : UInt8).toNat < c.toNat := h5
  simp at this
  omega

theorem at_zero {a b c : Int} {A : Nat → List Int} {p : Int} (h : atErr a b c A p = 0) : actErr a b c A = 0 ∧ ∃ x : Nat, p = x ∧ x < (A 0).length := by
  unfold atErr at h
  by_cases h1 : actErr a b c A = 0
  · rw [if_neg (by simp [h1])] at h
    by_cases h2 : 0 ≤ p ∧ p < ((A 0).length : Int)
    · exact ⟨h1, p.toNat, by omega, by omega⟩
    · rw [if_neg h2] at h; omega
  · rw [if_pos h1] at h; exact absurd h h1
/-- What Lead and Has return, with nothing wrong. -/
theorem lead_ok {a b c : Int} {A : Nat → List Int} (h : actErr a b c A = 0) {V : Nat → Value} {w : World} (hA : AR w.heap.size w V A) (hlen : ∀ i, i < 3 → (A i).length ≤ 1000000000) {x : Nat} (hx : x < (A 0).length) {l : List UInt8} (hl : Hy.Lets l) (h60 : l.length ≤ 60) :
    Calls Tryz.prog 16 #[ordersV a b c, actV V, .int .i64 x, str l] w fun e w' => e = .returned (.tuple #[.int .i64 ((Cov.ledP (letters A) x l : Nat) : Int), .int .i64 0]) ∧ Below w.heap.size w w' := by
  have hz : ledErr a b c A x l = 0 := by
    have hat : atErr a b c A x = 0 := by
      unfold atErr
      rw [if_neg (by simp [h]), if_pos (by omega)]
    unfold ledErr
    rw [if_neg (by simp [hat]), err_of_lets hl h60]
  have := cover_Lead a b c V A x l w hA hlen (by omega)
  rw [hz] at this
  simpa using this
theorem has_ok {a b c : Int} {A : Nat → List Int} (h : actErr a b c A = 0) {V : Nat → Value} {w : World} (hA : AR w.heap.size w V A) (hlen : ∀ i, i < 3 → (A i).length ≤ 1000000000) {x : Nat} (hx : x < (A 0).length) {l : List UInt8} (hl : Hy.Lets l) (h60 : l.length ≤ 60) (t : Bool) (ht : t = true ↔ Cov.ledP (letters A) x l = x) :
    Calls Tryz.prog 17 #[ordersV a b c, actV V, .int .i64 x, str l] w fun e w' => e = .returned (.tuple #[.bool t, .int .i64 0]) ∧ Below w.heap.size w w' := by
  have hz : ledErr a b c A x l = 0 := by
    have hat : atErr a b c A x = 0 := by
      unfold atErr
      rw [if_neg (by simp [h]), if_pos (by omega)]
    unfold ledErr
    rw [if_neg (by simp [hat]), err_of_lets hl h60]
  have := cover_Has a b c V A x l w hA hlen (by omega)
  rw [hz] at this
  have ht2 : t = decide (((Cov.ledP (letters A) x l : Nat) : Int) = (x : Int)) := by
    rw [Bool.eq_iff_iff, ht, decide_eq_true_iff]; omega
  rw [ht2]
  simpa using this

set_option maxRecDepth 100000 in
set_option maxHeartbeats 2000000 in
theorem law_group (a b c : Int) (V : Nat → Value) (A : Nat → List Int) (p : Int) (u l : List UInt8) (q : Int) (w : World) (hA : AR w.heap.size w V A) (hlen : ∀ i, i < 3 → (A i).length ≤ 9223372036854775807) (hu : u.length ≤ 9223372036854775807) (hl : l.length ≤ 9223372036854775807) :
    Calls Tryz.prog 5 #[ordersV a b c, actV V, .int .i64 p, str u, str l, .int .i64 q] w fun e w' => e = .returned (.bool true) ∧ Below w.heap.size w w' := by
  have HSANE := Lib.hid (fun W => law12_sane W)
  obtain ⟨W1, hW1⟩ : ∃ W1, W1 = (w.alloc (.cells #[.int .i64 a, .int .i64 b, .int .i64 c] 23)).alloc (.cells #[V 0, V 1, V 2] 27) := ⟨_, rfl⟩
  have hs1 : W1.heap.size = w.heap.size + 2 := by rw [hW1]; simp
  have HB0 := Lib.hid (show Below w.heap.size w W1 from by
    rw [hW1]
    exact ((Below.refl w.heap.size w).alloc (Nat.le_refl _) _).alloc (by simp) _)
  have HQ0 := Lib.hid (show W1.heap[w.heap.size]? = some (.cells #[.int .i64 a, .int .i64 b, .int .i64 c] 23) from by
    rw [hW1, Below.heap_alloc _ _ _ (by simp)]
    exact alloc_heap_new w _)
  have HQ1 := Lib.hid (show W1.heap[w.heap.size + 1]? = some (.cells #[V 0, V 1, V 2] 27) from by
    rw [hW1]
    have := alloc_heap_new (w.alloc (.cells #[.int .i64 a, .int .i64 b, .int .i64 c] 23)) (.cells #[V 0, V 1, V 2] 27)
    rwa [World.size_alloc] at this)
  have HAW := Lib.hid (show ∀ W, Below W1.heap.size W1 W → AR W.heap.size W V A from fun W hB i hi => (((hA i hi).below HB0.out).below (hB.mono HB0.out.size)).more (Nat.le_trans HB0.out.size hB.size))
  have HBX := Lib.hid (show ∀ W, Below W1.heap.size W1 W → W.heap[w.heap.size]? = some (.cells #[.int .i64 a, .int .i64 b, .int .i64 c] 23) ∧ W.heap[w.heap.size + 1]? = some (.cells #[V 0, V 1, V 2] 27) from fun W hB =>
    ⟨(hB.block _ (by omega)).trans HQ0.out, (hB.block _ (by omega)).trans HQ1.out⟩)
  have HLEN := Lib.hid hlen
  have HS1 := Lib.hid hs1
  have HULL := Lib.hid (And.intro hu hl)
  clear hA hlen hs1 hu hl
  unfold ordersV actV str
  go_enter Tryz.func5, Tryz.ntmps5
  go_upto_region 1 with fail
  rw [← hW1]
  clear hW1
  go_wp2_with fail
  refine (HSANE.out _).mono ?_
  rintro e w1 ⟨rfl, hB⟩
  have HB1 := Lib.hid hB
  clear hB
  go_upto_region 3 with fail
  obtain ⟨q0, q1⟩ := HBX.out w1 HB1.out
  have p0 := box_at q1 (i := 0) (by omega)
  have p1 := box_at q1 (i := 1) (by omega)
  have p2 := box_at q1 (i := 2) (by omega)
  clear q0 q1
  have hs1 := HS1.out
  have hl1 := HB1.out.size
  go_wp2_with fail
  have hB2 := (Below.refl w1.heap.size w1).alloc (Nat.le_refl _) (.cells #[V 0, V 1, V 2] 27)
  have hsm := law12_small w1.heap.size 1 (fun _ => V) (fun _ => A) (w1.alloc (.cells #[V 0, V 1, V 2] 27)) (by simp) (by omega) (fun j hj i hi => by
    obtain rfl : j = 0 := by omega
    rw [Nat.zero_mul, Nat.zero_add]
    exact box_at (alloc_heap_new w1 _) hi) (fun j hj => HAW.out _ (HB1.out.trans (hB2.mono HB1.out.size))) (fun j hj => HLEN.out)
  rw [show ((List.range 1).all fun j => smallA A) = smallA A by simp] at hsm
  have HSM := Lib.hid hsm
  have HB2 := Lib.hid (HB1.out.trans (hB2.mono HB1.out.size))
  clear hsm hB2 p0 p1 p2 hs1 hl1
  generalize w1.alloc (.cells #[V 0, V 1, V 2] 27) = W2 at HSM HB2 ⊢
  refine HSM.out.mono ?_
  rintro e w3 ⟨rfl, hB⟩
  have HB3 := Lib.hid (HB2.out.trans (hB.mono HB2.out.size))
  clear hB HSM
  cases hsm : smallA A with
  | false =>
    clear hsm
    go_wp2_with fail
    go_ret
    exact ⟨rfl, HB0.out.trans (HB3.out.mono HB0.out.size)⟩
  | true =>
    have HL250 := Lib.hid (show ∀ i, i < 3 → (A i).length ≤ 250 from fun i hi => smallA_len hsm hi)
    clear hsm
    have HL9 := Lib.hid (show ∀ i, i < 3 → (A i).length ≤ 1000000000 from fun i hi => by have := HL250.out i hi; omega)
    by_cases hu18 : 18 < u.length
    · have h18 : (18 : Int) < (u.length : Int) := by omega
      go_wp2_with fail
      go_ret
      exact ⟨rfl, HB0.out.trans (HB3.out.mono HB0.out.size)⟩
    have h18 : ¬ (18 : Int) < (u.length : Int) := by omega
    by_cases hl18 : 18 < l.length
    · have hl8 : (18 : Int) < (l.length : Int) := by omega
      go_wp2_with fail
      go_ret
      exact ⟨rfl, HB0.out.trans (HB3.out.mono HB0.out.size)⟩
    have hl8 : ¬ (18 : Int) < (l.length : Int) := by omega
    obtain ⟨q0, q1⟩ := HBX.out w3 HB3.out
    have k0 := cell_of_heap q0 0
    have k1 := cell_of_heap q0 1
    have k2 := cell_of_heap q0 2
    have p0 := box_at q1 (i := 0) (by omega)
    have p1 := box_at q1 (i := 1) (by omega)
    have p2 := box_at q1 (i := 2) (by omega)
    simp only [List.getElem?_toArray, List.getElem?_cons_zero, List.getElem?_cons_succ] at k0 k1 k2
    clear q0 q1
    have HAT := Lib.hid (r12_At a b c V A p w3 (HAW.out _ HB3.out) HL9.out)
    obtain ⟨er, her⟩ : ∃ er, er = atErr a b c A p := ⟨_, rfl⟩
    rw [← her] at HAT
    have HER := Lib.hid her
    clear her
    unfold ordersV actV at HAT
    go_wp2_with fail
    refine HAT.out.mono ?_
    rintro e w4 ⟨rfl, hB⟩
    have HB4 := Lib.hid (HB3.out.trans (hB.mono HB3.out.size))
    clear hB k0 k1 k2 p0 p1 p2 HAT
    by_cases her0 : er = 0
    case neg =>
      have hne : (er != 0) = true := by rw [bne_iff_ne]; exact her0
      have hnf : (er == 0) = false := by rw [beq_eq_false_iff_ne]; exact her0
      go_wp2_with fail
      go_ret
      exact ⟨rfl, HB0.out.trans (HB4.out.mono HB0.out.size)⟩
    subst her0
    have HCW := Lib.hid (r03_CheckWord u w4 HULL.out.1)
    obtain ⟨eu, heu⟩ : ∃ eu, eu = Hy.wordErr u := ⟨_, rfl⟩
    rw [← heu] at HCW
    have HEU := Lib.hid heu
    clear heu
    unfold str at HCW
    go_wp2_with fail
    refine HCW.out.mono ?_
    rintro e w5 ⟨rfl, hB⟩
    have HB5 := Lib.hid (HB4.out.trans (hB.mono HB4.out.size))
    clear hB HCW
    by_cases heu0 : eu = 0
    case neg =>
      have hne : (eu != 0) = true := by rw [bne_iff_ne]; exact heu0
      have hnf : (eu == 0) = false := by rw [beq_eq_false_iff_ne]; exact heu0
      go_wp2_with fail
      go_ret
      exact ⟨rfl, HB0.out.trans (HB5.out.mono HB0.out.size)⟩
    subst heu0
    have HCW := Lib.hid (r03_CheckWord l w5 HULL.out.2)
    obtain ⟨el, hel⟩ : ∃ el, el = Hy.wordErr l := ⟨_, rfl⟩
    rw [← hel] at HCW
    have HEL := Lib.hid hel
    clear hel
    unfold str at HCW
    go_wp2_with fail
    refine HCW.out.mono ?_
    rintro e w6 ⟨rfl, hB⟩
    have HB6 := Lib.hid (HB5.out.trans (hB.mono HB5.out.size))
    clear hB HCW
    by_cases hel0 : el = 0
    case neg =>
      have hne : (el != 0) = true := by rw [bne_iff_ne]; exact hel0
      have hnf : (el == 0) = false := by rw [beq_eq_false_iff_ne]; exact hel0
      go_wp2_with fail
      go_ret
      exact ⟨rfl, HB0.out.trans (HB6.out.mono HB0.out.size)⟩
    subst hel0
    obtain ⟨hact, x, rfl, hx⟩ := at_zero HER.out.symm
    have hA3 := act3 hact
    obtain ⟨hul, hu60⟩ := err_lets HEU.out.symm
    obtain ⟨hll, hl60⟩ := err_lets HEL.out.symm
    obtain ⟨y, hy⟩ : ∃ y, y = Cov.ledP (letters A) x u := ⟨_, rfl⟩
    have hyn : y < (A 0).length := by rw [hy]; exact hA3.lt hul hx
    obtain ⟨nf, hnf⟩ : ∃ nf, Hy.IsNF (ordN a b c) u nf := by
      obtain ⟨m, _, h⟩ := Hy.norm_ok (Hy.fine_of hA3.ord) (fuel := 1000) hul (by omega) (by omega)
      exact ⟨m, h⟩
    have hnl : Hy.Lets nf := (Cov.ledP_eqv hA3.sh.into hA3.rel hnf.eqv).1.2 hul
    have hn60 : nf.length ≤ 60 := Nat.le_trans hnf.len hu60
    have hnfy : Cov.ledP (letters A) x nf = y := by rw [hy]; exact hA3.nf hul hnf hx
    obtain ⟨tb, htb⟩ : ∃ tb : Bool, tb = true ↔ Cov.ledP (letters A) x l = x := ⟨decide _, decide_eq_true_iff⟩
    obtain ⟨ta, hta⟩ : ∃ ta : Bool, ta = true ↔ Cov.ledP (letters A) y l = y := ⟨decide _, decide_eq_true_iff⟩
    obtain ⟨tu, htu⟩ : ∃ tu : Bool, tu = true ↔ Cov.ledP (letters A) x u = x := ⟨decide _, decide_eq_true_iff⟩
    obtain ⟨tv, htv⟩ : ∃ tv : Bool, tv = true ↔ Cov.ledP (letters A) x (u ++ l) = x := ⟨decide _, decide_eq_true_iff⟩
    have HTUV := Lib.hid (show tu = true → tv = tb from fun h => by
      rw [Bool.eq_iff_iff, htv, htb, hA3.both (htu.1 h)])
    obtain ⟨nm, hnm⟩ : ∃ nm, nm = normA A := ⟨_, rfl⟩
    have hulr := lets_reverse hul
    have hllr := lets_reverse hll
    have H5 := Lib.hid (fun W hB => lead_ok hact (HAW.out W hB) HL9.out hx hul hu60)
    have H6 := Lib.hid (fun W hB => lead_ok hact (HAW.out W hB) HL9.out hx hnl hn60)
    have HW6 := Lib.hid (show ∀ W, Below W1.heap.size W1 W → Calls Tryz.prog 36 #[ordersV a b c, str u] W fun e w' => e = .returned (str nf) ∧ Below W.heap.size W w' from fun W _ => by
      have h := r03_Word_nf (Hy.fine_of hA3.ord) (by have := ordN_le hA3.ord; exact ⟨this.1, this.2.1, this.2.2⟩) hul (by omega) hnf W
      rw [ordN_v hA3.ord]
      exact h)
    have H9 := Lib.hid (fun W hB => has_ok hact (HAW.out W hB) HL9.out hx hll hl60 tb htb)
    have HT10 := Lib.hid (fun W (_ : Below W1.heap.size W1 W) => r03_Turned l W (by omega))
    have H10 := Lib.hid (fun W hB => has_ok hact (HAW.out W hB) HL9.out hx hllr (by simpa using hl60) tb (htb.trans (hA3.turn hll hx)))
    have H11 := Lib.hid (fun W hB => has_ok hact (HAW.out W hB) HL9.out hyn hll hl60 ta hta)
    have HT12 := Lib.hid (fun W (_ : Below W1.heap.size W1 W) => r03_Turned u W (by omega))
    have H12 := Lib.hid (fun W hB => has_ok hact (HAW.out W hB) HL9.out hx (l := u ++ l ++ u.reverse) (Hy.Lets.app.2 ⟨Hy.Lets.app.2 ⟨hul, hll⟩, hulr⟩) (by simp; omega) ta (by rw [hta, hA3.around hul hll hx, ← hy]))
    have H15 := Lib.hid (fun W hB => has_ok hact (HAW.out W hB) HL9.out hx hul hu60 tu htu)
    have H16 := Lib.hid (fun W hB => has_ok hact (HAW.out W hB) HL9.out hx (l := u ++ l) (Hy.Lets.app.2 ⟨hul, hll⟩) (by simp; omega) tv htv)
    have H19 := Lib.hid (fun W hB => cover_Normal a b c V A W (HAW.out W hB) HL9.out)
    rw [hact, ← hnm] at H19
    have H22 := Lib.hid (fun (z : Nat) (hz : z < (A 0).length) (hn : nm = true) W hB => has_ok hact (HAW.out W hB) HL9.out hz hll hl60 tb (by rw [htb]; exact hA3.normal (hnm ▸ hn) hll hx hz))
    have H22x := Lib.hid (fun (z : Nat) (hz : z < (A 0).length) W hB => has_ok hact (HAW.out W hB) HL9.out hz hll hl60 (decide (Cov.ledP (letters A) z l = z)) decide_eq_true_iff)
    rw [List.append_assoc] at H12
    rw [← hy] at H5
    rw [hnfy] at H6
    have HX := Lib.hid hx
    have HLU := Lib.hid (And.intro hu60 hl60)
    have hadd1 := fun W => run_add_str (P := Tryz.prog) u l (by omega) W
    have hadd2 := fun W => run_add_str (P := Tryz.prog) (u ++ l) u.reverse (by simp; omega) W
    have HADD := Lib.hid (And.intro hadd1 hadd2)
    obtain ⟨n, hn⟩ : ∃ n, n = (A 0).length := ⟨_, rfl⟩
    have HN := Lib.hid hn
    clear hact hx hA3 hul hu60 hll hl60 hy hyn hnf hnl hn60 hnfy htb hta htu htv hnm hulr hllr hadd1 hadd2 hn HER HEU HEL H22x
    simp only [if_true] at H19
    unfold ordersV actV str at *
    obtain ⟨q0, q1⟩ := HBX.out w6 HB6.out
    have k0 := cell_of_heap q0 0
    have k1 := cell_of_heap q0 1
    have k2 := cell_of_heap q0 2
    have p0 := box_at q1 (i := 0) (by omega)
    have p1 := box_at q1 (i := 1) (by omega)
    have p2 := box_at q1 (i := 2) (by omega)
    simp only [List.getElem?_toArray, List.getElem?_cons_zero, List.getElem?_cons_succ] at k0 k1 k2
    clear q0 q1
    go_upto_region 5 with fail
    go_wp2_with fail
    refine (H5.out _ HB6.out).mono ?_
    rintro e w7 ⟨rfl, hB⟩
    have HB7 := Lib.hid (HB6.out.trans (hB.mono HB6.out.size))
    clear hB k0 k1 k2 p0 p1 p2
    go_upto_region 6 with fail
    obtain ⟨q0, q1⟩ := HBX.out w7 HB7.out
    have hl := HB7.out.size
    have hs1 := HS1.out
    have g0 := fun (yy : Later w7) => ((bcell yy.h).1 w.heap.size 0 (by omega)).trans (cell_of_heap q0 0)
    have g1 := fun (yy : Later w7) => ((bcell yy.h).1 w.heap.size 1 (by omega)).trans (cell_of_heap q0 1)
    have g2 := fun (yy : Later w7) => ((bcell yy.h).1 w.heap.size 2 (by omega)).trans (cell_of_heap q0 2)
    have b0 := fun (yy : Later w7) => ((bcell yy.h).1 (w.heap.size + 1) 0 (by omega)).trans (box_at q1 (i := 0) (by omega))
    have b1 := fun (yy : Later w7) => ((bcell yy.h).1 (w.heap.size + 1) 1 (by omega)).trans (box_at q1 (i := 1) (by omega))
    have b2 := fun (yy : Later w7) => ((bcell yy.h).1 (w.heap.size + 1) 2 (by omega)).trans (box_at q1 (i := 2) (by omega))
    simp only [List.getElem?_toArray, List.getElem?_cons_zero, List.getElem?_cons_succ] at g0 g1 g2
    clear q0 q1 hl hs1
    refine wp_region_segs [([0, 1, 2, 3, 4], [5, 6]), ([7, 8, 9, 10], [])] 11 (fun w' => ∃ y : Later w7, w' = y.W) ⟨⟨w7.drew, (Below.refl _ _).drew⟩, rfl⟩ (by kernel_rfl) (by kernel_rfl) ?_
    simp only [List.map_cons, List.map_nil, pickOps, List.flatMap_cons, List.flatMap_nil, List.cons_append, List.nil_append, List.take_succ_cons, List.take_zero, List.drop_succ_cons, List.drop_zero, wpSegs]
    repeat (go_big_quiet_step (fail))
    refine wpQuiet_nil ?_
    clear g0 g1 g2 b0 b1 b2
    refine wpG_step ?_
    intro K2 hK2
    go_wp2_with fail
    refine (HW6.out _ HB7.out.drew).mono ?_
    rintro e w8 ⟨rfl, hB⟩
    have HBa := Lib.hid (show Below w7.heap.size w7 w8 from below_undrew hB)
    clear hB
    go_wp2_with fail
    refine ⟨⟨⟨w8, HBa.out⟩, rfl⟩, hK2 _ _ ?_⟩
    clear hK2
    refine wpG_step ?_
    intro K3 hK3
    go_wp2_with fail
    refine (H6.out _ (HB7.out.trans (HBa.out.mono HB7.out.size))).mono ?_
    rintro e w9 ⟨rfl, hB⟩
    have HBb := Lib.hid (show Below w7.heap.size w7 w9 from HBa.out.trans (hB.mono HBa.out.size))
    clear hB
    go_wp2_with fail
    refine ⟨⟨⟨w9, HBb.out⟩, rfl⟩, hK3 _ _ ?_⟩
    clear hK3
    refine wpG_nil ?_
    repeat (go_big_quiet_step (fail))
    refine wpQuiet_nil ?_
    refine wpG_nil ?_
    have HB9 := Lib.hid (HB7.out.trans (HBb.out.mono HB7.out.size))
    clear HBa HBb
    go_upto_region 9 with fail
    obtain ⟨q0, q1⟩ := HBX.out w9 HB9.out
    have k0 := cell_of_heap q0 0
    have k1 := cell_of_heap q0 1
    have k2 := cell_of_heap q0 2
    have p0 := box_at q1 (i := 0) (by omega)
    have p1 := box_at q1 (i := 1) (by omega)
    have p2 := box_at q1 (i := 2) (by omega)
    simp only [List.getElem?_toArray, List.getElem?_cons_zero, List.getElem?_cons_succ] at k0 k1 k2
    clear q0 q1
    go_wp2_with fail
    refine (H9.out _ HB9.out).mono ?_
    rintro e w10 ⟨rfl, hB⟩
    have HB10 := Lib.hid (HB9.out.trans (hB.mono HB9.out.size))
    clear hB k0 k1 k2 p0 p1 p2
    go_upto_region 10 with fail
    obtain ⟨q0, q1⟩ := HBX.out w10 HB10.out
    have hl := HB10.out.size
    have hs1 := HS1.out
    have g0 := fun (yy : Later w10) => ((bcell yy.h).1 w.heap.size 0 (by omega)).trans (cell_of_heap q0 0)
    have g1 := fun (yy : Later w10) => ((bcell yy.h).1 w.heap.size 1 (by omega)).trans (cell_of_heap q0 1)
    have g2 := fun (yy : Later w10) => ((bcell yy.h).1 w.heap.size 2 (by omega)).trans (cell_of_heap q0 2)
    have b0 := fun (yy : Later w10) => ((bcell yy.h).1 (w.heap.size + 1) 0 (by omega)).trans (box_at q1 (i := 0) (by omega))
    have b1 := fun (yy : Later w10) => ((bcell yy.h).1 (w.heap.size + 1) 1 (by omega)).trans (box_at q1 (i := 1) (by omega))
    have b2 := fun (yy : Later w10) => ((bcell yy.h).1 (w.heap.size + 1) 2 (by omega)).trans (box_at q1 (i := 2) (by omega))
    simp only [List.getElem?_toArray, List.getElem?_cons_zero, List.getElem?_cons_succ] at g0 g1 g2
    clear q0 q1 hl hs1
    refine wp_region_segs [([0, 1, 2, 3], [4, 5]), ([6, 7, 8, 9], [])] 10 (fun w' => ∃ y : Later w10, w' = y.W) ⟨⟨w10.drew, (Below.refl _ _).drew⟩, rfl⟩ (by kernel_rfl) (by kernel_rfl) ?_
    simp only [List.map_cons, List.map_nil, pickOps, List.flatMap_cons, List.flatMap_nil, List.cons_append, List.nil_append, List.take_succ_cons, List.take_zero, List.drop_succ_cons, List.drop_zero, wpSegs]
    repeat (go_big_quiet_step (fail))
    refine wpQuiet_nil ?_
    clear g0 g1 g2 b0 b1 b2
    refine wpG_step ?_
    intro K2 hK2
    go_wp2_with fail
    refine (HT10.out _ HB10.out.drew).mono ?_
    rintro e w11 ⟨rfl, hw⟩
    have HBa := Lib.hid (show Below w10.heap.size w10 w11 from by rw [← hw]; exact (Below.refl _ _).drew)
    clear hw
    go_wp2_with fail
    refine ⟨⟨⟨w11, HBa.out⟩, rfl⟩, hK2 _ _ ?_⟩
    clear hK2
    refine wpG_step ?_
    intro K3 hK3
    go_wp2_with fail
    refine (H10.out _ (HB10.out.trans (HBa.out.mono HB10.out.size))).mono ?_
    rintro e w12 ⟨rfl, hB⟩
    have HBb := Lib.hid (show Below w10.heap.size w10 w12 from HBa.out.trans (hB.mono HBa.out.size))
    clear hB
    go_wp2_with fail
    refine ⟨⟨⟨w12, HBb.out⟩, rfl⟩, hK3 _ _ ?_⟩
    clear hK3
    refine wpG_nil ?_
    repeat (go_big_quiet_step (fail))
    refine wpQuiet_nil ?_
    refine wpG_nil ?_
    have HB12 := Lib.hid (HB10.out.trans (HBb.out.mono HB10.out.size))
    clear HBa HBb
    go_upto_region 11 with fail
    obtain ⟨q0, q1⟩ := HBX.out w12 HB12.out
    have k0 := cell_of_heap q0 0
    have k1 := cell_of_heap q0 1
    have k2 := cell_of_heap q0 2
    have p0 := box_at q1 (i := 0) (by omega)
    have p1 := box_at q1 (i := 1) (by omega)
    have p2 := box_at q1 (i := 2) (by omega)
    simp only [List.getElem?_toArray, List.getElem?_cons_zero, List.getElem?_cons_succ] at k0 k1 k2
    clear q0 q1
    go_wp2_with fail
    refine (H11.out _ HB12.out).mono ?_
    rintro e w13 ⟨rfl, hB⟩
    have HB13 := Lib.hid (HB12.out.trans (hB.mono HB12.out.size))
    clear hB k0 k1 k2 p0 p1 p2
    go_upto_region 12 with fail
    obtain ⟨q0, q1⟩ := HBX.out w13 HB13.out
    have hl := HB13.out.size
    have hs1 := HS1.out
    have g0 := fun (yy : Later w13) => ((bcell yy.h).1 w.heap.size 0 (by omega)).trans (cell_of_heap q0 0)
    have g1 := fun (yy : Later w13) => ((bcell yy.h).1 w.heap.size 1 (by omega)).trans (cell_of_heap q0 1)
    have g2 := fun (yy : Later w13) => ((bcell yy.h).1 w.heap.size 2 (by omega)).trans (cell_of_heap q0 2)
    have b0 := fun (yy : Later w13) => ((bcell yy.h).1 (w.heap.size + 1) 0 (by omega)).trans (box_at q1 (i := 0) (by omega))
    have b1 := fun (yy : Later w13) => ((bcell yy.h).1 (w.heap.size + 1) 1 (by omega)).trans (box_at q1 (i := 1) (by omega))
    have b2 := fun (yy : Later w13) => ((bcell yy.h).1 (w.heap.size + 1) 2 (by omega)).trans (box_at q1 (i := 2) (by omega))
    simp only [List.getElem?_toArray, List.getElem?_cons_zero, List.getElem?_cons_succ] at g0 g1 g2
    clear q0 q1 hl hs1
    obtain ⟨hadd1, hadd2⟩ := HADD.out
    refine wp_region_segs [([0, 1, 2, 3, 4, 5, 6], [7]), ([8], [9]), ([10, 11, 12, 13], [])] 14 (fun w' => ∃ y : Later w13, w' = y.W) ⟨⟨w13.drew, (Below.refl _ _).drew⟩, rfl⟩ (by kernel_rfl) (by kernel_rfl) ?_
    simp only [List.map_cons, List.map_nil, pickOps, List.flatMap_cons, List.flatMap_nil, List.cons_append, List.nil_append, List.take_succ_cons, List.take_zero, List.drop_succ_cons, List.drop_zero, wpSegs]
    repeat (go_big_quiet_step (fail))
    refine wpQuiet_nil ?_
    clear g0 g1 g2 b0 b1 b2
    refine wpG_step ?_
    intro K2 hK2
    go_wp2_with fail
    refine (HT12.out _ HB13.out.drew).mono ?_
    rintro e w14 ⟨rfl, hw⟩
    have HBa := Lib.hid (show Below w13.heap.size w13 w14 from by rw [← hw]; exact (Below.refl _ _).drew)
    clear hw
    go_wp2_with fail
    refine ⟨⟨⟨w14, HBa.out⟩, rfl⟩, hK2 _ _ ?_⟩
    clear hK2
    refine wpG_nil ?_
    repeat (go_big_quiet_step (fail))
    refine wpQuiet_nil ?_
    clear hadd1 hadd2
    refine wpG_step ?_
    intro K3 hK3
    go_wp2_with fail
    refine (H12.out _ (HB13.out.trans (HBa.out.mono HB13.out.size))).mono ?_
    rintro e w15 ⟨rfl, hB⟩
    have HBb := Lib.hid (show Below w13.heap.size w13 w15 from HBa.out.trans (hB.mono HBa.out.size))
    clear hB
    go_wp2_with fail
    refine ⟨⟨⟨w15, HBb.out⟩, rfl⟩, hK3 _ _ ?_⟩
    clear hK3
    refine wpG_nil ?_
    repeat (go_big_quiet_step (fail))
    refine wpQuiet_nil ?_
    refine wpG_nil ?_
    have HB15 := Lib.hid (HB13.out.trans (HBb.out.mono HB13.out.size))
    clear HBa HBb
    go_upto_region 15 with fail
    obtain ⟨q0, q1⟩ := HBX.out w15 HB15.out
    have k0 := cell_of_heap q0 0
    have k1 := cell_of_heap q0 1
    have k2 := cell_of_heap q0 2
    have p0 := box_at q1 (i := 0) (by omega)
    have p1 := box_at q1 (i := 1) (by omega)
    have p2 := box_at q1 (i := 2) (by omega)
    simp only [List.getElem?_toArray, List.getElem?_cons_zero, List.getElem?_cons_succ] at k0 k1 k2
    clear q0 q1
    go_wp2_with fail
    refine (H15.out _ HB15.out).mono ?_
    rintro e w16 ⟨rfl, hB⟩
    have HB16 := Lib.hid (HB15.out.trans (hB.mono HB15.out.size))
    clear hB k0 k1 k2 p0 p1 p2
    go_upto_region 16 with fail
    obtain ⟨q0, q1⟩ := HBX.out w16 HB16.out
    have k0 := cell_of_heap q0 0
    have k1 := cell_of_heap q0 1
    have k2 := cell_of_heap q0 2
    have p0 := box_at q1 (i := 0) (by omega)
    have p1 := box_at q1 (i := 1) (by omega)
    have p2 := box_at q1 (i := 2) (by omega)
    simp only [List.getElem?_toArray, List.getElem?_cons_zero, List.getElem?_cons_succ] at k0 k1 k2
    clear q0 q1
    obtain ⟨hadd1, -⟩ := HADD.out
    go_wp2_with fail
    refine (H16.out _ HB16.out).mono ?_
    rintro e w17 ⟨rfl, hB⟩
    have HB17 := Lib.hid (HB16.out.trans (hB.mono HB16.out.size))
    clear hB k0 k1 k2 p0 p1 p2
    clear hadd1
    go_upto_region 17 with fail
    cases tu with
    | false =>
      go_upto_region 19 with fail
      obtain ⟨q0, q1⟩ := HBX.out w17 HB17.out
      have k0 := cell_of_heap q0 0
      have k1 := cell_of_heap q0 1
      have k2 := cell_of_heap q0 2
      have p0 := box_at q1 (i := 0) (by omega)
      have p1 := box_at q1 (i := 1) (by omega)
      have p2 := box_at q1 (i := 2) (by omega)
      simp only [List.getElem?_toArray, List.getElem?_cons_zero, List.getElem?_cons_succ] at k0 k1 k2
      clear q0 q1
      have hvz := HAW.out _ HB17.out
      obtain ⟨av, cv, hv0, -⟩ := hvz 0 (by omega)
      have HV0 := Lib.hid hv0
      clear hvz hv0
      go_wp2_with fail
      refine (H19.out _ HB17.out).mono ?_
      rintro e w18 ⟨rfl, hB⟩
      have HB18 := Lib.hid (HB17.out.trans (hB.mono HB17.out.size))
      clear hB k0 k1 k2 p0 p1 p2
      cases nm with
      | false =>
        go_wp2_with fail
        go_ret
        exact ⟨rfl, HB0.out.trans (HB18.out.mono HB0.out.size)⟩
      | true =>
        by_cases hq0 : q < 0
        · go_wp2_with fail
          go_ret
          exact ⟨rfl, HB0.out.trans (HB18.out.mono HB0.out.size)⟩
        obtain ⟨z, rfl⟩ : ∃ z : Nat, q = z := ⟨q.toNat, by omega⟩
        obtain ⟨q0, q1⟩ := HBX.out w18 HB18.out
        have p0 := box_at q1 (i := 0) (by omega)
        rw [HV0.out, ← HN.out] at p0
        clear q0 q1
        by_cases hzn : n ≤ z
        · have hzi : (n : Int) ≤ (z : Int) := by omega
          go_wp2_with fail
          go_ret
          exact ⟨rfl, HB0.out.trans (HB18.out.mono HB0.out.size)⟩
        have hzi : ¬ (n : Int) ≤ (z : Int) := by omega
        go_upto_region 22 with fail
        have HH22 := Lib.hid (H22.out z (by rw [← HN.out]; omega) (by simp))
        clear p0 hzi
        obtain ⟨q0, q1⟩ := HBX.out w18 HB18.out
        have k0 := cell_of_heap q0 0
        have k1 := cell_of_heap q0 1
        have k2 := cell_of_heap q0 2
        have p0 := box_at q1 (i := 0) (by omega)
        have p1 := box_at q1 (i := 1) (by omega)
        have p2 := box_at q1 (i := 2) (by omega)
        simp only [List.getElem?_toArray, List.getElem?_cons_zero, List.getElem?_cons_succ] at k0 k1 k2
        clear q0 q1
        go_wp2_with fail
        refine (HH22.out _ HB18.out).mono ?_
        rintro e w19 ⟨rfl, hB⟩
        have HB19 := Lib.hid (HB18.out.trans (hB.mono HB18.out.size))
        clear hB k0 k1 k2 p0 p1 p2
        go_wp2_with fail
        go_ret
        exact ⟨rfl, HB0.out.trans (HB19.out.mono HB0.out.size)⟩
    | true =>
      obtain rfl := HTUV.out rfl
      cases tv with
      | false =>
        go_upto_region 19 with fail
        obtain ⟨q0, q1⟩ := HBX.out w17 HB17.out
        have k0 := cell_of_heap q0 0
        have k1 := cell_of_heap q0 1
        have k2 := cell_of_heap q0 2
        have p0 := box_at q1 (i := 0) (by omega)
        have p1 := box_at q1 (i := 1) (by omega)
        have p2 := box_at q1 (i := 2) (by omega)
        simp only [List.getElem?_toArray, List.getElem?_cons_zero, List.getElem?_cons_succ] at k0 k1 k2
        clear q0 q1
        have hvz := HAW.out _ HB17.out
        obtain ⟨av, cv, hv0, -⟩ := hvz 0 (by omega)
        have HV0 := Lib.hid hv0
        clear hvz hv0
        go_wp2_with fail
        refine (H19.out _ HB17.out).mono ?_
        rintro e w18 ⟨rfl, hB⟩
        have HB18 := Lib.hid (HB17.out.trans (hB.mono HB17.out.size))
        clear hB k0 k1 k2 p0 p1 p2
        cases nm with
        | false =>
          go_wp2_with fail
          go_ret
          exact ⟨rfl, HB0.out.trans (HB18.out.mono HB0.out.size)⟩
        | true =>
          by_cases hq0 : q < 0
          · go_wp2_with fail
            go_ret
            exact ⟨rfl, HB0.out.trans (HB18.out.mono HB0.out.size)⟩
          obtain ⟨z, rfl⟩ : ∃ z : Nat, q = z := ⟨q.toNat, by omega⟩
          obtain ⟨q0, q1⟩ := HBX.out w18 HB18.out
          have p0 := box_at q1 (i := 0) (by omega)
          rw [HV0.out, ← HN.out] at p0
          clear q0 q1
          by_cases hzn : n ≤ z
          · have hzi : (n : Int) ≤ (z : Int) := by omega
            go_wp2_with fail
            go_ret
            exact ⟨rfl, HB0.out.trans (HB18.out.mono HB0.out.size)⟩
          have hzi : ¬ (n : Int) ≤ (z : Int) := by omega
          go_upto_region 22 with fail
          have HH22 := Lib.hid (H22.out z (by rw [← HN.out]; omega) (by simp))
          clear p0 hzi
          obtain ⟨q0, q1⟩ := HBX.out w18 HB18.out
          have k0 := cell_of_heap q0 0
          have k1 := cell_of_heap q0 1
          have k2 := cell_of_heap q0 2
          have p0 := box_at q1 (i := 0) (by omega)
          have p1 := box_at q1 (i := 1) (by omega)
          have p2 := box_at q1 (i := 2) (by omega)
          simp only [List.getElem?_toArray, List.getElem?_cons_zero, List.getElem?_cons_succ] at k0 k1 k2
          clear q0 q1
          go_wp2_with fail
          refine (HH22.out _ HB18.out).mono ?_
          rintro e w19 ⟨rfl, hB⟩
          have HB19 := Lib.hid (HB18.out.trans (hB.mono HB18.out.size))
          clear hB k0 k1 k2 p0 p1 p2
          go_wp2_with fail
          go_ret
          exact ⟨rfl, HB0.out.trans (HB19.out.mono HB0.out.size)⟩
      | true =>
        go_upto_region 19 with fail
        obtain ⟨q0, q1⟩ := HBX.out w17 HB17.out
        have k0 := cell_of_heap q0 0
        have k1 := cell_of_heap q0 1
        have k2 := cell_of_heap q0 2
        have p0 := box_at q1 (i := 0) (by omega)
        have p1 := box_at q1 (i := 1) (by omega)
        have p2 := box_at q1 (i := 2) (by omega)
        simp only [List.getElem?_toArray, List.getElem?_cons_zero, List.getElem?_cons_succ] at k0 k1 k2
        clear q0 q1
        have hvz := HAW.out _ HB17.out
        obtain ⟨av, cv, hv0, -⟩ := hvz 0 (by omega)
        have HV0 := Lib.hid hv0
        clear hvz hv0
        go_wp2_with fail
        refine (H19.out _ HB17.out).mono ?_
        rintro e w18 ⟨rfl, hB⟩
        have HB18 := Lib.hid (HB17.out.trans (hB.mono HB17.out.size))
        clear hB k0 k1 k2 p0 p1 p2
        cases nm with
        | false =>
          go_wp2_with fail
          go_ret
          exact ⟨rfl, HB0.out.trans (HB18.out.mono HB0.out.size)⟩
        | true =>
          by_cases hq0 : q < 0
          · go_wp2_with fail
            go_ret
            exact ⟨rfl, HB0.out.trans (HB18.out.mono HB0.out.size)⟩
          obtain ⟨z, rfl⟩ : ∃ z : Nat, q = z := ⟨q.toNat, by omega⟩
          obtain ⟨q0, q1⟩ := HBX.out w18 HB18.out
          have p0 := box_at q1 (i := 0) (by omega)
          rw [HV0.out, ← HN.out] at p0
          clear q0 q1
          by_cases hzn : n ≤ z
          · have hzi : (n : Int) ≤ (z : Int) := by omega
            go_wp2_with fail
            go_ret
            exact ⟨rfl, HB0.out.trans (HB18.out.mono HB0.out.size)⟩
          have hzi : ¬ (n : Int) ≤ (z : Int) := by omega
          go_upto_region 22 with fail
          have HH22 := Lib.hid (H22.out z (by rw [← HN.out]; omega) (by simp))
          clear p0 hzi
          obtain ⟨q0, q1⟩ := HBX.out w18 HB18.out
          have k0 := cell_of_heap q0 0
          have k1 := cell_of_heap q0 1
          have k2 := cell_of_heap q0 2
          have p0 := box_at q1 (i := 0) (by omega)
          have p1 := box_at q1 (i := 1) (by omega)
          have p2 := box_at q1 (i := 2) (by omega)
          simp only [List.getElem?_toArray, List.getElem?_cons_zero, List.getElem?_cons_succ] at k0 k1 k2
          clear q0 q1
          go_wp2_with fail
          refine (HH22.out _ HB18.out).mono ?_
          rintro e w19 ⟨rfl, hB⟩
          have HB19 := Lib.hid (HB18.out.trans (hB.mono HB18.out.size))
          clear hB k0 k1 k2 p0 p1 p2
          go_wp2_with fail
          go_ret
          exact ⟨rfl, HB0.out.trans (HB19.out.mono HB0.out.size)⟩
end Go.Proofs.YtfdklmpkienfhaaGreat
