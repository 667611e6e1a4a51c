/- The helpers of the laws of chapter 12: readings of slices, equality, clones, kept, small. -/
import Derived.Test.YtfdklmpkienfhaaGreatRf
import Derived.Test.YtfdklmpkienfhaaGreatK24
import Derived.DeepKeys
import Derived.Test.YtfdklmpkienfhaaGreatK14

/- The statements about layer 12: what they lean on: equal lists, equal actions; examples' arguments. -/
namespace Go.Proofs.YtfdklmpkienfhaaGreat
set_option linter.unusedSimpArgs false
set_option linter.unusedVariables false
open Go.RowKit

/-- A slice of n elements, whose cells are read so. -/
def Rd (w : World) (v : Value) (n : Nat) (xs : List Value) : Prop :=
  ∃ (a : Option Addr) (cap : Nat), v = .slice a n cap ∧ ∀ j u, xs[j]? = some u → ∃ g off, a = some ⟨g, off, none⟩ ∧ g < w.heap.size ∧ w.cell? ⟨g, off + j, none⟩ = some u
theorem GR.rd {w : World} {size : Nat} {v : Value} {n : Nat} {xs : List Value} (h : GR w size v n xs) : Rd w v n xs := by
  obtain ⟨a, c, h1, _, h2⟩ := h.open
  exact ⟨a, c, h1, h2⟩
theorem Rd.later {w w' : World} {v : Value} {n : Nat} {xs : List Value} (h : Rd w v n xs) (hb : Below w.heap.size w w') : Rd w' v n xs := by
  obtain ⟨a, c, h1, h2⟩ := h
  refine ⟨a, c, h1, fun j u hj => ?_⟩
  obtain ⟨g, off, h3, h4, h5⟩ := h2 j u hj
  exact ⟨g, off, h3, Nat.lt_of_lt_of_le h4 hb.size, (hb.cell (p := ⟨g, off + j, none⟩) h4).trans h5⟩

set_option maxRecDepth 100000 in
set_option maxHeartbeats 2000000 in
theorem equal_strs {w : World} {va vb : Value} {l m : List (List UInt8)} (ha : Rd w va l.length (l.map str)) (hb : Rd w vb m.length (m.map str)) (hl : l.length ≤ 1000000000) (hm : m.length ≤ 1000000000) :
    Calls Tryz.prog 25 #[va, vb] w fun e w' => e = .returned (.bool (decide (l = m))) ∧ Below w.heap.size w w' := by
  obtain ⟨a1, c1, rfl, hca⟩ := ha
  obtain ⟨a2, c2, rfl, hcb⟩ := hb
  obtain ⟨n, hn⟩ : ∃ n, n = l.length := ⟨_, rfl⟩
  obtain ⟨k, hk⟩ : ∃ k, k = m.length := ⟨_, rfl⟩
  obtain ⟨bb, hbb⟩ : ∃ bb, bb = decide (l = m) := ⟨_, rfl⟩
  rw [← hn, ← hk, ← hbb]
  have HN := Lib.hid (And.intro hn (And.intro hk hbb))
  rw [← hn] at hl
  rw [← hk] at hm
  have HCA := Lib.hid hca; have HCB := Lib.hid hcb
  clear hca hcb hn hk hbb
  go_enter Tryz.func25, Tryz.ntmps25
  by_cases hnk : n = k
  · subst hnk
    have hne : ((n : Int) != (n : Int)) = false := by simp
    go_wp2_with fail
    go_loopw [13] (fun iv wr => ∃ i : Nat, iv = .int .i64 i ∧ i ≤ n ∧ Hid (∀ j, j < i → l[j]? = m[j]?) ∧ Hid (Below w.heap.size w wr)) (fun iv _ => n - (intOf iv).toNat)
    case atStart => exact ⟨0, rfl, Nat.zero_le _, Lib.hid (fun j h => by omega), Lib.hid (Below.refl _ _)⟩
    case round =>
      obtain ⟨i, rfl, hi, HQ, HB⟩ := hrel
      by_cases hin : i < n
      · have hii : (i : Int) < (n : Int) := by omega
        obtain ⟨x, hx⟩ : ∃ x, l[i]? = some x := ⟨_, List.getElem?_eq_getElem (by rw [← HN.out.1]; exact hin)⟩
        obtain ⟨y, hy⟩ : ∃ y, m[i]? = some y := ⟨_, List.getElem?_eq_getElem (by rw [← HN.out.2.1]; exact hin)⟩
        obtain ⟨g1, o1, rfl, hg1, hc1⟩ := HCA.out i (str x) (by rw [List.getElem?_map, hx]; rfl)
        obtain ⟨g2, o2, rfl, hg2, hc2⟩ := HCB.out i (str y) (by rw [List.getElem?_map, hy]; rfl)
        have m1 := (HB.out.cell (p := ⟨g1, o1 + i, none⟩) hg1).trans hc1
        have m2 := (HB.out.cell (p := ⟨g2, o2 + i, none⟩) hg2).trans hc2
        have hz := HB.out.size
        have l1 := fun (yy : Later wr) => ((bcell yy.h).1 g1 (o1 + i) (by omega)).trans m1
        have l2 := fun (yy : Later wr) => ((bcell yy.h).1 g2 (o2 + i) (by omega)).trans m2
        have HXY := Lib.hid (And.intro hx hy)
        unfold str at l1 l2
        clear hx hy hc1 hc2 m1 m2 hz hg1 hg2
        go_upto_region 6 with fail
        refine wp_region_segs [([0, 1, 2, 3, 4, 5, 6, 7], [])] 8 (fun w' => ∃ y : Later wr, w' = y.W) ⟨⟨wr.drew, (Below.refl _ _).drew⟩, rfl⟩ (by kernel_rfl) (by kernel_rfl) ?_
        simp only [List.map_cons, List.map_nil, pickOps, List.flatMap_cons, List.flatMap_nil, List.cons_append, List.nil_append, List.take_succ_cons, List.take_zero, List.drop_succ_cons, List.drop_zero, wpSegs]
        repeat (go_big_quiet_step (fail))
        refine wpQuiet_nil ?_
        refine wpG_nil ?_
        clear l1 l2
        have HB2 := Lib.hid HB.out.drew
        clear HB
        generalize wr.drew = wd at HB2 ⊢
        by_cases hxy : x = y
        · subst hxy
          go_wp2_with fail
          go_roundw
          case rel => exact ⟨i + 1, by go_num, hin, Lib.hid (fun j hj => by
            rcases Nat.lt_or_ge j i with h | h
            · exact HQ.out j h
            · obtain rfl : j = i := by omega
              rw [HXY.out.1, HXY.out.2]), HB2⟩
          case measure => simp [intOf]; omega
        · have hxe : ((⟨x.toArray⟩ : ByteArray).toList == (⟨y.toArray⟩ : ByteArray).toList) = false := by
            rw [beq_eq_false_iff_ne]
            intro h
            rw [ByteArray.toList_eq, ByteArray.toList_eq] at h
            exact hxy (by simpa using h)
          have HXE := Lib.hid hxy
          have hxf : (x == y) = false := by rw [beq_eq_false_iff_ne]; exact hxy
          clear hxy
          go_wp2_with fail
          go_ret
          refine ⟨?_, HB2.out⟩
          have : bb = false := by
            rw [HN.out.2.2, decide_eq_false_iff_not]
            intro e
            have h1 := HXY.out.1
            rw [e, HXY.out.2] at h1
            exact HXE.out (by simpa using h1.symm)
          rw [this]; rfl
      · obtain rfl : i = n := by omega
        have hii : ¬ (i : Int) < (i : Int) := by omega
        go_wp2_with fail
        go_ret
        refine ⟨?_, HB.out⟩
        have : bb = true := by
          rw [HN.out.2.2, decide_eq_true_iff]
          apply List.ext_getElem?
          intro j
          rcases Nat.lt_or_ge j i with h | h
          · exact HQ.out j h
          · have h1 := HN.out
            rw [List.getElem?_eq_none (by omega), List.getElem?_eq_none (by omega)]
        rw [this]; rfl
  · have hne : ((n : Int) != (k : Int)) = true := by rw [bne_iff_ne]; omega
    go_wp2_with fail
    go_ret
    refine ⟨?_, Below.refl _ _⟩
    have : bb = false := by
      rw [HN.out.2.2, decide_eq_false_iff_not]
      rintro rfl
      have := HN.out
      omega
    rw [this]; rfl

set_option maxRecDepth 100000 in
theorem infoEdge : ∃ i, Tryz.prog.info? 37 = some i ∧ i.size = 2 := by
  obtain ⟨i, a, b, c, d⟩ := info_parts (P := Tryz.prog) (e := 37) (z := .agg #[.string ⟨#[]⟩, .int .i64 0]) (size := 2) (bytes := 24) (by kernel_rfl)
  exact ⟨i, a, c⟩
set_option maxRecDepth 100000 in
theorem edge_at (a b : ByteArray) (i j : Int) (d : Nat) (w : World) : (Op.equalIn (d + 2) 37 (.agg #[.string a, .int .i64 i]) (.agg #[.string b, .int .i64 j])).run Tryz.prog w = .ok ((a.toList == b.toList) && (i == j)) w := by
  rw [run_equalIn_struct w (d + 1) 37 _ _ (by kernel_rfl) (by kernel_rfl)]
  have hf : (Tryz.prog.fieldsOf 37).toList.map (fun f => (f.name, f.type, f.offset)) = [("Tile", 9, 0), ("Mirror", 3, 1)] := by kernel_rfl
  generalize (Tryz.prog.fieldsOf 37).toList = fs at hf
  obtain ⟨f1, fs, rfl⟩ : ∃ f1 fs', fs = f1 :: fs' := by cases fs with | nil => simp at hf | cons a b => exact ⟨a, b, rfl⟩
  obtain ⟨f2, fs, rfl⟩ : ∃ f1 fs', fs = f1 :: fs' := by cases fs with | nil => simp at hf | cons a b => exact ⟨a, b, rfl⟩
  simp only [List.map_cons, List.cons.injEq, Prod.mk.injEq, List.map_eq_nil_iff] at hf
  obtain ⟨⟨n1, t1, o1⟩, ⟨n2, t2, o2⟩, rfl⟩ := hf
  have k9 : Tryz.prog.plainKey 9 = true := by kernel_rfl
  have k3 : Tryz.prog.plainKey 3 = true := by kernel_rfl
  have p1 : ∀ (s : ByteArray) (i : Int) W, (part 9 #[.string s, .int .i64 i] 0).run Tryz.prog W = .ok (.string s) W := fun s i W => run_part_plain (P := Tryz.prog) (w := W) k9 (xs := #[.string s, .int .i64 i]) (off := 0) rfl
  have p2 : ∀ (s : ByteArray) (i : Int) W, (part 3 #[.string s, .int .i64 i] 1).run Tryz.prog W = .ok (.int .i64 i) W := fun s i W => run_part_plain (P := Tryz.prog) (w := W) k3 (xs := #[.string s, .int .i64 i]) (off := 1) rfl
  have e1 := fun W => run_equalIn_string (P := Tryz.prog) W d 9 a b Tryz.underlying9
  have e2 := fun W => run_equalIn_int (P := Tryz.prog) W d 3 .i64 .i64 i j Tryz.underlying3
  simp only [Op.eqFields, n1, n2, t1, t2, o1, o2, Sem.run_bind, Sem.run_ite, p1, p2, e1, e2, Result.andThen_ok, Sem.run_pure]
  cases h1 : (a.toList == b.toList) <;> cases h2 : (i == j) <;> simp [e1, e2, h1, h2]
set_option maxRecDepth 100000 in
theorem part_edge0 (a b : ByteArray) (i j : Int) (w : World) : (part 37 #[.string a, .int .i64 i, .string b, .int .i64 j] 0).run Tryz.prog w = .ok (.agg #[.string a, .int .i64 i]) w := by kernel_rfl
set_option maxRecDepth 100000 in
theorem part_edge1 (a b : ByteArray) (i j : Int) (w : World) : (part 37 #[.string a, .int .i64 i, .string b, .int .i64 j] 2).run Tryz.prog w = .ok (.agg #[.string b, .int .i64 j]) w := by kernel_rfl
set_option maxRecDepth 100000 in
theorem pair_at (a b a' b' : ByteArray) (i j i' j' : Int) (d : Nat) (w : World) : (Op.equalIn (d + 3) 38 (.agg #[.string a, .int .i64 i, .string b, .int .i64 j]) (.agg #[.string a', .int .i64 i', .string b', .int .i64 j'])).run Tryz.prog w = .ok (((a.toList == a'.toList) && (i == i')) && ((b.toList == b'.toList) && (j == j'))) w := by
  obtain ⟨q, hq, _⟩ := infoEdge
  rw [run_equalIn_array w (d + 2) _ _ Tryz.underlying38 hq]
  have hc : Tryz.prog.cellsOf 37 = 2 := by kernel_rfl
  rw [hc, show List.range 2 = [0, 1] from rfl]
  have e1 := fun W => edge_at a a' i i' d W
  have e2 := fun W => edge_at b b' j j' d W
  have p1 := fun a b i j W => part_edge0 a b i j W
  have p2 := fun a b i j W => part_edge1 a b i j W
  simp only [Op.eqItems, Sem.run_bind, Sem.run_ite, p1, p2, e1, e2, Result.andThen_ok, Sem.run_pure, Nat.zero_mul, Nat.one_mul]
  cases h1 : ((a.toList == a'.toList) && (i == i')) <;> cases h2 : ((b.toList == b'.toList) && (j == j')) <;> simp
theorem encP_inj {p q : (Hy.Word × Nat) × (Hy.Word × Nat)} (h : encP p = encP q) : p = q := by
  obtain ⟨⟨a, i⟩, b, j⟩ := p
  obtain ⟨⟨c, k⟩, d, l⟩ := q
  simp [encP, str] at h
  obtain ⟨rfl, h1, rfl, h2⟩ := h
  have : i = k := by omega
  have : j = l := by omega
  subst_vars
  rfl
set_option maxRecDepth 100000 in
theorem frac_at (a b i j : Int) (d : Nat) (w : World) : (Op.equalIn (d + 2) 54 (.agg #[.int .i64 a, .int .i64 i]) (.agg #[.int .i64 b, .int .i64 j])).run Tryz.prog w = .ok ((a == b) && (i == j)) w := by
  rw [run_equalIn_struct w (d + 1) 54 _ _ (by kernel_rfl) (by kernel_rfl)]
  have hf : (Tryz.prog.fieldsOf 54).toList.map (fun f => (f.name, f.type, f.offset)) = [("Num", 3, 0), ("Den", 3, 1)] := by kernel_rfl
  generalize (Tryz.prog.fieldsOf 54).toList = fs at hf
  obtain ⟨f1, fs, rfl⟩ : ∃ f1 fs', fs = f1 :: fs' := by cases fs with | nil => simp at hf | cons a b => exact ⟨a, b, rfl⟩
  obtain ⟨f2, fs, rfl⟩ : ∃ f1 fs', fs = f1 :: fs' := by cases fs with | nil => simp at hf | cons a b => exact ⟨a, b, rfl⟩
  simp only [List.map_cons, List.cons.injEq, Prod.mk.injEq, List.map_eq_nil_iff] at hf
  obtain ⟨⟨n1, t1, o1⟩, ⟨n2, t2, o2⟩, rfl⟩ := hf
  have k3 : Tryz.prog.plainKey 3 = true := by kernel_rfl
  have p1 : ∀ (s i : Int) W, (part 3 #[.int .i64 s, .int .i64 i] 0).run Tryz.prog W = .ok (.int .i64 s) W := fun s i W => run_part_plain (P := Tryz.prog) (w := W) k3 (xs := #[.int .i64 s, .int .i64 i]) (off := 0) rfl
  have p2 : ∀ (s i : Int) W, (part 3 #[.int .i64 s, .int .i64 i] 1).run Tryz.prog W = .ok (.int .i64 i) W := fun s i W => run_part_plain (P := Tryz.prog) (w := W) k3 (xs := #[.int .i64 s, .int .i64 i]) (off := 1) rfl
  have e1 := fun W => run_equalIn_int (P := Tryz.prog) W d 3 .i64 .i64 a b Tryz.underlying3
  have e2 := fun W => run_equalIn_int (P := Tryz.prog) W d 3 .i64 .i64 i j Tryz.underlying3
  simp only [Op.eqFields, n1, n2, t1, t2, o1, o2, Sem.run_bind, Sem.run_ite, p1, p2, e1, e2, Result.andThen_ok, Sem.run_pure]
  cases h1 : (a == b) <;> cases h2 : (i == j) <;> simp [e1, e2, h1, h2]
theorem neq_frac (a b i j : Int) (w : World) : (binOp .neq 54 (.agg #[.int .i64 a, .int .i64 i]) (.agg #[.int .i64 b, .int .i64 j])).run Tryz.prog w = .ok (.bool (!((a == b) && (i == j)))) w := by
  rw [run_neq_struct, frac_at a b i j 9998 w]; rfl
theorem eql_frac (a b i j : Int) (w : World) : (binOp .eql 54 (.agg #[.int .i64 a, .int .i64 i]) (.agg #[.int .i64 b, .int .i64 j])).run Tryz.prog w = .ok (.bool ((a == b) && (i == j))) w := by
  rw [run_eql_struct, frac_at a b i j 9998 w]; rfl

theorem bytes_list (l : List UInt8) : (⟨l.toArray⟩ : ByteArray).toList = l := by rw [ByteArray.toList_eq]
theorem neq_pair (p q : (Hy.Word × Nat) × (Hy.Word × Nat)) (w : World) : (binOp .neq 38 (.agg (encP p).toArray) (.agg (encP q).toArray)).run Tryz.prog w = .ok (.bool (!decide (p = q))) w := by
  obtain ⟨⟨a, i⟩, b, j⟩ := p
  obtain ⟨⟨c, k⟩, d, l⟩ := q
  rw [run_neq_struct]
  have h := pair_at ⟨a.toArray⟩ ⟨b.toArray⟩ ⟨c.toArray⟩ ⟨d.toArray⟩ i j k l 9997 w
  simp only [encP, str]
  rw [h]
  have e : ((((⟨a.toArray⟩ : ByteArray).toList == (⟨c.toArray⟩ : ByteArray).toList) && ((i : Int) == (k : Int))) && (((⟨b.toArray⟩ : ByteArray).toList == (⟨d.toArray⟩ : ByteArray).toList) && ((j : Int) == (l : Int)))) = decide ((((a, i), (b, j)) : (Hy.Word × Nat) × (Hy.Word × Nat)) = ((c, k), (d, l))) := by
    rw [bytes_list, bytes_list, bytes_list, bytes_list, Bool.eq_iff_iff]
    simp only [Bool.and_eq_true, beq_iff_eq, decide_eq_true_eq, Prod.mk.injEq]
    constructor
    · rintro ⟨⟨h1, h2⟩, h3, h4⟩; exact ⟨⟨h1, by omega⟩, h3, by omega⟩
    · rintro ⟨⟨h1, h2⟩, h3, h4⟩; exact ⟨⟨h1, by omega⟩, h3, by omega⟩
  rw [e]
  rfl
theorem encP_get (p : (Hy.Word × Nat) × (Hy.Word × Nat)) : (encP p).length = 4 := rfl
theorem pairCells_at : ∀ {L : List ((Hy.Word × Nat) × (Hy.Word × Nat))} {k : Nat} {p : (Hy.Word × Nat) × (Hy.Word × Nat)}, L[k]? = some p → ∀ {c : Nat}, c < 4 → (pairCells L)[k * 4 + c]? = (encP p)[c]?
  | [], k, p, h, c, hc => by simp at h
  | q :: L, 0, p, h, c, hc => by
    simp at h
    subst h
    unfold pairCells
    rw [List.flatMap_cons, Nat.zero_mul, Nat.zero_add, List.getElem?_append_left (by rw [encP_get]; exact hc)]
  | q :: L, k + 1, p, h, c, hc => by
    have ih := pairCells_at (L := L) (k := k) (p := p) (by simpa using h) hc
    unfold pairCells at ih ⊢
    rw [List.flatMap_cons, List.getElem?_append_right (by rw [encP_get]; omega), encP_get, show (k + 1) * 4 + c - 4 = k * 4 + c by omega]
    exact ih

set_option maxRecDepth 100000 in
set_option maxHeartbeats 2000000 in
theorem equal_pairs {w : World} {va vb : Value} {l m : List ((Hy.Word × Nat) × (Hy.Word × Nat))} (ha : Rd w va l.length (pairCells l)) (hb : Rd w vb m.length (pairCells m)) (hl : l.length ≤ 1000000000) (hm : m.length ≤ 1000000000) :
    Calls Tryz.prog 26 #[va, vb] w fun e w' => e = .returned (.bool (decide (l = m))) ∧ Below w.heap.size w w' := by
  obtain ⟨a1, c1, rfl, hca⟩ := ha
  obtain ⟨a2, c2, rfl, hcb⟩ := hb
  obtain ⟨n, hn⟩ : ∃ n, n = l.length := ⟨_, rfl⟩
  obtain ⟨k, hk⟩ : ∃ k, k = m.length := ⟨_, rfl⟩
  obtain ⟨bb, hbb⟩ : ∃ bb, bb = decide (l = m) := ⟨_, rfl⟩
  rw [← hn, ← hk, ← hbb]
  have HN := Lib.hid (And.intro hn (And.intro hk hbb))
  rw [← hn] at hl
  rw [← hk] at hm
  have HCA := Lib.hid hca; have HCB := Lib.hid hcb
  clear hca hcb hn hk hbb
  go_enter Tryz.func26, Tryz.ntmps26
  by_cases hnk : n = k
  · subst hnk
    have hne : ((n : Int) != (n : Int)) = false := by simp
    go_wp2_with fail
    go_loopw [13] (fun iv wr => ∃ i : Nat, iv = .int .i64 i ∧ i ≤ n ∧ Hid (∀ j, j < i → l[j]? = m[j]?) ∧ Hid (Below w.heap.size w wr)) (fun iv _ => n - (intOf iv).toNat)
    case atStart => exact ⟨0, rfl, Nat.zero_le _, Lib.hid (fun j h => by omega), Lib.hid (Below.refl _ _)⟩
    case round =>
      obtain ⟨i, rfl, hi, HQ, HB⟩ := hrel
      by_cases hin : i < n
      · have hii : (i : Int) < (n : Int) := by omega
        obtain ⟨x, hx⟩ : ∃ x, l[i]? = some x := ⟨_, List.getElem?_eq_getElem (by rw [← HN.out.1]; exact hin)⟩
        obtain ⟨y, hy⟩ : ∃ y, m[i]? = some y := ⟨_, List.getElem?_eq_getElem (by rw [← HN.out.2.1]; exact hin)⟩
        have hcell : ∀ {a0 : Option Addr} {xs : List ((Hy.Word × Nat) × (Hy.Word × Nat))} {z : (Hy.Word × Nat) × (Hy.Word × Nat)}, (∀ j u, (pairCells xs)[j]? = some u → ∃ g off, a0 = some ⟨g, off, none⟩ ∧ g < w.heap.size ∧ w.cell? ⟨g, off + j, none⟩ = some u) → xs[i]? = some z →
            ∃ g off, a0 = some ⟨g, off, none⟩ ∧ g < w.heap.size ∧ ∀ c u, c < 4 → (encP z)[c]? = some u → w.cell? ⟨g, off + (i * 4 + c), none⟩ = some u := fun hc hz => by
          obtain ⟨g, off, h1, h2, _⟩ := hc (i * 4 + 0) _ ((pairCells_at hz (by omega : 0 < 4)).trans rfl)
          refine ⟨g, off, h1, h2, fun c u hc4 hu => ?_⟩
          obtain ⟨g', off', h3, _, h4⟩ := hc (i * 4 + c) u ((pairCells_at hz hc4).trans hu)
          rw [h1] at h3
          simp only [Option.some.injEq, Addr.mk.injEq, and_true] at h3
          obtain ⟨rfl, rfl⟩ := h3
          exact h4
        obtain ⟨g1, o1, rfl, hg1, hc1⟩ := hcell HCA.out hx
        obtain ⟨g2, o2, rfl, hg2, hc2⟩ := hcell HCB.out hy
        have hz := HB.out.size
        have l1 := fun (c : Nat) u (hc : c < 4) (hu : (encP x)[c]? = some u) (yy : Later wr) => ((bcell yy.h).1 g1 (o1 + (i * 4 + c)) (by omega)).trans ((HB.out.cell (p := ⟨g1, o1 + (i * 4 + c), none⟩) hg1).trans (hc1 c u hc hu))
        have l2 := fun (c : Nat) u (hc : c < 4) (hu : (encP y)[c]? = some u) (yy : Later wr) => ((bcell yy.h).1 g2 (o2 + (i * 4 + c)) (by omega)).trans ((HB.out.cell (p := ⟨g2, o2 + (i * 4 + c), none⟩) hg2).trans (hc2 c u hc hu))
        obtain ⟨x0, x1, x2, x3, hxe⟩ : ∃ x0 x1 x2 x3, encP x = [x0, x1, x2, x3] := ⟨_, _, _, _, rfl⟩
        obtain ⟨y0, y1, y2, y3, hye⟩ : ∃ x0 x1 x2 x3, encP y = [x0, x1, x2, x3] := ⟨_, _, _, _, rfl⟩
        have q0 := l1 0 x0 (by omega) (by rw [hxe]; rfl)
        have q1 := l1 1 x1 (by omega) (by rw [hxe]; rfl)
        have q2 := l1 2 x2 (by omega) (by rw [hxe]; rfl)
        have q3 := l1 3 x3 (by omega) (by rw [hxe]; rfl)
        have r0 := l2 0 y0 (by omega) (by rw [hye]; rfl)
        have r1 := l2 1 y1 (by omega) (by rw [hye]; rfl)
        have r2 := l2 2 y2 (by omega) (by rw [hye]; rfl)
        have r3 := l2 3 y3 (by omega) (by rw [hye]; rfl)
        simp only [← Nat.add_assoc, Nat.add_zero] at q0 q1 q2 q3 r0 r1 r2 r3
        have hnq := fun W => neq_pair x y W
        rw [hxe, hye] at hnq
        have HXY := Lib.hid (And.intro hx hy)
        clear hx hy hc1 hc2 l1 l2 hz hg1 hg2 hcell hxe hye
        go_upto_region 6 with fail
        refine wp_region_segs [([0, 1, 2, 3, 4, 5, 6, 7], [])] 8 (fun w' => ∃ y : Later wr, w' = y.W) ⟨⟨wr.drew, (Below.refl _ _).drew⟩, rfl⟩ (by kernel_rfl) (by kernel_rfl) ?_
        simp only [List.map_cons, List.map_nil, pickOps, List.flatMap_cons, List.flatMap_nil, List.cons_append, List.nil_append, List.take_succ_cons, List.take_zero, List.drop_succ_cons, List.drop_zero, wpSegs]
        repeat (go_big_quiet_step (fail))
        refine wpQuiet_nil ?_
        refine wpG_nil ?_
        clear q0 q1 q2 q3 r0 r1 r2 r3
        have HB2 := Lib.hid HB.out.drew
        clear HB
        generalize wr.drew = wd at HB2 ⊢
        by_cases hxy : x = y
        · have hd : decide (x = y) = true := decide_eq_true hxy
          rw [hd] at hnq
          have HXE := Lib.hid hxy
          clear hxy hd
          go_wp2_with fail
          go_roundw
          case rel => exact ⟨i + 1, by go_num, hin, Lib.hid (fun j hj => by
            rcases Nat.lt_or_ge j i with h | h
            · exact HQ.out j h
            · obtain rfl : j = i := by omega
              rw [HXY.out.1, HXY.out.2, HXE.out]), HB2⟩
          case measure => simp [intOf]; omega
        · have hd : decide (x = y) = false := decide_eq_false hxy
          rw [hd] at hnq
          have HXE := Lib.hid hxy
          clear hxy hd
          go_wp2_with fail
          go_ret
          refine ⟨?_, HB2.out⟩
          have : bb = false := by
            rw [HN.out.2.2, decide_eq_false_iff_not]
            intro e
            have h1 := HXY.out.1
            rw [e, HXY.out.2] at h1
            exact HXE.out (by simpa using h1.symm)
          rw [this]; rfl
      · obtain rfl : i = n := by omega
        have hii : ¬ (i : Int) < (i : Int) := by omega
        go_wp2_with fail
        go_ret
        refine ⟨?_, HB.out⟩
        have : bb = true := by
          rw [HN.out.2.2, decide_eq_true_iff]
          apply List.ext_getElem?
          intro j
          rcases Nat.lt_or_ge j i with h | h
          · exact HQ.out j h
          · have h1 := HN.out
            rw [List.getElem?_eq_none (by omega), List.getElem?_eq_none (by omega)]
        rw [this]; rfl
  · have hne : ((n : Int) != (k : Int)) = true := by rw [bne_iff_ne]; omega
    go_wp2_with fail
    go_ret
    refine ⟨?_, Below.refl _ _⟩
    have : bb = false := by
      rw [HN.out.2.2, decide_eq_false_iff_not]
      rintro rfl
      have := HN.out
      omega
    rw [this]; rfl
end Go.Proofs.YtfdklmpkienfhaaGreat

/- The statements about layer 12: equal actions; the examples' arguments; actions in memory of their own. -/
namespace Go.Proofs.YtfdklmpkienfhaaGreat
set_option linter.unusedSimpArgs false
set_option linter.unusedVariables false
open Go.RowKit

/-- Are lists the same? -/
def eqA (A B : Nat → List Int) : Bool := decide (A 0 = B 0 ∧ A 1 = B 1 ∧ A 2 = B 2)
theorem eqA_true {A B : Nat → List Int} : eqA A B = true ↔ ∀ i, i < 3 → A i = B i := by
  unfold eqA
  rw [decide_eq_true_iff]
  constructor
  · rintro ⟨h0, h1, h2⟩ i hi
    obtain rfl | rfl | rfl : i = 0 ∨ i = 1 ∨ i = 2 := by omega
    · exact h0
    · exact h1
    · exact h2
  · intro h
    exact ⟨h 0 (by omega), h 1 (by omega), h 2 (by omega)⟩
theorem eqA_false {A B : Nat → List Int} {i : Nat} (hi : i < 3) (h : A i ≠ B i) : eqA A B = false := by
  cases e : eqA A B
  · rfl
  · exact absurd (eqA_true.1 e i hi) h

set_option maxRecDepth 100000 in
set_option maxHeartbeats 4000000 in
theorem r12_Equal {V1 V2 : Nat → Value} {A1 A2 : Nat → List Int} {w : World} (h1 : AR w.heap.size w V1 A1) (h2 : AR w.heap.size w V2 A2) (hl1 : ∀ i, i < 3 → (A1 i).length ≤ 1000000000) (hl2 : ∀ i, i < 3 → (A2 i).length ≤ 1000000000) :
    Calls Tryz.prog 24 #[actV V1, actV V2] w fun e w' => e = .returned (.bool (eqA A1 A2)) ∧ Below w.heap.size w w' := by
  obtain ⟨W1, hW1⟩ : ∃ W1, W1 = (w.alloc (.cells #[V1 0, V1 1, V1 2] 27)).alloc (.cells #[V2 0, V2 1, V2 2] 27) := ⟨_, rfl⟩
  have HS1 := Lib.hid (show W1.heap.size = w.heap.size + 2 from by rw [hW1]; simp)
  have HB1 := Lib.hid (show Below w.heap.size w W1 from by rw [hW1]; exact ((Below.refl w.heap.size w).alloc (Nat.le_refl _) _).alloc (by simp) _)
  have HQ0 := Lib.hid (show W1.heap[w.heap.size]? = some (.cells #[V1 0, V1 1, V1 2] 27) from by rw [hW1, Below.heap_alloc _ _ _ (by simp)]; exact alloc_heap_new w _)
  have HQ1 := Lib.hid (show W1.heap[w.heap.size + 1]? = some (.cells #[V2 0, V2 1, V2 2] 27) from by
    rw [hW1]
    have := alloc_heap_new (w.alloc (.cells #[V1 0, V1 1, V1 2] 27)) (.cells #[V2 0, V2 1, V2 2] 27)
    rwa [World.size_alloc] at this)
  have H1 := Lib.hid h1; have H2 := Lib.hid h2
  have HL1 := Lib.hid hl1; have HL2 := Lib.hid hl2
  obtain ⟨bb, hbb⟩ : ∃ bb, bb = eqA A1 A2 := ⟨_, rfl⟩
  rw [← hbb]
  have HBB := Lib.hid hbb
  clear h1 h2 hl1 hl2 hbb
  unfold actV
  go_enter Tryz.func24, Tryz.ntmps24
  go_upto_region 1 with fail
  rw [← hW1]
  clear hW1
  go_wp2_with fail
  go_loopw [5] (fun iv wr => ∃ i : Nat, iv = .int .i64 i ∧ i ≤ 3 ∧ Hid (∀ i', i' < i → A1 i' = A2 i') ∧ Hid (Below W1.heap.size W1 wr)) (fun iv _ => 3 - (intOf iv).toNat)
  case atStart => exact ⟨0, rfl, Nat.zero_le _, Lib.hid (fun j h => by omega), Lib.hid (Below.refl _ _)⟩
  case round =>
    obtain ⟨i, rfl, hi, HI, HB⟩ := hrel
    by_cases hi3 : i < 3
    · have hii : (i : Int) < 3 := by omega
      obtain ⟨a1, c1, hv1, hc1, hcell1⟩ := H1.out i hi3
      obtain ⟨a2, c2, hv2, hc2, hcell2⟩ := H2.out i hi3
      obtain ⟨n, hn⟩ : ∃ n, n = (A1 i).length := ⟨_, rfl⟩
      obtain ⟨m, hm⟩ : ∃ m, m = (A2 i).length := ⟨_, rfl⟩
      have hnl : n ≤ 1000000000 := by rw [hn]; exact HL1.out i hi3
      have hml : m ≤ 1000000000 := by rw [hm]; exact HL2.out i hi3
      rw [← hn] at hv1 hcell1
      rw [← hm] at hv2 hcell2
      have hz := HB.out.size
      have hs := HS1.out
      have b1 := box_at ((HB.out.block w.heap.size (by omega)).trans HQ0.out) hi3
      have b2 := box_at ((HB.out.block (w.heap.size + 1) (by omega)).trans HQ1.out) hi3
      rw [hv1] at b1
      rw [hv2] at b2
      have l1 := fun (yy : Later wr) => ((bcell yy.h).1 w.heap.size i (by omega)).trans b1
      have l2 := fun (yy : Later wr) => ((bcell yy.h).1 (w.heap.size + 1) i (by omega)).trans b2
      have HV12 := Lib.hid (And.intro hv1 hv2)
      have HC1 := Lib.hid hcell1; have HC2 := Lib.hid hcell2; have HNM := Lib.hid (And.intro hn hm)
      clear hv1 hv2 hcell1 hcell2 hn hm hz hs b1 b2 hc1 hc2
      go_upto_region 4 with fail
      refine wp_region_segs [([0, 1, 2, 3, 4, 5, 6, 7, 8, 9], [])] 10 (fun w' => ∃ y : Later wr, w' = y.W) ⟨⟨wr.drew, (Below.refl _ _).drew⟩, rfl⟩ (by kernel_rfl) (by kernel_rfl) ?_
      simp only [List.map_cons, List.map_nil, pickOps, List.flatMap_cons, List.flatMap_nil, List.cons_append, List.nil_append, List.take_succ_cons, List.take_zero, List.drop_succ_cons, List.drop_zero, wpSegs]
      repeat (go_big_quiet_step (fail))
      refine wpQuiet_nil ?_
      refine wpG_nil ?_
      clear l1 l2
      have HB2 := Lib.hid HB.out.drew
      clear HB
      generalize wr.drew = wd at HB2 ⊢
      by_cases hnm : n = m
      · subst hnm
        have hne : ((n : Int) != (n : Int)) = false := by simp
        go_wp2_with fail
        go_loopw [6] (fun kv wx => ∃ k : Nat, kv = .int .i64 k ∧ k ≤ n ∧ Hid (∀ j, j < k → (A1 i).getD j 0 = (A2 i).getD j 0) ∧ Hid (Below W1.heap.size W1 wx)) (fun kv _ => n - (intOf kv).toNat)
        case atStart => exact ⟨0, rfl, Nat.zero_le _, Lib.hid (fun j h => by omega), HB2⟩
        case round =>
          clear HB2
          obtain ⟨k, rfl, hk, HK, HB⟩ := hrel
          have hz := HB.out.size
          have hs := HS1.out
          have b1 := box_at ((HB.out.block w.heap.size (by omega)).trans HQ0.out) hi3
          have b2 := box_at ((HB.out.block (w.heap.size + 1) (by omega)).trans HQ1.out) hi3
          rw [HV12.out.1] at b1
          rw [HV12.out.2] at b2
          by_cases hkn : k < n
          · have hki : (k : Int) < (n : Int) := by omega
            obtain ⟨g1, o1, rfl, hg1, hx1⟩ := HC1.out k hkn
            obtain ⟨g2, o2, rfl, hg2, hx2⟩ := HC2.out k hkn
            obtain ⟨x, hx⟩ : ∃ x, x = (A1 i).getD k 0 := ⟨_, rfl⟩
            obtain ⟨y, hy⟩ : ∃ y, y = (A2 i).getD k 0 := ⟨_, rfl⟩
            rw [← hx] at hx1
            rw [← hy] at hx2
            have hbw := HB1.out.trans (HB.out.mono HB1.out.size)
            have m1 := (hbw.cell (p := ⟨g1, o1 + k, none⟩) hg1).trans hx1
            have m2 := (hbw.cell (p := ⟨g2, o2 + k, none⟩) hg2).trans hx2
            have l1 := fun (yy : Later wr) => ((bcell yy.h).1 w.heap.size i (by omega)).trans b1
            have l2 := fun (yy : Later wr) => ((bcell yy.h).1 (w.heap.size + 1) i (by omega)).trans b2
            have l3 := fun (yy : Later wr) => ((bcell yy.h).1 g1 (o1 + k) (by omega)).trans m1
            have l4 := fun (yy : Later wr) => ((bcell yy.h).1 g2 (o2 + k) (by omega)).trans m2
            have HXY := Lib.hid (And.intro hx hy)
            clear hx hy hx1 hx2 hbw m1 m2 hz hs hg1 hg2 b2
            go_upto_region 9 with fail
            clear b1
            refine wp_region_segs [([0, 1, 2, 3, 4, 5, 6, 7, 8, 9, 10, 11, 12, 13], [])] 14 (fun w' => ∃ y : Later wr, w' = y.W) ⟨⟨wr.drew, (Below.refl _ _).drew⟩, rfl⟩ (by kernel_rfl) (by kernel_rfl) ?_
            simp only [List.map_cons, List.map_nil, pickOps, List.flatMap_cons, List.flatMap_nil, List.cons_append, List.nil_append, List.take_succ_cons, List.take_zero, List.drop_succ_cons, List.drop_zero, wpSegs]
            repeat (go_big_quiet_step (fail))
            refine wpQuiet_nil ?_
            refine wpG_nil ?_
            clear l1 l2 l3 l4
            have HB3 := Lib.hid HB.out.drew
            clear HB
            generalize wr.drew = we at HB3 ⊢
            by_cases hxy : x = y
            · have hne2 : (x != y) = false := by rw [hxy]; simp
              have HE := Lib.hid hxy
              clear hxy
              go_wp2_with fail
              go_roundw
              case rel => exact ⟨k + 1, by go_num, hkn, Lib.hid (fun j hj => by
                rcases Nat.lt_or_ge j k with h | h
                · exact HK.out j h
                · obtain rfl : j = k := by omega
                  rw [← HXY.out.1, ← HXY.out.2, HE.out]), HB3⟩
              case measure => simp [intOf]; omega
            · have hne2 : (x != y) = true := by rw [bne_iff_ne]; exact hxy
              have HE := Lib.hid hxy
              clear hxy
              go_wp2_with fail
              go_ret
              refine ⟨?_, HB1.out.trans (HB3.out.mono HB1.out.size)⟩
              rw [HBB.out, eqA_false hi3 (fun e => HE.out (by rw [HXY.out.1, HXY.out.2, e]))]; rfl
          · obtain rfl : k = n := by omega
            have hki : ¬ (k : Int) < (k : Int) := by omega
            have HE := Lib.hid (show A1 i = A2 i from by
              apply List.ext_getElem?
              intro j
              have h1 := HNM.out
              rcases Nat.lt_or_ge j k with h | h
              · have h2 := HK.out j h
                rw [List.getD, List.getD, List.getElem?_eq_getElem (by omega), List.getElem?_eq_getElem (by omega)] at h2
                rw [List.getElem?_eq_getElem (by omega), List.getElem?_eq_getElem (by omega)]
                exact congrArg some h2
              · rw [List.getElem?_eq_none (by omega), List.getElem?_eq_none (by omega)])
            clear hz hs b2
            go_wp2_with fail
            go_roundw
            case rel => exact ⟨i + 1, by go_num, by omega, Lib.hid (fun i' hi' => by
              rcases Nat.lt_or_ge i' i with h | h
              · exact HI.out i' h
              · obtain rfl : i' = i := by omega
                exact HE.out), HB⟩
            case measure => simp [intOf]; omega
      · have hne : ((n : Int) != (m : Int)) = true := by rw [bne_iff_ne]; omega
        go_wp2_with fail
        go_ret
        refine ⟨?_, HB1.out.trans (HB2.out.mono HB1.out.size)⟩
        rw [HBB.out, eqA_false hi3 (fun e => hnm (by rw [HNM.out.1, HNM.out.2, e]))]; rfl
    · obtain rfl : i = 3 := by omega
      have hii : ¬ ((3 : Nat) : Int) < 3 := by omega
      go_wp2_with fail
      go_ret
      refine ⟨?_, HB1.out.trans (HB.out.mono HB1.out.size)⟩
      rw [HBB.out, eqA_true.2 HI.out]; rfl
set_option maxRecDepth 100000 in
set_option maxHeartbeats 2000000 in
/-- A slice that is not none. -/
theorem clone_at (w : World) (p : Addr) (cap : Nat) (l : List Int) (hl : l.length ≤ 900000000) (hc : ∀ k, k < l.length → w.cell? (p.add k) = some (.int .i64 (l.getD k 0)) ∧ (p.add k).block < w.heap.size) :
    Calls Tryz.prog 59 #[.slice (some p) l.length cap] w fun e w' => ∃ v g', e = .returned v ∧ QRow w' g' 1 v l.length (nums .i64 l) ∧ w.heap.size ≤ g' ∧ Below w.heap.size w w' := by
  have hnew := QRow.new w [] 0 1 3 rfl (by simp [maxLen])
  obtain ⟨n, hn⟩ : ∃ n, n = l.length := ⟨_, rfl⟩
  obtain ⟨xs, hxs⟩ : ∃ xs, xs = nums .i64 l := ⟨_, rfl⟩
  have hxl : xs.length = n * 1 := by rw [hxs, hn]; simp [nums]
  have hcells : ∀ (j : Nat) (u : Value), xs[j]? = some u → (w.alloc (.cells #[] 3)).cell? (p.add j) = some u := fun j u hj => by
    have hjl : j < l.length := by have := (List.getElem?_eq_some_iff.1 hj).1; rw [hxs] at this; simpa [nums] using this
    rw [World.cell?_alloc_lt _ _ _ (hc j hjl).2, (hc j hjl).1]
    rw [hxs, nums_getD hjl] at hj
    exact hj
  have hone : ∀ u ∈ xs, u.oneCell' = true := fun u hu => by
    rw [hxs] at hu
    obtain ⟨x, _, rfl⟩ := List.mem_map.1 hu
    rfl
  have HSRC := Lib.hid (Src.ofSlice (P := Tryz.prog) (w.alloc (.cells #[] 3)) Tryz.underlying24 p n cap xs hxl hcells hone)
  have HNEW := Lib.hid hnew
  have HX := Lib.hid (And.intro hn hxs)
  have HN := Lib.hid (show 0 + n ≤ 1000000000 from by omega)
  rw [← hn, ← hxs]
  clear hnew hcells hone hxl hc hn hxs hl
  have heq : ∀ W : World, Sem.run Tryz.prog (binOp .eql 24 (.slice (some p) n cap) (.slice none 0 0)) W = .ok (.bool false) W := fun W => by kernel_rfl
  go_enter Tryz.func59, Tryz.ntmps59
  go_wp2_with (at_builtin; refine wpList_queueSrc rowInt rfl _ _ rfl (v := .slice (some ⟨w.heap.size, 0, none⟩) 0 0) rfl HNEW.out rfl HSRC.out HN.out ?_)
  intro v' w' g' hq ho hg'
  obtain ⟨off', cap', hve, -⟩ := id hq
  subst hve
  have HQ := Lib.hid hq
  have HO := Lib.hid ho
  have HG := Lib.hid hg'
  clear hq ho hg'
  go_wp2_with fail
  go_ret
  refine ⟨_, g', rfl, by have := HQ.out; (try simp only [Nat.zero_add, List.nil_append] at this); exact this, ?_, ?_⟩
  · have := HG.out
    (try rw [World.size_alloc] at this)
    omega
  · exact ((Below.refl _ w).alloc (Nat.le_refl _) _).trans (HO.out.below (fun k hk => by (try rw [World.size_alloc] at hk); omega))

set_option maxRecDepth 100000 in
theorem clone_none (w : World) (cap : Nat) : Calls Tryz.prog 59 #[.slice none 0 cap] w fun e w' => e = .returned (.slice none 0 0) ∧ w' = w := by
  have heq : ∀ W : World, Sem.run Tryz.prog (binOp .eql 24 (.slice none 0 cap) (.slice none 0 0)) W = .ok (.bool true) W := fun W => by kernel_rfl
  go_enter Tryz.func59, Tryz.ntmps59
  go_wp2_with fail
  go_ret
  exact ⟨rfl, rfl⟩
/-- A copy in memory of its own. -/
theorem clone_any {N : Nat} {w : World} {v : Value} {l : List Int} (h : RS N w v l) (hN : N ≤ w.heap.size) (hl : l.length ≤ 900000000) :
    Calls Tryz.prog 59 #[v] w fun e w' => ∃ v', e = .returned v' ∧ GR w' 1 v' l.length (nums .i64 l) ∧ Below w.heap.size w w' ∧ ∀ b, v'.ownBlock = some b → w.heap.size ≤ b := by
  obtain ⟨a, cap, rfl, hc, hcell⟩ := h
  cases a with
  | none =>
    have hl0 : l = [] := by
      cases l with
      | nil => rfl
      | cons x r =>
        obtain ⟨g, off, h, _⟩ := hcell 0 (by simp)
        cases h
    subst hl0
    refine (clone_none w cap).mono ?_
    rintro e w' ⟨rfl, rfl⟩
    exact ⟨_, rfl, GR.nil _ _, Below.refl _ _, fun b hb => by simp [Value.ownBlock] at hb⟩
  | some p =>
    refine (clone_at w p cap l hl (fun k hk => ?_)).mono ?_
    · obtain ⟨g, off, h1, h2, h3⟩ := hcell k hk
      cases h1
      rw [Addr.add_lit]
      exact ⟨h3, Nat.lt_of_lt_of_le h2 hN⟩
    · rintro e w' ⟨v', g', rfl, hq, hg, hB⟩
      refine ⟨v', rfl, .inr ⟨g', hq⟩, hB, fun b hb => ?_⟩
      obtain ⟨off, c, rfl, _⟩ := hq
      simp [Value.ownBlock] at hb
      omega

set_option maxRecDepth 100000 in
theorem law12_world (w : World) : Calls Tryz.prog 47 #[] w fun e w' => e = .returned (ordersV 3 7 2) ∧ Below w.heap.size w w' := by
  unfold ordersV
  go_enter Tryz.func47, Tryz.ntmps47
  go_wp2_with fail
  exact bodyPost_ret (v := .agg #[.int .i64 3, .int .i64 7, .int .i64 2]) (by simp [results, Tryz.results47, go_sem]) rfl ⟨rfl, by first | exact ((Below.refl _ _).alloc (Nat.le_refl _) _) | (simp; exact ((Below.refl _ _).alloc (Nat.le_refl _) _))⟩
def evenA : Nat → List Int := fun _ => [1, 0]
set_option maxRecDepth 100000 in
theorem law12_even (w : World) : Calls Tryz.prog 48 #[] w fun e w' => ∃ V, e = .returned (actV V) ∧ AR w'.heap.size w' V evenA ∧ Below w.heap.size w w' := by
  go_enter Tryz.func48, Tryz.ntmps48
  go_wp2_with fail
  obtain ⟨hs, hB, q0, q1, q2, q3⟩ := alloc4 w (.cells #[.slice (some ⟨w.heap.size + 1, 0, none⟩) 2 2, .slice (some ⟨w.heap.size + 1 + 1, 0, none⟩) 2 2, .slice (some ⟨w.heap.size + 1 + 1 + 1, 0, none⟩) 2 2] 27) (.cells #[.int .i64 1, .int .i64 0] 3) (.cells #[.int .i64 1, .int .i64 0] 3) (.cells #[.int .i64 1, .int .i64 0] 3)
  generalize (((w.alloc (.cells #[.slice (some ⟨w.heap.size + 1, 0, none⟩) 2 2, .slice (some ⟨w.heap.size + 1 + 1, 0, none⟩) 2 2, .slice (some ⟨w.heap.size + 1 + 1 + 1, 0, none⟩) 2 2] 27)).alloc (.cells #[.int .i64 1, .int .i64 0] 3)).alloc (.cells #[.int .i64 1, .int .i64 0] 3)).alloc (.cells #[.int .i64 1, .int .i64 0] 3) = W1 at hs hB q0 q1 q2 q3 ⊢
  have c0 := cell_of_heap q0 0
  have c1 := cell_of_heap q0 1
  have c2 := cell_of_heap q0 2
  simp only [List.getElem?_toArray, List.getElem?_cons_zero, List.getElem?_cons_succ] at c0 c1 c2
  refine bodyPost_ret (v := .agg #[.slice (some ⟨w.heap.size + 1, 0, none⟩) 2 2, .slice (some ⟨w.heap.size + 1 + 1, 0, none⟩) 2 2, .slice (some ⟨w.heap.size + 1 + 1 + 1, 0, none⟩) 2 2]) (by simp [results, Tryz.results48, go_sem, c0, c1, c2]) rfl ?_
  have key : ∀ b, b < W1.heap.size → W1.heap[b]? = some (.cells #[.int .i64 1, .int .i64 0] 3) → RS W1.heap.size W1 (.slice (some ⟨b, 0, none⟩) 2 2) [1, 0] := fun b hb hq => ⟨_, 2, rfl, Nat.le_refl _, fun k hk => ⟨b, 0, rfl, hb, by
    rw [cell_of_heap hq]
    have : k = 0 ∨ k = 1 := by simp at hk; omega
    rcases this with rfl | rfl <;> rfl⟩⟩
  refine ⟨fun i => .slice (some ⟨w.heap.size + 1 + i, 0, none⟩) 2 2, rfl, fun i hi => ?_, hB⟩
  obtain rfl | rfl | rfl : i = 0 ∨ i = 1 ∨ i = 2 := by omega
  · exact key _ (by omega) q1
  · exact key _ (by omega) q2
  · exact key _ (by omega) q3

set_option maxRecDepth 100000 in
set_option maxHeartbeats 2000000 in
/-- An action in memory of its own. -/
theorem law12_kept {V : Nat → Value} {A : Nat → List Int} {w : World} (hA : AR w.heap.size w V A) (hl : ∀ i, i < 3 → (A i).length ≤ 900000000) :
    Calls Tryz.prog 12 #[actV V] w fun e w' => ∃ V', e = .returned (actV V') ∧ AR w'.heap.size w' V' A ∧ Below w.heap.size w w' := by
  obtain ⟨W1, hW1⟩ : ∃ W1, W1 = (w.alloc (.cells #[V 0, V 1, V 2] 27)).alloc (.cells #[.slice none 0 0, .slice none 0 0, .slice none 0 0] 27) := ⟨_, rfl⟩
  have HS1 := Lib.hid (show W1.heap.size = w.heap.size + 2 from by rw [hW1]; simp)
  have HB1 := Lib.hid (show Below w.heap.size w W1 from by rw [hW1]; exact ((Below.refl w.heap.size w).alloc (Nat.le_refl _) _).alloc (by simp) _)
  have HQ0 := Lib.hid (show W1.heap[w.heap.size]? = some (.cells #[V 0, V 1, V 2] 27) from by rw [hW1, Below.heap_alloc _ _ _ (by simp)]; exact alloc_heap_new w _)
  have HQ1 := Lib.hid (show W1.heap[w.heap.size + 1]? = some (.cells #[.slice none 0 0, .slice none 0 0, .slice none 0 0] 27) from by
    rw [hW1]
    have := alloc_heap_new (w.alloc (.cells #[V 0, V 1, V 2] 27)) (.cells #[.slice none 0 0, .slice none 0 0, .slice none 0 0] 27)
    rwa [World.size_alloc] at this)
  have HCL := Lib.hid (fun i (hi : i < 3) W (hB : Below w.heap.size w W) => clone_any (w := W) ((hA i hi).below hB) hB.size (hl i hi))
  clear hA hl
  unfold actV
  go_enter Tryz.func12, Tryz.ntmps12
  go_upto_region 1 with fail
  rw [← hW1]
  clear hW1
  have la : w.heap.size < W1.heap.size := by have := HS1.out; omega
  have l0 := fun (yy : Later W1) => ((bcell yy.h).1 w.heap.size 0 la).trans (box_at HQ0.out (i := 0) (by omega))
  have l1 := fun (yy : Later W1) => ((bcell yy.h).1 w.heap.size 1 la).trans (box_at HQ0.out (i := 1) (by omega))
  have l2 := fun (yy : Later W1) => ((bcell yy.h).1 w.heap.size 2 la).trans (box_at HQ0.out (i := 2) (by omega))
  refine wp_region_segs [([0, 1, 2, 4, 5, 6, 8, 9, 10], [3, 7, 11]), ([12, 13], [])] 14 (fun w' => ∃ y : Later W1, w' = y.W) ⟨⟨W1.drew, (Below.refl _ _).drew⟩, rfl⟩ (by kernel_rfl) (by kernel_rfl) ?_
  simp only [List.map_cons, List.map_nil, pickOps, List.flatMap_cons, List.flatMap_nil, List.cons_append, List.nil_append, List.take_succ_cons, List.take_zero, List.drop_succ_cons, List.drop_zero, wpSegs]
  repeat (go_big_quiet_step (fail))
  refine wpQuiet_nil ?_
  clear l0 l1 l2
  refine wpG_step ?_
  intro K2 hK2
  go_wp2_with fail
  refine (HCL.out 0 (by omega) _ (HB1.out.trans ((Below.refl _ W1).drew.mono HB1.out.size))).mono ?_
  rintro e w2 ⟨v0, rfl, hg0, hB, ho0⟩
  have HB2 := Lib.hid (show Below W1.heap.size W1 w2 from below_undrew hB)
  have HG0 := Lib.hid hg0
  have HO0 := Lib.hid ho0
  clear hB hg0 ho0
  go_wp2_with fail
  refine ⟨⟨⟨w2, HB2.out⟩, rfl⟩, hK2 _ _ ?_⟩
  clear hK2
  refine wpG_step ?_
  intro K3 hK3
  go_wp2_with fail
  refine (HCL.out 1 (by omega) _ (HB1.out.trans (HB2.out.mono HB1.out.size))).mono ?_
  rintro e w3 ⟨v1, rfl, hg1, hB, ho1⟩
  have HB3 := Lib.hid (HB2.out.trans (hB.mono HB2.out.size))
  have HG0' := Lib.hid (HG0.out.later hB)
  have HG1 := Lib.hid hg1
  have HO1 := Lib.hid ho1
  clear hB hg1 ho1 HG0
  go_wp2_with fail
  refine ⟨⟨⟨w3, HB3.out⟩, rfl⟩, hK3 _ _ ?_⟩
  clear hK3
  refine wpG_step ?_
  intro K4 hK4
  go_wp2_with fail
  refine (HCL.out 2 (by omega) _ (HB1.out.trans (HB3.out.mono HB1.out.size))).mono ?_
  rintro e w4 ⟨v2, rfl, hg2, hB, ho2⟩
  have HB4 := Lib.hid (HB3.out.trans (hB.mono HB3.out.size))
  have hg0 := HG0'.out.later hB
  have hg1 := HG1.out.later hB
  obtain ⟨n0, hn0⟩ : ∃ n, n = (A 0).length := ⟨_, rfl⟩
  obtain ⟨n1, hn1⟩ : ∃ n, n = (A 1).length := ⟨_, rfl⟩
  obtain ⟨n2, hn2⟩ : ∃ n, n = (A 2).length := ⟨_, rfl⟩
  rw [← hn0] at hg0
  rw [← hn1] at hg1
  rw [← hn2] at hg2
  obtain ⟨a0, c0, rfl, -⟩ := hg0.open
  obtain ⟨a1, c1, rfl, -⟩ := hg1.open
  obtain ⟨a2, c2, rfl, -⟩ := hg2.open
  have HG0 := Lib.hid hg0; have HG11 := Lib.hid hg1; have HG2 := Lib.hid hg2
  have HO2 := Lib.hid ho2
  have HSZ := Lib.hid (And.intro HB2.out.size (And.intro HB3.out.size HB4.out.size))
  have hq1 := (HB4.out.block (w.heap.size + 1) (by have := HS1.out; omega)).trans HQ1.out
  have HQ11 := Lib.hid hq1
  have d0 := cell_of_heap hq1 0
  have d1 := cell_of_heap hq1 1
  have d2 := cell_of_heap hq1 2
  have f0 := free_of_heap hq1 0
  have f1 := free_of_heap hq1 1
  have f2 := free_of_heap hq1 2
  have HNN := Lib.hid (And.intro hn0 (And.intro hn1 hn2))
  simp only [List.getElem?_toArray, List.getElem?_cons_zero, List.getElem?_cons_succ] at d0 d1 d2 f0 f1 f2
  clear hB hg0 hg1 hg2 ho2 hq1 hn0 hn1 hn2
  go_wp2_with fail
  refine ⟨⟨⟨w4, HB4.out⟩, rfl⟩, hK4 _ _ ?_⟩
  clear hK4
  refine wpG_nil ?_
  repeat (go_big_quiet_step (fail))
  refine wpQuiet_nil ?_
  refine wpG_nil ?_
  go_wp2_with fail
  clear d0 d1 d2 f0 f1 f2
  have hone : Only (fun x => x = w.heap.size + 1) w4 (((w4.setCell ⟨w.heap.size + 1, 0, none⟩ (.slice a0 n0 c0)).setCell ⟨w.heap.size + 1, 1, none⟩ (.slice a1 n1 c1)).setCell ⟨w.heap.size + 1, 2, none⟩ (.slice a2 n2 c2)) :=
    ((only_one w4 _ 0 _).trans (only_one _ _ 1 _)).trans (only_one _ _ 2 _)
  have h9 := heap_three w4 (w.heap.size + 1) (.slice a0 n0 c0) (.slice a1 n1 c1) (.slice a2 n2 c2) HQ11.out
  generalize ((w4.setCell ⟨w.heap.size + 1, 0, none⟩ (.slice a0 n0 c0)).setCell ⟨w.heap.size + 1, 1, none⟩ (.slice a1 n1 c1)).setCell ⟨w.heap.size + 1, 2, none⟩ (.slice a2 n2 c2) = W9 at hone h9 ⊢
  have r0 := cell_of_heap h9 0
  have r1 := cell_of_heap h9 1
  have r2 := cell_of_heap h9 2
  simp only [List.getElem?_toArray, List.getElem?_cons_zero, List.getElem?_cons_succ] at r0 r1 r2
  refine bodyPost_ret (v := .agg #[.slice a0 n0 c0, .slice a1 n1 c1, .slice a2 n2 c2]) (by simp [results, Tryz.results12, go_sem, r0, r1, r2]) rfl ?_
  have hs := HS1.out
  obtain ⟨z2, z3, z4⟩ := HSZ.out
  refine ⟨fun i => if i = 0 then .slice a0 n0 c0 else if i = 1 then .slice a1 n1 c1 else .slice a2 n2 c2, rfl, fun i hi => ?_, HB1.out.trans ((HB4.out.mono HB1.out.size).trans (hone.below (fun k hk => by omega)))⟩
  obtain rfl | rfl | rfl : i = 0 ∨ i = 1 ∨ i = 2 := by omega
  · exact RS.ofGR (HG0.out.only hone (fun b hb e => by have := HO0.out b hb; simp at this; omega))
  · exact RS.ofGR (HG11.out.only hone (fun b hb e => by have := HO1.out b hb; omega))
  · exact RS.ofGR (HG2.out.only hone (fun b hb e => by have := HO2.out b hb; omega))
end Go.Proofs.YtfdklmpkienfhaaGreat

/- The statements about layer 12: lists that are small. -/
namespace Go.Proofs.YtfdklmpkienfhaaGreat
set_option linter.unusedSimpArgs false
set_option linter.unusedVariables false
open Go.RowKit

/-- A length that is let go. -/
def bigL (n : Nat) : Bool := decide (60 < n ∧ n ≤ 200 ∨ 250 < n)
/-- Lists that are looked at. -/
def smallA (A : Nat → List Int) : Bool := !(bigL (A 0).length || bigL (A 1).length || bigL (A 2).length)
theorem smallA_len {A : Nat → List Int} (h : smallA A = true) {i : Nat} (hi : i < 3) : (A i).length ≤ 250 := by
  unfold smallA at h
  simp only [Bool.not_eq_true', Bool.or_eq_false_iff, bigL, decide_eq_false_iff_not] at h
  obtain rfl | rfl | rfl : i = 0 ∨ i = 1 ∨ i = 2 := by omega
  · omega
  · omega
  · omega

set_option maxRecDepth 100000 in
theorem small11 (a : Option Addr) (n cap : Nat) (hn : n ≤ 9223372036854775807) (w : World) : Calls Tryz.prog 54 #[.slice a n cap] w fun e w' => e = .returned (.bool (bigL n)) ∧ w' = w := by
  obtain ⟨bb, hbb⟩ : ∃ bb, bb = bigL n := ⟨_, rfl⟩
  rw [← hbb]
  have HB := Lib.hid hbb
  clear hbb
  go_enter Tryz.func54, Tryz.ntmps54
  by_cases h1 : 60 < n
  · have h1i : (60 : Int) < (n : Int) := by omega
    by_cases h2 : n ≤ 200
    · have h2i : (n : Int) ≤ 200 := by omega
      go_wp2_with fail
      go_ret
      refine ⟨?_, rfl⟩
      rw [HB.out, show bigL n = true from decide_eq_true (.inl ⟨h1, h2⟩)]; rfl
    · have h2i : ¬ (n : Int) ≤ 200 := by omega
      by_cases h3 : 250 < n
      · have h3i : (250 : Int) < (n : Int) := by omega
        go_wp2_with fail
        go_ret
        refine ⟨?_, rfl⟩
        rw [HB.out, show bigL n = true from decide_eq_true (.inr h3)]; rfl
      · have h3i : ¬ (250 : Int) < (n : Int) := by omega
        go_wp2_with fail
        go_ret
        refine ⟨?_, rfl⟩
        rw [HB.out, show bigL n = false from decide_eq_false (by omega)]; rfl
  · have h1i : ¬ (60 : Int) < (n : Int) := by omega
    have h3i : ¬ (250 : Int) < (n : Int) := by omega
    go_wp2_with fail
    go_ret
    refine ⟨?_, rfl⟩
    rw [HB.out, show bigL n = false from decide_eq_false (by omega)]; rfl

set_option maxRecDepth 100000 in
set_option maxHeartbeats 1000000 in
/-- The first list that is let go, of three. -/
theorem indexf_lists (b : Nat) (V : Nat → Value) (L : Nat → Nat) (w : World) (hb : w.heap[b]? = some (.cells #[V 0, V 1, V 2] 27)) (hV : ∀ i, i < 3 → ∃ a cap, V i = .slice a (L i) cap) (hL : ∀ i, i < 3 → L i ≤ 9223372036854775807) :
    Calls Tryz.prog 117 #[.slice (some ⟨b, 0, none⟩) 3 3, .func (.func 54) #[] #[]] w fun e w' => (((∃ i, i < 3 ∧ bigL (L i) = true) ∧ ∃ i : Nat, e = .returned (.int .i64 i)) ∨ ((∀ i, i < 3 → bigL (L i) = false) ∧ e = .returned (.int .i64 (-1)))) ∧ w' = w := by
  have HV := Lib.hid hV
  have HL := Lib.hid hL
  have HB := Lib.hid hb
  clear hV hL hb
  go_enter Tryz.func117, Tryz.ntmps117
  go_wp2_with fail
  go_loopw [8] (fun iv wr => ∃ i : Nat, iv = .int .i64 i ∧ i ≤ 3 ∧ Hid (∀ j, j < i → bigL (L j) = false) ∧ w = wr) (fun iv _ => 3 - (intOf iv).toNat)
  case atStart => exact ⟨0, rfl, Nat.zero_le _, Lib.hid (fun j h => by omega), rfl⟩
  case round =>
    obtain ⟨i, rfl, hi, HQ, rfl⟩ := hrel
    by_cases hi3 : i < 3
    · have hii : (i : Int) < 3 := by omega
      obtain ⟨a, cap, hv⟩ := HV.out i hi3
      have ck := box_at HB.out hi3
      rw [hv] at ck
      obtain ⟨n, hn⟩ : ∃ n, n = L i := ⟨_, rfl⟩
      rw [← hn] at ck
      have HS := Lib.hid (small11 a n cap (by rw [hn]; exact HL.out i hi3) w)
      have HN := Lib.hid hn
      clear hv hn
      go_wp2_with fail
      refine HS.out.mono ?_
      rintro e w1 ⟨rfl, rfl⟩
      clear ck
      cases hbl : bigL n with
      | true =>
        have HBL := Lib.hid hbl
        clear hbl
        go_wp2_with fail
        go_ret
        exact ⟨.inl ⟨⟨i, hi3, by rw [← HN.out]; exact HBL.out⟩, i, rfl⟩, rfl⟩
      | false =>
        have HBL := Lib.hid hbl
        clear hbl
        go_wp2_with fail
        go_roundw
        case rel => exact ⟨i + 1, by go_num, by omega, Lib.hid (fun j hj => by
          rcases Nat.lt_or_ge j i with h | h
          · exact HQ.out j h
          · obtain rfl : j = i := by omega
            rw [← HN.out]; exact HBL.out), trivial⟩
        case measure => simp [intOf]; omega
    · obtain rfl : i = 3 := by omega
      have hii : ¬ ((3 : Nat) : Int) < 3 := by omega
      go_wp2_with fail
      go_ret
      exact ⟨.inr ⟨HQ.out, rfl⟩, rfl⟩

set_option maxRecDepth 100000 in
set_option maxHeartbeats 1000000 in
theorem small1 (V : Nat → Value) (L : Nat → Nat) (w : World) (hV : ∀ i, i < 3 → ∃ a cap, V i = .slice a (L i) cap) (hL : ∀ i, i < 3 → L i ≤ 9223372036854775807) :
    Calls Tryz.prog 52 #[actV V] w fun e w' => e = .returned (.bool (bigL (L 0) || bigL (L 1) || bigL (L 2))) ∧ Below w.heap.size w w' := by
  have HIX := Lib.hid (fun W hb => indexf_lists w.heap.size V L W hb hV hL)
  obtain ⟨bb, hbb⟩ : ∃ bb, bb = (bigL (L 0) || bigL (L 1) || bigL (L 2)) := ⟨_, rfl⟩
  rw [← hbb]
  have HBB := Lib.hid hbb
  have HB := Lib.hid ((Below.refl w.heap.size w).alloc (Nat.le_refl _) (.cells #[V 0, V 1, V 2] 27))
  have HQ := Lib.hid (alloc_heap_new w (.cells #[V 0, V 1, V 2] 27))
  clear hV hL hbb
  unfold actV
  go_enter Tryz.func52, Tryz.ntmps52
  go_upto_region 1 with fail
  generalize w.alloc (.cells #[V 0, V 1, V 2] 27) = W1 at HB HQ ⊢
  have HCF := Lib.hid (show Calls Tryz.prog 53 #[.slice (some ⟨w.heap.size, 0, none⟩) 3 3, .func (.func 54) #[] #[]] W1 fun e w' => e = .returned (.bool bb) ∧ w' = W1 from by
    have HI := Lib.hid (HIX.out W1 HQ.out)
    go_enter Tryz.func53, Tryz.ntmps53
    go_wp2_with fail
    refine HI.out.mono ?_
    rintro e w1 ⟨hcase, rfl⟩
    rcases hcase with ⟨⟨i, hi, hb⟩, j, rfl⟩ | ⟨hall, rfl⟩
    · have hj : (0 : Int) ≤ (j : Int) := by omega
      go_wp2_with fail
      go_ret
      refine ⟨?_, rfl⟩
      have : bb = true := by
        rw [HBB.out]
        obtain rfl | rfl | rfl : i = 0 ∨ i = 1 ∨ i = 2 := by omega
        all_goals rw [hb]; simp
      rw [this]; rfl
    · go_wp2_with fail
      go_ret
      refine ⟨?_, rfl⟩
      rw [HBB.out, hall 0 (by omega), hall 1 (by omega), hall 2 (by omega)]; rfl)
  go_wp2_with fail
  refine HCF.out.mono ?_
  rintro e w1 ⟨rfl, rfl⟩
  go_wp2_with fail
  go_ret
  exact ⟨rfl, HB.out⟩

set_option maxRecDepth 100000 in
set_option maxHeartbeats 1000000 in
/-- Are all actions of a row small? -/
theorem law12_small (b m : Nat) (V : Nat → Nat → Value) (A : Nat → Nat → List Int) (w : World) (hb : b < w.heap.size) (hm : m ≤ 1000) (hc : ∀ j, j < m → ∀ i, i < 3 → w.cell? ⟨b, j * 3 + i, none⟩ = some (V j i)) (hA : ∀ j, j < m → AR w.heap.size w (V j) (A j)) (hl : ∀ j, j < m → ∀ i, i < 3 → (A j i).length ≤ 9223372036854775807) :
    Calls Tryz.prog 10 #[.slice (some ⟨b, 0, none⟩) m m] w fun e w' => e = .returned (.bool ((List.range m).all fun j => smallA (A j))) ∧ Below w.heap.size w w' := by
  obtain ⟨bb, hbb⟩ : ∃ bb, bb = (List.range m).all fun j => smallA (A j) := ⟨_, rfl⟩
  rw [← hbb]
  have HBB := Lib.hid hbb
  have HC := Lib.hid hc
  have HS := Lib.hid (show ∀ j, j < m → ∀ W, Calls Tryz.prog 52 #[actV (V j)] W fun e w' => e = .returned (.bool (!smallA (A j))) ∧ Below W.heap.size W w' from fun j hj W => by
    have h := small1 (V j) (fun i => (A j i).length) W (fun i hi => by
      obtain ⟨a, cap, h, _⟩ := hA j hj i hi
      exact ⟨a, cap, h⟩) (fun i hi => by have := hl j hj i hi; omega)
    unfold smallA
    simpa using h)
  have HV := Lib.hid (show ∀ j, j < m → ∃ a0 n0 c0 a1 n1 c1 a2 n2 c2, V j 0 = .slice a0 n0 c0 ∧ V j 1 = .slice a1 n1 c1 ∧ V j 2 = .slice a2 n2 c2 from fun j hj => by
    obtain ⟨a0, c0, h0, _⟩ := hA j hj 0 (by omega)
    obtain ⟨a1, c1, h1, _⟩ := hA j hj 1 (by omega)
    obtain ⟨a2, c2, h2, _⟩ := hA j hj 2 (by omega)
    exact ⟨_, _, _, _, _, _, _, _, _, h0, h1, h2⟩)
  have HBL := Lib.hid hb
  clear hc hA hl hbb hb
  have HIX := Lib.hid (show Calls Tryz.prog 116 #[.slice (some ⟨b, 0, none⟩) m m, .func (.func 52) #[] #[]] w fun e w' => ((bb = false ∧ ∃ i : Nat, e = .returned (.int .i64 i)) ∨ (bb = true ∧ e = .returned (.int .i64 (-1)))) ∧ Below w.heap.size w w' from by
    go_enter Tryz.func116, Tryz.ntmps116
    go_wp2_with fail
    go_loopw [8] (fun iv wr => ∃ i : Nat, iv = .int .i64 i ∧ i ≤ m ∧ Hid (∀ j, j < i → smallA (A j) = true) ∧ Hid (Below w.heap.size w wr)) (fun iv _ => m - (intOf iv).toNat)
    case atStart => exact ⟨0, rfl, Nat.zero_le _, Lib.hid (fun j h => by omega), Lib.hid (Below.refl _ _)⟩
    case round =>
      obtain ⟨i, rfl, hi, HQ, HB⟩ := hrel
      by_cases him : i < m
      · have hii : (i : Int) < (m : Int) := by omega
        obtain ⟨a0, n0, c0, a1, n1, c1, a2, n2, c2, h0, h1, h2⟩ := HV.out i him
        have k0 := (HB.out.cell (p := ⟨b, i * 3 + 0, none⟩) HBL.out).trans (HC.out i him 0 (by omega))
        have k1 := (HB.out.cell (p := ⟨b, i * 3 + 1, none⟩) HBL.out).trans (HC.out i him 1 (by omega))
        have k2 := (HB.out.cell (p := ⟨b, i * 3 + 2, none⟩) HBL.out).trans (HC.out i him 2 (by omega))
        rw [h0] at k0
        rw [h1] at k1
        rw [h2] at k2
        have HSI := HS.out i him wr
        unfold actV at HSI
        rw [h0, h1, h2] at HSI
        have HSJ := Lib.hid HSI
        simp only [Nat.add_zero] at k0
        clear h0 h1 h2 HSI
        go_wp2_with fail
        refine HSJ.out.mono ?_
        rintro e w1 ⟨rfl, hB⟩
        have HB2 := Lib.hid (HB.out.trans (hB.mono HB.out.size))
        clear hB k0 k1 k2
        cases hs : smallA (A i) with
        | true =>
          have HSM := Lib.hid hs
          clear hs
          go_wp2_with fail
          go_roundw
          case rel => exact ⟨i + 1, by go_num, by omega, Lib.hid (fun j hj => by
            rcases Nat.lt_or_ge j i with h | h
            · exact HQ.out j h
            · obtain rfl : j = i := by omega
              exact HSM.out), HB2⟩
          case measure => simp [intOf]; omega
        | false =>
          have HSM := Lib.hid hs
          clear hs
          go_wp2_with fail
          go_ret
          refine ⟨.inl ⟨?_, i, rfl⟩, HB2.out⟩
          rw [HBB.out, List.all_eq_false]
          exact ⟨i, List.mem_range.2 him, by rw [HSM.out]; simp⟩
      · obtain rfl : i = m := by omega
        have hii : ¬ (i : Int) < (i : Int) := by omega
        go_wp2_with fail
        go_ret
        refine ⟨.inr ⟨?_, rfl⟩, HB.out⟩
        rw [HBB.out, List.all_eq_true]
        exact fun j hj => HQ.out j (List.mem_range.1 hj))
  have HCF := Lib.hid (show Calls Tryz.prog 51 #[.slice (some ⟨b, 0, none⟩) m m, .func (.func 52) #[] #[]] w fun e w' => e = .returned (.bool (!bb)) ∧ Below w.heap.size w w' from by
    go_enter Tryz.func51, Tryz.ntmps51
    go_wp2_with fail
    refine HIX.out.mono ?_
    rintro e w1 ⟨hcase, hB⟩
    have HB := Lib.hid hB
    clear hB
    rcases hcase with ⟨hbf, j, rfl⟩ | ⟨hbt, rfl⟩
    · have hj : (0 : Int) ≤ (j : Int) := by omega
      have HF := Lib.hid hbf
      clear hbf
      go_wp2_with fail
      go_ret
      exact ⟨by rw [HF.out]; rfl, HB.out⟩
    · have HF := Lib.hid hbt
      clear hbt
      go_wp2_with fail
      go_ret
      exact ⟨by rw [HF.out]; rfl, HB.out⟩)
  go_enter Tryz.func10, Tryz.ntmps10
  go_wp2_with fail
  refine HCF.out.mono ?_
  rintro e w1 ⟨rfl, hB⟩
  have HB := Lib.hid hB
  clear hB
  go_wp2_with fail
  go_ret
  exact ⟨by cases bb <;> rfl, HB.out⟩
end Go.Proofs.YtfdklmpkienfhaaGreat
