/- walk.New, normals, normal. -/
import Derived.Test.YtbfnnlcckpabnaaWk1
namespace Go.Proofs.Ytbfnnlcckpabnaa
set_option linter.unusedSimpArgs false
set_option linter.unusedVariables false
open Go.RowKit

def NewMapPost (o : Hy.Ord) (w : World) (e : Ending) (w' : World) : Prop :=
  ∃ mb wb tb : Nat, e = .returned (.tuple #[.pointer (some ⟨mb, 0, none⟩), .int .i64 0]) ∧ MRep w' o mb wb tb [] [] ∧ w.heap.size ≤ mb ∧ w.heap.size ≤ wb ∧ w.heap.size ≤ tb ∧ Below w.heap.size w w'

set_option maxRecDepth 100000 in
set_option maxHeartbeats 1000000 in
theorem walk_New_bad (a b c : Int) (w : World) (he : Hy.ordErr a b c ≠ 0) :
    Calls Try.prog 7 #[ordersV a b c] w fun e w' => e = .returned (.tuple #[.pointer none, .int .i64 (Hy.ordErr a b c)]) ∧ Below w.heap.size w w' := by
  have HCALL := Lib.hid (fun W => words_Normal_badOrd a b c [] W he)
  have hne : (Hy.ordErr a b c != 0) = true := by rw [bne_iff_ne]; exact he
  clear he
  unfold ordersV str at *
  go_enter Try.func7, Try.ntmps7
  go_wp2_with fail
  refine (HCALL.out _).mono ?_
  rintro e w1 ⟨rfl, hB⟩
  have HB := Lib.hid hB; clear hB
  clear HCALL
  go_wp2_with fail
  go_ret2
  exact ⟨rfl, ((Below.refl _ _).alloc (Nat.le_refl _) _).trans (HB.out.mono (by simp))⟩

set_option maxRecDepth 100000 in
set_option maxHeartbeats 1000000 in
theorem walk_New (o : Hy.Ord) (ho : Small o) (w : World) (he : Hy.ordErr o.m01 o.m12 o.m02 = 0) :
    Calls Try.prog 7 #[ordersV o.m01 o.m12 o.m02] w (NewMapPost o w) := by
  have HCALL := Lib.hid (fun W => words_Normal_ok o ho [] W he rfl 0 [] rfl)
  have HE := Lib.hid he; clear he
  have hmm := @run_makeMap Try.prog
  unfold ordersV str at *
  go_enter Try.func7, Try.ntmps7
  go_wp2_with fail
  refine (HCALL.out _).mono ?_
  rintro e w1 ⟨rfl, hB⟩
  have h1 : w1.heap[w.heap.size]? = some (.cells #[.int .i64 o.m01, .int .i64 o.m12, .int .i64 o.m02] 23 (0, 0)) :=
    (hB.block w.heap.size (by simp)).trans (alloc_heap_new w _)
  have c0 : w1.cell? ⟨w.heap.size, 0, none⟩ = some (.int .i64 o.m01) := cell_of_heap h1 0
  have c1 : w1.cell? ⟨w.heap.size, 1, none⟩ = some (.int .i64 o.m12) := cell_of_heap h1 1
  have c2 : w1.cell? ⟨w.heap.size, 2, none⟩ = some (.int .i64 o.m02) := cell_of_heap h1 2
  have HB := Lib.hid hB; clear hB
  clear HCALL h1
  go_wp2_with fail
  go_ret2
  refine ⟨w1.heap.size + 2, w1.heap.size, w1.heap.size + 1, rfl, ⟨?_, ?_, ?_, by omega, HE.out⟩, ?_, ?_, ?_, ?_⟩
  · have := alloc_heap_new ((w1.alloc (.map #[] 0)).alloc (.map #[] 0)) (.cells (mapCells o w1.heap.size (w1.heap.size + 1)) 52)
    rw [World.size_alloc, World.size_alloc] at this
    exact this
  · exact (mapAt_new w1 _ _).of_heap ((heap_alloc_lt _ _ (by simp; omega)).trans (heap_alloc_lt _ _ (by simp)))
  · have h2 : MapAt ((w1.alloc (.map #[] 0)).alloc (.map #[] 0)) str str (w1.alloc (.map #[] 0)).heap.size ([] : Things) := mapAt_new _ _ _
    rw [World.size_alloc] at h2
    exact h2.of_heap (heap_alloc_lt _ _ (by simp))
  · have := HB.out.size; simp at this; omega
  · have := HB.out.size; simp at this; omega
  · have := HB.out.size; simp at this; omega
  · have hs := HB.out.size
    simp at hs
    exact (((((Below.refl _ _).alloc (Nat.le_refl _) _).trans (HB.out.mono (by simp))).alloc (by omega) _).alloc (by simp; omega) _).alloc (by simp; omega) _

theorem infoStr : (Try.prog.info? 9).map (fun i => (i.zero, i.size, i.bytes)) = some (some (.string ⟨#[]⟩), 1, 16) := by kernel_rfl

theorem ownsRow_below {w w' : World} {base : Nat} {e : TypeId} {size : Nat} {v : Value} {n : Nat} {xs : List Value} (h : w.ownsRow base e size v n xs) (hb : Below w.heap.size w w') : w'.ownsRow base e size v n xs := by
  obtain ⟨h1, h2⟩ := h
  refine ⟨h1, ?_⟩
  rcases h2 with h2 | ⟨g, cap, cur, rfl, h3, h4, h5⟩
  · exact .inl h2
  · exact .inr ⟨g, cap, cur, rfl, h3, (hb.block g (Array.getElem?_eq_some_iff.1 h4).1).trans h4, h5⟩

/-- Words in memory: a slice of texts. -/
def Texts (w : World) (v : Value) (ws : List (List UInt8)) : Prop := ∃ (g cap : Nat), v = .slice (some ⟨g, 0, none⟩) ws.length cap ∧ g < w.heap.size ∧ ∀ (k : Nat) (hk : k < ws.length), w.cell? ⟨g, k, none⟩ = some (str ws[k])

theorem Texts.below {w w' : World} {v : Value} {ws : List (List UInt8)} (h : Texts w v ws) (hb : Below w.heap.size w w') : Texts w' v ws := by
  obtain ⟨g, cap, h1, h2, h3⟩ := h
  exact ⟨g, cap, h1, Nat.lt_of_lt_of_le h2 hb.size, fun k hk => (below_cell hb h2 k).trans (h3 k hk)⟩

theorem take_map_succ {nfs : List (List UInt8)} {k : Nat} {nf : List UInt8} (h : nfs[k]? = some nf) : (nfs.take (k + 1)).map str = (nfs.take k).map str ++ [str nf] := by
  obtain ⟨hk, rfl⟩ := List.getElem?_eq_some_iff.1 h
  rw [List.take_succ_eq_append_getElem hk, List.map_append]
  rfl

def NormalsPost (ws nfs : List (List UInt8)) (w : World) (e : Ending) (w' : World) : Prop :=
  Below w.heap.size w w' ∧ if Hy.wordsErr ws = 0 then ∃ v, e = .returned (.tuple #[v, .int .i64 0]) ∧ Texts w' v nfs else e = .returned (.tuple #[.slice none 0 0, .int .i64 (Hy.wordsErr ws)])

set_option maxRecDepth 100000 in
set_option maxHeartbeats 1000000 in
theorem walk_normals {w : World} {o : Hy.Ord} {mb wb tb : Nat} {W : Walls} {T : Things} (h : MRep w o mb wb tb W T) (ho : Small o) (sv : Value) (ws : List (List UInt8)) (hs : Texts w sv ws) (hn : ws.length ≤ 2) (h0 : 0 < ws.length) (hl : ∀ l ∈ ws, l.length ≤ 140737488355328) (fuel : Nat) (nfs : List (List UInt8))
    (hlen : nfs.length = ws.length) (hnf : ∀ (k : Nat) (hk : k < ws.length), Hy.wordErr ws[k] = 0 → Hy.norm o fuel ws[k] = nfs[k]?) :
    Calls Try.prog 25 #[.pointer (some ⟨mb, 0, none⟩), sv] w (NormalsPost ws nfs w) := by
  obtain ⟨g, cap, rfl, hg, hs⟩ := hs
  obtain ⟨i0, hi, hz0, hz1, hz2⟩ := info_parts infoStr
  have hmm := h.lt.1
  have c3 : w.cell? ⟨mb, 3, none⟩ = some (.bool true) := cell_of_heap h.cells 3
  have HM := Lib.hid h; clear h
  have HS := Lib.hid hs; clear hs
  have HL := Lib.hid hl; clear hl
  have HNF := Lib.hid hnf; clear hnf
  have HLEN := Lib.hid hlen; clear hlen
  go_enter Try.func25, Try.ntmps25
  go_wp2_with fail
  refine (walk_none_some mb true w c3).mono ?_
  rintro e w1 ⟨rfl, rfl⟩
  clear c3
  go_wp2_with fail
  go_loopw [6, 15] (fun v i wr => ∃ k : Nat, k ≤ ws.length ∧ i = .int .i64 k ∧ Hid (Hy.wordsErr (ws.drop k) = Hy.wordsErr ws) ∧ Hid (Below w.heap.size w wr) ∧ Hid (wr.ownsRow w.heap.size 9 1 v k ((nfs.take k).map str))) (fun _ i _ => ws.length - (intOf i).toNat)
  case atStart => exact ⟨0, Nat.zero_le _, rfl, rfl, Below.refl _ _, World.ownsRow_nil _ _ _ _⟩
  case round =>
    obtain ⟨k, hk, rfl, HE, HB, HR⟩ := hrel
    by_cases hlt : k < ws.length
    · have hcell : wr.cell? ⟨g, k, none⟩ = some (str ws[k]) := (below_cell HB.out hg k).trans (HS.out k hlt)
      have hmc := (HM.out.grow HB.out).cells
      have c0 : wr.cell? ⟨mb, 0, none⟩ = some (.int .i64 o.m01) := cell_of_heap hmc 0
      have c1 : wr.cell? ⟨mb, 1, none⟩ = some (.int .i64 o.m12) := cell_of_heap hmc 1
      have c2 : wr.cell? ⟨mb, 2, none⟩ = some (.int .i64 o.m02) := cell_of_heap hmc 2
      have hE := HE.out
      rw [Hy.wordsErr_drop hlt] at hE
      have HE' := Lib.hid hE; clear hE
      clear hmc
      by_cases hz : Hy.wordErr ws[k] = 0
      · have hE := HE'.out
        rw [if_neg (by simpa using hz)] at hE
        have HE2 := Lib.hid hE; clear hE
        have hkn : k < nfs.length := by rw [HLEN.out]; exact hlt
        have hnk := HNF.out k hlt hz
        obtain ⟨nf, hnf⟩ : ∃ nf, nfs[k]? = some nf := ⟨_, List.getElem?_eq_getElem hkn⟩
        rw [hnf] at hnk
        have hcall := words_Normal_ok o ho ws[k] wr HM.out.ok hz fuel nf hnk
        have HCALL := Lib.hid hcall; clear hcall hnk
        have hR2 := fun W hb => ownsRow_below (w' := W) HR.out hb
        have HR2 := Lib.hid hR2; clear hR2
        have HKN := Lib.hid hkn
        unfold ordersV at HCALL
        clear hz
        go_wp2_with fail
        refine HCALL.out.mono ?_
        rintro e w2 ⟨rfl, hB2⟩
        have hown := HR2.out w2 hB2
        have HB2 := Lib.hid hB2; clear hB2
        clear HCALL
        have hsz : w.heap.size ≤ w2.heap.size := Nat.le_trans HB.out.size HB2.out.size
        have HNFK := Lib.hid hnf; clear hnf hkn
        unfold str
        go_wp2_with (at_builtin; refine wpList_append_own _ rfl _ _ 61 rfl w.heap.size 9 i0 (.string ⟨#[]⟩) 1 16 Try.underlying61 hi hz0 hz1 hz2 rfl (by decide) _ _ _ rfl (hown.alloc _) ⟨w2.heap.size, 0, none⟩ 1 1 [str nf] rfl rfl ?c1 ?c2 ?c3 ?c4 ?c5 ?_)
        case c1 =>
          intro j u hj
          cases j with
          | zero => simp at hj; subst hj; simp [Addr.add, str]
          | succ j => simp at hj
        case c2 => intro u hu; simp at hu; subst hu; rfl
        case c3 => unfold maxLen; omega
        case c4 => omega
        case c5 => simp; omega
        intro v' w3 hown' hgrow _
        have hB3 : Below w.heap.size w w3 := ((HB.out.trans (HB2.out.mono HB.out.size)).alloc hsz _).grown hgrow (by simp; omega) (fun j hj => (hown.lt j hj).1)
        have HB3 := Lib.hid hB3; clear hB3
        have HO := Lib.hid hown'; clear hown'
        have HG := Lib.hid hgrow; clear hgrow
        clear hown
        go_wp2_with fail
        go_roundw
        case rel => exact ⟨k + 1, by omega, by go_num, HE2.out, HB3.out, by rw [take_map_succ HNFK.out, List.map_take]; exact HO.out⟩
        case measure => simp [intOf]; omega
      · have hE := HE'.out
        rw [if_pos hz] at hE
        have HE2 := Lib.hid hE; clear hE
        have hcall := words_Normal_badWord o ws[k] wr HM.out.ok (HL.out _ (List.getElem_mem hlt)) hz
        have HCALL := Lib.hid hcall; clear hcall
        have hne : (Hy.wordErr ws[k] != 0) = true := by rw [bne_iff_ne]; exact hz
        have HZ := Lib.hid hz; clear hz
        unfold ordersV at HCALL
        generalize Hy.wordErr ws[k] = er at *
        go_wp2_with fail
        refine HCALL.out.mono ?_
        rintro e w2 ⟨rfl, hB2⟩
        have HB2 := Lib.hid hB2; clear hB2
        clear HCALL
        go_wp2_with fail
        go_ret2
        refine ⟨HB.out.trans (HB2.out.mono HB.out.size), ?_⟩
        rw [← HE2.out, if_neg HZ.out]
        rfl
    · obtain rfl : k = ws.length := by omega
      clear hlt hk
      have hE := HE.out
      rw [List.drop_length] at hE
      have hE0 : Hy.wordsErr ws = 0 := hE.symm
      have hR := HR.out
      rw [List.take_of_length_le (by rw [HLEN.out]; exact Nat.le_refl _)] at hR
      have HE0 := Lib.hid hE0; clear hE0 hE
      have HR3 := Lib.hid hR; clear hR
      go_wp2_with fail
      go_ret2
      refine ⟨HB.out, ?_⟩
      rw [if_pos HE0.out]
      refine ⟨_, rfl, ?_⟩
      obtain ⟨h1, h2⟩ := HR3.out
      rcases h2 with ⟨_, h2⟩ | ⟨g', cap', cur, h2, h3, h4, h5, h6, h7, h8⟩
      · omega
      · refine ⟨g', cap', ?_, (Array.getElem?_eq_some_iff.1 h4).1, fun k hk => ?_⟩
        · rw [HLEN.out]; exact h2
        · rw [cell_of_heap h4]
          have h9 := congrArg (fun l => l[k]?) h8
          simp only [List.getElem?_map, List.getElem?_eq_getElem hk, Option.map_some] at h9
          have hk' : k < ws.length * 1 := by rw [← HLEN.out]; omega
          rw [List.getElem?_take_of_lt hk'] at h9
          simpa using h9
end Go.Proofs.Ytbfnnlcckpabnaa
