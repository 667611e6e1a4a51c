/- The specification of layer 3: words turned about, the check of orders and words, the normal word by what it is. -/
import Derived.Test.YtdckpjagmbdkgaaR4
namespace Go.Proofs.Ytdckpjagmbdkgaa
set_option linter.unusedSimpArgs false
set_option linter.unusedVariables false
open Go.RowKit
open Hy (Lets IsNF Eqv Le)

def Texts (w : World) (v : Value) (ws : List (List UInt8)) : Prop := ∃ (g cap : Nat), v = .slice (some ⟨g, 0, none⟩) ws.length cap ∧ g < w.heap.size ∧ ∀ (k : Nat) (hk : k < ws.length), w.cell? ⟨g, k, none⟩ = some (str ws[k])

theorem Texts.below {w w' : World} {v : Value} {ws : List (List UInt8)} (h : Texts w v ws) (hb : Below w.heap.size w w') : Texts w' v ws := by
  obtain ⟨g, cap, h1, h2, h3⟩ := h
  exact ⟨g, cap, h1, Nat.lt_of_lt_of_le h2 hb.size, fun k hk => (below_cell hb h2 k).trans (h3 k hk)⟩

set_option maxRecDepth 100000 in
set_option maxHeartbeats 1000000 in
theorem r03_Turned (l : List UInt8) (w : World) (hl : l.length ≤ 1000) :
    Calls Try.prog 17 #[str l] w fun e w' => e = .returned (str l.reverse) ∧ w = w' := by
  unfold str
  go_enter Try.func17, Try.ntmps17
  go_wp2_with fail
  go_loop [3, 4] (fun s i => ∃ k : Nat, k ≤ l.length ∧ i = .int .i64 k ∧ s = .string ⟨(l.take k).reverse.toArray⟩) (fun _ i => l.length - (intOf i).toNat)
  case atStart => exact ⟨0, Nat.zero_le _, rfl, rfl⟩
  case round =>
    obtain ⟨k, hk, rfl, rfl⟩ := hrel
    by_cases hlt : k < l.length
    · have hsl := slice_one l k hlt
      have htk : (l.take (k + 1)).reverse = [l[k]] ++ (l.take k).reverse := by rw [List.take_succ_eq_append_getElem hlt]; simp
      have HTK := Lib.hid htk; clear htk
      go_wp2_with fail
      go_round
      case rel =>
        refine ⟨k + 1, by omega, by go_num, ?_⟩
        rw [HTK.out]
        exact congrArg Value.string (bytes_add [l[k]] _)
      case measure => simp [intOf]; omega
    · obtain rfl : k = l.length := by omega
      clear hk hlt
      go_wp2_with fail
      go_ret
      exact ⟨rfl, rfl⟩

set_option maxRecDepth 100000 in
set_option maxHeartbeats 1000000 in
theorem r03_Errors (a b c : Int) {w : World} {sv : Value} {ws : List (List UInt8)} (hs : Texts w sv ws) (hn : ws.length ≤ 3) (hl : ∀ l ∈ ws, l.length ≤ 9223372036854775807) :
    Calls Try.prog 14 #[ordersV a b c, sv] w fun e w' => e = .returned (.int .i64 (Hy.allErr a b c ws)) ∧ Below w.heap.size w w' := by
  obtain ⟨g, cap, rfl, hg, hcell⟩ := hs
  have HALL := Lib.hid (r03_Allowed a b c)
  have HCELL := Lib.hid hcell; clear hcell
  have HLEN := Lib.hid hl; clear hl
  unfold ordersV str at *
  go_enter Try.func14, Try.ntmps14
  go_wp2_with fail
  refine (HALL.out _).mono ?_
  rintro e w1 ⟨rfl, hB1⟩
  have hB1' : Below w.heap.size w w1 := ((Below.refl _ _).alloc (Nat.le_refl _) _).trans (hB1.mono (by simp))
  have HB1 := Lib.hid hB1'; clear hB1 hB1'
  go_wp2_with fail
  go_loopw [5, 6] (fun ev i wr => ∃ (k : Nat) (e : Int), k ≤ ws.length ∧ i = .int .i64 k ∧ ev = .int .i64 e ∧ Hid (e = 0 → Hy.ordErr a b c = 0 ∧ Hy.wordsErr ws = Hy.wordsErr (ws.drop k)) ∧ Hid (e ≠ 0 → Hy.allErr a b c ws = e) ∧ Hid (Below w.heap.size w wr)) (fun _ i _ => ws.length - (intOf i).toNat)
  case atStart => exact ⟨0, _, Nat.zero_le _, rfl, rfl, fun h => ⟨h, rfl⟩, fun h => Hy.allErr_bad h, HB1⟩
  case round =>
    obtain ⟨k, e, hk, rfl, rfl, HE0, HE1, HBr⟩ := hrel
    by_cases he : e = 0
    · obtain ⟨h01, h02⟩ := HE0.out he
      have H01 := Lib.hid h01; clear h01
      have H02 := Lib.hid h02; clear h02
      subst he
      by_cases hlt : k < ws.length
      · have hc := ((bcell HBr.out).1 g k hg).trans (HCELL.out k hlt)
        have hstep := Hy.wordsErr_drop hlt
        have hmem : ws[k] ∈ ws := List.getElem_mem hlt
        have hcw := r03_CheckWord ws[k] wr (HLEN.out _ hmem)
        unfold str at hcw
        have HCW := Lib.hid hcw; clear hcw
        have HSTEP := Lib.hid hstep; clear hstep
        clear hmem
        go_wp2_with fail
        refine HCW.out.mono ?_
        rintro e w3 ⟨rfl, hB3⟩
        have HB3 := Lib.hid hB3; clear hB3
        go_wp2_with fail
        go_roundw
        case rel =>
          refine ⟨k + 1, _, by omega, by go_num, rfl, fun h => ⟨H01.out, ?_⟩, fun h => ?_, HBr.out.trans (HB3.out.mono HBr.out.size)⟩
          · rw [H02.out, HSTEP.out, if_neg (by simpa using h)]
          · rw [Hy.allErr_ok H01.out, H02.out, HSTEP.out, if_pos h]
        case measure => simp [intOf]; omega
      · obtain rfl : k = ws.length := by omega
        clear hlt hk
        go_wp2_with fail
        go_ret
        refine ⟨ret_int ?_, HBr.out⟩
        rw [Hy.allErr_ok H01.out, H02.out, List.drop_length]
        rfl
    · have he' : (e == 0) = false := by rw [beq_eq_false_iff_ne]; exact he
      have hfin := HE1.out he
      have HFIN := Lib.hid hfin; clear hfin
      by_cases hlt : k < ws.length
      · clear he
        go_wp2_with fail
        go_ret
        exact ⟨ret_int HFIN.out.symm, HBr.out⟩
      · clear he
        go_wp2_with fail
        go_ret
        exact ⟨ret_int HFIN.out.symm, HBr.out⟩

/-- The normal word, by what it is. -/
theorem r03_Word_nf {o : Hy.Ord} (F : Hy.Fine o) (hS : Small o) {l n : List UInt8} (hl : Lets l) (hlen : l.length ≤ 1000) (hn : IsNF o l n) (w : World) :
    Calls Try.prog 16 #[ordersV o.m01 o.m12 o.m02, str l] w fun e w' => e = .returned (str n) ∧ Below w.heap.size w w' := by
  obtain ⟨G, y, nd, h1, h2, h3, h4⟩ := Hy.walk_few F hl hlen
  rw [hn.uniq h3]
  exact r03_Word o hS 1000 (lim := 100000000) (by omega) l (fun k hk => hl _ (List.getElem_mem hk)) hlen G y nd h1 h4 h2 w
end Go.Proofs.Ytdckpjagmbdkgaa
