import Derived.Test.YtfdklmpkienfhaaGreatR3

/- The graph of the specification of layer 3: made, walked along a word; the normal word. -/
namespace Go.Proofs.YtfdklmpkienfhaaGreat
set_option linter.unusedSimpArgs false
set_option linter.unusedVariables false
open Go.RowKit

theorem stepL_len (lim : Nat) (o : Hy.Ord) : ∀ fuel, Longer (Hy.stepL lim o fuel)
  | 0 => fun _ _ _ _ _ h => by cases h
  | fuel + 1 => fun G x s G' y h => by
    unfold Hy.stepL at h
    cases hn : G[x]? with
    | none => rw [hn] at h; cases h
    | some n =>
      rw [hn] at h
      simp only at h
      cases ht : n.to s with
      | some y' => rw [ht] at h; cases h; exact Nat.le_refl _
      | none =>
        rw [ht] at h
        simp only at h
        by_cases hl : lim ≤ n.word.length
        · rw [if_pos hl] at h; cases h
        · rw [if_neg hl] at h
          cases hc : Hy.cornersL lim o (Hy.stepL lim o fuel) x s G.length 3 (Hy.sprout G n x s) with
          | none => rw [hc] at h; cases h
          | some Gc =>
            rw [hc] at h
            cases h
            have := cornersL_len (stepL_len lim o fuel) hc
            rw [sprout_length] at this
            omega

/-- The step of the graph in memory. -/
theorem r03_step {o : Hy.Ord} (ho : Small o) {B : Nat → Prop} {gb lim : Nat} (hlim : lim ≤ 1000000000) : ∀ fuel : Nat, R03IH o B gb lim (Hy.stepL 1000 o fuel)
  | 0 => fun w rb v G x s G' y h hB hs hf => by cases hf
  | fuel + 1 => fun w rb v G x s G' y h hB hs hf hG => by
    unfold Hy.stepL at hf
    cases hx : G[x]? with
    | none => rw [hx] at hf; cases hf
    | some n =>
      rw [hx] at hf
      simp only at hf
      cases hy : n.to s with
      | some y' =>
        rw [hy] at hf
        cases hf
        exact r03_step_known h hs hx hy
      | none =>
        rw [hy] at hf
        simp only at hf
        by_cases hl : 1000 ≤ n.word.length
        · rw [if_pos hl] at hf; cases hf
        · rw [if_neg hl] at hf
          cases hc : Hy.cornersL 1000 o (Hy.stepL 1000 o fuel) x s G.length 3 (Hy.sprout G n x s) with
          | none => rw [hc] at hf; cases hf
          | some Gc =>
            rw [hc] at hf
            cases hf
            exact r03_step_new ho h hB hs hx hy (by omega) hlim (r03_step ho hlim fuel) (stepL_len 1000 o fuel) hc hG

theorem walkL_cons {lim : Nat} {o : Hy.Ord} {fuel : Nat} {G G'' : List Hy.Node} {x y : Nat} {c : UInt8} {l : List UInt8} (h : Hy.walkL lim o fuel G x (c :: l) = some (G'', y)) :
    ∃ G' x', Hy.stepL lim o fuel G x c.toNat = some (G', x') ∧ Hy.walkL lim o fuel G' x' l = some (G'', y) := by
  unfold Hy.walkL at h
  cases hs : Hy.stepL lim o fuel G x c.toNat with
  | none => rw [hs] at h; cases h
  | some p => obtain ⟨G', x'⟩ := p; rw [hs] at h; exact ⟨G', x', rfl, h⟩

theorem walkL_len {lim : Nat} {o : Hy.Ord} {fuel : Nat} : ∀ {l : List UInt8} {G G'' : List Hy.Node} {x y : Nat}, Hy.walkL lim o fuel G x l = some (G'', y) → G.length ≤ G''.length
  | [], _, _, _, _, h => by cases h; exact Nat.le_refl _
  | c :: l, G, G'', x, y, h => by
    obtain ⟨G', x', h1, h2⟩ := walkL_cons h
    exact Nat.le_trans (stepL_len lim o fuel _ _ _ _ _ h1) (walkL_len h2)

def R03NewPost (o : Hy.Ord) (w : World) (e : Ending) (w' : World) : Prop :=
  ∃ (gb rb : Nat) (v : Value), e = .returned (.pointer (some ⟨gb, 0, none⟩)) ∧ RG w' o (fun k => w.heap.size ≤ k) gb rb v Hy.start ∧ Below w.heap.size w w'

set_option maxRecDepth 100000 in
set_option maxHeartbeats 1000000 in
theorem r03_NewGraph (o : Hy.Ord) (w : World) :
    Calls Tryz.prog 100 #[ordersV o.m01 o.m12 o.m02] w (R03NewPost o w) := by
  unfold ordersV
  go_enter Tryz.func100, Tryz.ntmps100
  go_wp2_with fail
  go_ret
  refine ⟨w.heap.size + 1 + 1, w.heap.size + 1, .slice (some ⟨w.heap.size + 1, 0, none⟩) 1 1, rfl, ⟨?_, ?_, by omega, ⟨by omega, by omega⟩, ?_⟩, ?_⟩
  · have := alloc_heap_new ((w.alloc (.cells #[.int .i64 o.m01, .int .i64 o.m12, .int .i64 o.m02] 23)).alloc (.cells (flat Hy.start).toArray 194)) (.cells #[.int .i64 o.m01, .int .i64 o.m12, .int .i64 o.m02, .slice (some ⟨w.heap.size + 1, 0, none⟩) 1 1] 197)
    rw [World.size_alloc, World.size_alloc] at this
    exact this
  · have h1 := QRow.new (w.alloc (.cells #[.int .i64 o.m01, .int .i64 o.m12, .int .i64 o.m02] 23)) (flat Hy.start) 1 8 194 rfl (by decide)
    rw [World.size_alloc] at h1
    exact h1.of_heap (Below.heap_alloc _ _ _ (by simp)) (by simp)
  · intro i n s j hi hj
    have h0 : i = 0 := by
      have := (List.getElem?_eq_some_iff.1 hi).1
      simpa [Hy.start] using this
    subst h0
    cases hi
    cases hj
  · exact (((Below.refl _ _).alloc (Nat.le_refl _) _).alloc (by simp) _).alloc (by simp; omega) _

set_option maxRecDepth 100000 in
set_option maxHeartbeats 1000000 in
theorem r03_Walk {o : Hy.Ord} (ho : Small o) (fuel : Nat) {lim : Nat} (hlim : lim ≤ 1000000000) {w : World} {B : Nat → Prop} {gb rb : Nat} {v : Value} {G : List Hy.Node} (h : RG w o B gb rb v G) (hF : Free B w) (l : List UInt8) (hl : ∀ (k : Nat) (hk : k < l.length), l[k].toNat < 3) (hlen : l.length ≤ 1000) (x : Nat) (hx : x < G.length) (G' : List Hy.Node) (y : Nat) (hr : Hy.walkL 1000 o fuel G x l = some (G', y)) (hG : G'.length ≤ lim) :
    Calls Tryz.prog 101 #[.pointer (some ⟨gb, 0, none⟩), .int .i64 x, str l] w (R03Post o B gb G G' y w) := by
  have IH := Lib.hid (r03_step ho (B := B) (gb := gb) hlim fuel)
  have HL := Lib.hid hl; clear hl
  have HR := Lib.hid hr; clear hr
  have HF := Lib.hid hF; clear hF
  have H := Lib.hid h; clear h
  have HG := Lib.hid hG; clear hG
  unfold str
  go_enter Tryz.func101, Tryz.ntmps101
  go_wp2_with fail
  go_loopw [1, 7] (fun tv i wr => ∃ (k : Nat) (rq : Nat) (vq : Value) (Gq : List Hy.Node) (xq : Nat), k ≤ l.length ∧ i = .int .i64 k ∧ tv = .int .i64 xq ∧ Hid (RG wr o B gb rq vq Gq) ∧ Hid (Hy.walkL 1000 o fuel Gq xq (l.drop k) = some (G', y)) ∧
    Hid (Only B w wr) ∧ G.length ≤ Gq.length ∧ xq < Gq.length) (fun _ i _ => l.length - (intOf i).toNat)
  case atStart => exact ⟨0, rb, v, G, x, Nat.zero_le _, rfl, rfl, H, HR, Only.refl _ _, Nat.le_refl _, hx⟩
  case round =>
    obtain ⟨k, rq, vq, Gq, xq, hk, rfl, rfl, HGq, HRq, HOq, hlq, hxq⟩ := hrel
    by_cases hlt : k < l.length
    · have hix := run_index_str l k l[k] (List.getElem?_eq_getElem hlt)
      have hr := HRq.out
      rw [List.drop_eq_getElem_cons hlt] at hr
      obtain ⟨Gn, xn, hs, hr'⟩ := walkL_cons hr
      have h3 := HL.out k hlt
      have hGn : Gn.length ≤ lim := Nat.le_trans (walkL_len hr') HG.out
      have hcall := IH.out wr rq vq Gq xq l[k].toNat Gn xn HGq.out (HF.out.grow HOq.out.size) h3 hs hGn
      have HCALL := Lib.hid hcall; clear hcall hs hr
      have HRN := Lib.hid hr'; clear hr'
      go_wp2_with fail
      refine HCALL.out.mono ?_
      rintro e w3 ⟨rn, vn, rfl, h3, hB3, hlen3, hzn⟩
      clear HCALL
      have H3 := Lib.hid h3; clear h3
      have HB3 := Lib.hid hB3; clear hB3
      go_wp2_with fail
      go_roundw
      case rel => exact ⟨k + 1, rn, vn, Gn, xn, by omega, by go_num, rfl, H3, HRN, HOq.out.trans HB3.out, by omega, hzn⟩
      case measure => simp [intOf]; omega
    · obtain rfl : k = l.length := by omega
      clear hlt hk
      go_wp2_with fail
      go_ret
      have hr := HRq.out
      rw [List.drop_length] at hr
      cases hr
      exact ⟨rq, vq, rfl, HGq.out, HOq.out, hlq, hxq⟩

set_option maxRecDepth 100000 in
set_option maxHeartbeats 1000000 in
theorem r03_Word (o : Hy.Ord) (ho : Small o) (fuel : Nat) {lim : Nat} (hlim : lim ≤ 1000000000) (l : List UInt8) (hl : ∀ (k : Nat) (hk : k < l.length), l[k].toNat < 3) (hlen : l.length ≤ 1000) (G' : List Hy.Node) (y : Nat) (n : Hy.Node) (hr : Hy.walkL 1000 o fuel Hy.start 0 l = some (G', y)) (hG : G'.length ≤ lim) (hn : G'[y]? = some n) (w : World) :
    Calls Tryz.prog 36 #[ordersV o.m01 o.m12 o.m02, str l] w fun e w' => e = .returned (str n.word) ∧ Below w.heap.size w w' := by
  have HNEW := Lib.hid (r03_NewGraph o)
  have HN := Lib.hid hn; clear hn
  have HW := Lib.hid (fun w gb rb v B h hF => r03_Walk ho fuel hlim (w := w) (gb := gb) (rb := rb) (v := v) (B := B) (G := Hy.start) h hF l hl hlen 0 (by simp [Hy.start]) G' y hr hG)
  clear hr hl hlen hG
  unfold ordersV str at *
  go_enter Tryz.func36, Tryz.ntmps36
  go_wp2_with fail
  refine (HNEW.out _).mono ?_
  rintro e w1 ⟨gb, rb, v, rfl, hR1, hB1⟩
  have hF1 : Free (fun k => (w.alloc (.cells #[.int .i64 o.m01, .int .i64 o.m12, .int .i64 o.m02] 23)).heap.size ≤ k) w1 := fun k hk => Nat.le_trans hB1.size hk
  have hcall := HW.out w1 gb rb v _ hR1 hF1
  have HCALL := Lib.hid hcall; clear hcall
  have HB1 := Lib.hid hB1; clear hB1
  clear hR1 hF1
  go_wp2_with fail
  refine HCALL.out.mono ?_
  rintro e w2 ⟨rb2, v2, rfl, hR2, hO2, hlen2, hy2⟩
  obtain ⟨off, cap, rfl, hg, hnode, _⟩ := hR2.opened
  have cw := (hnode y n HN.out).nword
  unfold str at cw
  have HO2 := Lib.hid hO2; clear hO2
  clear hnode hR2 HCALL
  go_wp2_with fail
  go_ret
  refine ⟨rfl, ?_⟩
  have h0 : Below w.heap.size w (w.alloc (.cells #[.int .i64 o.m01, .int .i64 o.m12, .int .i64 o.m02] 23)) := (Below.refl _ _).alloc (Nat.le_refl _) _
  have h1 := h0.trans (HB1.out.mono (by simp))
  refine h1.trans ⟨HO2.out.os, HO2.out.tape, HO2.out.output, HO2.out.size, fun k hk => HO2.out.block k (by simp; omega)⟩
theorem allErr_of_zero {a b c : Int} {ws : List (List UInt8)} (h : Hy.ordErr a b c = 0) : Hy.allErr a b c ws = Hy.wordsErr ws := Hy.allErr_ok h
end Go.Proofs.YtfdklmpkienfhaaGreat


namespace Go.Proofs.YtfdklmpkienfhaaGreat
set_option linter.unusedSimpArgs false
set_option linter.unusedVariables false
open Go.RowKit
open Hy (Lets IsNF Eqv Le)

def Texts (w : World) (v : Value) (ws : List (List UInt8)) : Prop := ∃ (g cap : Nat), v = .slice (some ⟨g, 0, none⟩) ws.length cap ∧ g < w.heap.size ∧ ∀ (k : Nat) (hk : k < ws.length), w.cell? ⟨g, k, none⟩ = some (str ws[k])

theorem Texts.below {w w' : World} {v : Value} {ws : List (List UInt8)} (h : Texts w v ws) (hb : Below w.heap.size w w') : Texts w' v ws := by
  obtain ⟨g, cap, h1, h2, h3⟩ := h
  exact ⟨g, cap, h1, Nat.lt_of_lt_of_le h2 hb.size, fun k hk => (below_cell hb h2 k).trans (h3 k hk)⟩

set_option maxRecDepth 100000 in
set_option maxHeartbeats 1000000 in
theorem r03_Turned (l : List UInt8) (w : World) (hl : l.length ≤ 1000) :
    Calls Tryz.prog 34 #[str l] w fun e w' => e = .returned (str l.reverse) ∧ w = w' := by
  unfold str
  go_enter Tryz.func34, Tryz.ntmps34
  go_wp2_with fail
  go_loop [3, 4] (fun s i => ∃ k : Nat, k ≤ l.length ∧ i = .int .i64 k ∧ s = .string ⟨(l.take k).reverse.toArray⟩) (fun _ i => l.length - (intOf i).toNat)
  case atStart => exact ⟨0, Nat.zero_le _, rfl, rfl⟩
  case round =>
    obtain ⟨k, hk, rfl, rfl⟩ := hrel
    by_cases hlt : k < l.length
    · have hsl := slice_one l k hlt
      have htk : (l.take (k + 1)).reverse = [l[k]] ++ (l.take k).reverse := by rw [List.take_succ_eq_append_getElem hlt]; simp
      have HTK := Lib.hid htk; clear htk
      go_wp2_with fail
      go_round
      case rel =>
        refine ⟨k + 1, by omega, by go_num, ?_⟩
        rw [HTK.out]
        exact congrArg Value.string (bytes_add [l[k]] _)
      case measure => simp [intOf]; omega
    · obtain rfl : k = l.length := by omega
      clear hk hlt
      go_wp2_with fail
      go_ret
      exact ⟨rfl, rfl⟩

/-- The normal word, by what it is. -/
theorem r03_Word_nf {o : Hy.Ord} (F : Hy.Fine o) (hS : Small o) {l n : List UInt8} (hl : Lets l) (hlen : l.length ≤ 1000) (hn : IsNF o l n) (w : World) :
    Calls Tryz.prog 36 #[ordersV o.m01 o.m12 o.m02, str l] w fun e w' => e = .returned (str n) ∧ Below w.heap.size w w' := by
  obtain ⟨G, y, nd, h1, h2, h3, h4⟩ := Hy.walk_few F hl hlen
  rw [hn.uniq h3]
  exact r03_Word o hS 1000 (lim := 100000000) (by omega) l (fun k hk => hl _ (List.getElem_mem hk)) hlen G y nd h1 h4 h2 w
end Go.Proofs.YtfdklmpkienfhaaGreat
