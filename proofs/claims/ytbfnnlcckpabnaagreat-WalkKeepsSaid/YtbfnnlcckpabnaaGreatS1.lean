import Derived.Test.YtbfnnlcckpabnaaGreatR3

/- The graph of the specification of layer 3: made, walked along a word; the normal word. -/
namespace Go.Proofs.YtbfnnlcckpabnaaGreat
set_option linter.unusedSimpArgs false
set_option linter.unusedVariables false
open Go.RowKit

theorem stepL_len (lim : Nat) (o : Hy.Ord) : ∀ fuel, Longer (Hy.stepL lim o fuel)
  | 0 => fun _ _ _ _ _ h => by cases h
  | fuel + 1 => fun G x s G' y h => by
    unfold Hy.stepL at h
    cases hn : G[x]? with
    | none => rw [hn] at h; cases h
    | some n =>
      rw [hn] at h
      simp only at h
      cases ht : n.to s with
      | some y' => rw [ht] at h; cases h; exact Nat.le_refl _
      | none =>
        rw [ht] at h
        simp only at h
        by_cases hl : lim ≤ n.word.length
        · rw [if_pos hl] at h; cases h
        · rw [if_neg hl] at h
          cases hc : Hy.cornersL lim o (Hy.stepL lim o fuel) x s G.length 3 (Hy.sprout G n x s) with
          | none => rw [hc] at h; cases h
          | some Gc =>
            rw [hc] at h
            cases h
            have := cornersL_len (stepL_len lim o fuel) hc
            rw [sprout_length] at this
            omega

/-- The step of the graph in memory. -/
theorem r03_step {o : Hy.Ord} (ho : Small o) {B : Nat → Prop} {gb lim : Nat} (hlim : lim ≤ 1000000000) : ∀ fuel : Nat, R03IH o B gb lim (Hy.stepL 1000 o fuel)
  | 0 => fun w rb v G x s G' y h hB hs hf => by cases hf
  | fuel + 1 => fun w rb v G x s G' y h hB hs hf hG => by
    unfold Hy.stepL at hf
    cases hx : G[x]? with
    | none => rw [hx] at hf; cases hf
    | some n =>
      rw [hx] at hf
      simp only at hf
      cases hy : n.to s with
      | some y' =>
        rw [hy] at hf
        cases hf
        exact r03_step_known h hs hx hy
      | none =>
        rw [hy] at hf
        simp only at hf
        by_cases hl : 1000 ≤ n.word.length
        · rw [if_pos hl] at hf; cases hf
        · rw [if_neg hl] at hf
          cases hc : Hy.cornersL 1000 o (Hy.stepL 1000 o fuel) x s G.length 3 (Hy.sprout G n x s) with
          | none => rw [hc] at hf; cases hf
          | some Gc =>
            rw [hc] at hf
            cases hf
            exact r03_step_new ho h hB hs hx hy (by omega) hlim (r03_step ho hlim fuel) (stepL_len 1000 o fuel) hc hG

theorem walkL_cons {lim : Nat} {o : Hy.Ord} {fuel : Nat} {G G'' : List Hy.Node} {x y : Nat} {c : UInt8} {l : List UInt8} (h : Hy.walkL lim o fuel G x (c :: l) = some (G'', y)) :
    ∃ G' x', Hy.stepL lim o fuel G x c.toNat = some (G', x') ∧ Hy.walkL lim o fuel G' x' l = some (G'', y) := by
  unfold Hy.walkL at h
  cases hs : Hy.stepL lim o fuel G x c.toNat with
  | none => rw [hs] at h; cases h
  | some p => obtain ⟨G', x'⟩ := p; rw [hs] at h; exact ⟨G', x', rfl, h⟩

theorem walkL_len {lim : Nat} {o : Hy.Ord} {fuel : Nat} : ∀ {l : List UInt8} {G G'' : List Hy.Node} {x y : Nat}, Hy.walkL lim o fuel G x l = some (G'', y) → G.length ≤ G''.length
  | [], _, _, _, _, h => by cases h; exact Nat.le_refl _
  | c :: l, G, G'', x, y, h => by
    obtain ⟨G', x', h1, h2⟩ := walkL_cons h
    exact Nat.le_trans (stepL_len lim o fuel _ _ _ _ _ h1) (walkL_len h2)

def R03NewPost (o : Hy.Ord) (w : World) (e : Ending) (w' : World) : Prop :=
  ∃ (gb rb : Nat) (v : Value), e = .returned (.pointer (some ⟨gb, 0, none⟩)) ∧ RG w' o (fun k => w.heap.size ≤ k) gb rb v Hy.start ∧ Below w.heap.size w w'

set_option maxRecDepth 100000 in
set_option maxHeartbeats 1000000 in
theorem r03_NewGraph (o : Hy.Ord) (w : World) :
    Calls Tryz.prog 82 #[ordersV o.m01 o.m12 o.m02] w (R03NewPost o w) := by
  unfold ordersV
  go_enter Tryz.func82, Tryz.ntmps82
  go_wp2_with fail
  go_ret
  refine ⟨w.heap.size + 1 + 1, w.heap.size + 1, .slice (some ⟨w.heap.size + 1, 0, none⟩) 1 1, rfl, ⟨?_, ?_, by omega, ⟨by omega, by omega⟩, ?_⟩, ?_⟩
  · have := alloc_heap_new ((w.alloc (.cells #[.int .i64 o.m01, .int .i64 o.m12, .int .i64 o.m02] 23)).alloc (.cells (flat Hy.start).toArray 165)) (.cells #[.int .i64 o.m01, .int .i64 o.m12, .int .i64 o.m02, .slice (some ⟨w.heap.size + 1, 0, none⟩) 1 1] 168)
    rw [World.size_alloc, World.size_alloc] at this
    exact this
  · have h1 := QRow.new (w.alloc (.cells #[.int .i64 o.m01, .int .i64 o.m12, .int .i64 o.m02] 23)) (flat Hy.start) 1 8 165 rfl (by decide)
    rw [World.size_alloc] at h1
    exact h1.of_heap (Below.heap_alloc _ _ _ (by simp)) (by simp)
  · intro i n s j hi hj
    have h0 : i = 0 := by
      have := (List.getElem?_eq_some_iff.1 hi).1
      simpa [Hy.start] using this
    subst h0
    cases hi
    cases hj
  · exact (((Below.refl _ _).alloc (Nat.le_refl _) _).alloc (by simp) _).alloc (by simp; omega) _

set_option maxRecDepth 100000 in
set_option maxHeartbeats 1000000 in
theorem r03_Walk {o : Hy.Ord} (ho : Small o) (fuel : Nat) {lim : Nat} (hlim : lim ≤ 1000000000) {w : World} {B : Nat → Prop} {gb rb : Nat} {v : Value} {G : List Hy.Node} (h : RG w o B gb rb v G) (hF : Free B w) (l : List UInt8) (hl : ∀ (k : Nat) (hk : k < l.length), l[k].toNat < 3) (hlen : l.length ≤ 1000) (x : Nat) (hx : x < G.length) (G' : List Hy.Node) (y : Nat) (hr : Hy.walkL 1000 o fuel G x l = some (G', y)) (hG : G'.length ≤ lim) :
    Calls Tryz.prog 83 #[.pointer (some ⟨gb, 0, none⟩), .int .i64 x, str l] w (R03Post o B gb G G' y w) := by
  have IH := Lib.hid (r03_step ho (B := B) (gb := gb) hlim fuel)
  have HL := Lib.hid hl; clear hl
  have HR := Lib.hid hr; clear hr
  have HF := Lib.hid hF; clear hF
  have H := Lib.hid h; clear h
  have HG := Lib.hid hG; clear hG
  unfold str
  go_enter Tryz.func83, Tryz.ntmps83
  go_wp2_with fail
  go_loopw [1, 7] (fun tv i wr => ∃ (k : Nat) (rq : Nat) (vq : Value) (Gq : List Hy.Node) (xq : Nat), k ≤ l.length ∧ i = .int .i64 k ∧ tv = .int .i64 xq ∧ Hid (RG wr o B gb rq vq Gq) ∧ Hid (Hy.walkL 1000 o fuel Gq xq (l.drop k) = some (G', y)) ∧
    Hid (Only B w wr) ∧ G.length ≤ Gq.length ∧ xq < Gq.length) (fun _ i _ => l.length - (intOf i).toNat)
  case atStart => exact ⟨0, rb, v, G, x, Nat.zero_le _, rfl, rfl, H, HR, Only.refl _ _, Nat.le_refl _, hx⟩
  case round =>
    obtain ⟨k, rq, vq, Gq, xq, hk, rfl, rfl, HGq, HRq, HOq, hlq, hxq⟩ := hrel
    by_cases hlt : k < l.length
    · have hix := run_index_str l k l[k] (List.getElem?_eq_getElem hlt)
      have hr := HRq.out
      rw [List.drop_eq_getElem_cons hlt] at hr
      obtain ⟨Gn, xn, hs, hr'⟩ := walkL_cons hr
      have h3 := HL.out k hlt
      have hGn : Gn.length ≤ lim := Nat.le_trans (walkL_len hr') HG.out
      have hcall := IH.out wr rq vq Gq xq l[k].toNat Gn xn HGq.out (HF.out.grow HOq.out.size) h3 hs hGn
      have HCALL := Lib.hid hcall; clear hcall hs hr
      have HRN := Lib.hid hr'; clear hr'
      go_wp2_with fail
      refine HCALL.out.mono ?_
      rintro e w3 ⟨rn, vn, rfl, h3, hB3, hlen3, hzn⟩
      clear HCALL
      have H3 := Lib.hid h3; clear h3
      have HB3 := Lib.hid hB3; clear hB3
      go_wp2_with fail
      go_roundw
      case rel => exact ⟨k + 1, rn, vn, Gn, xn, by omega, by go_num, rfl, H3, HRN, HOq.out.trans HB3.out, by omega, hzn⟩
      case measure => simp [intOf]; omega
    · obtain rfl : k = l.length := by omega
      clear hlt hk
      go_wp2_with fail
      go_ret
      have hr := HRq.out
      rw [List.drop_length] at hr
      cases hr
      exact ⟨rq, vq, rfl, HGq.out, HOq.out, hlq, hxq⟩

set_option maxRecDepth 100000 in
set_option maxHeartbeats 1000000 in
theorem r03_Word (o : Hy.Ord) (ho : Small o) (fuel : Nat) {lim : Nat} (hlim : lim ≤ 1000000000) (l : List UInt8) (hl : ∀ (k : Nat) (hk : k < l.length), l[k].toNat < 3) (hlen : l.length ≤ 1000) (G' : List Hy.Node) (y : Nat) (n : Hy.Node) (hr : Hy.walkL 1000 o fuel Hy.start 0 l = some (G', y)) (hG : G'.length ≤ lim) (hn : G'[y]? = some n) (w : World) :
    Calls Tryz.prog 59 #[ordersV o.m01 o.m12 o.m02, str l] w fun e w' => e = .returned (str n.word) ∧ Below w.heap.size w w' := by
  have HNEW := Lib.hid (r03_NewGraph o)
  have HN := Lib.hid hn; clear hn
  have HW := Lib.hid (fun w gb rb v B h hF => r03_Walk ho fuel hlim (w := w) (gb := gb) (rb := rb) (v := v) (B := B) (G := Hy.start) h hF l hl hlen 0 (by simp [Hy.start]) G' y hr hG)
  clear hr hl hlen hG
  unfold ordersV str at *
  go_enter Tryz.func59, Tryz.ntmps59
  go_wp2_with fail
  refine (HNEW.out _).mono ?_
  rintro e w1 ⟨gb, rb, v, rfl, hR1, hB1⟩
  have hF1 : Free (fun k => (w.alloc (.cells #[.int .i64 o.m01, .int .i64 o.m12, .int .i64 o.m02] 23)).heap.size ≤ k) w1 := fun k hk => Nat.le_trans hB1.size hk
  have hcall := HW.out w1 gb rb v _ hR1 hF1
  have HCALL := Lib.hid hcall; clear hcall
  have HB1 := Lib.hid hB1; clear hB1
  clear hR1 hF1
  go_wp2_with fail
  refine HCALL.out.mono ?_
  rintro e w2 ⟨rb2, v2, rfl, hR2, hO2, hlen2, hy2⟩
  obtain ⟨off, cap, rfl, hg, hnode, _⟩ := hR2.opened
  have cw := (hnode y n HN.out).nword
  unfold str at cw
  have HO2 := Lib.hid hO2; clear hO2
  clear hnode hR2 HCALL
  go_wp2_with fail
  go_ret
  refine ⟨rfl, ?_⟩
  have h0 : Below w.heap.size w (w.alloc (.cells #[.int .i64 o.m01, .int .i64 o.m12, .int .i64 o.m02] 23)) := (Below.refl _ _).alloc (Nat.le_refl _) _
  have h1 := h0.trans (HB1.out.mono (by simp))
  refine h1.trans ⟨HO2.out.os, HO2.out.tape, HO2.out.output, HO2.out.size, fun k hk => HO2.out.block k (by simp; omega)⟩
theorem allErr_of_zero {a b c : Int} {ws : List (List UInt8)} (h : Hy.ordErr a b c = 0) : Hy.allErr a b c ws = Hy.wordsErr ws := Hy.allErr_ok h
end Go.Proofs.YtbfnnlcckpabnaaGreat

/- The small functions of the specification of layer 7: letters, things, the order of words. -/
namespace Go.Proofs.YtbfnnlcckpabnaaGreat
set_option linter.unusedSimpArgs false
set_option linter.unusedVariables false
open Go.RowKit

set_option maxRecDepth 100000 in
set_option maxHeartbeats 1000000 in
theorem r07_letter (i : Nat) (hi : i < 256) (w : World) :
    Calls Tryz.prog 68 #[.int .i64 i] w fun e w' => e = .returned (str (Hy.letter i)) ∧ w' = w.alloc (.cells #[.int .u8 i] 5) := by
  have kl := run_letter (w.alloc (.cells #[.int .u8 i] 5)) w.heap.size i (by simp)
  unfold str at *
  go_enter Tryz.func68, Tryz.ntmps68
  go_wp2_with fail
  go_ret
  exact ⟨rfl, rfl⟩

set_option maxRecDepth 100000 in
set_option maxHeartbeats 1000000 in
theorem r07_IsThing (l : List UInt8) (w : World) (hl : l.length ≤ 9223372036854775807) :
    Calls Tryz.prog 41 #[str l] w fun e w' => e = .returned (.bool (Hy.isThing l)) ∧ w = w' := by
  unfold str
  go_enter Tryz.func41, Tryz.ntmps41
  go_wp2_with fail
  go_loop [3] (fun i => ∃ k : Nat, k ≤ l.length ∧ i = .int .i64 k ∧ Hid ((l.take k).all Hy.thingByte = true)) (fun i => l.length - (intOf i).toNat)
  case atStart => exact ⟨0, Nat.zero_le _, rfl, rfl⟩
  case round =>
    obtain ⟨k, hk, rfl, HK⟩ := hrel
    by_cases hlt : k < l.length
    · have hix := run_index_str l k l[k] (List.getElem?_eq_getElem hlt)
      by_cases h1 : l[k].toNat < 32
      · have hb : Hy.thingByte l[k] = false := by unfold Hy.thingByte; simp; omega
        have HB := Lib.hid hb; clear hb
        have g : decide ((l[k].toNat : Int) < 32) = true := by simp; omega
        go_wp2_with fail
        go_ret
        exact ⟨by rw [Hy.isThing_bad hlt HB.out]; rfl, rfl⟩
      · have g : decide ((l[k].toNat : Int) < 32) = false := by simp; omega
        by_cases h2 : 126 < l[k].toNat
        · have hb : Hy.thingByte l[k] = false := by unfold Hy.thingByte; simp; omega
          have HB := Lib.hid hb; clear hb
          have g2 : decide ((126 : Int) < (l[k].toNat : Int)) = true := by simp; omega
          go_wp2_with fail
          go_ret
          exact ⟨by rw [Hy.isThing_bad hlt HB.out]; rfl, rfl⟩
        · have hb : Hy.thingByte l[k] = true := by unfold Hy.thingByte; simp; omega
          have HB := Lib.hid (Hy.all_take_succ hlt HK.out hb); clear hb
          have g2 : decide ((126 : Int) < (l[k].toNat : Int)) = false := by simp; omega
          go_wp2_with fail
          go_round
          case rel => exact ⟨k + 1, by omega, by go_num, HB.out⟩
          case measure => simp [intOf]; omega
    · obtain rfl : k = l.length := by omega
      clear hk hlt
      have ha : l.all Hy.thingByte = true := by have := HK.out; rwa [List.take_length] at this
      have HA := Lib.hid (Hy.isThing_ok ha); clear ha HK
      go_wp2_with fail
      go_ret
      refine ⟨?_, rfl⟩
      rw [HA.out]
      simp
      omega

/-- Shorter, or as long and ahead. -/
def aheadW (a b : List UInt8) : Bool := if a.length = b.length then Hy.less a b else decide (a.length < b.length)

set_option maxRecDepth 100000 in
set_option maxHeartbeats 1000000 in
theorem r07_Ahead (a b : List UInt8) (w : World) :
    Calls Tryz.prog 62 #[str a, str b] w fun e w' => e = .returned (.bool (aheadW a b)) ∧ w = w' := by
  unfold str
  by_cases h : a.length = b.length
  · have g : ((a.length : Int) != (b.length : Int)) = false := by rw [bne_eq_false_iff_eq]; omega
    have hr : aheadW a b = Op.bytesLess a b := by unfold aheadW; rw [if_pos h, less_eq]
    rw [hr]
    have HR := Lib.hid hr
    clear h hr
    go_enter Tryz.func62, Tryz.ntmps62
    go_wp2_with fail
    go_ret
    exact ⟨rfl, rfl⟩
  · have g : ((a.length : Int) != (b.length : Int)) = true := by rw [bne_iff_ne]; omega
    have hr : aheadW a b = decide (a.length < b.length) := by
      unfold aheadW; rw [if_neg h]
    rw [hr]
    clear h hr
    go_enter Tryz.func62, Tryz.ntmps62
    go_wp2_with fail
    go_ret
    exact ⟨rfl, rfl⟩

theorem aheadW_le {a b : List UInt8} : aheadW a b = false ↔ Hy.Le b a := by
  unfold aheadW Hy.Le
  by_cases h : a.length = b.length
  · rw [if_pos h]
    exact ⟨fun h2 => .inr ⟨h.symm, h2⟩, fun h2 => by rcases h2 with h2 | ⟨_, h2⟩; omega; exact h2⟩
  · rw [if_neg h, decide_eq_false_iff_not]
    exact ⟨fun h2 => .inl (by omega), fun h2 => by rcases h2 with h2 | ⟨h2, _⟩ <;> omega⟩
end Go.Proofs.YtbfnnlcckpabnaaGreat

/- The side of a tile in the specification of layer 7. -/
namespace Go.Proofs.YtbfnnlcckpabnaaGreat
set_option linter.unusedSimpArgs false
set_option linter.unusedVariables false
open Go.RowKit
open Hy (Lets IsNF Eqv Le)

/-- The normal word, by what it is. -/
theorem r03_Word_nf {o : Hy.Ord} (F : Hy.Fine o) (hS : Small o) {l n : List UInt8} (hl : Lets l) (hlen : l.length ≤ 1000) (hn : IsNF o l n) (w : World) :
    Calls Tryz.prog 59 #[ordersV o.m01 o.m12 o.m02, str l] w fun e w' => e = .returned (str n) ∧ Below w.heap.size w w' := by
  obtain ⟨G, y, nd, h1, h2, h3, h4⟩ := Hy.walk_few F hl hlen
  rw [hn.uniq h3]
  exact r03_Word o hS 1000 (lim := 100000000) (by omega) l (fun k hk => hl _ (List.getElem_mem hk)) hlen G y nd h1 h4 h2 w

set_option maxRecDepth 100000 in
set_option maxHeartbeats 2000000 in
theorem r07_Near {o : Hy.Ord} (F : Hy.Fine o) (hS : Small o) {tile nu nv : List UInt8} (hl : Lets tile) (hlen : tile.length ≤ 900) {m : Nat} (hm : m < 3) (hu : IsNF o tile nu) (hv : IsNF o (tile ++ Hy.letter m) nv) (w : World) :
    Calls Tryz.prog 38 #[ordersV o.m01 o.m12 o.m02, str tile, .int .i64 m] w fun e w' => e = .returned (.agg #[str (Hy.nearOf nu nv), .int .i64 m]) ∧ Below w.heap.size w w' := by
  have HU := Lib.hid (fun W => r03_Word_nf F hS hl (by omega) hu W)
  have HV := Lib.hid (fun W => r03_Word_nf F hS (l := tile ++ Hy.letter m) (Lets.app.2 ⟨hl, Hy.lets_letter hm⟩) (by simp [Hy.letter]; omega) hv W)
  have HLET := Lib.hid (fun W => (r07_letter m (by omega) W).mono (fun e w' h => And.intro h.1 (show Below W.heap.size W w' from h.2 ▸ (Below.refl _ _).alloc (Nat.le_refl _) _)))
  clear hu hv hl
  have hadd : ∀ W' : World, (Op.stringOp .add ⟨tile.toArray⟩ ⟨#[UInt8.ofNat m]⟩).run Tryz.prog W' = .ok (.string (⟨tile.toArray⟩ ++ ⟨#[UInt8.ofNat m]⟩)) W' := fun W' => by
    have h2 : IntKind.i64.max = 2 ^ 63 - 1 := rfl
    simp only [Op.stringOp, ByteArray.size, List.size_toArray, h2]
    rw [if_neg (by simp; omega)]
    rfl
  unfold ordersV str at *
  rw [← bytes_add] at HV
  unfold Hy.letter at HV HLET
  go_enter Tryz.func38, Tryz.ntmps38
  go_upto_region 1 with fail
  obtain ⟨W0, hW0⟩ : ∃ W0, ((w.alloc (.cells #[.int .i64 o.m01, .int .i64 o.m12, .int .i64 o.m02] 23)).alloc (.cells #[.string ⟨#[]⟩, .int .i64 0] 83)) = W0 := ⟨_, rfl⟩
  have ho0 : W0.heap[w.heap.size]? = some (.cells #[.int .i64 o.m01, .int .i64 o.m12, .int .i64 o.m02] 23 (0, 0)) := by
    rw [← hW0, heap_alloc_lt _ _ (by simp)]
    exact alloc_heap_new w _
  have hr0 : W0.heap[w.heap.size + 1]? = some (.cells #[.string ⟨#[]⟩, .int .i64 0] 83 (0, 0)) := by
    rw [← hW0]
    have h := alloc_heap_new (w.alloc (.cells #[.int .i64 o.m01, .int .i64 o.m12, .int .i64 o.m02] 23)) (.cells #[.string ⟨#[]⟩, .int .i64 0] 83)
    rwa [World.size_alloc] at h
  have hB0 : Below w.heap.size w W0 := by rw [← hW0]; exact ((Below.refl _ _).alloc (Nat.le_refl _) _).alloc (by simp) _
  have hs0 : W0.heap.size = w.heap.size + 2 := by rw [← hW0]; simp
  rw [hW0]
  clear hW0
  have q0 := cell_of_heap ho0 0
  have q1 := cell_of_heap ho0 1
  have q2 := cell_of_heap ho0 2
  simp at q0 q1 q2
  go_wp2_with fail
  refine (HU.out _).mono ?_
  rintro e w1 ⟨rfl, hB1⟩
  have hb1 := bcell hB1
  have p0 : w1.cell? ⟨w.heap.size, 0, none⟩ = some (.int .i64 o.m01) := (hb1.1 _ _ (by omega)).trans q0
  have p1 : w1.cell? ⟨w.heap.size, 1, none⟩ = some (.int .i64 o.m12) := (hb1.1 _ _ (by omega)).trans q1
  have p2 : w1.cell? ⟨w.heap.size, 2, none⟩ = some (.int .i64 o.m02) := (hb1.1 _ _ (by omega)).trans q2
  have hz1 := hB1.size
  have hr1 := (hB1.block (w.heap.size + 1) (by omega)).trans hr0
  have hB01 := hB0.trans (hB1.mono (by omega))
  have HR1 := Lib.hid hr1; have HB1 := Lib.hid hB01
  clear hr1 hB01 hB1 hb1 q0 q1 q2 ho0 hr0 hB0
  go_upto_region 2 with fail
  go_cut [8] (fun s8 wx => s8 = .string ⟨nv.toArray⟩ ∧ Hid (Below w1.heap.size w1 wx))
  case first =>
    have hsz : w.heap.size < w1.heap.size := by omega
    go_region_held3 (fun w' => w'.cell? ⟨w.heap.size, 0, none⟩ = some (.int .i64 o.m01) ∧ w'.cell? ⟨w.heap.size, 1, none⟩ = some (.int .i64 o.m12) ∧ w'.cell? ⟨w.heap.size, 2, none⟩ = some (.int .i64 o.m02))
      (first | go_keep | (with_reducible (exact ⟨p0, p1, p2⟩)) | (with_reducible (exact ⟨r0, r1, r2⟩)) | (with_reducible (exact ⟨t0, t1, t2⟩)))
      ((first
        | (go_at_call 68; refine (HLET.out _).mono ?_; rintro e w3 ⟨rfl, hB3⟩; obtain ⟨hc3, hf3⟩ := bcell hB3; have r0 : w3.cell? ⟨w.heap.size, 0, none⟩ = some (.int .i64 o.m01) := (hc3 _ _ hsz).trans p0; have r1 : w3.cell? ⟨w.heap.size, 1, none⟩ = some (.int .i64 o.m12) := (hc3 _ _ hsz).trans p1; have r2 : w3.cell? ⟨w.heap.size, 2, none⟩ = some (.int .i64 o.m02) := (hc3 _ _ hsz).trans p2; have hz3 : w.heap.size < w3.heap.size := Nat.lt_of_lt_of_le hsz hB3.size; have hb3 : Below w1.heap.size w1 w3 := below_undrew hB3; have HB3 := Lib.hid hb3; clear hb3 hB3 hc3 hf3)
        | (go_at_call 59; refine (HV.out _).mono ?_; rintro e w4 ⟨rfl, hB4⟩; obtain ⟨hc4, hf4⟩ := bcell hB4; have t0 : w4.cell? ⟨w.heap.size, 0, none⟩ = some (.int .i64 o.m01) := (hc4 _ _ hz3).trans r0; have t1 : w4.cell? ⟨w.heap.size, 1, none⟩ = some (.int .i64 o.m12) := (hc4 _ _ hz3).trans r1; have t2 : w4.cell? ⟨w.heap.size, 2, none⟩ = some (.int .i64 o.m02) := (hc4 _ _ hz3).trans r2; have hb4 : Below w1.heap.size w1 w4 := HB3.out.trans (hB4.mono HB3.out.size); have HB4 := Lib.hid hb4; clear hb4 hB4 hc4 hf4)))
    all_goals go_wp2_with fail
    all_goals go_meet
    case rel => exact ⟨rfl, HB4⟩
  case rest =>
    obtain ⟨rfl, HB2⟩ := hcut
    have hrc := (HB2.out.block (w.heap.size + 1) (by omega)).trans HR1.out
    have hBc := HB1.out.trans (HB2.out.mono HB1.out.size)
    have c0 := cell_of_heap hrc 0
    have c1 := cell_of_heap hrc 1
    have f0 := free_of_heap hrc 0
    have f1 := free_of_heap hrc 1
    simp at c0 c1
    have HRC := Lib.hid hrc; have HBC := Lib.hid hBc
    clear hrc hBc p0 p1 p2
    by_cases hlt : nv.length < nu.length
    · have hn : Hy.nearOf nu nv = nv := by unfold Hy.nearOf; rw [if_pos hlt]
      have HN := Lib.hid hn; clear hn
      go_wp2_with fail
      have hfin := two_stores (u := .string ⟨nv.toArray⟩) (v := .int .i64 m) HRC.out
      have d0 := cell_of_heap hfin 0
      have d1 := cell_of_heap hfin 1
      simp at d0 d1
      refine bodyPost_ret (v := .agg #[.string ⟨(Hy.nearOf nu nv).toArray⟩, .int .i64 m]) (by simp [results, Tryz.results38, go_sem, d0, d1, HN.out]) rfl ⟨rfl, (HBC.out.setCell (p := ⟨w.heap.size + 1, 0, none⟩) (Nat.le_succ _) _).setCell (p := ⟨w.heap.size + 1, 1, none⟩) (Nat.le_succ _) _⟩
    · have hn : Hy.nearOf nu nv = nu := by unfold Hy.nearOf; rw [if_neg hlt]
      have HN := Lib.hid hn; clear hn
      go_wp2_with fail
      have hfin := two_stores (u := .string ⟨nu.toArray⟩) (v := .int .i64 m) HRC.out
      have d0 := cell_of_heap hfin 0
      have d1 := cell_of_heap hfin 1
      simp at d0 d1
      refine bodyPost_ret (v := .agg #[.string ⟨(Hy.nearOf nu nv).toArray⟩, .int .i64 m]) (by simp [results, Tryz.results38, go_sem, d0, d1, HN.out]) rfl ⟨rfl, (HBC.out.setCell (p := ⟨w.heap.size + 1, 0, none⟩) (Nat.le_succ _) _).setCell (p := ⟨w.heap.size + 1, 1, none⟩) (Nat.le_succ _) _⟩
end Go.Proofs.YtbfnnlcckpabnaaGreat
