/- The specification of layer 4: the graph of the tiles up to a length. -/
import Derived.Test.YtdckpjagmbdkgaaTil
import Derived.Test.YtdckpjagmbdkgaaS45
namespace Go.Proofs.Ytdckpjagmbdkgaa
set_option linter.unusedSimpArgs false
set_option linter.unusedVariables false
open Go.RowKit
open Hy (Til wd Upto tod stepL)

/-- What the graph's maker returns. -/
def TilPost (o : Hy.Ord) (n : Nat) (w : World) (e : Ending) (w' : World) : Prop :=
  ∃ (gb rb : Nat) (v : Value) (G : List Hy.Node), e = .returned (.pointer (some ⟨gb, 0, none⟩)) ∧ RG w' o (fun k => w.heap.size ≤ k) gb rb v G ∧ Til o n G G.length 0 ∧ Below w.heap.size w w'

set_option maxRecDepth 100000 in
set_option maxHeartbeats 4000000 in
theorem r04_Tiles {o : Hy.Ord} (F : Hy.Fine o) (hS : Small o) {n : Nat} (hn : n ≤ 14) (w : World) :
    Calls Try.prog 41 #[ordersV o.m01 o.m12 o.m02, .int .i64 n] w (TilPost o n w) := by
  have HNEW := Lib.hid (r03_NewGraph o)
  have HST := Lib.hid (fun (B : Nat → Prop) (gb : Nat) => r03_step hS (B := B) (gb := gb) (lim := 28697813) (by omega) 1000)
  have HTS := Lib.hid (fun (G : List Hy.Node) (i s : Nat) (h : Til o n G i s) (hi : i < G.length) (hl : (wd G i).length ≤ n) (hs : s < 3) => h.step F (by omega) hi hl hs)
  have q0 := World.alloc_heap_new w (.cells #[.int .i64 o.m01, .int .i64 o.m12, .int .i64 o.m02] 23)
  have HQ0 := Lib.hid q0
  have HB0 := Lib.hid ((Below.refl w.heap.size w).alloc (Nat.le_refl _) (.cells #[.int .i64 o.m01, .int .i64 o.m12, .int .i64 o.m02] 23))
  clear q0
  unfold ordersV R03NewPost at *
  go_enter Try.func41, Try.ntmps41
  go_upto_region 1 with fail
  generalize w.alloc (.cells #[.int .i64 o.m01, .int .i64 o.m12, .int .i64 o.m02] 23) = W0 at *
  have lk0 : w.heap.size < W0.heap.size := (Array.getElem?_eq_some_iff.1 HQ0.out).1
  have k0 := cell_of_heap HQ0.out 0
  have k1 := cell_of_heap HQ0.out 1
  have k2 := cell_of_heap HQ0.out 2
  simp at k0 k1 k2
  go_wp2_with fail
  refine (HNEW.out _).mono ?_
  rintro e w1 ⟨gb, rb, v, rfl, hR1, hB1⟩
  have HR1 := Lib.hid hR1
  have HB1 := Lib.hid hB1
  clear hR1 hB1 k0 k1 k2
  go_wp2_with fail
  go_loopw [6] (fun iv wr => ∃ (i rb : Nat) (v : Value) (G : List Hy.Node), iv = .int .i64 i ∧ i ≤ G.length ∧ Hid (RG wr o (fun k => W0.heap.size ≤ k) gb rb v G) ∧ Hid (Til o n G i 0) ∧ Hid (Below W0.heap.size W0 wr)) (fun iv _ => 28697813 - (intOf iv).toNat)
  case atStart => exact ⟨0, rb, v, Hy.start, rfl, Nat.zero_le _, HR1, Lib.hid (Til.begin o n), HB1⟩
  case round =>
    clear HR1 HB1
    obtain ⟨i, rb, v, G, rfl, hi, HR, HT, HB⟩ := hrel
    obtain ⟨off, cap, rfl, hg, hnode, hne, hgl, hrl⟩ := HR.out.opened
    have hsm := HT.out.small hn
    by_cases hil : i < G.length
    · have hii : (i : Int) < (G.length : Int) := by omega
      obtain ⟨nd, hnd⟩ : ∃ nd, G[i]? = some nd := ⟨G[i], List.getElem?_eq_getElem hil⟩
      have hwd : wd G i = nd.word := by unfold Hy.wd; rw [hnd]
      have nl := (hnode i nd hnd).nlen
      rw [← hwd] at nl
      by_cases hln : (wd G i).length ≤ n
      · have hlni : ¬ (n : Int) < ((wd G i).length : Int) := by omega
        have HLN := Lib.hid hln
        generalize (wd G i).length = LW at nl hlni
        clear hnode hln hwd hnd
        go_wp2_with fail
        go_loopw [7] (fun sv wx => ∃ (s rb : Nat) (v : Value) (G' : List Hy.Node), sv = .int .i64 s ∧ s ≤ 3 ∧ G.length ≤ G'.length ∧ Hid (RG wx o (fun k => W0.heap.size ≤ k) gb rb v G') ∧ Hid (Til o n G' i s ∧ (wd G' i).length ≤ n) ∧ Hid (Below W0.heap.size W0 wx)) (fun sv _ => 3 - (intOf sv).toNat)
        case atStart => exact ⟨0, rb, _, G, rfl, Nat.zero_le _, Nat.le_refl _, HR, Lib.hid ⟨HT.out, HLN.out⟩, HB⟩
        case round =>
          clear HR HT HB nl hg hne hgl hrl
          obtain ⟨s, rb, v, G', rfl, hs, hGG, HR, HT, HB⟩ := hrel
          by_cases hs3 : s < 3
          · have hsi : (s : Int) < 3 := by omega
            obtain ⟨G2, y, hst, hT2, hGl, hwl⟩ := HTS.out G' i s HT.out.1 (by omega) HT.out.2 hs3
            have HT2 := Lib.hid (And.intro hT2 hwl)
            have HCALL := Lib.hid (HST.out (fun k => W0.heap.size ≤ k) gb wr rb v G' i s G2 y HR.out (fun k hk => Nat.le_trans HB.out.size hk) hs3 hst (hT2.small hn))
            clear hst hT2 hwl
            go_wp2_with fail
            refine HCALL.out.mono ?_
            rintro e w3 ⟨rn, vn, rfl, h3, hB3, hlen3, hzn⟩
            have HR3 := Lib.hid h3
            have HB3 := Lib.hid (HB.out.trans (hB3.below (fun k hk => hk)))
            clear h3 hB3 hlen3 hzn HCALL
            go_wp2_with fail
            go_roundw
            case rel => exact ⟨s + 1, rn, vn, G2, by go_num, by omega, by omega, HR3, HT2, HB3⟩
            case measure => simp [intOf]; omega
          · obtain rfl : s = 3 := by omega
            have hsm2 := HT.out.1.small hn
            go_wp2_with fail
            go_roundw
            case rel => exact ⟨i + 1, rb, v, G', by go_num, by omega, HR, Lib.hid HT.out.1.row, HB⟩
            case measure => simp [intOf]; omega
      · have hlni : (n : Int) < ((wd G i).length : Int) := by omega
        have HLN := Lib.hid (HT.out.skip (by omega))
        generalize (wd G i).length = LW at nl hlni
        clear hnode hln hwd hnd
        go_wp2_with fail
        go_roundw
        case rel => exact ⟨i + 1, rb, _, G, by go_num, by omega, HR, HLN, HB⟩
        case measure => simp [intOf]; omega
    · obtain rfl : i = G.length := by omega
      clear hnode
      go_wp2_with fail
      go_returns
      have hB9 := HB0.out.trans (HB.out.mono HB0.out.size)
      have hT9 := HT.out
      refine ⟨gb, rb, .slice (some ⟨rb, off, none⟩) G.length cap, G, rfl, ?_, hT9, hB9⟩
      have h := HR.out
      exact ⟨h.graph, h.row, h.ne, ⟨Nat.le_trans HB0.out.size h.lo.1, Nat.le_trans HB0.out.size h.lo.2⟩, h.closed⟩
end Go.Proofs.Ytdckpjagmbdkgaa
