/- The specification of layer 4: the corners, sides and tiles of the first rings. -/
import Derived.Test.YtdckpjagmbdkgaaS50
namespace Go.Proofs.Ytdckpjagmbdkgaa
set_option linter.unusedSimpArgs false
set_option linter.unusedVariables false
open Go.RowKit
open Hy (Til wd Upto tod dnb ln tU eU cU eS cS aC pC sC sumN Inv No)

theorem ix_int (x : Option Nat) : ∃ z : Int, ix x = .int .i64 z := by
  cases x with
  | none => exact ⟨_, rfl⟩
  | some j => exact ⟨_, rfl⟩

/-- What is counted. -/
def CellsOfPost (o : Hy.Ord) (n : Nat) (w : World) (e : Ending) (w' : World) : Prop :=
  ∃ (C E T : Nat) (G : List Hy.Node), e = .returned (.agg #[.int .i64 C, .int .i64 E, .int .i64 T]) ∧ Inv o G No ∧ Upto G (n + 1) ∧ C = sumN (pC o G) (n + 1) ∧ E = sumN (sC G) (n + 1) ∧ T = sumN (aC G) (n + 1) ∧ Below w.heap.size w w'

set_option maxRecDepth 100000 in
set_option maxHeartbeats 4000000 in
theorem r04_CellsOf {o : Hy.Ord} (F : Hy.Fine o) (hS : Small o) {n : Nat} (hn : n ≤ 14) (w : World) :
    Calls Try.prog 20 #[ordersV o.m01 o.m12 o.m02, .int .i64 n] w (CellsOfPost o n w) := by
  have HTIL := Lib.hid (fun W => r04_Tiles F hS hn W)
  have HORD := Lib.hid (fun m hm W => r04_Order o m hm W)
  have HF := Lib.hid (fun m hm W => r04_first m hm W)
  have HSN := Lib.hid (fun m hm W => r04_second m hm W)
  obtain ⟨W0, hW0⟩ : ∃ W0, W0 = w.alloc (.cells #[.int .i64 o.m01, .int .i64 o.m12, .int .i64 o.m02] 23) := ⟨_, rfl⟩
  obtain ⟨W1, hW1⟩ : ∃ W1, W1 = W0.alloc (.cells #[.int .i64 0, .int .i64 0, .int .i64 0] 48) := ⟨_, rfl⟩
  have hs0 : W0.heap.size = w.heap.size + 1 := by rw [hW0]; simp
  have hs1 : W1.heap.size = w.heap.size + 2 := by rw [hW1]; simp [hs0]
  have HB0 := Lib.hid (show Below w.heap.size w W1 from by
    rw [hW1, hW0]
    exact ((Below.refl w.heap.size w).alloc (Nat.le_refl _) _).alloc (by simp) _)
  have q0 : W1.heap[w.heap.size]? = some (.cells #[.int .i64 o.m01, .int .i64 o.m12, .int .i64 o.m02] 23) := by
    rw [hW1, Below.heap_alloc _ _ _ (by omega), hW0]
    exact World.alloc_heap_new w _
  have q1 : W1.heap[w.heap.size + 1]? = some (.cells #[.int .i64 0, .int .i64 0, .int .i64 0] 48) := by
    rw [hW1, ← hs0]
    exact World.alloc_heap_new W0 _
  have HQ0 := Lib.hid q0
  have HQ1 := Lib.hid q1
  clear q0 q1
  unfold ordersV TilPost at *
  go_enter Try.func20, Try.ntmps20
  go_upto_region 1 with fail
  rw [← hW0, ← hW1]
  have HS1 := Lib.hid hs1
  clear hW0 hW1 hs0 hs1
  have k0 := cell_of_heap HQ0.out 0
  have k1 := cell_of_heap HQ0.out 1
  have k2 := cell_of_heap HQ0.out 2
  simp at k0 k1 k2
  have HK := Lib.hid (And.intro k0 (And.intro k1 k2))
  go_wp2_with fail
  refine (HTIL.out _).mono ?_
  rintro e wq ⟨gb, rb, v, G, rfl, hR, hT, hB⟩
  have HB1 := Lib.hid hB
  have HR := Lib.hid hR
  have HT := Lib.hid hT
  have HSM := Lib.hid (hT.small hn)
  clear hR hT hB k0 k1 k2
  go_upto_region 3 with fail
  have q2 : (wq.alloc (.cells #[.int .i64 0, .int .i64 0, .int .i64 0] 48)).heap[wq.heap.size]? = some (.cells #[.int .i64 (cU o G n 0 : Nat), .int .i64 (eU G n 0 : Nat), .int .i64 (tU G n 0 : Nat)] 48) := by
    have e1 : tU G n 0 = 0 := Nat.le_zero.1 (Hy.tU_le G n 0)
    have e2 : eU G n 0 = 0 := Nat.le_zero.1 (Hy.eU_le G n 0)
    have e3 : cU o G n 0 = 0 := Nat.le_zero.1 (Hy.cU_le o G n 0)
    rw [e1, e2, e3]
    exact World.alloc_heap_new wq _
  have HQ2 := Lib.hid q2
  have HB2 := Lib.hid ((Below.refl wq.heap.size wq).alloc (Nat.le_refl _) (.cells #[.int .i64 0, .int .i64 0, .int .i64 0] 48))
  clear q2
  generalize wq.alloc (.cells #[.int .i64 0, .int .i64 0, .int .i64 0] 48) = W2 at *
  go_wp2_with fail
  obtain ⟨ob, hob⟩ : ∃ ob, ob = wq.heap.size := ⟨_, rfl⟩
  rw [← hob] at HQ2 HB2 ⊢
  have HOB := Lib.hid hob
  clear hob
  go_loopw [7] (fun iv wr => ∃ (i : Nat), iv = .int .i64 i ∧ i ≤ G.length ∧ Hid (wr.heap[ob]? = some (.cells #[.int .i64 (cU o G n i : Nat), .int .i64 (eU G n i : Nat), .int .i64 (tU G n i : Nat)] 48)) ∧ Hid (Below ob wq wr)) (fun iv _ => 28697813 - (intOf iv).toNat)
  case atStart => exact ⟨0, rfl, Nat.zero_le _, HQ2, HB2⟩
  case round =>
    clear HQ2 HB2
    obtain ⟨i, rfl, hi, HQ, HB⟩ := hrel
    have HRG := Lib.hid (HR.out.heap (by rw [← HOB.out]; exact HB.out))
    obtain ⟨off, cap, rfl, hg, hnode, hne, hgl, hrl⟩ := HRG.out.opened
    have hsm := HSM.out
    have hob1 := cell_of_heap HQ.out 0
    have hob2 := cell_of_heap HQ.out 1
    have hob3 := cell_of_heap HQ.out 2
    simp only [List.getElem?_toArray, List.getElem?_cons_zero, List.getElem?_cons_succ] at hob1 hob2 hob3
    have hof1 := free_of_heap HQ.out 0
    have hof2 := free_of_heap HQ.out 1
    have hof3 := free_of_heap HQ.out 2
    by_cases hil : i < G.length
    · have hii : (i : Int) < (G.length : Int) := by omega
      obtain ⟨nd, hnd⟩ : ∃ nd, G[i]? = some nd := ⟨G[i], List.getElem?_eq_getElem hil⟩
      have hwd : ln G i = nd.word.length := by unfold Hy.ln Hy.wd; rw [hnd]
      have N := hnode i nd hnd
      have n0 := N.nlen
      have n1 : wr.cell? ⟨rb, off + i * 8 + 1, none⟩ = some (ix (nd.to 0)) := N.nto 0 (by omega)
      have n2 : wr.cell? ⟨rb, off + i * 8 + 2, none⟩ = some (ix (nd.to 1)) := N.nto 1 (by omega)
      have n3 : wr.cell? ⟨rb, off + i * 8 + 3, none⟩ = some (ix (nd.to 2)) := N.nto 2 (by omega)
      have n4 : wr.cell? ⟨rb, off + i * 8 + 4, none⟩ = some (.bool (nd.down 0)) := N.ndown 0 (by omega)
      have n5 : wr.cell? ⟨rb, off + i * 8 + 5, none⟩ = some (.bool (nd.down 1)) := N.ndown 1 (by omega)
      have n6 : wr.cell? ⟨rb, off + i * 8 + 6, none⟩ = some (.bool (nd.down 2)) := N.ndown 2 (by omega)
      have n7 := N.nword
      have HN := Lib.hid N
      clear N hnode
      unfold str at n7
      obtain ⟨z1, hz1⟩ := ix_int (nd.to 0)
      obtain ⟨z2, hz2⟩ := ix_int (nd.to 1)
      obtain ⟨z3, hz3⟩ := ix_int (nd.to 2)
      rw [hz1] at n1
      rw [hz2] at n2
      rw [hz3] at n3
      clear hz1 hz2 hz3
      go_upto_region 7 with fail
      have hdn : ∀ s, dnb G i s = nd.down s := fun s => by unfold Hy.dnb; rw [hnd]
      obtain ⟨W5, hW5⟩ : ∃ W5, W5 = wr.alloc (.cells #[.int .i64 nd.word.length, .int .i64 z1, .int .i64 z2, .int .i64 z3, .bool (nd.down 0), .bool (nd.down 1), .bool (nd.down 2), .string ⟨nd.word.toArray⟩] 88) := ⟨_, rfl⟩
      have q5 : W5.heap[wr.heap.size]? = some (.cells #[.int .i64 nd.word.length, .int .i64 z1, .int .i64 z2, .int .i64 z3, .bool (nd.down 0), .bool (nd.down 1), .bool (nd.down 2), .string ⟨nd.word.toArray⟩] 88) := by rw [hW5]; exact World.alloc_heap_new wr _
      have hwl : ob < wr.heap.size := (Array.getElem?_eq_some_iff.1 HQ.out).1
      have hq5 : W5.heap[ob]? = some (.cells #[.int .i64 (cU o G n i : Nat), .int .i64 (eU G n i : Nat), .int .i64 (tU G n i : Nat)] 48) := by rw [hW5, Below.heap_alloc _ _ _ hwl]; exact HQ.out
      have hb5 : Below ob wq W5 := by rw [hW5]; exact HB.out.alloc (by omega) _
      rw [← hW5]
      obtain ⟨xb, hxb⟩ : ∃ xb, xb = wr.heap.size := ⟨_, rfl⟩
      rw [← hxb] at q5 hwl ⊢
      have HX5 := Lib.hid q5
      have HO5 := Lib.hid hq5
      have HB5 := Lib.hid hb5
      have hx5 : xb < W5.heap.size := (Array.getElem?_eq_some_iff.1 q5).1
      have x0 := cell_of_heap q5 0
      simp only [List.getElem?_toArray, List.getElem?_cons_zero, List.getElem?_cons_succ] at x0
      have o2 := cell_of_heap hq5 2
      have f2 := free_of_heap hq5 2
      simp only [List.getElem?_toArray, List.getElem?_cons_zero, List.getElem?_cons_succ] at o2
      have HDN := Lib.hid hdn
      have HLT := Lib.hid (Hy.tU_le G n i)
      have HLE := Lib.hid (Hy.eU_le G n i)
      have HLC := Lib.hid (Hy.cU_le o G n i)
      have htle := HLT.out
      clear n0 n1 n2 n3 n4 n5 n6 n7 HN hob1 hob2 hob3 hof1 hof2 hof3 hg hne hgl hrl HRG HQ HB hxb hW5 q5 hq5 hb5 hdn hnd
      by_cases hln : ln G i ≤ n
      · have hlni : ¬ (n : Int) < (nd.word.length : Int) := by omega
        have HLN := Lib.hid hln
        generalize nd.word.length = LW at *
        clear hln hwd
        go_upto_region 9 with fail
        have q6 : (W5.setCell ⟨ob, 2, none⟩ (.int .i64 ((tU G n i : Nat) + 1))).heap[ob]? = some (.cells #[.int .i64 ((cU o G n i + cS o G i 0 : Nat) : Int), .int .i64 ((eU G n i + eS G i 0 : Nat) : Int), .int .i64 ((tU G n i + 1 : Nat) : Int)] 48) := by
          rw [heap_setCell_same _ _ _ _ _ _ HO5.out]; rfl
        have HQ6 := Lib.hid q6
        have HO6 := Lib.hid ((Only.refl (fun k => k = ob ∨ W5.heap.size ≤ k) W5).setCell (p := ⟨ob, 2, none⟩) (.inl rfl) (.int .i64 ((tU G n i : Nat) + 1)))
        generalize W5.setCell ⟨ob, 2, none⟩ (.int .i64 ((tU G n i : Nat) + 1)) = W6 at *
        clear q6 x0 o2 f2
        go_wp2_with fail
        go_loopw [9] (fun sv wx => ∃ (s : Nat), sv = .int .i64 s ∧ s ≤ 3 ∧ Hid (wx.heap[ob]? = some (.cells #[.int .i64 ((cU o G n i + cS o G i s : Nat) : Int), .int .i64 ((eU G n i + eS G i s : Nat) : Int), .int .i64 ((tU G n i + 1 : Nat) : Int)] 48)) ∧ Hid (Only (fun k => k = ob ∨ W5.heap.size ≤ k) W5 wx)) (fun sv _ => 3 - (intOf sv).toNat)
        case atStart => exact ⟨0, rfl, Nat.zero_le _, HQ6, HO6⟩
        case round =>
          clear HQ6 HO6
          obtain ⟨s, rfl, hs, HQ, HO⟩ := hrel
          have hXB : ∀ wy, Only (fun k => k = ob ∨ W5.heap.size ≤ k) W5 wy → ∀ t, t < 3 → wy.cell? ⟨xb, 4 + t, none⟩ = some (.bool (dnb G i t)) := fun wy hO t ht => by
            rw [HDN.out t]
            have hb : wy.heap[xb]? = W5.heap[xb]? := hO.block xb (by omega)
            rw [World.cell?_of_block (w := W5) (a := ⟨xb, 4 + t, none⟩) hb, cell_of_heap HX5.out]
            obtain rfl | rfl | rfl : t = 0 ∨ t = 1 ∨ t = 2 := by omega
            all_goals rfl
          have HXB := Lib.hid hXB
          have hobs : ob < W5.heap.size := by omega
          have hBX : ∀ wy, Only (fun k => k = ob ∨ W5.heap.size ≤ k) W5 wy → Below ob wq wy := fun wy hO => HB5.out.trans (hO.below (fun k hk => by omega))
          have HBX := Lib.hid hBX
          have hBOX : ∀ wy, Only (fun k => k = ob ∨ W5.heap.size ≤ k) W5 wy → wy.cell? ⟨w.heap.size, 0, none⟩ = some (.int .i64 o.m01) ∧ wy.cell? ⟨w.heap.size, 1, none⟩ = some (.int .i64 o.m12) ∧ wy.cell? ⟨w.heap.size, 2, none⟩ = some (.int .i64 o.m02) := fun wy hO => by
            have hl : w.heap.size < W1.heap.size := by have := HS1.out; omega
            have hB := HB1.out.trans ((HBX.out wy hO).mono (by rw [HOB.out]; exact HB1.out.size))
            exact ⟨(hB.cell (p := ⟨w.heap.size, 0, none⟩) hl).trans HK.out.1, (hB.cell (p := ⟨w.heap.size, 1, none⟩) hl).trans HK.out.2.1, (hB.cell (p := ⟨w.heap.size, 2, none⟩) hl).trans HK.out.2.2⟩
          have HBOX := Lib.hid hBOX
          clear hXB hBX hBOX
          by_cases hs3 : s < 3
          · have hsi : (s : Int) < 3 := by omega
            have dS := HXB.out wr HO.out s hs3
            have hle := HLE.out
            have hlc := HLC.out
            have hes := Hy.eS_le G i s
            have hcs := Hy.cS_le o G i s
            have o1 := cell_of_heap HQ.out 1
            have f1 := free_of_heap HQ.out 1
            simp only [List.getElem?_toArray, List.getElem?_cons_zero, List.getElem?_cons_succ] at o1
            have HE1 := Lib.hid (show eS G i (s + 1) = eS G i s + (if dnb G i s = false then 1 else 0) from rfl)
            have HC1 := Lib.hid (show cS o G i (s + 1) = cS o G i s + (if 0 < o.m (fstM s) (sndM s) ∧ dnb G i (fstM s) = false ∧ dnb G i (sndM s) = false then 1 else 0) from rfl)
            obtain ⟨d, hd⟩ : ∃ d, d = dnb G i s := ⟨_, rfl⟩
            rw [← hd] at dS HE1
            obtain ⟨e0, he0⟩ : ∃ e0, e0 = eU G n i + eS G i s := ⟨_, rfl⟩
            rw [← he0] at o1
            have HE0 := Lib.hid he0
            have hbe : e0 ≤ 200000000 := by have := HSM.out; omega
            clear he0 hd hle hes
            go_upto_if 46 with fail
            go_cut [9] (fun sv wx => sv = .int .i64 s ∧ Hid (wx.heap[ob]? = some (.cells #[.int .i64 ((cU o G n i + cS o G i s : Nat) : Int), .int .i64 ((eU G n i + eS G i (s + 1) : Nat) : Int), .int .i64 ((tU G n i + 1 : Nat) : Int)] 48)) ∧ Hid (Only (fun k => k = ob ∨ W5.heap.size ≤ k) W5 wx))
            case first =>
              cases d with
              | true =>
                go_wp2_with fail
                go_meet
                exact ⟨rfl, Lib.hid (by rw [HE1.out]; exact HQ.out), HO⟩
              | false =>
                go_wp2_with fail
                go_meet
                exact ⟨rfl, Lib.hid (by rw [heap_setCell_same _ _ _ _ _ _ HQ.out, HE1.out, HE0.out]; rfl), Lib.hid (HO.out.setCell (p := ⟨ob, 1, none⟩) (.inl rfl) _)⟩
            case rest =>
              obtain ⟨rfl, HQ, HO⟩ := hcut
              clear o1 f1 dS hbe
              obtain ⟨p0, p1, p2⟩ := HBOX.out wc HO.out
              have HOS := Lib.hid (HORD.out s (by omega))
              have HFS := Lib.hid (HF.out s (by omega))
              have HSS := Lib.hid (HSN.out s (by omega))
              have hst := fst_snd s
              generalize fstM s = ft at *
              generalize sndM s = sd at *
              generalize hm : o.m ft sd = m at *
              clear hm
              go_wp2_with fail
              refine (HOS.out _).mono ?_
              rintro e w7 ⟨rfl, hB7⟩
              have HO7 := Lib.hid (HO.out.trans (Only.of_below hB7 (fun k hk => .inr (Nat.le_trans HO.out.size hk))))
              have HQ7 := Lib.hid ((hB7.block ob ((Array.getElem?_eq_some_iff.1 HQ.out).1)).trans HQ.out)
              clear hB7 p0 p1 p2
              obtain ⟨hf3, hs3', -⟩ := hst
              have hfi : (ft : Int) < 3 := by omega
              have hsdi : (sd : Int) < 3 := by omega
              by_cases hm0 : m = 0
              · have HN := Lib.hid (show cS o G i (s + 1) = cS o G i s from by rw [HC1.out, if_neg (by omega)]; rfl)
                subst hm0
                go_wp2_with fail
                go_roundw
                case rel => exact ⟨s + 1, by go_num, by omega, Lib.hid (by rw [HN.out]; exact HQ7.out), HO7⟩
                case measure => simp [intOf]; omega
              · have hmn : ((m : Int) != 0) = true := by rw [bne_iff_ne]; omega
                go_wp2_with fail
                refine (HFS.out _).mono ?_
                rintro e w8 ⟨rfl, hB8⟩
                have HO8 := Lib.hid (HO7.out.trans (Only.of_below hB8 (fun k hk => .inr (Nat.le_trans HO7.out.size hk))))
                have HQ8 := Lib.hid ((hB8.block ob ((Array.getElem?_eq_some_iff.1 HQ7.out).1)).trans HQ7.out)
                have d1 := HXB.out w8 HO8.out ft hf3
                obtain ⟨da, hda⟩ : ∃ da, da = dnb G i ft := ⟨_, rfl⟩
                rw [← hda] at d1 HC1
                clear hB8 hda
                cases da with
                | true =>
                  have HN := Lib.hid (show cS o G i (s + 1) = cS o G i s from by rw [HC1.out, if_neg (by simp)]; rfl)
                  go_wp2_with fail
                  go_roundw
                  case rel => exact ⟨s + 1, by go_num, by omega, Lib.hid (by rw [HN.out]; exact HQ8.out), HO8⟩
                  case measure => simp [intOf]; omega
                | false =>
                  go_wp2_with fail
                  refine (HSS.out _).mono ?_
                  rintro e w9 ⟨rfl, hB9⟩
                  have HO9 := Lib.hid (HO8.out.trans (Only.of_below hB9 (fun k hk => .inr (Nat.le_trans HO8.out.size hk))))
                  have HQ9 := Lib.hid ((hB9.block ob ((Array.getElem?_eq_some_iff.1 HQ8.out).1)).trans HQ8.out)
                  have d2 := HXB.out w9 HO9.out sd hs3'
                  obtain ⟨db, hdb⟩ : ∃ db, db = dnb G i sd := ⟨_, rfl⟩
                  rw [← hdb] at d2 HC1
                  clear hB9 hdb d1
                  cases db with
                  | true =>
                    have HN := Lib.hid (show cS o G i (s + 1) = cS o G i s from by rw [HC1.out, if_neg (by simp)]; rfl)
                    go_wp2_with fail
                    go_roundw
                    case rel => exact ⟨s + 1, by go_num, by omega, Lib.hid (by rw [HN.out]; exact HQ9.out), HO9⟩
                    case measure => simp [intOf]; omega
                  | false =>
                    have HN := Lib.hid (show cS o G i (s + 1) = cS o G i s + 1 from by rw [HC1.out, if_pos (by simp; omega)])
                    have o0 := cell_of_heap HQ9.out 0
                    have f0 := free_of_heap HQ9.out 0
                    simp only [List.getElem?_toArray, List.getElem?_cons_zero, List.getElem?_cons_succ] at o0
                    obtain ⟨c0, hc0⟩ : ∃ c0, c0 = cU o G n i + cS o G i s := ⟨_, rfl⟩
                    rw [← hc0] at o0
                    have HC0 := Lib.hid hc0
                    have hbc : c0 ≤ 200000000 := by have := HSM.out; omega
                    clear hc0 hlc hcs
                    go_wp2_with fail
                    go_roundw
                    case rel => exact ⟨s + 1, by go_num, by omega, Lib.hid (by rw [heap_setCell_same _ _ _ _ _ _ HQ9.out, HN.out, ← Nat.add_assoc, ← HC0.out]; rfl), Lib.hid (HO9.out.setCell (p := ⟨ob, 0, none⟩) (.inl rfl) _)⟩
                    case measure => simp [intOf]; omega
          · obtain rfl : s = 3 := by omega
            have HNX := Lib.hid (show wr.heap[ob]? = some (.cells #[.int .i64 (cU o G n (i + 1) : Nat), .int .i64 (eU G n (i + 1) : Nat), .int .i64 (tU G n (i + 1) : Nat)] 48) from by
              rw [Hy.cU_next HLN.out, Hy.eU_next HLN.out, Hy.tU_next HLN.out]; exact HQ.out)
            have HBN := Lib.hid (HBX.out wr HO.out)
            go_wp2_with fail
            go_roundw
            case rel => exact ⟨i + 1, by go_num, by omega, HNX, HBN⟩
            case measure => have := HSM.out; simp [intOf]; omega
      · have hlni : (n : Int) < (nd.word.length : Int) := by omega
        have HNX := Lib.hid (show W5.heap[ob]? = some (.cells #[.int .i64 (cU o G n (i + 1) : Nat), .int .i64 (eU G n (i + 1) : Nat), .int .i64 (tU G n (i + 1) : Nat)] 48) from by
          rw [Hy.cU_skip (by omega), Hy.eU_skip (by omega), Hy.tU_skip (by omega)]; exact HO5.out)
        generalize nd.word.length = LW at *
        clear hln hwd
        go_wp2_with fail
        go_roundw
        case rel => exact ⟨i + 1, by go_num, by omega, HNX, HB5⟩
        case measure => simp [intOf]; omega
    · obtain rfl : i = G.length := by omega
      have hw1 : w.heap.size + 1 < W1.heap.size := by have := HS1.out; omega
      have hB := HB1.out.trans (HB.out.mono (by rw [HOB.out]; exact HB1.out.size))
      have hRb := (hB.block (w.heap.size + 1) hw1).trans HQ1.out
      have r0 := cell_of_heap hRb 0
      have r1 := cell_of_heap hRb 1
      have r2 := cell_of_heap hRb 2
      have rf0 := free_of_heap hRb 0
      have rf1 := free_of_heap hRb 1
      have rf2 := free_of_heap hRb 2
      simp only [List.getElem?_toArray, List.getElem?_cons_zero, List.getElem?_cons_succ] at r0 r1 r2
      have HRB := Lib.hid hRb
      have HBB := Lib.hid hB
      have HCA := Lib.hid (Hy.cU_all o G n)
      have HEA := Lib.hid (Hy.eU_all G n)
      have HTA := Lib.hid (Hy.tU_all G n)
      generalize cU o G n G.length = c0 at *
      generalize eU G n G.length = e0 at *
      generalize tU G n G.length = t0 at *
      clear hRb hB hnode hne hgl hrl
      go_wp2_with fail
      have hb1 : (wr.setCell ⟨w.heap.size + 1, 0, none⟩ (.int .i64 c0)).heap[w.heap.size + 1]? = some (.cells #[.int .i64 c0, .int .i64 0, .int .i64 0] 48) := by rw [heap_setCell_same _ _ _ _ _ _ HRB.out]; rfl
      have hb2 : ((wr.setCell ⟨w.heap.size + 1, 0, none⟩ (.int .i64 c0)).setCell ⟨w.heap.size + 1, 1, none⟩ (.int .i64 e0)).heap[w.heap.size + 1]? = some (.cells #[.int .i64 c0, .int .i64 e0, .int .i64 0] 48) := by rw [heap_setCell_same _ _ _ _ _ _ hb1]; rfl
      have hb3 : (((wr.setCell ⟨w.heap.size + 1, 0, none⟩ (.int .i64 c0)).setCell ⟨w.heap.size + 1, 1, none⟩ (.int .i64 e0)).setCell ⟨w.heap.size + 1, 2, none⟩ (.int .i64 t0)).heap[w.heap.size + 1]? = some (.cells #[.int .i64 c0, .int .i64 e0, .int .i64 t0] 48) := by rw [heap_setCell_same _ _ _ _ _ _ hb2]; rfl
      have z0 := cell_of_heap hb3 0
      have z1 := cell_of_heap hb3 1
      have z2 := cell_of_heap hb3 2
      have zf0 := free_of_heap hb3 0
      have zf1 := free_of_heap hb3 1
      have zf2 := free_of_heap hb3 2
      have lz := (Array.getElem?_eq_some_iff.1 hb3).1
      simp at z0 z1 z2
      refine bodyPost_ret (v := .agg #[.int .i64 c0, .int .i64 e0, .int .i64 t0]) (by simp [results, Try.results20, go_sem, z0, z1, z2, zf0, zf1, zf2, lz]) rfl ?_
      refine ⟨c0, e0, t0, G, rfl, HT.out.inv, HT.out.end, HCA.out, HEA.out, HTA.out, ?_⟩
      have hl : w.heap.size ≤ w.heap.size + 1 := Nat.le_succ _
      exact (((HB0.out.trans (HBB.out.mono HB0.out.size)).setCell (p := ⟨w.heap.size + 1, 0, none⟩) hl _).setCell (p := ⟨w.heap.size + 1, 1, none⟩) hl _).setCell (p := ⟨w.heap.size + 1, 2, none⟩) hl _
end Go.Proofs.Ytdckpjagmbdkgaa
