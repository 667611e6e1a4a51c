/- The side of a tile in the specification of layer 7. -/
import Derived.Test.YtbfnnlcckpabnaaS1
namespace Go.Proofs.Ytbfnnlcckpabnaa
set_option linter.unusedSimpArgs false
set_option linter.unusedVariables false
open Go.RowKit
open Hy (Lets IsNF Eqv Le)

/-- The normal word, by what it is. -/
theorem r03_Word_nf {o : Hy.Ord} (F : Hy.Fine o) (hS : Small o) {l n : List UInt8} (hl : Lets l) (hlen : l.length ≤ 1000) (hn : IsNF o l n) (w : World) :
    Calls Try.prog 8 #[ordersV o.m01 o.m12 o.m02, str l] w fun e w' => e = .returned (str n) ∧ Below w.heap.size w w' := by
  obtain ⟨G, y, nd, h1, h2, h3, h4⟩ := Hy.walk_few F hl hlen
  rw [hn.uniq h3]
  exact r03_Word o hS 1000 (lim := 100000000) (by omega) l (fun k hk => hl _ (List.getElem_mem hk)) hlen G y nd h1 h4 h2 w

set_option maxRecDepth 100000 in
set_option maxHeartbeats 2000000 in
theorem r07_Near {o : Hy.Ord} (F : Hy.Fine o) (hS : Small o) {tile nu nv : List UInt8} (hl : Lets tile) (hlen : tile.length ≤ 60) {m : Nat} (hm : m < 3) (hu : IsNF o tile nu) (hv : IsNF o (tile ++ Hy.letter m) nv) (w : World) :
    Calls Try.prog 31 #[ordersV o.m01 o.m12 o.m02, str tile, .int .i64 m] w fun e w' => e = .returned (.agg #[str (Hy.nearOf nu nv), .int .i64 m]) ∧ Below w.heap.size w w' := by
  have HU := Lib.hid (fun W => r03_Word_nf F hS hl (by omega) hu W)
  have HV := Lib.hid (fun W => r03_Word_nf F hS (l := tile ++ Hy.letter m) (Lets.app.2 ⟨hl, Hy.lets_letter hm⟩) (by simp [Hy.letter]; omega) hv W)
  have HLET := Lib.hid (fun W => (r07_letter m (by omega) W).mono (fun e w' h => And.intro h.1 (show Below W.heap.size W w' from h.2 ▸ (Below.refl _ _).alloc (Nat.le_refl _) _)))
  clear hu hv hl
  have hadd : ∀ W' : World, (Op.stringOp .add ⟨tile.toArray⟩ ⟨#[UInt8.ofNat m]⟩).run Try.prog W' = .ok (.string (⟨tile.toArray⟩ ++ ⟨#[UInt8.ofNat m]⟩)) W' := fun W' => by
    have h2 : IntKind.i64.max = 2 ^ 63 - 1 := rfl
    simp only [Op.stringOp, ByteArray.size, List.size_toArray, h2]
    rw [if_neg (by simp; omega)]
    rfl
  unfold ordersV str at *
  rw [← bytes_add] at HV
  unfold Hy.letter at HV HLET
  go_enter Try.func31, Try.ntmps31
  go_upto_region 1 with fail
  obtain ⟨W0, hW0⟩ : ∃ W0, ((w.alloc (.cells #[.int .i64 o.m01, .int .i64 o.m12, .int .i64 o.m02] 23)).alloc (.cells #[.string ⟨#[]⟩, .int .i64 0] 94)) = W0 := ⟨_, rfl⟩
  have ho0 : W0.heap[w.heap.size]? = some (.cells #[.int .i64 o.m01, .int .i64 o.m12, .int .i64 o.m02] 23 (0, 0)) := by
    rw [← hW0, heap_alloc_lt _ _ (by simp)]
    exact alloc_heap_new w _
  have hr0 : W0.heap[w.heap.size + 1]? = some (.cells #[.string ⟨#[]⟩, .int .i64 0] 94 (0, 0)) := by
    rw [← hW0]
    have h := alloc_heap_new (w.alloc (.cells #[.int .i64 o.m01, .int .i64 o.m12, .int .i64 o.m02] 23)) (.cells #[.string ⟨#[]⟩, .int .i64 0] 94)
    rwa [World.size_alloc] at h
  have hB0 : Below w.heap.size w W0 := by rw [← hW0]; exact ((Below.refl _ _).alloc (Nat.le_refl _) _).alloc (by simp) _
  have hs0 : W0.heap.size = w.heap.size + 2 := by rw [← hW0]; simp
  rw [hW0]
  clear hW0
  have q0 := cell_of_heap ho0 0
  have q1 := cell_of_heap ho0 1
  have q2 := cell_of_heap ho0 2
  simp at q0 q1 q2
  go_wp2_with fail
  refine (HU.out _).mono ?_
  rintro e w1 ⟨rfl, hB1⟩
  have hb1 := bcell hB1
  have p0 : w1.cell? ⟨w.heap.size, 0, none⟩ = some (.int .i64 o.m01) := (hb1.1 _ _ (by omega)).trans q0
  have p1 : w1.cell? ⟨w.heap.size, 1, none⟩ = some (.int .i64 o.m12) := (hb1.1 _ _ (by omega)).trans q1
  have p2 : w1.cell? ⟨w.heap.size, 2, none⟩ = some (.int .i64 o.m02) := (hb1.1 _ _ (by omega)).trans q2
  have hz1 := hB1.size
  have hr1 := (hB1.block (w.heap.size + 1) (by omega)).trans hr0
  have hB01 := hB0.trans (hB1.mono (by omega))
  have HR1 := Lib.hid hr1; have HB1 := Lib.hid hB01
  clear hr1 hB01 hB1 hb1 q0 q1 q2 ho0 hr0 hB0
  go_upto_region 2 with fail
  go_cut [8] (fun s8 wx => s8 = .string ⟨nv.toArray⟩ ∧ Hid (Below w1.heap.size w1 wx))
  case first =>
    have hsz : w.heap.size < w1.heap.size := by omega
    go_region_held3 (fun w' => w'.cell? ⟨w.heap.size, 0, none⟩ = some (.int .i64 o.m01) ∧ w'.cell? ⟨w.heap.size, 1, none⟩ = some (.int .i64 o.m12) ∧ w'.cell? ⟨w.heap.size, 2, none⟩ = some (.int .i64 o.m02))
      (first | go_keep | (with_reducible (exact ⟨p0, p1, p2⟩)) | (with_reducible (exact ⟨r0, r1, r2⟩)) | (with_reducible (exact ⟨t0, t1, t2⟩)))
      ((first
        | (go_at_call 57; refine (HLET.out _).mono ?_; rintro e w3 ⟨rfl, hB3⟩; obtain ⟨hc3, hf3⟩ := bcell hB3; have r0 : w3.cell? ⟨w.heap.size, 0, none⟩ = some (.int .i64 o.m01) := (hc3 _ _ hsz).trans p0; have r1 : w3.cell? ⟨w.heap.size, 1, none⟩ = some (.int .i64 o.m12) := (hc3 _ _ hsz).trans p1; have r2 : w3.cell? ⟨w.heap.size, 2, none⟩ = some (.int .i64 o.m02) := (hc3 _ _ hsz).trans p2; have hz3 : w.heap.size < w3.heap.size := Nat.lt_of_lt_of_le hsz hB3.size; have hb3 : Below w1.heap.size w1 w3 := below_undrew hB3; have HB3 := Lib.hid hb3; clear hb3 hB3 hc3 hf3)
        | (go_at_call 8; refine (HV.out _).mono ?_; rintro e w4 ⟨rfl, hB4⟩; obtain ⟨hc4, hf4⟩ := bcell hB4; have t0 : w4.cell? ⟨w.heap.size, 0, none⟩ = some (.int .i64 o.m01) := (hc4 _ _ hz3).trans r0; have t1 : w4.cell? ⟨w.heap.size, 1, none⟩ = some (.int .i64 o.m12) := (hc4 _ _ hz3).trans r1; have t2 : w4.cell? ⟨w.heap.size, 2, none⟩ = some (.int .i64 o.m02) := (hc4 _ _ hz3).trans r2; have hb4 : Below w1.heap.size w1 w4 := HB3.out.trans (hB4.mono HB3.out.size); have HB4 := Lib.hid hb4; clear hb4 hB4 hc4 hf4)))
    all_goals go_wp2_with fail
    all_goals go_meet
    case rel => exact ⟨rfl, HB4⟩
  case rest =>
    obtain ⟨rfl, HB2⟩ := hcut
    have hrc := (HB2.out.block (w.heap.size + 1) (by omega)).trans HR1.out
    have hBc := HB1.out.trans (HB2.out.mono HB1.out.size)
    have c0 := cell_of_heap hrc 0
    have c1 := cell_of_heap hrc 1
    have f0 := free_of_heap hrc 0
    have f1 := free_of_heap hrc 1
    simp at c0 c1
    have HRC := Lib.hid hrc; have HBC := Lib.hid hBc
    clear hrc hBc p0 p1 p2
    by_cases hlt : nv.length < nu.length
    · have hn : Hy.nearOf nu nv = nv := by unfold Hy.nearOf; rw [if_pos hlt]
      have HN := Lib.hid hn; clear hn
      go_wp2_with fail
      have hfin := two_stores (u := .string ⟨nv.toArray⟩) (v := .int .i64 m) HRC.out
      have d0 := cell_of_heap hfin 0
      have d1 := cell_of_heap hfin 1
      simp at d0 d1
      refine bodyPost_ret (v := .agg #[.string ⟨(Hy.nearOf nu nv).toArray⟩, .int .i64 m]) (by simp [results, Try.results31, go_sem, d0, d1, HN.out]) rfl ⟨rfl, (HBC.out.setCell (p := ⟨w.heap.size + 1, 0, none⟩) (Nat.le_succ _) _).setCell (p := ⟨w.heap.size + 1, 1, none⟩) (Nat.le_succ _) _⟩
    · have hn : Hy.nearOf nu nv = nu := by unfold Hy.nearOf; rw [if_neg hlt]
      have HN := Lib.hid hn; clear hn
      go_wp2_with fail
      have hfin := two_stores (u := .string ⟨nu.toArray⟩) (v := .int .i64 m) HRC.out
      have d0 := cell_of_heap hfin 0
      have d1 := cell_of_heap hfin 1
      simp at d0 d1
      refine bodyPost_ret (v := .agg #[.string ⟨(Hy.nearOf nu nv).toArray⟩, .int .i64 m]) (by simp [results, Try.results31, go_sem, d0, d1, HN.out]) rfl ⟨rfl, (HBC.out.setCell (p := ⟨w.heap.size + 1, 0, none⟩) (Nat.le_succ _) _).setCell (p := ⟨w.heap.size + 1, 1, none⟩) (Nat.le_succ _) _⟩
end Go.Proofs.Ytbfnnlcckpabnaa
