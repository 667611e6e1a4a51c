/- walk.Wall. -/
import Derived.Test.YtbfnnlcckpabnaaWk4
import Derived.Deep.RegionWith
import Derived.Deep.RegionHeld3
import Derived.Deep.DeepCutAuto
import Derived.Deep.DeepMust
namespace Go.Proofs.Ytbfnnlcckpabnaa
set_option linter.unusedSimpArgs false
set_option linter.unusedVariables false
open Go.RowKit

/-- A wall is put on a side, or taken away: the error, and the walls behind it. -/
def putWall (W : Walls) (s : List UInt8 × Int) (there : Bool) : Int × Walls :=
  if there = false then (0, mdrop s W) else if ((mlook s W).getD false) = false ∧ 100 ≤ W.length then (4, W) else (0, mput s true W)

theorem below_undrew {N : Nat} {w w' : World} (h : Below N w.drew w') : Below N w w' := ⟨h.os, h.tape, h.output, h.size, h.block⟩

theorem bcell {W w1 : World} (hb : Below W.heap.size W w1) : (∀ b o, b < W.heap.size → w1.cell? ⟨b, o, none⟩ = W.cell? ⟨b, o, none⟩) ∧ (∀ b o, b < W.heap.size → w1.frozen? ⟨b, o, none⟩ = W.frozen? ⟨b, o, none⟩) :=
  ⟨fun b o h => hb.cell (p := ⟨b, o, none⟩) h, fun b o h => hb.frozen (p := ⟨b, o, none⟩) h⟩

theorem below_unalloc {w : World} {ob : Obj} {w' : World} (h : Below (w.alloc ob).drew.heap.size (w.alloc ob).drew w') : Below w.heap.size w w' :=
  ((Below.refl _ w).alloc (Nat.le_refl _) ob).trans ((below_undrew h).mono (by simp [World.drew]))

def WallPost (o : Hy.Ord) (mb wb tb : Nat) (W : Walls) (T : Things) (s : List UInt8 × Int) (there : Bool) (w : World) (e : Ending) (w' : World) : Prop :=
  Only (fun k => k = wb ∨ w.heap.size ≤ k) w w' ∧ e = .returned (.int .i64 (putWall W s there).1) ∧ MRep w' o mb wb tb (putWall W s there).2 T

/-- Two stores into a block of two cells that lies as it was laid. -/
theorem two_stores {w : World} {b : Nat} {x y u v : Value} {t : TypeId} (h : w.heap[b]? = some (.cells #[x, y] t (0, 0))) : ((w.setCell ⟨b, 0, none⟩ u).setCell ⟨b, 1, none⟩ v).heap[b]? = some (.cells #[u, v] t (0, 0)) :=
  heap_setCell_same _ _ _ _ _ _ (heap_setCell_same _ _ _ _ _ _ h)

set_option maxRecDepth 100000 in
set_option maxHeartbeats 2000000 in
theorem walk_Wall_body {w : World} {o : Hy.Ord} {mb wb tb : Nat} {W : Walls} {T : Things} (h : MRep w o mb wb tb W T) (ho : Small o) (tile : List UInt8) (hl : tile.length ≤ 140737488355328) (m : Nat) (hm : m < 3) (there : Bool) (fuel : Nat) (nf nx : List UInt8)
    (hmw : mb ≠ wb) (hz : Hy.wordErr tile = 0) (hnf : Hy.norm o fuel tile = some nf) (hw2 : Hy.wordsErr [nf, Hy.letter m] = 0) (hnx : Hy.norm o fuel (nf ++ Hy.letter m) = some nx) :
    Calls Try.prog 20 #[.pointer (some ⟨mb, 0, none⟩), encEdge (tile, m), .bool there] w (WallPost o mb wb tb W T (Hy.nearOf nf nx, m) there w) := by
  have HCALL := Lib.hid (fun W' (hb : MRep W' o mb wb tb W T) => walk_normal hb ho tile hl fuel nf (fun _ => hnf))
  have HTO := Lib.hid (fun W' (hb : MRep W' o mb wb tb W T) => walk_to hb ho nf (Hy.letter m) hw2 fuel nx hnx)
  have HGROW := Lib.hid (fun W' (hb : Below w.heap.size w W') => h.grow hb)
  clear hl hnf hw2 hnx h
  rw [show encEdge (tile, (m : Int)) = .agg #[.string ⟨tile.toArray⟩, .int .i64 m] from rfl]
  go_enter Try.func20, Try.ntmps20
  unfold str at *
  go_wp2_with fail
  refine (HCALL.out _ (HGROW.out _ ((Below.refl _ _).alloc (Nat.le_refl _) _))).mono ?_
  rintro e w1 ⟨rfl, hB⟩
  clear HCALL
  rw [hz, if_pos rfl]
  have hB1 : Below w.heap.size w w1 := ((Below.refl _ _).alloc (Nat.le_refl _) _).trans (hB.mono (by simp))
  have he1 : w1.heap[w.heap.size]? = some (.cells #[.string ⟨tile.toArray⟩, .int .i64 m] 59 (0, 0)) := (hB.block w.heap.size (by simp)).trans (alloc_heap_new w _)
  have ce : w1.cell? ⟨w.heap.size, 1, none⟩ = some (.int .i64 m) := cell_of_heap he1 1
  have HE1 := Lib.hid he1; clear he1
  have HB1 := Lib.hid hB1; clear hB1 hB
  unfold str
  go_wp2_with fail
  have hsz : w.heap.size < w1.heap.size := (Array.getElem?_eq_some_iff.1 HE1.out).1
  have HLET := Lib.hid (fun W' => walk_letter m (by omega) W')
  have hside := fun W' => walk_side nf nx m W'
  obtain ⟨nr, hnr⟩ : ∃ nr, nr = (if nx.length < nf.length then nx else nf) := ⟨_, rfl⟩
  rw [← hnr] at hside
  have HNR := Lib.hid hnr; clear hnr
  have HSIDE := Lib.hid hside; clear hside
  unfold str encEdge at *
  have cea : ∀ ob, (w1.alloc ob).cell? ⟨w.heap.size, 1, none⟩ = some (.int .i64 m) := fun ob => (World.cell?_alloc_lt w1 ob _ hsz).trans ce
  clear cea
  have hszb : w.heap.size < w1.heap.size + 1 := by omega
  go_cut [9] (fun s9 wx => ∃ sb : Nat, s9 = .pointer (some ⟨sb, 0, none⟩) ∧ Hid (Below w1.heap.size w1 wx) ∧ Hid (wx.heap[sb]? = some (.cells #[.string ⟨nr.toArray⟩, .int .i64 m] 59 (0, 0))) ∧ w1.heap.size ≤ sb)
  case first =>
    go_region_held3 (fun w' => w'.cell? ⟨w.heap.size, 1, none⟩ = some (.int .i64 m))
      (first | go_keep | (rw [World.cell?_setCell_other _ _ _ _ (by first | (simp; done) | (simp; omega)), World.cell?_setCell_other _ _ _ _ (by first | (simp; done) | (simp; omega))]; assumption))
      ((first
        | (go_at_call 44; refine (HLET.out _).mono ?_; rintro e w2 ⟨rfl, hB2⟩; have HX2 := Lib.hid hB2; obtain ⟨hc2, hf2⟩ := bcell hB2; have hz2 := hB2.size; (try simp at hz2 hc2 hf2); have q2 : w.heap.size < w2.heap.size := (by omega); have q2b : w.heap.size < w2.heap.size + 1 := (by omega); (try have p2 : w1.heap.size < w2.heap.size := (by omega)); have hb2 : Below w1.heap.size w1 w2 := (by first | exact below_undrew hB2 | exact below_unalloc hB2); have HB2 := Lib.hid hb2; clear hb2 hB2)
        | (go_at_call 36; refine (HTO.out _ (HGROW.out _ (by first | exact HB1.out.trans (HB2.out.mono HB1.out.size) | exact (HB1.out.trans (HB2.out.mono HB1.out.size)).alloc (by omega) _))).mono ?_; rintro e w3 ⟨rfl, hB3⟩; have HX3 := Lib.hid hB3; obtain ⟨hc3, hf3⟩ := bcell hB3; have hz3 := hB3.size; (try simp at hz3 hc3 hf3); have q3 : w.heap.size < w3.heap.size := (by omega); have q3b : w.heap.size < w3.heap.size + 1 := (by omega); (try have p3 : w1.heap.size < w3.heap.size := (by omega)); (try have p3' : w2.heap.size < w3.heap.size := (by omega)); have hb3 : Below w2.heap.size w2 w3 := (by first | exact hB3 | exact ((Below.refl _ _).alloc (Nat.le_refl _) _).trans (hB3.mono (by simp))); have HB3 := Lib.hid hb3; clear hb3 hB3)
        | (go_at_call 37; refine (HSIDE.out _).mono ?_; rintro e w4 ⟨rfl, hB4⟩; have HX4 := Lib.hid hB4; obtain ⟨hc4, hf4⟩ := bcell hB4; have hz4 := hB4.size; (try simp at hz4 hc4 hf4); (try have p4 : w1.heap.size < w4.heap.size := (by omega)); (try have p4' : w2.heap.size < w4.heap.size := (by omega)); (try have p4'' : w3.heap.size < w4.heap.size := (by omega)); have hb4 : Below w3.heap.size w3 w4 := (by first | exact hB4 | exact ((Below.refl _ _).alloc (Nat.le_refl _) _).trans (hB4.mono (by simp))); have HB4 := Lib.hid hb4; clear hb4 hB4)))
    all_goals
      have hall : Below w1.heap.size w1 w4 := HB2.out.trans ((HB3.out.trans (HB4.out.mono (by omega))).mono (by omega))
      have HALL := Lib.hid hall; clear hall
      clear hc2 hc3 hc4 hf2 hf3 hf4
      go_wp2_with fail
    · go_meet
      case rel => exact ⟨w4.heap.size, rfl, HALL.out.alloc (by have := HALL.out.size; omega) _, alloc_heap_new w4 _, HALL.out.size⟩
    · go_meet
      case rel =>
        have h4 : w4.heap[w3.heap.size]? = _ := (HX4.out.block w3.heap.size (by simp)).trans (alloc_heap_new w3 _)
        exact ⟨w3.heap.size, rfl, (HALL.out.setCell (by simp; omega) _).setCell (by simp; omega) _, two_stores h4, by omega⟩
    · go_meet
      case rel =>
        have h3 : w3.heap[w2.heap.size]? = _ := (HX3.out.block w2.heap.size (by simp)).trans (alloc_heap_new w2 _)
        have h4 : w4.heap[w2.heap.size]? = _ := (HB4.out.block w2.heap.size (by omega)).trans h3
        exact ⟨w2.heap.size, rfl, (HALL.out.setCell (by simp; omega) _).setCell (by simp; omega) _, two_stores h4, by omega⟩
    · go_meet
      case rel =>
        have h2 : w2.heap[w1.heap.size]? = _ := (HX2.out.block w1.heap.size (by simp [World.drew])).trans (alloc_heap_new w1 _)
        have h3 : w3.heap[w1.heap.size]? = _ := (HB3.out.block w1.heap.size (by omega)).trans h2
        have h4 : w4.heap[w1.heap.size]? = _ := (HB4.out.block w1.heap.size (by omega)).trans h3
        exact ⟨w1.heap.size, rfl, (HALL.out.setCell (by simp) _).setCell (by simp) _, two_stores h4, Nat.le_refl _⟩
  case rest =>
    obtain ⟨sb, rfl, HB5, HS, hsb⟩ := hcut
    have hMc := HGROW.out wc (HB1.out.trans (HB5.out.mono HB1.out.size))
    have cw : wc.cell? ⟨mb, 4, none⟩ = some (.map (some wb)) := cell_of_heap hMc.cells 4
    have cs0 : wc.cell? ⟨sb, 0, none⟩ = some (.string ⟨nr.toArray⟩) := cell_of_heap HS.out 0
    have cs1 : wc.cell? ⟨sb, 1, none⟩ = some (.int .i64 m) := cell_of_heap HS.out 1
    have HMC := Lib.hid hMc; clear hMc ce hszb hsz hsb
    have hmwd := HMC.out.walls.of_heap (w' := wc.drew) rfl
    have hOc : Only (fun k => k = wb ∨ w.heap.size ≤ k) w wc := Only.of_below (HB1.out.trans (HB5.out.mono HB1.out.size)) (fun k hk => .inr hk)
    have HOC := Lib.hid hOc; clear hOc
    have HMW := Lib.hid hmw; clear hmw
    cases there with
    | false =>
      obtain ⟨ob, hdel, hMd⟩ := hmwd.drop keys_edge Try.underlying49 (nr, (m : Int)) 0
      have hM3 : MRep (wc.drew.putObj wb ob) o mb wb tb (mdrop (nr, (m : Int)) W) T := ⟨(World.putObj_heap_other HMW.out).trans HMC.out.cells, hMd, HMC.out.things.of_heap (World.putObj_heap_other (Ne.symm HMC.out.apart)), HMC.out.apart, HMC.out.ok⟩
      have HM3 := Lib.hid hM3; clear hM3 hMd
      unfold encEdge at hdel
      go_wp2_with fail
      go_region
      all_goals go_wp2_with fail
      go_ret
      refine ⟨(HOC.out.drew).putObj (.inl rfl) ob, ?_⟩
      have hs : (Hy.nearOf nf nx, (m : Int)) = (nr, (m : Int)) := by rw [HNR.out]; rfl
      rw [hs]
      exact ⟨rfl, HM3.out⟩
    | true =>
      have hlook := fun n => (HMC.out.walls.of_heap (w' := wc.drewN n) (by simp)).look keys_edge Try.underlying49 (nr, (m : Int)) (zero_bool (wc.drewN n)) false
      have hlen := fun n ty => (HMC.out.walls.of_heap (w' := wc.drewN n) (by simp)).len Try.underlying49 ty
      have hlook0 := HMC.out.walls.look keys_edge Try.underlying49 (nr, (m : Int)) (zero_bool wc) false
      have hlook1 := hmwd.look keys_edge Try.underlying49 (nr, (m : Int)) (zero_bool wc.drew) false
      simp only [Bool.false_eq_true, if_false] at hlook hlook0 hlook1
      have hv : ∀ x : Option Bool, ((x.map Value.bool).getD (.bool false)) = .bool (x.getD false) := fun x => by cases x <;> rfl
      simp only [hv] at hlook hlook0 hlook1
      clear hv
      have hpw : putWall W (nr, (m : Int)) true = if ((mlook (nr, (m : Int)) W).getD false) = false ∧ 100 ≤ W.length then (4, W) else (0, mput (nr, (m : Int)) true W) := rfl
      have HPW := Lib.hid hpw; clear hpw
      generalize hvv : (mlook (nr, (m : Int)) W).getD false = v at *
      have HVV := Lib.hid hvv; clear hvv
      unfold encEdge at hlook hlook0 hlook1
      by_cases h100 : 100 ≤ W.length
      · cases v with
        | true =>
          go_wp2_with fail
          go_quiet (fail)
          obtain ⟨ob, hput, hMd⟩ := (HMC.out.walls.of_heap (w' := wc.drewN (nq + 1)) (by simp)).put keys_edge Try.underlying49 (nr, (m : Int)) true
          have hM3 : MRep ((wc.drewN (nq + 1)).putObj wb ob) o mb wb tb (mput (nr, (m : Int)) true W) T := ⟨(World.putObj_heap_other HMW.out).trans ((by simp : (wc.drewN (nq + 1)).heap[mb]? = wc.heap[mb]?).trans HMC.out.cells), hMd, HMC.out.things.of_heap ((World.putObj_heap_other (Ne.symm HMC.out.apart)).trans (by simp)), HMC.out.apart, HMC.out.ok⟩
          have HM3 := Lib.hid hM3; clear hM3 hMd
          clear hlook hlen hlook0 hlook1
          unfold encEdge at hput
          go_wp2_with fail
          go_region
          all_goals go_wp2_with fail
          go_ret
          refine ⟨(HOC.out.drewN (nq + 1)).putObj (.inl rfl) ob, ?_⟩
          have hs : (Hy.nearOf nf nx, (m : Int)) = (nr, (m : Int)) := by rw [HNR.out]; rfl
          rw [hs, HPW.out]
          rw [if_neg (by simp)]
          exact ⟨rfl, HM3.out⟩
        | false =>
          go_wp2_with fail
          go_quiet (fail)
          go_wp2_with fail
          go_ret
          refine ⟨HOC.out.drewN nq, ?_⟩
          have hs : (Hy.nearOf nf nx, (m : Int)) = (nr, (m : Int)) := by rw [HNR.out]; rfl
          rw [hs, HPW.out]
          rw [if_pos (by simpa using h100)]
          exact ⟨rfl, ⟨(by simp : (wc.drewN nq).heap[mb]? = wc.heap[mb]?).trans HMC.out.cells, HMC.out.walls.of_heap (by simp), HMC.out.things.of_heap (by simp), HMC.out.apart, HMC.out.ok⟩⟩
      · cases v with
        | true =>
          go_wp2_with fail
          go_quiet (fail)
          obtain ⟨ob, hput, hMd⟩ := (HMC.out.walls.of_heap (w' := wc.drewN (nq + 1)) (by simp)).put keys_edge Try.underlying49 (nr, (m : Int)) true
          have hM3 : MRep ((wc.drewN (nq + 1)).putObj wb ob) o mb wb tb (mput (nr, (m : Int)) true W) T := ⟨(World.putObj_heap_other HMW.out).trans ((by simp : (wc.drewN (nq + 1)).heap[mb]? = wc.heap[mb]?).trans HMC.out.cells), hMd, HMC.out.things.of_heap ((World.putObj_heap_other (Ne.symm HMC.out.apart)).trans (by simp)), HMC.out.apart, HMC.out.ok⟩
          have HM3 := Lib.hid hM3; clear hM3 hMd
          clear hlook hlen hlook0 hlook1
          unfold encEdge at hput
          go_wp2_with fail
          go_region
          all_goals go_wp2_with fail
          go_ret
          refine ⟨(HOC.out.drewN (nq + 1)).putObj (.inl rfl) ob, ?_⟩
          have hs : (Hy.nearOf nf nx, (m : Int)) = (nr, (m : Int)) := by rw [HNR.out]; rfl
          rw [hs, HPW.out]
          rw [if_neg (by simp)]
          exact ⟨rfl, HM3.out⟩
        | false =>
          go_wp2_with fail
          go_quiet (fail)
          obtain ⟨ob, hput, hMd⟩ := (HMC.out.walls.of_heap (w' := wc.drewN (nq + 1)) (by simp)).put keys_edge Try.underlying49 (nr, (m : Int)) true
          have hM3 : MRep ((wc.drewN (nq + 1)).putObj wb ob) o mb wb tb (mput (nr, (m : Int)) true W) T := ⟨(World.putObj_heap_other HMW.out).trans ((by simp : (wc.drewN (nq + 1)).heap[mb]? = wc.heap[mb]?).trans HMC.out.cells), hMd, HMC.out.things.of_heap ((World.putObj_heap_other (Ne.symm HMC.out.apart)).trans (by simp)), HMC.out.apart, HMC.out.ok⟩
          have HM3 := Lib.hid hM3; clear hM3 hMd
          clear hlook hlen hlook0 hlook1
          unfold encEdge at hput
          go_wp2_with fail
          go_region
          all_goals go_wp2_with fail
          go_ret
          refine ⟨(HOC.out.drewN (nq + 1)).putObj (.inl rfl) ob, ?_⟩
          have hs : (Hy.nearOf nf nx, (m : Int)) = (nr, (m : Int)) := by rw [HNR.out]; rfl
          rw [hs, HPW.out]
          rw [if_neg (by simp; omega)]
          exact ⟨rfl, HM3.out⟩
end Go.Proofs.Ytbfnnlcckpabnaa
