/- walk.Put and walk.Wall: the maps of a walk are changed. -/
import Derived.Test.YtbfnnlcckpabnaaWk3
namespace Go.Proofs.Ytbfnnlcckpabnaa
set_option linter.unusedSimpArgs false
set_option linter.unusedVariables false
open Go.RowKit

theorem zero_string (w : World) : (zeroValue 9).run Try.prog w = .ok (str []) w := by kernel_rfl
theorem zero_bool (w : World) : (zeroValue 4).run Try.prog w = .ok (.bool false) w := by kernel_rfl

theorem keys_str : Keys Try.prog 9 str := keys_string Try.underlying9

/-- The thing of a tile is put: the error, and the things behind it. -/
def putThing (T : Things) (nf thing : List UInt8) : Int × Things :=
  if Hy.isThing thing = false then (1, T) else if thing = [] then (0, mdrop nf T) else if (mlook nf T).isNone = true ∧ 200 ≤ T.length then (4, T) else (0, mput nf thing T)

theorem Only.putObj {B : Nat → Prop} {a w : World} (h : Only B a w) {b : Nat} (hb : B b) (o : Obj) : Only B a (w.putObj b o) :=
  h.trans ⟨rfl, rfl, rfl, by simp [World.putObj], fun k hk => World.putObj_heap_other (fun e => hk (e ▸ hb))⟩
theorem Only.of_below {B : Nat → Prop} {w w' : World} (h : Below w.heap.size w w') (hB : ∀ k, w.heap.size ≤ k → B k) : Only B w w' :=
  ⟨h.os, h.tape, h.output, h.size, fun k hk => h.block k (Nat.lt_of_not_le (fun hle => hk (hB k hle)))⟩

def PutPost (o : Hy.Ord) (mb wb tb : Nat) (W : Walls) (T : Things) (nf tile thing : List UInt8) (w : World) (e : Ending) (w' : World) : Prop :=
  Only (fun k => k = tb ∨ w.heap.size ≤ k) w w' ∧
  if Hy.wordErr tile = 0 then e = .returned (.int .i64 (putThing T nf thing).1) ∧ MRep w' o mb wb tb W (putThing T nf thing).2 else e = .returned (.int .i64 (Hy.wordErr tile)) ∧ MRep w' o mb wb tb W T

set_option maxRecDepth 100000 in
set_option maxHeartbeats 1000000 in
theorem walk_Put {w : World} {o : Hy.Ord} {mb wb tb : Nat} {W : Walls} {T : Things} (h : MRep w o mb wb tb W T) (hmt : mb ≠ tb) (ho : Small o) (tile thing : List UInt8) (hl : tile.length ≤ 140737488355328) (hl2 : thing.length ≤ 140737488355328) (fuel : Nat) (nf : List UInt8) (hnf : Hy.wordErr tile = 0 → Hy.norm o fuel tile = some nf) :
    Calls Try.prog 19 #[.pointer (some ⟨mb, 0, none⟩), str tile, str thing] w (PutPost o mb wb tb W T nf tile thing w) := by
  have HCALL := Lib.hid (walk_normal h ho tile hl fuel nf hnf)
  have HM := Lib.hid h; clear h
  have HIS := Lib.hid (fun W' => walk_isThing thing W' hl2)
  clear hl hl2 hnf
  go_enter Try.func19, Try.ntmps19
  go_wp2_with fail
  refine HCALL.out.mono ?_
  rintro e w1 ⟨rfl, hB⟩
  clear HCALL
  have hM1 := HM.out.grow hB
  have HB := Lib.hid hB; clear hB
  by_cases hz : Hy.wordErr tile = 0
  · rw [hz, if_pos rfl]
    have c5 : w1.cell? ⟨mb, 5, none⟩ = some (.map (some tb)) := cell_of_heap hM1.cells 5
    have hlk := hM1.things.look keys_str Try.underlying50 nf (zero_string w1) true
    simp only [if_true] at hlk
    have HM1 := Lib.hid hM1; clear hM1
    have HZ := Lib.hid hz; clear hz
    generalize hwas : (mlook nf T).isSome = was at hlk
    have HWAS := Lib.hid hwas; clear hwas
    go_wp2_with fail
    refine (HIS.out w1).mono ?_
    rintro e w2 ⟨rfl, hB2⟩
    clear HIS hlk c5
    have hM2 := HM1.out.grow hB2
    have hO2 : Only (fun k => k = tb ∨ w.heap.size ≤ k) w w2 := Only.of_below (HB.out.trans (hB2.mono HB.out.size)) (fun k hk => .inr hk)
    have HO2 := Lib.hid hO2; clear hO2 hB2
    have c5 : w2.cell? ⟨mb, 5, none⟩ = some (.map (some tb)) := cell_of_heap hM2.cells 5
    have HM2 := Lib.hid hM2; clear hM2
    by_cases g1 : Hy.isThing thing = false
    · have hfin : putThing T nf thing = (1, T) := by unfold putThing; rw [if_pos g1]
      have HF := Lib.hid hfin; clear hfin
      rw [g1]
      clear g1
      go_wp2_with fail
      go_ret
      refine ⟨HO2.out, ?_⟩
      rw [if_pos HZ.out, HF.out]
      exact ⟨rfl, HM2.out⟩
    · have g1' : Hy.isThing thing = true := by simpa using g1
      rw [g1']
      by_cases g2 : thing = []
      · have hfin : putThing T nf thing = (0, mdrop nf T) := by unfold putThing; rw [if_neg g1, if_pos g2]
        have HF := Lib.hid hfin; clear hfin
        subst g2
        clear g1 g1'
        obtain ⟨ob, hdel, hMd⟩ := HM2.out.things.drop keys_str Try.underlying50 nf 0
        have hO3 : Only (fun k => k = tb ∨ w.heap.size ≤ k) w (w2.putObj tb ob) := HO2.out.putObj (.inl rfl) ob
        have hM3 : MRep (w2.putObj tb ob) o mb wb tb W (mdrop nf T) := ⟨(World.putObj_heap_other hmt).trans HM2.out.cells, HM2.out.walls.of_heap (World.putObj_heap_other HM2.out.apart), hMd, HM2.out.apart, HM2.out.ok⟩
        have HO3 := Lib.hid hO3; clear hO3
        have HM3 := Lib.hid hM3; clear hM3 hMd
        unfold str at *
        go_wp2_with fail
        go_ret
        refine ⟨HO3.out, ?_⟩
        rw [if_pos HZ.out, HF.out]
        exact ⟨rfl, HM3.out⟩
      · have hlen := fun ty => HM2.out.things.len Try.underlying50 ty
        obtain ⟨ob, hput, hMd⟩ := HM2.out.things.put keys_str Try.underlying50 nf thing
        have hO3 : Only (fun k => k = tb ∨ w.heap.size ≤ k) w (w2.putObj tb ob) := HO2.out.putObj (.inl rfl) ob
        have hM3 : MRep (w2.putObj tb ob) o mb wb tb W (mput nf thing T) := ⟨(World.putObj_heap_other hmt).trans HM2.out.cells, HM2.out.walls.of_heap (World.putObj_heap_other HM2.out.apart), hMd, HM2.out.apart, HM2.out.ok⟩
        have HO3 := Lib.hid hO3; clear hO3
        have HM3 := Lib.hid hM3; clear hM3 hMd
        have hpt : putThing T nf thing = if (mlook nf T).isNone = true ∧ 200 ≤ T.length then (4, T) else (0, mput nf thing T) := by unfold putThing; rw [if_neg g1, if_neg g2]
        have HPT := Lib.hid hpt; clear hpt
        have hnone : (mlook nf T).isNone = !was := by rw [← HWAS.out]; cases mlook nf T <;> rfl
        have HNONE := Lib.hid hnone; clear hnone
        have HTH := Lib.hid (rfl : (thing, T) = (thing, T))
        obtain ⟨c, r, hcr⟩ : ∃ c r, thing = c :: r := by
          cases thing with
          | nil => exact absurd rfl g2
          | cons c r => exact ⟨c, r, rfl⟩
        have hd1 : Hy.isThing thing = true := g1'
        have hnz : ((⟨thing.toArray⟩ : ByteArray).toList == ([] : List UInt8)) = false := by rw [ByteArray_toList, hcr]; rfl
        have hnz2 : thing.isEmpty = false := by rw [hcr]; rfl
        have HCR := Lib.hid hcr; clear hcr hd1
        clear g1 g1' g2
        cases was with
        | true =>
          clear hlen
          have hfin : putThing T nf thing = (0, mput nf thing T) := by rw [HPT.out, HNONE.out]; simp
          have HF := Lib.hid hfin; clear hfin
          unfold str at *
          go_wp2_with fail
          go_ret
          refine ⟨HO3.out, ?_⟩
          rw [if_pos HZ.out, HF.out]
          exact ⟨rfl, HM3.out⟩
        | false =>
          by_cases h200 : 200 ≤ T.length
          · have hfin : putThing T nf thing = (4, T) := by rw [HPT.out, HNONE.out]; simp [h200]
            have HF := Lib.hid hfin; clear hfin hput
            unfold str at *
            go_wp2_with fail
            go_ret
            refine ⟨HO2.out, ?_⟩
            rw [if_pos HZ.out, HF.out]
            exact ⟨rfl, HM2.out⟩
          · have hfin : putThing T nf thing = (0, mput nf thing T) := by rw [HPT.out, HNONE.out]; simp; omega
            have HF := Lib.hid hfin; clear hfin
            unfold str at *
            go_wp2_with fail
            go_ret
            refine ⟨HO3.out, ?_⟩
            rw [if_pos HZ.out, HF.out]
            exact ⟨rfl, HM3.out⟩
  · rw [if_neg hz]
    have hne : (Hy.wordErr tile != 0) = true := by rw [bne_iff_ne]; exact hz
    have HZ := Lib.hid hz; clear hz
    have HM1 := Lib.hid hM1; clear hM1
    clear HIS
    go_wp2_with fail
    go_ret
    refine ⟨Only.of_below HB.out (fun k hk => .inr hk), ?_⟩
    rw [if_neg HZ.out]
    exact ⟨rfl, HM1.out⟩
end Go.Proofs.Ytbfnnlcckpabnaa
