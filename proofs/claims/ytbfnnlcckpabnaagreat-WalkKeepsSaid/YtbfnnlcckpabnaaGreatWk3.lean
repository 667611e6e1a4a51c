import Derived.Shelf.Small.Strs
import Derived.Test.YtbfnnlcckpabnaaGreatProg
import Derived.Test.YtbfnnlcckpabnaaGreatWk1
import Derived.Deep.RegionWith
import Derived.Deep.RegionHeld3
import Derived.Deep.DeepCutAuto
import Derived.Deep.DeepMust

/- strings.Compare by the shelf's contract, laid at this dump in plain words (lay-plain.mjs's form). -/
namespace Go.Proofs.YtbfnnlcckpabnaaGreat
set_option linter.unusedSimpArgs false
set_option linter.unusedVariables false
open Go.Shelf
def lays106_ren : Go.Shelf.Ren := ⟨fun | 106 => 81 | 213 => 95 | 265 => 104 | n => n, fun | 9 => 9 | 3 => 3 | n => n, fun | n => n⟩
theorem lays106 : Go.Proofs.Lays.n106 Tryz.prog lays106_ren := {
  mixed := by kernel_rfl
  f106 := Tryz.func81.trans (congrArg some (by kernel_rfl))
  f213 := Tryz.func95.trans (congrArg some (by kernel_rfl))
  f265 := Tryz.func104.trans (congrArg some (by kernel_rfl))
  t3 := Tryz.underlying3
  a3 := Tryz.isAgg3
  z3 := Tryz.sizeOf3
  v3 := Tryz.zeroValue3
  t9 := Tryz.underlying9
  a9 := Tryz.isAgg9
  z9 := Tryz.sizeOf9
  v9 := Tryz.zeroValue9 }
open Go.RowKit in
theorem strings_Compare (a b : ByteArray) (w : World) :
    Calls Tryz.prog 81 #[.string a, .string b] w fun e w' => e = .returned (.int .i64 (Lib.compareBytes a.data.toList b.data.toList)) ∧ w' = w := Any.strings_Compare lays106 a b w
end Go.Proofs.YtbfnnlcckpabnaaGreat

/- walk.normal, isThing, first. -/
namespace Go.Proofs.YtbfnnlcckpabnaaGreat
set_option linter.unusedSimpArgs false
set_option linter.unusedVariables false
open Go.RowKit

def NormPost (l nf : List UInt8) (w : World) (e : Ending) (w' : World) : Prop :=
  e = .returned (.tuple #[str (if Hy.wordErr l = 0 then nf else []), .int .i64 (Hy.wordErr l)]) ∧ Below w.heap.size w w'

set_option maxRecDepth 100000 in
set_option maxHeartbeats 1000000 in
theorem walk_normal {w : World} {o : Hy.Ord} {mb wb tb : Nat} {W : Walls} {T : Things} (h : MRep w o mb wb tb W T) (ho : Small o) (l : List UInt8) (hl : l.length ≤ 140737488355328) (fuel : Nat) (nf : List UInt8) (hnf : Hy.wordErr l = 0 → Hy.norm o fuel l = some nf) :
    Calls Tryz.prog 52 #[.pointer (some ⟨mb, 0, none⟩), str l] w (NormPost l nf w) := by
  have hW : ∀ ob, MRep (w.alloc ob) o mb wb tb W T := fun ob => h.grow ((Below.refl _ _).alloc (Nat.le_refl _) _)
  have HCALL := Lib.hid (fun W' (hb : MRep W' o mb wb tb W T) sv hs => walk_normals (w := W') hb ho sv [l] hs (by simp) (by simp) (by simpa using hl) fuel [nf] rfl (by
    intro k hk hz
    obtain rfl : k = 0 := by simpa using hk
    exact hnf hz))
  have HW := Lib.hid hW; clear hW
  have HL := Lib.hid hl; clear hl
  clear h hnf
  unfold str
  go_enter Tryz.func52, Tryz.ntmps52
  go_wp2_with fail
  refine (HCALL.out _ (HW.out _) _ ⟨w.heap.size, 1, rfl, by simp, ?_⟩).mono ?_
  · intro k hk
    obtain rfl : k = 0 := by simpa using hk
    simp [str]
  rintro e w1 ⟨hB, hb⟩
  have HB := Lib.hid hB; clear hB
  clear HCALL
  rw [Hy.wordsErr_one] at hb
  by_cases hz : Hy.wordErr l = 0
  · rw [if_pos hz] at hb
    obtain ⟨v, rfl, g, cap, rfl, hg, hc⟩ := hb
    have hcell := hc 0 (by simp)
    simp only [List.getElem_cons_zero, List.length_cons, List.length_nil] at hcell ⊢
    have HZ := Lib.hid hz; clear hz
    clear hc
    go_wp2_with fail
    go_ret2
    refine ⟨?_, ((Below.refl _ _).alloc (Nat.le_refl _) _).trans (HB.out.mono (by simp))⟩
    rw [HZ.out, if_pos rfl]
    rfl
  · rw [if_neg hz] at hb
    subst hb
    have hne : (Hy.wordErr l != 0) = true := by rw [bne_iff_ne]; exact hz
    have HZ := Lib.hid hz; clear hz
    go_wp2_with fail
    go_ret2
    refine ⟨?_, ((Below.refl _ _).alloc (Nat.le_refl _) _).trans (HB.out.mono (by simp))⟩
    rw [if_neg HZ.out]
    rfl

set_option maxRecDepth 100000 in
set_option maxHeartbeats 1000000 in
theorem walk_isThing (l : List UInt8) (w : World) (hl : l.length ≤ 140737488355328) :
    Calls Tryz.prog 55 #[str l] w fun e w' => e = .returned (.bool (Hy.isThing l)) ∧ Below w.heap.size w w' := by
  obtain ⟨cap, c, fr, kb, hc⟩ := run_bytes l w
  have hcell : ∀ j (h : j < l.length), (w.alloc (.cells c 5 fr)).cell? ⟨w.heap.size, j, none⟩ = some (.int .u8 (l[j].toNat : Int)) := fun j h => (cell_new _ _ _ _ _).trans (hc j h)
  have HC := Lib.hid hc; clear hc
  have HCELL := Lib.hid hcell; clear hcell
  unfold str
  go_enter Tryz.func55, Tryz.ntmps55
  go_wp2_with fail
  go_loop [8] (fun i => ∃ k : Nat, k ≤ l.length ∧ i = .int .i64 k ∧ Hid ((l.take k).all Hy.thingByte = true)) (fun i => l.length - (intOf i).toNat)
  case atStart => exact ⟨0, Nat.zero_le _, rfl, rfl⟩
  case round =>
    obtain ⟨k, hk, rfl, HK⟩ := hrel
    by_cases hlt : k < l.length
    · have hcell := HCELL.out k hlt
      by_cases h1 : l[k].toNat < 32
      · have hb : Hy.thingByte l[k] = false := by unfold Hy.thingByte; simp; omega
        have HB := Lib.hid hb; clear hb
        have g : decide ((l[k].toNat : Int) < 32) = true := by simp; omega
        go_wp2_with fail
        go_ret
        exact ⟨by rw [Hy.isThing_bad hlt HB.out]; rfl, ((Below.refl _ _).alloc (Nat.le_refl _) _).drew⟩
      · have g : decide ((l[k].toNat : Int) < 32) = false := by simp; omega
        by_cases h2 : 126 < l[k].toNat
        · have hb : Hy.thingByte l[k] = false := by unfold Hy.thingByte; simp; omega
          have HB := Lib.hid hb; clear hb
          have g2 : decide ((126 : Int) < (l[k].toNat : Int)) = true := by simp; omega
          go_wp2_with fail
          go_ret
          exact ⟨by rw [Hy.isThing_bad hlt HB.out]; rfl, ((Below.refl _ _).alloc (Nat.le_refl _) _).drew⟩
        · have hb : Hy.thingByte l[k] = true := by unfold Hy.thingByte; simp; omega
          have HB := Lib.hid (Hy.all_take_succ hlt HK.out hb); clear hb
          have g2 : decide ((126 : Int) < (l[k].toNat : Int)) = false := by simp; omega
          go_wp2_with fail
          go_round
          case rel => exact ⟨k + 1, by omega, by go_num, HB.out⟩
          case measure => simp [intOf]; omega
    · obtain rfl : k = l.length := by omega
      clear hk hlt
      have ha : l.all Hy.thingByte = true := by have := HK.out; rwa [List.take_length] at this
      have HA := Lib.hid (Hy.isThing_ok ha); clear ha HK
      go_wp2_with fail
      go_ret
      refine ⟨?_, ((Below.refl _ _).alloc (Nat.le_refl _) _).drew⟩
      rw [HA.out]
      simp
      omega

set_option maxRecDepth 100000 in
theorem cmp_Compare_int (a b : Int) (w : World) :
    Calls Tryz.prog 80 #[.int .i64 a, .int .i64 b] w fun e w' => e = .returned (.int .i64 (if a < b then -1 else if b < a then 1 else 0)) ∧ w = w' := by
  rcases Int.lt_trichotomy a b with h | h | h
  · rw [if_pos h]
    go_enter Tryz.func80, Tryz.ntmps80
    go_wp2
    go_ret
    exact ⟨rfl, rfl⟩
  · subst h
    rw [if_neg (by omega), if_neg (by omega)]
    go_enter Tryz.func80, Tryz.ntmps80
    go_wp2
    go_ret
    exact ⟨rfl, rfl⟩
  · rw [if_neg (by omega), if_pos h]
    have h' : ¬ a < b := by omega
    go_enter Tryz.func80, Tryz.ntmps80
    go_wp2
    go_ret
    exact ⟨rfl, rfl⟩

theorem compareBytes_eq : ∀ a b : List UInt8, Lib.compareBytes a b = Hy.cmpB a b
  | [], [] => rfl
  | [], _ :: _ => rfl
  | _ :: _, [] => rfl
  | a :: x, b :: y => by simp only [Lib.compareBytes, Hy.cmpB, compareBytes_eq x y]

set_option maxRecDepth 100000 in
set_option maxHeartbeats 1000000 in
theorem walk_first (a b : List UInt8) (w : World) (ha : a.length ≤ 140737488355328) (hb : b.length ≤ 140737488355328) :
    Calls Tryz.prog 56 #[str a, str b] w fun e w' => e = .returned (.int .i64 (Hy.cmpW a b)) ∧ w = w' := by
  unfold str Hy.cmpW
  have HC := Lib.hid (cmp_Compare_int a.length b.length w)
  have HS := Lib.hid (strings_Compare ⟨a.toArray⟩ ⟨b.toArray⟩ w)
  rcases Nat.lt_trichotomy a.length b.length with h | h | h
  · rw [if_pos h]
    rw [if_pos (by omega)] at HC
    go_enter Tryz.func56, Tryz.ntmps56
    go_wp2_with fail
    refine HC.out.mono ?_
    rintro e w1 ⟨rfl, rfl⟩
    go_wp2_with fail
    go_ret
    exact ⟨rfl, rfl⟩
  · rw [if_neg (by omega), if_neg (by omega)]
    rw [if_neg (by omega), if_neg (by omega)] at HC
    clear h
    go_enter Tryz.func56, Tryz.ntmps56
    go_wp2_with fail
    refine HC.out.mono ?_
    rintro e w1 ⟨rfl, rfl⟩
    go_wp2_with fail
    refine HS.out.mono ?_
    rintro e w1 ⟨rfl, rfl⟩
    go_wp2_with fail
    go_ret
    exact ⟨by rw [← compareBytes_eq]; rfl, rfl⟩
  · rw [if_neg (by omega), if_pos h]
    rw [if_neg (by omega), if_pos (by omega)] at HC
    go_enter Tryz.func56, Tryz.ntmps56
    go_wp2_with fail
    refine HC.out.mono ?_
    rintro e w1 ⟨rfl, rfl⟩
    go_wp2_with fail
    go_ret
    exact ⟨rfl, rfl⟩
end Go.Proofs.YtbfnnlcckpabnaaGreat

/- walk.Put and walk.Wall: the maps of a walk are changed. -/
namespace Go.Proofs.YtbfnnlcckpabnaaGreat
set_option linter.unusedSimpArgs false
set_option linter.unusedVariables false
open Go.RowKit

theorem zero_string (w : World) : (zeroValue 9).run Tryz.prog w = .ok (str []) w := by kernel_rfl
theorem zero_bool (w : World) : (zeroValue 4).run Tryz.prog w = .ok (.bool false) w := by kernel_rfl

theorem keys_str : Keys Tryz.prog 9 str := keys_string Tryz.underlying9

/-- The thing of a tile is put: the error, and the things behind it. -/
def putThing (T : Things) (nf thing : List UInt8) : Int × Things :=
  if Hy.isThing thing = false then (1, T) else if thing = [] then (0, mdrop nf T) else if (mlook nf T).isNone = true ∧ 200 ≤ T.length then (4, T) else (0, mput nf thing T)

theorem Only.putObj {B : Nat → Prop} {a w : World} (h : Only B a w) {b : Nat} (hb : B b) (o : Obj) : Only B a (w.putObj b o) :=
  h.trans ⟨rfl, rfl, rfl, by simp [World.putObj], fun k hk => World.putObj_heap_other (fun e => hk (e ▸ hb))⟩
theorem Only.of_below {B : Nat → Prop} {w w' : World} (h : Below w.heap.size w w') (hB : ∀ k, w.heap.size ≤ k → B k) : Only B w w' :=
  ⟨h.os, h.tape, h.output, h.size, fun k hk => h.block k (Nat.lt_of_not_le (fun hle => hk (hB k hle)))⟩

def PutPost (o : Hy.Ord) (mb wb tb : Nat) (W : Walls) (T : Things) (nf tile thing : List UInt8) (w : World) (e : Ending) (w' : World) : Prop :=
  Only (fun k => k = tb ∨ w.heap.size ≤ k) w w' ∧
  if Hy.wordErr tile = 0 then e = .returned (.int .i64 (putThing T nf thing).1) ∧ MRep w' o mb wb tb W (putThing T nf thing).2 else e = .returned (.int .i64 (Hy.wordErr tile)) ∧ MRep w' o mb wb tb W T

set_option maxRecDepth 100000 in
set_option maxHeartbeats 1000000 in
theorem walk_Put {w : World} {o : Hy.Ord} {mb wb tb : Nat} {W : Walls} {T : Things} (h : MRep w o mb wb tb W T) (hmt : mb ≠ tb) (ho : Small o) (tile thing : List UInt8) (hl : tile.length ≤ 140737488355328) (hl2 : thing.length ≤ 140737488355328) (fuel : Nat) (nf : List UInt8) (hnf : Hy.wordErr tile = 0 → Hy.norm o fuel tile = some nf) :
    Calls Tryz.prog 23 #[.pointer (some ⟨mb, 0, none⟩), str tile, str thing] w (PutPost o mb wb tb W T nf tile thing w) := by
  have HCALL := Lib.hid (walk_normal h ho tile hl fuel nf hnf)
  have HM := Lib.hid h; clear h
  have HIS := Lib.hid (fun W' => walk_isThing thing W' hl2)
  clear hl hl2 hnf
  go_enter Tryz.func23, Tryz.ntmps23
  go_wp2_with fail
  refine HCALL.out.mono ?_
  rintro e w1 ⟨rfl, hB⟩
  clear HCALL
  have hM1 := HM.out.grow hB
  have HB := Lib.hid hB; clear hB
  by_cases hz : Hy.wordErr tile = 0
  · rw [hz, if_pos rfl]
    have c5 : w1.cell? ⟨mb, 5, none⟩ = some (.map (some tb)) := cell_of_heap hM1.cells 5
    have hlk := hM1.things.look keys_str Tryz.underlying55 nf (zero_string w1) true
    simp only [if_true] at hlk
    have HM1 := Lib.hid hM1; clear hM1
    have HZ := Lib.hid hz; clear hz
    generalize hwas : (mlook nf T).isSome = was at hlk
    have HWAS := Lib.hid hwas; clear hwas
    go_wp2_with fail
    refine (HIS.out w1).mono ?_
    rintro e w2 ⟨rfl, hB2⟩
    clear HIS hlk c5
    have hM2 := HM1.out.grow hB2
    have hO2 : Only (fun k => k = tb ∨ w.heap.size ≤ k) w w2 := Only.of_below (HB.out.trans (hB2.mono HB.out.size)) (fun k hk => .inr hk)
    have HO2 := Lib.hid hO2; clear hO2 hB2
    have c5 : w2.cell? ⟨mb, 5, none⟩ = some (.map (some tb)) := cell_of_heap hM2.cells 5
    have HM2 := Lib.hid hM2; clear hM2
    by_cases g1 : Hy.isThing thing = false
    · have hfin : putThing T nf thing = (1, T) := by unfold putThing; rw [if_pos g1]
      have HF := Lib.hid hfin; clear hfin
      rw [g1]
      clear g1
      go_wp2_with fail
      go_ret
      refine ⟨HO2.out, ?_⟩
      rw [if_pos HZ.out, HF.out]
      exact ⟨rfl, HM2.out⟩
    · have g1' : Hy.isThing thing = true := by simpa using g1
      rw [g1']
      by_cases g2 : thing = []
      · have hfin : putThing T nf thing = (0, mdrop nf T) := by unfold putThing; rw [if_neg g1, if_pos g2]
        have HF := Lib.hid hfin; clear hfin
        subst g2
        clear g1 g1'
        obtain ⟨ob, hdel, hMd⟩ := HM2.out.things.drop keys_str Tryz.underlying55 nf 0
        have hO3 : Only (fun k => k = tb ∨ w.heap.size ≤ k) w (w2.putObj tb ob) := HO2.out.putObj (.inl rfl) ob
        have hM3 : MRep (w2.putObj tb ob) o mb wb tb W (mdrop nf T) := ⟨(World.putObj_heap_other hmt).trans HM2.out.cells, HM2.out.walls.of_heap (World.putObj_heap_other HM2.out.apart), hMd, HM2.out.apart, HM2.out.ok⟩
        have HO3 := Lib.hid hO3; clear hO3
        have HM3 := Lib.hid hM3; clear hM3 hMd
        unfold str at *
        go_wp2_with fail
        go_ret
        refine ⟨HO3.out, ?_⟩
        rw [if_pos HZ.out, HF.out]
        exact ⟨rfl, HM3.out⟩
      · have hlen := fun ty => HM2.out.things.len Tryz.underlying55 ty
        obtain ⟨ob, hput, hMd⟩ := HM2.out.things.put keys_str Tryz.underlying55 nf thing
        have hO3 : Only (fun k => k = tb ∨ w.heap.size ≤ k) w (w2.putObj tb ob) := HO2.out.putObj (.inl rfl) ob
        have hM3 : MRep (w2.putObj tb ob) o mb wb tb W (mput nf thing T) := ⟨(World.putObj_heap_other hmt).trans HM2.out.cells, HM2.out.walls.of_heap (World.putObj_heap_other HM2.out.apart), hMd, HM2.out.apart, HM2.out.ok⟩
        have HO3 := Lib.hid hO3; clear hO3
        have HM3 := Lib.hid hM3; clear hM3 hMd
        have hpt : putThing T nf thing = if (mlook nf T).isNone = true ∧ 200 ≤ T.length then (4, T) else (0, mput nf thing T) := by unfold putThing; rw [if_neg g1, if_neg g2]
        have HPT := Lib.hid hpt; clear hpt
        have hnone : (mlook nf T).isNone = !was := by rw [← HWAS.out]; cases mlook nf T <;> rfl
        have HNONE := Lib.hid hnone; clear hnone
        have HTH := Lib.hid (rfl : (thing, T) = (thing, T))
        obtain ⟨c, r, hcr⟩ : ∃ c r, thing = c :: r := by
          cases thing with
          | nil => exact absurd rfl g2
          | cons c r => exact ⟨c, r, rfl⟩
        have hd1 : Hy.isThing thing = true := g1'
        have hnz : ((⟨thing.toArray⟩ : ByteArray).toList == ([] : List UInt8)) = false := by rw [ByteArray_toList, hcr]; rfl
        have hnz2 : thing.isEmpty = false := by rw [hcr]; rfl
        have HCR := Lib.hid hcr; clear hcr hd1
        clear g1 g1' g2
        cases was with
        | true =>
          clear hlen
          have hfin : putThing T nf thing = (0, mput nf thing T) := by rw [HPT.out, HNONE.out]; simp
          have HF := Lib.hid hfin; clear hfin
          unfold str at *
          go_wp2_with fail
          go_ret
          refine ⟨HO3.out, ?_⟩
          rw [if_pos HZ.out, HF.out]
          exact ⟨rfl, HM3.out⟩
        | false =>
          by_cases h200 : 200 ≤ T.length
          · have hfin : putThing T nf thing = (4, T) := by rw [HPT.out, HNONE.out]; simp [h200]
            have HF := Lib.hid hfin; clear hfin hput
            unfold str at *
            go_wp2_with fail
            go_ret
            refine ⟨HO2.out, ?_⟩
            rw [if_pos HZ.out, HF.out]
            exact ⟨rfl, HM2.out⟩
          · have hfin : putThing T nf thing = (0, mput nf thing T) := by rw [HPT.out, HNONE.out]; simp; omega
            have HF := Lib.hid hfin; clear hfin
            unfold str at *
            go_wp2_with fail
            go_ret
            refine ⟨HO3.out, ?_⟩
            rw [if_pos HZ.out, HF.out]
            exact ⟨rfl, HM3.out⟩
  · rw [if_neg hz]
    have hne : (Hy.wordErr tile != 0) = true := by rw [bne_iff_ne]; exact hz
    have HZ := Lib.hid hz; clear hz
    have HM1 := Lib.hid hM1; clear hM1
    clear HIS
    go_wp2_with fail
    go_ret
    refine ⟨Only.of_below HB.out (fun k hk => .inr hk), ?_⟩
    rw [if_neg HZ.out]
    exact ⟨rfl, HM1.out⟩
end Go.Proofs.YtbfnnlcckpabnaaGreat

/- walk.Wall. -/
namespace Go.Proofs.YtbfnnlcckpabnaaGreat
set_option linter.unusedSimpArgs false
set_option linter.unusedVariables false
open Go.RowKit

/-- A wall is put on a side, or taken away: the error, and the walls behind it. -/
def putWall (W : Walls) (s : List UInt8 × Int) (there : Bool) : Int × Walls :=
  if there = false then (0, mdrop s W) else if ((mlook s W).getD false) = false ∧ 100 ≤ W.length then (4, W) else (0, mput s true W)

theorem below_undrew {N : Nat} {w w' : World} (h : Below N w.drew w') : Below N w w' := ⟨h.os, h.tape, h.output, h.size, h.block⟩

theorem bcell {W w1 : World} (hb : Below W.heap.size W w1) : (∀ b o, b < W.heap.size → w1.cell? ⟨b, o, none⟩ = W.cell? ⟨b, o, none⟩) ∧ (∀ b o, b < W.heap.size → w1.frozen? ⟨b, o, none⟩ = W.frozen? ⟨b, o, none⟩) :=
  ⟨fun b o h => hb.cell (p := ⟨b, o, none⟩) h, fun b o h => hb.frozen (p := ⟨b, o, none⟩) h⟩

theorem below_unalloc {w : World} {ob : Obj} {w' : World} (h : Below (w.alloc ob).drew.heap.size (w.alloc ob).drew w') : Below w.heap.size w w' :=
  ((Below.refl _ w).alloc (Nat.le_refl _) ob).trans ((below_undrew h).mono (by simp [World.drew]))

def WallPost (o : Hy.Ord) (mb wb tb : Nat) (W : Walls) (T : Things) (s : List UInt8 × Int) (there : Bool) (w : World) (e : Ending) (w' : World) : Prop :=
  Only (fun k => k = wb ∨ w.heap.size ≤ k) w w' ∧ e = .returned (.int .i64 (putWall W s there).1) ∧ MRep w' o mb wb tb (putWall W s there).2 T

/-- Two stores into a block of two cells that lies as it was laid. -/
theorem two_stores {w : World} {b : Nat} {x y u v : Value} {t : TypeId} (h : w.heap[b]? = some (.cells #[x, y] t (0, 0))) : ((w.setCell ⟨b, 0, none⟩ u).setCell ⟨b, 1, none⟩ v).heap[b]? = some (.cells #[u, v] t (0, 0)) :=
  heap_setCell_same _ _ _ _ _ _ (heap_setCell_same _ _ _ _ _ _ h)

set_option maxRecDepth 100000 in
set_option maxHeartbeats 2000000 in
theorem walk_Wall_body {w : World} {o : Hy.Ord} {mb wb tb : Nat} {W : Walls} {T : Things} (h : MRep w o mb wb tb W T) (ho : Small o) (tile : List UInt8) (hl : tile.length ≤ 140737488355328) (m : Nat) (hm : m < 3) (there : Bool) (fuel : Nat) (nf nx : List UInt8)
    (hmw : mb ≠ wb) (hz : Hy.wordErr tile = 0) (hnf : Hy.norm o fuel tile = some nf) (hw2 : Hy.wordsErr [nf, Hy.letter m] = 0) (hnx : Hy.norm o fuel (nf ++ Hy.letter m) = some nx) :
    Calls Tryz.prog 21 #[.pointer (some ⟨mb, 0, none⟩), encEdge (tile, m), .bool there] w (WallPost o mb wb tb W T (Hy.nearOf nf nx, m) there w) := by
  have HCALL := Lib.hid (fun W' (hb : MRep W' o mb wb tb W T) => walk_normal hb ho tile hl fuel nf (fun _ => hnf))
  have HTO := Lib.hid (fun W' (hb : MRep W' o mb wb tb W T) => walk_to hb ho nf (Hy.letter m) hw2 fuel nx hnx)
  have HGROW := Lib.hid (fun W' (hb : Below w.heap.size w W') => h.grow hb)
  clear hl hnf hw2 hnx h
  rw [show encEdge (tile, (m : Int)) = .agg #[.string ⟨tile.toArray⟩, .int .i64 m] from rfl]
  go_enter Tryz.func21, Tryz.ntmps21
  unfold str at *
  go_wp2_with fail
  refine (HCALL.out _ (HGROW.out _ ((Below.refl _ _).alloc (Nat.le_refl _) _))).mono ?_
  rintro e w1 ⟨rfl, hB⟩
  clear HCALL
  rw [hz, if_pos rfl]
  have hB1 : Below w.heap.size w w1 := ((Below.refl _ _).alloc (Nat.le_refl _) _).trans (hB.mono (by simp))
  have he1 : w1.heap[w.heap.size]? = some (.cells #[.string ⟨tile.toArray⟩, .int .i64 m] 64 (0, 0)) := (hB.block w.heap.size (by simp)).trans (alloc_heap_new w _)
  have ce : w1.cell? ⟨w.heap.size, 1, none⟩ = some (.int .i64 m) := cell_of_heap he1 1
  have HE1 := Lib.hid he1; clear he1
  have HB1 := Lib.hid hB1; clear hB1 hB
  unfold str
  go_wp2_with fail
  have hsz : w.heap.size < w1.heap.size := (Array.getElem?_eq_some_iff.1 HE1.out).1
  have HLET := Lib.hid (fun W' => walk_letter m (by omega) W')
  have hside := fun W' => walk_side nf nx m W'
  obtain ⟨nr, hnr⟩ : ∃ nr, nr = (if nx.length < nf.length then nx else nf) := ⟨_, rfl⟩
  rw [← hnr] at hside
  have HNR := Lib.hid hnr; clear hnr
  have HSIDE := Lib.hid hside; clear hside
  unfold str encEdge at *
  have cea : ∀ ob, (w1.alloc ob).cell? ⟨w.heap.size, 1, none⟩ = some (.int .i64 m) := fun ob => (World.cell?_alloc_lt w1 ob _ hsz).trans ce
  clear cea
  have hszb : w.heap.size < w1.heap.size + 1 := by omega
  go_cut [9] (fun s9 wx => ∃ sb : Nat, s9 = .pointer (some ⟨sb, 0, none⟩) ∧ Hid (Below w1.heap.size w1 wx) ∧ Hid (wx.heap[sb]? = some (.cells #[.string ⟨nr.toArray⟩, .int .i64 m] 64 (0, 0))) ∧ w1.heap.size ≤ sb)
  case first =>
    go_region_held3 (fun w' => w'.cell? ⟨w.heap.size, 1, none⟩ = some (.int .i64 m))
      (first | go_keep | (rw [World.cell?_setCell_other _ _ _ _ (by first | (simp; done) | (simp; omega)), World.cell?_setCell_other _ _ _ _ (by first | (simp; done) | (simp; omega))]; assumption))
      ((first
        | (go_at_call 53; refine (HLET.out _).mono ?_; rintro e w2 ⟨rfl, hB2⟩; have HX2 := Lib.hid hB2; obtain ⟨hc2, hf2⟩ := bcell hB2; have hz2 := hB2.size; (try simp at hz2 hc2 hf2); have q2 : w.heap.size < w2.heap.size := (by omega); have q2b : w.heap.size < w2.heap.size + 1 := (by omega); (try have p2 : w1.heap.size < w2.heap.size := (by omega)); have hb2 : Below w1.heap.size w1 w2 := (by first | exact below_undrew hB2 | exact below_unalloc hB2); have HB2 := Lib.hid hb2; clear hb2 hB2)
        | (go_at_call 50; refine (HTO.out _ (HGROW.out _ (by first | exact HB1.out.trans (HB2.out.mono HB1.out.size) | exact (HB1.out.trans (HB2.out.mono HB1.out.size)).alloc (by omega) _))).mono ?_; rintro e w3 ⟨rfl, hB3⟩; have HX3 := Lib.hid hB3; obtain ⟨hc3, hf3⟩ := bcell hB3; have hz3 := hB3.size; (try simp at hz3 hc3 hf3); have q3 : w.heap.size < w3.heap.size := (by omega); have q3b : w.heap.size < w3.heap.size + 1 := (by omega); (try have p3 : w1.heap.size < w3.heap.size := (by omega)); (try have p3' : w2.heap.size < w3.heap.size := (by omega)); have hb3 : Below w2.heap.size w2 w3 := (by first | exact hB3 | exact ((Below.refl _ _).alloc (Nat.le_refl _) _).trans (hB3.mono (by simp))); have HB3 := Lib.hid hb3; clear hb3 hB3)
        | (go_at_call 51; refine (HSIDE.out _).mono ?_; rintro e w4 ⟨rfl, hB4⟩; have HX4 := Lib.hid hB4; obtain ⟨hc4, hf4⟩ := bcell hB4; have hz4 := hB4.size; (try simp at hz4 hc4 hf4); (try have p4 : w1.heap.size < w4.heap.size := (by omega)); (try have p4' : w2.heap.size < w4.heap.size := (by omega)); (try have p4'' : w3.heap.size < w4.heap.size := (by omega)); have hb4 : Below w3.heap.size w3 w4 := (by first | exact hB4 | exact ((Below.refl _ _).alloc (Nat.le_refl _) _).trans (hB4.mono (by simp))); have HB4 := Lib.hid hb4; clear hb4 hB4)))
    all_goals
      have hall : Below w1.heap.size w1 w4 := HB2.out.trans ((HB3.out.trans (HB4.out.mono (by omega))).mono (by omega))
      have HALL := Lib.hid hall; clear hall
      clear hc2 hc3 hc4 hf2 hf3 hf4
      go_wp2_with fail
    · go_meet
      case rel => exact ⟨w4.heap.size, rfl, HALL.out.alloc (by have := HALL.out.size; omega) _, alloc_heap_new w4 _, HALL.out.size⟩
    · go_meet
      case rel =>
        have h4 : w4.heap[w3.heap.size]? = _ := (HX4.out.block w3.heap.size (by simp)).trans (alloc_heap_new w3 _)
        exact ⟨w3.heap.size, rfl, (HALL.out.setCell (by simp; omega) _).setCell (by simp; omega) _, two_stores h4, by omega⟩
    · go_meet
      case rel =>
        have h3 : w3.heap[w2.heap.size]? = _ := (HX3.out.block w2.heap.size (by simp)).trans (alloc_heap_new w2 _)
        have h4 : w4.heap[w2.heap.size]? = _ := (HB4.out.block w2.heap.size (by omega)).trans h3
        exact ⟨w2.heap.size, rfl, (HALL.out.setCell (by simp; omega) _).setCell (by simp; omega) _, two_stores h4, by omega⟩
    · go_meet
      case rel =>
        have h2 : w2.heap[w1.heap.size]? = _ := (HX2.out.block w1.heap.size (by simp [World.drew])).trans (alloc_heap_new w1 _)
        have h3 : w3.heap[w1.heap.size]? = _ := (HB3.out.block w1.heap.size (by omega)).trans h2
        have h4 : w4.heap[w1.heap.size]? = _ := (HB4.out.block w1.heap.size (by omega)).trans h3
        exact ⟨w1.heap.size, rfl, (HALL.out.setCell (by simp) _).setCell (by simp) _, two_stores h4, Nat.le_refl _⟩
  case rest =>
    obtain ⟨sb, rfl, HB5, HS, hsb⟩ := hcut
    have hMc := HGROW.out wc (HB1.out.trans (HB5.out.mono HB1.out.size))
    have cw : wc.cell? ⟨mb, 4, none⟩ = some (.map (some wb)) := cell_of_heap hMc.cells 4
    have cs0 : wc.cell? ⟨sb, 0, none⟩ = some (.string ⟨nr.toArray⟩) := cell_of_heap HS.out 0
    have cs1 : wc.cell? ⟨sb, 1, none⟩ = some (.int .i64 m) := cell_of_heap HS.out 1
    have HMC := Lib.hid hMc; clear hMc ce hszb hsz hsb
    have hmwd := HMC.out.walls.of_heap (w' := wc.drew) rfl
    have hOc : Only (fun k => k = wb ∨ w.heap.size ≤ k) w wc := Only.of_below (HB1.out.trans (HB5.out.mono HB1.out.size)) (fun k hk => .inr hk)
    have HOC := Lib.hid hOc; clear hOc
    have HMW := Lib.hid hmw; clear hmw
    cases there with
    | false =>
      obtain ⟨ob, hdel, hMd⟩ := hmwd.drop keys_edge Tryz.underlying54 (nr, (m : Int)) 0
      have hM3 : MRep (wc.drew.putObj wb ob) o mb wb tb (mdrop (nr, (m : Int)) W) T := ⟨(World.putObj_heap_other HMW.out).trans HMC.out.cells, hMd, HMC.out.things.of_heap (World.putObj_heap_other (Ne.symm HMC.out.apart)), HMC.out.apart, HMC.out.ok⟩
      have HM3 := Lib.hid hM3; clear hM3 hMd
      unfold encEdge at hdel
      go_wp2_with fail
      go_region
      all_goals go_wp2_with fail
      go_ret
      refine ⟨(HOC.out.drew).putObj (.inl rfl) ob, ?_⟩
      have hs : (Hy.nearOf nf nx, (m : Int)) = (nr, (m : Int)) := by rw [HNR.out]; rfl
      rw [hs]
      exact ⟨rfl, HM3.out⟩
    | true =>
      have hlook := fun n => (HMC.out.walls.of_heap (w' := wc.drewN n) (by simp)).look keys_edge Tryz.underlying54 (nr, (m : Int)) (zero_bool (wc.drewN n)) false
      have hlen := fun n ty => (HMC.out.walls.of_heap (w' := wc.drewN n) (by simp)).len Tryz.underlying54 ty
      have hlook0 := HMC.out.walls.look keys_edge Tryz.underlying54 (nr, (m : Int)) (zero_bool wc) false
      have hlook1 := hmwd.look keys_edge Tryz.underlying54 (nr, (m : Int)) (zero_bool wc.drew) false
      simp only [Bool.false_eq_true, if_false] at hlook hlook0 hlook1
      have hv : ∀ x : Option Bool, ((x.map Value.bool).getD (.bool false)) = .bool (x.getD false) := fun x => by cases x <;> rfl
      simp only [hv] at hlook hlook0 hlook1
      clear hv
      have hpw : putWall W (nr, (m : Int)) true = if ((mlook (nr, (m : Int)) W).getD false) = false ∧ 100 ≤ W.length then (4, W) else (0, mput (nr, (m : Int)) true W) := rfl
      have HPW := Lib.hid hpw; clear hpw
      generalize hvv : (mlook (nr, (m : Int)) W).getD false = v at *
      have HVV := Lib.hid hvv; clear hvv
      unfold encEdge at hlook hlook0 hlook1
      by_cases h100 : 100 ≤ W.length
      · cases v with
        | true =>
          go_wp2_with fail
          go_quiet (fail)
          obtain ⟨ob, hput, hMd⟩ := (HMC.out.walls.of_heap (w' := wc.drewN (nq + 1)) (by simp)).put keys_edge Tryz.underlying54 (nr, (m : Int)) true
          have hM3 : MRep ((wc.drewN (nq + 1)).putObj wb ob) o mb wb tb (mput (nr, (m : Int)) true W) T := ⟨(World.putObj_heap_other HMW.out).trans ((by simp : (wc.drewN (nq + 1)).heap[mb]? = wc.heap[mb]?).trans HMC.out.cells), hMd, HMC.out.things.of_heap ((World.putObj_heap_other (Ne.symm HMC.out.apart)).trans (by simp)), HMC.out.apart, HMC.out.ok⟩
          have HM3 := Lib.hid hM3; clear hM3 hMd
          clear hlook hlen hlook0 hlook1
          unfold encEdge at hput
          go_wp2_with fail
          go_region
          all_goals go_wp2_with fail
          go_ret
          refine ⟨(HOC.out.drewN (nq + 1)).putObj (.inl rfl) ob, ?_⟩
          have hs : (Hy.nearOf nf nx, (m : Int)) = (nr, (m : Int)) := by rw [HNR.out]; rfl
          rw [hs, HPW.out]
          rw [if_neg (by simp)]
          exact ⟨rfl, HM3.out⟩
        | false =>
          go_wp2_with fail
          go_quiet (fail)
          go_wp2_with fail
          go_ret
          refine ⟨HOC.out.drewN nq, ?_⟩
          have hs : (Hy.nearOf nf nx, (m : Int)) = (nr, (m : Int)) := by rw [HNR.out]; rfl
          rw [hs, HPW.out]
          rw [if_pos (by simpa using h100)]
          exact ⟨rfl, ⟨(by simp : (wc.drewN nq).heap[mb]? = wc.heap[mb]?).trans HMC.out.cells, HMC.out.walls.of_heap (by simp), HMC.out.things.of_heap (by simp), HMC.out.apart, HMC.out.ok⟩⟩
      · cases v with
        | true =>
          go_wp2_with fail
          go_quiet (fail)
          obtain ⟨ob, hput, hMd⟩ := (HMC.out.walls.of_heap (w' := wc.drewN (nq + 1)) (by simp)).put keys_edge Tryz.underlying54 (nr, (m : Int)) true
          have hM3 : MRep ((wc.drewN (nq + 1)).putObj wb ob) o mb wb tb (mput (nr, (m : Int)) true W) T := ⟨(World.putObj_heap_other HMW.out).trans ((by simp : (wc.drewN (nq + 1)).heap[mb]? = wc.heap[mb]?).trans HMC.out.cells), hMd, HMC.out.things.of_heap ((World.putObj_heap_other (Ne.symm HMC.out.apart)).trans (by simp)), HMC.out.apart, HMC.out.ok⟩
          have HM3 := Lib.hid hM3; clear hM3 hMd
          clear hlook hlen hlook0 hlook1
          unfold encEdge at hput
          go_wp2_with fail
          go_region
          all_goals go_wp2_with fail
          go_ret
          refine ⟨(HOC.out.drewN (nq + 1)).putObj (.inl rfl) ob, ?_⟩
          have hs : (Hy.nearOf nf nx, (m : Int)) = (nr, (m : Int)) := by rw [HNR.out]; rfl
          rw [hs, HPW.out]
          rw [if_neg (by simp)]
          exact ⟨rfl, HM3.out⟩
        | false =>
          go_wp2_with fail
          go_quiet (fail)
          obtain ⟨ob, hput, hMd⟩ := (HMC.out.walls.of_heap (w' := wc.drewN (nq + 1)) (by simp)).put keys_edge Tryz.underlying54 (nr, (m : Int)) true
          have hM3 : MRep ((wc.drewN (nq + 1)).putObj wb ob) o mb wb tb (mput (nr, (m : Int)) true W) T := ⟨(World.putObj_heap_other HMW.out).trans ((by simp : (wc.drewN (nq + 1)).heap[mb]? = wc.heap[mb]?).trans HMC.out.cells), hMd, HMC.out.things.of_heap ((World.putObj_heap_other (Ne.symm HMC.out.apart)).trans (by simp)), HMC.out.apart, HMC.out.ok⟩
          have HM3 := Lib.hid hM3; clear hM3 hMd
          clear hlook hlen hlook0 hlook1
          unfold encEdge at hput
          go_wp2_with fail
          go_region
          all_goals go_wp2_with fail
          go_ret
          refine ⟨(HOC.out.drewN (nq + 1)).putObj (.inl rfl) ob, ?_⟩
          have hs : (Hy.nearOf nf nx, (m : Int)) = (nr, (m : Int)) := by rw [HNR.out]; rfl
          rw [hs, HPW.out]
          rw [if_neg (by simp; omega)]
          exact ⟨rfl, HM3.out⟩
end Go.Proofs.YtbfnnlcckpabnaaGreat

/- walk.Go. -/
namespace Go.Proofs.YtbfnnlcckpabnaaGreat
set_option linter.unusedSimpArgs false
set_option linter.unusedVariables false
open Go.RowKit

/-- Is there a wall? -/
def wallIn (W : Walls) (t : List UInt8) (m : Int) : Bool := (mlook (t, m) W).getD false

theorem wall_value (W : Walls) (s : List UInt8 × Int) : (((mlook s W).map Value.bool).getD (.bool false)) = .bool (wallIn W s.1 s.2) := by
  unfold wallIn
  cases mlook s W <;> rfl

theorem extract_take (l : List UInt8) (n : Nat) : (⟨l.toArray⟩ : ByteArray).extract 0 n = ⟨(l.take n).toArray⟩ := by
  apply ByteArray.ext
  simp

theorem look_edge {w : World} {o : Hy.Ord} {mb wb tb : Nat} {W : Walls} {T : Things} (h : MRep w o mb wb tb W T) (t : List UInt8) (m : Int) :
    (Instr.lookup 54 (.map (some wb)) (.agg #[.string ⟨t.toArray⟩, .int .i64 m]) false).run Tryz.prog w = .ok (.bool (wallIn W t m)) w := by
  have := h.walls.look keys_edge Tryz.underlying54 (t, m) (zero_bool w) false
  simp only [Bool.false_eq_true, if_false, wall_value] at this
  exact this

theorem run_index_str (l : List UInt8) (k : Nat) (c : UInt8) (h : l[k]? = some c) (w : World) : (Instr.index 9 (.string ⟨l.toArray⟩) (.int .i64 k)).run Tryz.prog w = .ok (.int .u8 c.toNat) w := by
  have hb : (⟨l.toArray⟩ : ByteArray)[k]? = some c := by
    obtain ⟨hk, rfl⟩ := List.getElem?_eq_some_iff.1 h
    have hk' : k < (⟨l.toArray⟩ : ByteArray).size := by
      show k < l.toArray.size
      simpa using hk
    rw [getElem?_pos (⟨l.toArray⟩ : ByteArray) k hk']
    rfl
  simp [Instr.index, Sem.run_bind, run_underlying Tryz.underlying9, Result.andThen, asIntOf, hb]

set_option maxRecDepth 100000 in
set_option maxHeartbeats 2000000 in
theorem walk_Go {w : World} {o : Hy.Ord} {mb wb tb : Nat} {W : Walls} {T : Things} (h : MRep w o mb wb tb W T) (ho : Small o) (tile word : List UInt8) (fuel : Nat) (nf nw : List UInt8)
    (hz : Hy.wordsErr [tile, word] = 0) (hnf : Hy.norm o fuel tile = some nf) (hnw : Hy.norm o fuel word = some nw) (p : List UInt8 × Nat) (hp : Hy.goSteps o fuel (wallIn W) nf word word.length nf = some p) :
    Calls Tryz.prog 20 #[.pointer (some ⟨mb, 0, none⟩), str tile, str word] w fun e w' => e = .returned (.tuple #[str p.1, .int .i64 p.2, .int .i64 0]) ∧ Below w.heap.size w w' := by
  have hlt : tile.length ≤ 60 := (Hy.wordErr_letters (Hy.wordsErr_zero hz tile (by simp))).2
  have hlw : word.length ≤ 60 := (Hy.wordErr_letters (Hy.wordsErr_zero hz word (by simp))).2
  have hlet := (Hy.wordErr_letters (Hy.wordsErr_zero hz word (by simp))).1
  have HCALL := Lib.hid (fun W' (hb : MRep W' o mb wb tb W T) sv hs => walk_normals hb ho sv [tile, word] hs (by simp) (by simp) (by simp; omega) fuel [nf, nw] rfl (by
    intro k hk _
    simp at hk
    obtain rfl | rfl : k = 0 ∨ k = 1 := by omega
    · exact hnf
    · exact hnw))
  have HGROW := Lib.hid (fun W' (hb : Below w.heap.size w W') => h.grow hb)
  have HTO := Lib.hid (fun W' (hb : MRep W' o mb wb tb W T) v hw2 nx hnx => walk_to hb ho nf v hw2 fuel nx hnx)
  have HSIDE := Lib.hid (fun a b m W' => walk_side a b m W')
  have HLET := Lib.hid hlet; clear hlet
  have HZ := Lib.hid hz; clear hz
  have HP := Lib.hid hp; clear hp
  clear h hnf hnw hlt
  unfold str at *
  go_enter Tryz.func20, Tryz.ntmps20
  go_wp2_with fail
  refine (HCALL.out _ (HGROW.out _ ((Below.refl _ _).alloc (Nat.le_refl _) _)) _ ⟨w.heap.size, 2, rfl, by simp, ?_⟩).mono ?_
  · intro k hk
    simp at hk
    obtain rfl | rfl : k = 0 ∨ k = 1 := by omega
    · simp [str]
    · simp [str]
  rintro e w1 ⟨hB, hb⟩
  rw [if_pos HZ.out] at hb
  obtain ⟨v, rfl, g, cap, rfl, hg, hc⟩ := hb
  clear HCALL
  have hB1 : Below w.heap.size w w1 := ((Below.refl _ _).alloc (Nat.le_refl _) _).trans (hB.mono (by simp))
  have hcell := hc 0 (by simp)
  simp only [List.getElem_cons_zero, List.length_cons, List.length_nil] at hcell ⊢
  have HB1 := Lib.hid hB1; clear hB1 hB hc
  unfold str at hcell
  go_wp2_with fail
  go_quiet (fail)
  have hB2 : Below w.heap.size w (w1.drewN nq) := below_drewN HB1.out _
  obtain ⟨w2, hw2⟩ : ∃ w2, w1.drewN nq = w2 := ⟨_, rfl⟩
  rw [hw2] at hB2 ⊢
  have HB2 := Lib.hid hB2; clear hB2 hw2 hcell HB1 hg
  go_wp2_with fail
  go_loopw [12, 34] (fun av i wr => ∃ (r : Nat) (x : List UInt8), r ≤ word.length ∧ i = .int .i64 ((word.length - r : Nat) : Int) ∧ av = .string ⟨x.toArray⟩ ∧ Hid (Hy.goSteps o fuel (wallIn W) nf word r x = some p) ∧ Hid (Below w.heap.size w wr)) (fun _ i _ => word.length - (intOf i).toNat)
  case atStart => exact ⟨word.length, nf, Nat.le_refl _, by simp, rfl, HP.out, HB2.out⟩
  case round =>
    obtain ⟨r, x, hr, rfl, rfl, HS, HBr⟩ := hrel
    cases r with
    | zero =>
      have hs := HS.out
      unfold Hy.goSteps at hs
      cases hs
      have H0 := Lib.hid (Nat.sub_zero word.length)
      go_wp2_with fail
      go_ret3
      exact ⟨rfl, HBr.out⟩
    | succ r =>
      obtain ⟨hw2, nx, c, hn, hcc, hcase⟩ := Hy.goSteps_succ HS.out
      obtain ⟨k, hk⟩ : ∃ k, k = word.length - (r + 1) := ⟨_, rfl⟩
      have hkl : k < word.length := by omega
      have hk1 : word.length - r = k + 1 := by omega
      rw [← hk] at hcc hcase ⊢
      rw [hk1] at hn hw2
      have HK := Lib.hid hk; clear hk
      have HK1 := Lib.hid hk1; clear hk1
      have hM := HGROW.out wr HBr.out
      have cw : wr.cell? ⟨mb, 4, none⟩ = some (.map (some wb)) := cell_of_heap hM.cells 4
      have hto := HTO.out wr hM (word.take (k + 1)) hw2 nx hn
      have HTO2 := Lib.hid hto; clear hto
      have HM := Lib.hid hM; clear hM
      have HCC := Lib.hid hcc; clear hcc
      have HCASE := Lib.hid hcase; clear hcase
      clear hn hw2
      go_wp2_with fail
      rw [extract_take]
      refine HTO2.out.mono ?_
      rintro e w3 ⟨rfl, hB3⟩
      have hB3' : Below w.heap.size w w3 := HBr.out.trans (hB3.mono HBr.out.size)
      have hM3 := HGROW.out w3 hB3'
      have cw3 : w3.cell? ⟨mb, 4, none⟩ = some (.map (some wb)) := cell_of_heap hM3.cells 4
      have HM3 := Lib.hid hM3; clear hM3
      have HB3 := Lib.hid hB3'; clear hB3 hB3'
      clear HTO2 cw
      have hcb : word[k] = c := by
        have := HCC.out
        rw [List.getElem?_eq_getElem hkl] at this
        exact Option.some.inj this
      have HCB := Lib.hid hcb; clear hcb
      have hmw3 := HM3.out.cells
      have hml := (HM3.out.lt).1
      obtain ⟨nr, hnr⟩ : ∃ nr, nr = Hy.nearOf x nx := ⟨_, rfl⟩
      have hside := fun W' => HSIDE.out x nx (c.toNat : Int) W'
      rw [show (if nx.length < x.length then nx else x) = nr from hnr.symm] at hside
      rw [← hnr] at HCASE
      have HSI := Lib.hid hside; clear hside
      have HNR := Lib.hid hnr; clear hnr
      have HMW := Lib.hid hmw3; clear hmw3
      unfold encEdge at HSI
      go_wp2_with fail
      obtain ⟨wl, hwl⟩ : ∃ wl, wl = wallIn W nr (c.toNat : Int) := ⟨_, rfl⟩
      have HWL := Lib.hid hwl; clear hwl
      have hidx : ∀ W' : World, (Instr.index 9 (.string ⟨word.toArray⟩) (.int .i64 k)).run Tryz.prog W' = .ok (.int .u8 c.toNat) W' := fun W' => run_index_str word k c HCC.out W'
      have hc256 := c.toNat_lt
      have hwr : IntKind.i64.wrap (c.toNat : Int) = (c.toNat : Int) := IntWalk.i64_in _ (by omega)
      go_cut [55] (fun v wx => v = .bool wl ∧ Hid (Below w.heap.size w wx))
      case first =>
        go_region_held3 (fun w' => w'.cell? ⟨mb, 4, none⟩ = some (.map (some wb)))
          (first | go_keep | (rw [hc4 _ _ (by simpa using hml)]; simpa using cw3))
          ((go_at_call 51; refine (HSI.out _).mono ?_; rintro e w4 ⟨rfl, hB4⟩; obtain ⟨hc4, hf4⟩ := bcell hB4; have hb4 : Below w.heap.size w w4 := HB3.out.trans ((below_undrew hB4).mono HB3.out.size); have hlk := look_edge (HGROW.out w4 hb4) nr (c.toNat : Int); rw [← HWL.out] at hlk; have HB4 := Lib.hid hb4; clear hb4 hB4))
        all_goals go_wp2_with fail
        all_goals go_meet
        case rel => exact ⟨rfl, HB4⟩
      case rest =>
        obtain ⟨rfl, HB5⟩ := hcut
        clear hidx hwr cw3 hml hc256
        rcases HCASE.out with ⟨h1, h2⟩ | ⟨h1, h2⟩
        · have hw : wl = true := HWL.out.trans h1
          subst hw
          subst h2
          clear h1
          go_wp2_with fail
          go_ret3
          exact ⟨rfl, HB5.out⟩
        · have hw : wl = false := HWL.out.trans h1
          subst hw
          have HS2 := Lib.hid h2; clear h1 h2
          go_wp2_with fail
          go_roundw
          case rel =>
            (repeat apply Exists.intro)
            refine ⟨⟨r, nx, ?_, ?_, rfl, HS2, HB5⟩, rfl⟩
            · omega
            · have h5 := HK.out; have h6 := HK1.out; go_num
          case measure => simp [intOf]; omega
end Go.Proofs.YtbfnnlcckpabnaaGreat
