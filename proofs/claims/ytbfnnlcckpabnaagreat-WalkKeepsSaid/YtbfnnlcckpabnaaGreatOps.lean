/- The calls that the laws of chapter 7 are handed: as arguments. -/
import Derived.Test.YtbfnnlcckpabnaaGreatRuns
import Derived.Deep.Slices
import Derived.Lib.SmallJoins
import Derived.WalkKit
import Derived.ProofKit
import Derived.OpenShut
import Derived.ShutString
namespace Go.Proofs.YtbfnnlcckpabnaaGreat
set_option linter.unusedSimpArgs false
set_option linter.unusedVariables false
open Go.ChangeShapes Go.WideShapes Go.ChangeAt Go.RowKit Go.Joins
open Go.ChangeMaps (open_string shut_string)

section
variable {H : Type} {enc : TypeId × Value → H} {w : World} {base : Nat} {spare : Nat → Bool} {held : Bool}

set_option maxRecDepth 100000

/-- The texts of a call are no longer than texts may be. -/
def OpD.fine (q : OpD) : Prop := q.u.length ≤ 9223372036854775807 ∧ q.v.length ≤ 9223372036854775807 ∧ q.t.length ≤ 9223372036854775807

theorem size_list (b : ByteArray) (h : b.size ≤ maxLen) : b.data.toList.length ≤ 9223372036854775807 := by
  have : b.data.size ≤ maxLen := h
  unfold maxLen at this
  simpa using this

theorem str_data (b : ByteArray) : str b.data.toList = .string b := by
  obtain ⟨d⟩ := b
  simp [str]

theorem cells_op : Tryz.prog.cellsOf 27 = 6 := by kernel_rfl
theorem cells_int : Tryz.prog.cellsOf 3 = 1 := by kernel_rfl
theorem cells_bool : Tryz.prog.cellsOf 4 = 1 := by kernel_rfl
theorem cells_string : Tryz.prog.cellsOf 9 = 1 := by kernel_rfl

theorem op_cells {fuel : Nat} {cs : List Value} {x : DataW H × List MemPlace} (h : DataW.trod enc Tryz.prog w base spare held fuel 27 cs = some x) :
    ∃ q : OpD, q.fine ∧ cs = [.int .i64 q.kind, .int .i64 q.m, .bool q.is, str q.u, str q.v, str q.t] := by
  obtain ⟨xs, n, _, _, hl, hlen, hf⟩ := DataW.trod_struct Tryz.underlying27 h
  rw [cells_op] at hl
  match xs, hlen, cs, hl with
  | [y0, y1, y2, y3, y4, y5], _, [v0, v1, v2, v3, v4, v5], _ =>
    have g0 := hf 0 _ rfl
    have g1 := hf 1 _ rfl
    have g2 := hf 2 _ rfl
    have g3 := hf 3 _ rfl
    have g4 := hf 4 _ rfl
    have g5 := hf 5 _ rfl
    simp [cells_int, cells_bool, cells_string] at g0 g1 g2 g3 g4 g5
    obtain ⟨kind, e0, _, _⟩ := DataW.trod_int Tryz.underlying3 g0
    obtain ⟨m, e1, _, _⟩ := DataW.trod_int Tryz.underlying3 g1
    obtain ⟨is, e2, _⟩ := DataW.trod_bool Tryz.underlying4 g2
    obtain ⟨u, e3, _, h3⟩ := DataW.trod_string Tryz.underlying9 g3
    obtain ⟨v, e4, _, h4⟩ := DataW.trod_string Tryz.underlying9 g4
    obtain ⟨t, e5, _, h5⟩ := DataW.trod_string Tryz.underlying9 g5
    simp only [List.cons.injEq, and_true] at e0 e1 e2 e3 e4 e5
    refine ⟨⟨kind, m, is, u.data.toList, v.data.toList, t.data.toList⟩, ⟨size_list u h3, size_list v h4, size_list t h5⟩, ?_⟩
    simp only [str_data, e0, e1, e2, e3, e4, e5]

/-- A call that came in by value. -/
theorem op_arg {r : Reach} {b0 : Nat} {v : Value} {d : DataW H} {p : List MemPlace} (hv : Value.okWide Tryz.prog w r b0 27 v) (h : DataW.Trod enc Tryz.prog w base spare held 27 v d p) :
    ∃ q : OpD, q.fine ∧ v = opV q.kind q.m q.is q.u q.v q.t := by
  obtain ⟨cs, rfl, hsz⟩ := okWide_struct Tryz.underlying27 hv
  obtain ⟨fuel, hf⟩ := h
  obtain ⟨q, hq, hcs⟩ := op_cells hf
  refine ⟨q, hq, ?_⟩
  unfold opV
  congr 1
  apply Array.toList_inj.1
  simpa [Value.cells] using hcs

/-- A slice of calls that came in. -/
theorem ops_arg {a : Option Addr} {len cap : Nat} {d : DataW H} {p : List MemPlace} (h : DataW.Trod enc Tryz.prog w 0 spare held 24 (.slice a len cap) d p) :
    ∃ L : List OpD, L.length = len ∧ OpsAt w (.slice a len cap) L := by
  obtain ⟨fuel, hf⟩ := h
  rcases Go.Deep.open_slice Tryz.underlying24 hf with ⟨hcs, _⟩ | ⟨x, l, c, m, n, D, Pl, hcs, _, hl, hm, hmm, _, hx⟩
  · simp [Value.cells] at hcs
    obtain ⟨rfl, rfl, rfl⟩ := hcs
    exact ⟨[], rfl, none, 0, rfl, fun p hp => (by cases hp), fun k hk => absurd hk (Nat.not_lt_zero _)⟩
  · simp [Value.cells] at hcs
    obtain ⟨rfl, rfl, rfl⟩ := hcs
    have hlm : len ≤ m := by rw [hmm]; split <;> omega
    have each : ∀ i, i < m → ∃ q : OpD, q.fine ∧ w.cells? 0 (x.add (i * 6)) 6 = some [.int .i64 q.kind, .int .i64 q.m, .bool q.is, str q.u, str q.v, str q.t] := fun i hi => by
      obtain ⟨cs', h1, h2⟩ := hx i hi
      rw [cells_op] at h1
      obtain ⟨q, h3, rfl⟩ := op_cells h2
      exact ⟨q, h3, h1⟩
    have pick : ∃ q : Nat → OpD, ∀ i, i < m → (q i).fine ∧ w.cells? 0 (x.add (i * 6)) 6 = some [.int .i64 (q i).kind, .int .i64 (q i).m, .bool (q i).is, str (q i).u, str (q i).v, str (q i).t] := by
      refine ⟨fun i => if hi : i < m then Classical.choose (each i hi) else ⟨0, 0, false, [], [], []⟩, fun i hi => ?_⟩
      simp only [dif_pos hi]
      exact Classical.choose_spec (each i hi)
    obtain ⟨q, hq⟩ := pick
    refine ⟨(List.range len).map q, by simp, some x, cap, by simp, fun p hp => ?_, fun k hk => ?_⟩
    · obtain ⟨i, hi, rfl⟩ := List.mem_map.1 hp
      exact (hq i (by have := List.mem_range.1 hi; omega)).1
    · have hk' : k < len := by simpa using hk
      have hc := (hq k (by omega)).2
      obtain ⟨_, _, hcell⟩ := World.cells?_some hc
      obtain ⟨g, off, sp⟩ := x
      have z0 := hcell 0 (by omega)
      have hsp : sp = none := by
        obtain ⟨_, _, hcell0⟩ := World.cells?_some (hq 0 (by omega)).2
        have hz := World.cell?_spot (hcell0 0 (by omega))
        simpa [Addr.add] using hz
      subst hsp
      have hadd : ∀ i j, ((⟨g, off, none⟩ : Addr).add i).add j = ⟨g, off + i + j, none⟩ := fun i j => by rw [Addr.add_lit, Addr.add_lit]
      have z1 := hcell 1 (by omega)
      have z2 := hcell 2 (by omega)
      have z3 := hcell 3 (by omega)
      have z4 := hcell 4 (by omega)
      have z5 := hcell 5 (by omega)
      rw [hadd] at z0 z1 z2 z3 z4 z5
      refine ⟨g, off, rfl, World.block_lt_of_cell? _ _ z0, ?_⟩
      simp only [List.getElem_map, List.getElem_range]
      exact ⟨z0, z1, z2, z3, z4, z5⟩
end
end Go.Proofs.YtbfnnlcckpabnaaGreat
