/- Edges as keys of a map. -/
import Derived.Test.YtbfnnlcckpabnaaProg
import Derived.Test.YtbfnnlcckpabnaaMap
namespace Go.Proofs.Ytbfnnlcckpabnaa
set_option linter.unusedSimpArgs false
set_option linter.unusedVariables false
open Go.RowKit

def encEdge (e : List UInt8 × Int) : Value := .agg #[.string ⟨e.1.toArray⟩, .int .i64 e.2]

theorem stood59 : Try.prog.stoodInHeld 59 = false := by kernel_rfl
theorem fields59 : Try.prog.fieldsOf 59 = #[{ name := "Tile", type := 9, offset := 0, embedded := false, tag := "", pkgPath := "", byteOffset := 0 }, { name := "Mirror", type := 3, offset := 1, embedded := false, tag := "", pkgPath := "", byteOffset := 16 }] := by kernel_rfl

theorem run_part0 (x : ByteArray) (y : Int) (w : World) : (part 9 #[.string x, .int .i64 y] 0).run Try.prog w = .ok (.string x) w := by kernel_rfl
theorem run_part1 (x : ByteArray) (y : Int) (w : World) : (part 3 #[.string x, .int .i64 y] 1).run Try.prog w = .ok (.int .i64 y) w := by kernel_rfl

theorem run_equal_edge (a b : List UInt8 × Int) (w : World) : (Op.equal 59 (encEdge a) (encEdge b)).run Try.prog w = .ok (decide (a = b)) w := by
  unfold Op.equal encEdge Op.maxDepth
  rw [run_equalIn_agg w 9999 59 _ _ (by rw [Try.underlying59, fields59]) stood59, fields59]
  simp only [Op.eqFields, Sem.run_bind, run_part0, run_part1, Result.andThen_ok, Sem.run_ite, run_equalIn_string w 9998 9 _ _ Try.underlying9, run_equalIn_int w 9998 3 .i64 .i64 _ _ Try.underlying3, Sem.run_pure]
  by_cases h1 : a.1 = b.1
  · by_cases h2 : a.2 = b.2
    · simp [h1, h2, Prod.ext_iff]
    · simp [h1, h2, Prod.ext_iff]
  · simp [h1, Prod.ext_iff]

theorem run_checkKey_edge (e : Bool) (a : List UInt8 × Int) (w : World) : (Instr.checkKey e 10000 59 (encEdge a)).run Try.prog w = .ok () w := by
  kernel_rfl

theorem keys_edge : Keys Try.prog 59 encEdge := by
  have hask : ∀ {β : Type} (encV : β → Value) (a : List UInt8 × Int) (kv : List ((List UInt8 × Int) × β)) (es : List MapEntry) (i : Nat) (w : World), Reads encEdge encV es kv →
      (Instr.findAsking 59 (encEdge a) es i).run Try.prog w = .ok ((mfind a kv i).map fun p => (p.1, encV p.2)) w := by
    intro β encV a kv
    induction kv with
    | nil =>
      intro es i w hr
      cases es with
      | nil => rfl
      | cons e es => cases hr
    | cons p kv ih =>
      intro es i w hr
      obtain ⟨k, v⟩ := p
      cases es with
      | nil => cases hr
      | cons e es =>
        unfold Reads at hr
        simp only [List.map_cons, List.cons.injEq, Prod.mk.injEq] at hr
        obtain ⟨⟨h1, h2⟩, h3⟩ := hr
        unfold Instr.findAsking mfind
        rw [h1]
        by_cases hk : a = k
        · simp [Sem.run_bind, run_equal_edge, hk, h2, Result.andThen]
        · simp only [Sem.run_bind, run_equal_edge, hk, decide_false, Result.andThen, Bool.false_eq_true, if_false]
          exact ih es (i + 1) w h3
  refine ⟨run_checkKey_edge, ?_, ?_⟩
  · intro β encV a es kv w hr
    unfold Instr.findKey
    simp only [Sem.run_bind, run_underlying Try.underlying59, Result.andThen]
    cases es with
    | nil =>
      cases kv with
      | nil => rfl
      | cons p kv => cases hr
    | cons e es =>
      have : Instr.findNow (TypeDesc.struct #[{ name := "Tile", type := 9, offset := 0, embedded := false, tag := "", pkgPath := "", byteOffset := 0 }, { name := "Mirror", type := 3, offset := 1, embedded := false, tag := "", pkgPath := "", byteOffset := 16 }]) (encEdge a) (e :: es) 0 = none := by
        unfold Instr.findNow encEdge
        simp [Instr.sameNow]
      rw [this]
      exact hask encV a kv (e :: es) 0 w hr
  · intro a
    simp [Instr.sameBits, encEdge, bytes_beq]
end Go.Proofs.Ytbfnnlcckpabnaa
