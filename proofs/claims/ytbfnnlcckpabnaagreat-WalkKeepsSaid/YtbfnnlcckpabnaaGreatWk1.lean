import Derived.WalkKit
import Derived.MapKept
import Derived.RangeFuncRecord
import Derived.Test.YtbfnnlcckpabnaaGreatProg
import Derived.Test.YtbfnnlcckpabnaaGreatWords

/- Maps as lists of pairs in the order in which they came: a look, a store, a removal. Over any program. -/
namespace Go.Proofs.YtbfnnlcckpabnaaGreat
set_option linter.unusedSimpArgs false
set_option linter.unusedVariables false
open Go.RowKit

section
variable {α β : Type} [DecidableEq α]

def mlook (a : α) : List (α × β) → Option β
  | [] => none
  | (k, v) :: r => if a = k then some v else mlook a r
def mput (a : α) (b : β) : List (α × β) → List (α × β)
  | [] => [(a, b)]
  | (k, v) :: r => if a = k then (a, b) :: r else (k, v) :: mput a b r
def mdrop (a : α) : List (α × β) → List (α × β)
  | [] => []
  | (k, v) :: r => if a = k then r else (k, v) :: mdrop a r
/-- The place of a key, counted from i on. -/
def mfind (a : α) : List (α × β) → Nat → Option (Nat × β)
  | [], _ => none
  | (k, v) :: r, i => if a = k then some (i, v) else mfind a r (i + 1)

theorem mfind_look (a : α) : ∀ (l : List (α × β)) (i : Nat), (mfind a l i).map (·.2) = mlook a l
  | [], _ => rfl
  | (k, v) :: r, i => by
    unfold mfind mlook
    by_cases h : a = k
    · simp [h]
    · simp [h, mfind_look a r]

theorem mfind_none {a : α} : ∀ {l : List (α × β)} {i : Nat} (b : β), mfind a l i = none → mput a b l = l ++ [(a, b)] ∧ mdrop a l = l
  | [], _, _, _ => ⟨rfl, rfl⟩
  | (k, v) :: r, i, b, h => by
    unfold mfind at h
    by_cases hk : a = k
    · rw [if_pos hk] at h; cases h
    · rw [if_neg hk] at h
      obtain ⟨h1, h2⟩ := mfind_none b h
      exact ⟨by unfold mput; rw [if_neg hk, h1]; rfl, by unfold mdrop; rw [if_neg hk, h2]⟩

theorem mfind_some {a : α} : ∀ {l : List (α × β)} {i j : Nat} {v : β} (b : β), mfind a l i = some (j, v) → i ≤ j ∧ l[j - i]? = some (a, v) ∧ mput a b l = l.set (j - i) (a, b) ∧ mdrop a l = l.eraseIdx (j - i)
  | (k, x) :: r, i, j, v, b, h => by
    unfold mfind at h
    by_cases hk : a = k
    · rw [if_pos hk] at h
      simp only [Option.some.injEq, Prod.mk.injEq] at h
      obtain ⟨rfl, rfl⟩ := h
      subst hk
      simp [mput, mdrop]
    · rw [if_neg hk] at h
      obtain ⟨h1, h2, h3, h4⟩ := mfind_some b h
      obtain ⟨d, hd⟩ : ∃ d, j - i = d + 1 := ⟨j - i - 1, by omega⟩
      have hd' : j - (i + 1) = d := by omega
      rw [hd'] at h2 h3 h4
      refine ⟨by omega, ?_, ?_, ?_⟩
      · rw [hd]; simpa using h2
      · rw [hd]; unfold mput; rw [if_neg hk, h3]; rfl
      · rw [hd]; unfold mdrop; rw [if_neg hk, h4]; rfl
end

/-- The entries of a map read as a list of pairs. -/
def Reads {α β : Type} (encK : α → Value) (encV : β → Value) (es : List MapEntry) (kv : List (α × β)) : Prop := es.map (fun e => (e.key, e.val)) = kv.map (fun p => (encK p.1, encV p.2))

/-- Keys of a kind: they can be keys, and the search finds them. -/
structure Keys {α : Type} [DecidableEq α] (P : Program) (kt : TypeId) (encK : α → Value) : Prop where
  check : ∀ (e : Bool) (a : α) (w : World), (Instr.checkKey e 10000 kt (encK a)).run P w = .ok () w
  find : ∀ {β : Type} (encV : β → Value) (a : α) (es : List MapEntry) (kv : List (α × β)) (w : World), Reads encK encV es kv → (Instr.findKey kt (encK a) es).run P w = .ok ((mfind a kv 0).map fun p => (p.1, encV p.2)) w
  same : ∀ a, Instr.sameBits 10000 (encK a) (encK a) = true

/-- The stamps of the entries: older than the clock, no two alike. -/
def Stamps (es : List MapEntry) (clock : Nat) : Prop := (∀ x ∈ es, x.born < clock) ∧ (es.map (·.born)).Nodup

theorem Stamps.born {es : List MapEntry} {clock : Nat} (h : Stamps es clock) {es' : List MapEntry} (he : (es'.map (·.born)).Sublist (es.map (·.born))) : Stamps es' clock := by
  refine ⟨fun x hx => ?_, h.2.sublist he⟩
  obtain ⟨y, hy, hyx⟩ := List.mem_map.1 (he.subset (List.mem_map.2 ⟨x, hx, rfl⟩))
  rw [← hyx]
  exact h.1 y hy

theorem Stamps.push {es : List MapEntry} {clock : Nat} (h : Stamps es clock) (e : MapEntry) (he : e.born = clock) : Stamps (es ++ [e]) (clock + 1) := by
  refine ⟨fun x hx => ?_, ?_⟩
  · rcases List.mem_append.1 hx with hx | hx
    · have := h.1 x hx; omega
    · cases List.mem_singleton.1 hx; omega
  · rw [List.map_append, List.nodup_append]
    refine ⟨h.2, by simp, fun a ha b hb => ?_⟩
    obtain ⟨x, hx, rfl⟩ := List.mem_map.1 ha
    simp at hb
    have := h.1 x hx
    omega

/-- Block b is a map that reads so. -/
def MapAt {α β : Type} (w : World) (encK : α → Value) (encV : β → Value) (b : Nat) (kv : List (α × β)) : Prop := ∃ es clock, w.heap[b]? = some (.map es clock) ∧ Reads encK encV es.toList kv ∧ Stamps es.toList clock

theorem MapAt.of_heap {α β : Type} {w w' : World} {encK : α → Value} {encV : β → Value} {b : Nat} {kv : List (α × β)} (h : MapAt w encK encV b kv) (hh : w'.heap[b]? = w.heap[b]?) : MapAt w' encK encV b kv := by
  obtain ⟨es, clock, h1, h2⟩ := h
  exact ⟨es, clock, hh.trans h1, h2⟩

theorem mapAt_new {α β : Type} (w : World) (encK : α → Value) (encV : β → Value) : MapAt (w.alloc (.map #[] 0)) encK encV w.heap.size ([] : List (α × β)) := by
  refine ⟨#[], 0, ?_, rfl, by simp, by simp⟩
  show (w.heap.push _)[w.heap.size]? = _
  simp

theorem MapAt.lt {α β : Type} {w : World} {encK : α → Value} {encV : β → Value} {b : Nat} {kv : List (α × β)} (h : MapAt w encK encV b kv) : b < w.heap.size := by
  obtain ⟨es, clock, h1, _⟩ := h
  exact (Array.getElem?_eq_some_iff.1 h1).1

theorem reads_length {α β : Type} {encK : α → Value} {encV : β → Value} {es : List MapEntry} {kv : List (α × β)} (h : Reads encK encV es kv) : es.length = kv.length := by
  have := congrArg List.length h
  simpa using this

theorem MapAt.len {α β : Type} {P : Program} {kt et t : TypeId} {encK : α → Value} {encV : β → Value} {w : World} {b : Nat} {kv : List (α × β)} (h : MapAt w encK encV b kv) (ht : P.underlying t = some (.map kt et)) (ty : TypeId) :
    (Builtin.len_ #[t] ty #[.map (some b)]).run P w = .ok (.int .i64 kv.length) w := by
  obtain ⟨es, clock, h1, h2, h0⟩ := h
  have hl := reads_length h2
  simp at hl
  simp [Builtin.len_, run_underlying ht, MapKept.run_getObj_map h1, Result.andThen, goInt, hl]

theorem map_eraseIdx' {α β : Type} (f : α → β) : ∀ (l : List α) (j : Nat), (l.eraseIdx j).map f = (l.map f).eraseIdx j
  | [], _ => by simp
  | a :: l, 0 => by simp
  | a :: l, j + 1 => by simp [map_eraseIdx' f l j]

section
variable {α β : Type} [DecidableEq α] {P : Program} {kt et t : TypeId} {encK : α → Value} {encV : β → Value}

theorem MapAt.look {w : World} {b : Nat} {kv : List (α × β)} (h : MapAt w encK encV b kv) (K : Keys P kt encK) (ht : P.underlying t = some (.map kt et)) (a : α) {z : Value} (hz : (zeroValue et).run P w = .ok z w) (commaOk : Bool) :
    (Instr.lookup t (.map (some b)) (encK a) commaOk).run P w = .ok (if commaOk then .tuple #[((mlook a kv).map encV).getD z, .bool (mlook a kv).isSome] else ((mlook a kv).map encV).getD z) w := by
  obtain ⟨es, clock, h1, h2, h0⟩ := h
  have hf := K.find encV a es.toList kv w h2
  have hl := mfind_look a kv 0
  cases hm : mfind a kv 0 with
  | none =>
    rw [hm] at hl hf
    simp only [Option.map_none] at hl hf
    rw [← hl]
    cases commaOk <;> simp [Instr.lookup, run_underlying ht, MapKept.run_getObj_map h1, K.check _ a w, hf, hz, Result.andThen]
  | some p =>
    rw [hm] at hl hf
    simp only [Option.map_some] at hl hf
    rw [← hl]
    cases commaOk <;> simp [Instr.lookup, run_underlying ht, MapKept.run_getObj_map h1, K.check _ a w, hf, Result.andThen]

theorem MapAt.put {w : World} {b : Nat} {kv : List (α × β)} (h : MapAt w encK encV b kv) (K : Keys P kt encK) (ht : P.underlying t = some (.map kt et)) (a : α) (v : β) :
    ∃ o, (Instr.mapUpdate t (.map (some b)) (encK a) (encV v)).run P w = .ok () (w.putObj b o) ∧ MapAt (w.putObj b o) encK encV b (mput a v kv) := by
  have hlt := h.lt
  obtain ⟨es, clock, h1, h2, h0⟩ := h
  have hf := K.find encV a es.toList kv w h2
  cases hm : mfind a kv 0 with
  | none =>
    rw [hm] at hf
    simp only [Option.map_none] at hf
    refine ⟨.map (es.push ⟨encK a, encV v, clock⟩) (clock + 1), ?_, _, _, World.putObj_heap_same hlt, ?_, ?_⟩
    · simp [Instr.mapUpdate, run_underlying ht, MapKept.run_getObj_map h1, K.check _ a w, hf, MapKept.run_setObj_map _ h1, Result.andThen, World.putObj]
    · rw [(mfind_none v hm).1]
      unfold Reads at *
      simp [h2]
    · rw [Array.toList_push]
      exact h0.push _ rfl
  | some p =>
    obtain ⟨j, x⟩ := p
    rw [hm] at hf
    simp only [Option.map_some] at hf
    obtain ⟨_, hj, hp, _⟩ := mfind_some v hm
    simp only [Nat.sub_zero] at hj hp
    have hke : ∃ e, es.toList[j]? = some e ∧ e.key = encK a := by
      have := congrArg (fun l => l[j]?) h2
      simp only [List.getElem?_map, hj, Option.map_some] at this
      cases he : es.toList[j]? with
      | none => rw [he] at this; cases this
      | some e => rw [he] at this; simp only [Option.map_some, Option.some.injEq, Prod.mk.injEq] at this; exact ⟨e, rfl, this.1⟩
    obtain ⟨e, he, hek⟩ := hke
    have hee : es[j]? = some e := by simpa using he
    have hst : (Instr.keyThatStays (encK a) (encK a)).run P w = .ok (encK a) w := by
      simp [Instr.keyThatStays, K.same a]
    refine ⟨.map (es.modify j fun e => { e with key := encK a, val := encV v }) clock, ?_, _, _, World.putObj_heap_same hlt, ?_, ?_⟩
    · simp [Instr.mapUpdate, run_underlying ht, MapKept.run_getObj_map h1, K.check _ a w, hf, MapKept.run_setObj_map _ h1, Result.andThen, World.putObj, hee, hek, hst]
    · rw [hp]
      unfold Reads at *
      rw [Array.toList_modify]
      apply List.ext_getElem?
      intro i
      have hi := congrArg (fun l => l[i]?) h2
      simp only [List.getElem?_map] at hi
      simp only [List.getElem?_map, List.getElem?_modify, List.getElem?_set]
      by_cases hij : j = i
      · subst hij
        have hjl := (List.getElem?_eq_some_iff.1 hj).1
        rw [he]
        simp [hjl]
      · simp only [hij, if_false]
        rw [← hi]
        cases es.toList[i]? <;> rfl
    · refine h0.born ?_
      have : ((es.modify j fun e => { e with key := encK a, val := encV v }).toList.map (·.born)) = es.toList.map (·.born) := by
        rw [Array.toList_modify]
        apply List.ext_getElem?
        intro i
        simp only [List.getElem?_map, List.getElem?_modify]
        split
        · cases es.toList[i]? <;> rfl
        · cases es.toList[i]? <;> rfl
      rw [this]
      exact List.Sublist.refl _

theorem MapAt.drop {w : World} {b : Nat} {kv : List (α × β)} (h : MapAt w encK encV b kv) (K : Keys P kt encK) (ht : P.underlying t = some (.map kt et)) (a : α) (ty : TypeId) :
    ∃ o, (Builtin.delete_ #[t, kt] ty #[.map (some b), encK a]).run P w = .ok (.tuple #[]) (w.putObj b o) ∧ MapAt (w.putObj b o) encK encV b (mdrop a kv) := by
  have hlt := h.lt
  obtain ⟨es, clock, h1, h2, h0⟩ := h
  have hf := K.find encV a es.toList kv w h2
  cases hm : mfind a kv 0 with
  | none =>
    rw [hm] at hf
    simp only [Option.map_none] at hf
    refine ⟨.map es clock, ?_, _, _, World.putObj_heap_same hlt, ?_, ?_⟩
    · simp [Builtin.delete_, run_underlying ht, MapKept.run_getObj_map h1, K.check _ a w, hf, MapKept.run_setObj_map _ h1, Result.andThen, World.putObj]
    · have hd : mdrop a kv = kv := by
        clear hf h2 h1
        have : ∀ (l : List (α × β)) (i : Nat), mfind a l i = none → mdrop a l = l := by
          intro l
          induction l with
          | nil => intro i _; rfl
          | cons p r ih =>
            intro i h
            obtain ⟨k, v⟩ := p
            unfold mfind at h
            by_cases hk : a = k
            · rw [if_pos hk] at h; cases h
            · rw [if_neg hk] at h
              unfold mdrop
              rw [if_neg hk, ih _ h]
        exact this kv 0 hm
      rw [hd]
      exact h2
    · exact h0
  | some p =>
    obtain ⟨j, x⟩ := p
    rw [hm] at hf
    simp only [Option.map_some] at hf
    obtain ⟨_, hj, _, hp⟩ := mfind_some x hm
    simp only [Nat.sub_zero] at hj hp
    have hjl : j < es.size := by
      have h3 := (List.getElem?_eq_some_iff.1 hj).1
      have h4 := reads_length h2
      simp at h4
      omega
    refine ⟨.map (es.eraseIdxIfInBounds j) clock, ?_, _, _, World.putObj_heap_same hlt, ?_, ?_⟩
    · simp [Builtin.delete_, run_underlying ht, MapKept.run_getObj_map h1, K.check _ a w, hf, MapKept.run_setObj_map _ h1, Result.andThen, World.putObj]
    · rw [hp]
      unfold Reads at *
      have hsub : (es.eraseIdxIfInBounds j).toList = es.toList.eraseIdx j := by
        unfold Array.eraseIdxIfInBounds
        rw [dif_pos hjl]
        simp
      rw [hsub]
      have : ∀ (l : List MapEntry) (m : List (α × β)) (j : Nat), l.map (fun e => (e.key, e.val)) = m.map (fun p => (encK p.1, encV p.2)) → (l.eraseIdx j).map (fun e => (e.key, e.val)) = (m.eraseIdx j).map (fun p => (encK p.1, encV p.2)) := by
        intro l m j h
        rw [map_eraseIdx', map_eraseIdx', h]
      exact this _ _ _ h2
    · have hsub : (es.eraseIdxIfInBounds j).toList = es.toList.eraseIdx j := by
        unfold Array.eraseIdxIfInBounds
        rw [dif_pos hjl]
        simp
      rw [hsub]
      exact h0.born ((List.eraseIdx_sublist _ _).map _)
end

theorem bytes_beq (a b : List UInt8) : ((⟨a.toArray⟩ : ByteArray) == ⟨b.toArray⟩) = (a == b) := by
  show (a.toArray == b.toArray) = (a == b)
  simp

/-- Keys that are texts. -/
theorem keys_string {P : Program} {kt : TypeId} (h : P.underlying kt = some .string) : Keys P kt (fun l : List UInt8 => Value.string ⟨l.toArray⟩) := by
  have hnow : ∀ {β : Type} (encV : β → Value) (a : List UInt8) (kv : List (List UInt8 × β)) (es : List MapEntry) (i : Nat), Reads (fun l : List UInt8 => Value.string ⟨l.toArray⟩) encV es kv →
      Instr.findNow .string (.string ⟨a.toArray⟩) es i = some ((mfind a kv i).map fun p => (p.1, encV p.2)) := by
    intro β encV a kv
    induction kv with
    | nil =>
      intro es i hr
      cases es with
      | nil => rfl
      | cons e es => cases hr
    | cons p kv ih =>
      intro es i hr
      obtain ⟨k, v⟩ := p
      cases es with
      | nil => cases hr
      | cons e es =>
        unfold Reads at hr
        simp only [List.map_cons, List.cons.injEq, Prod.mk.injEq] at hr
        obtain ⟨⟨h1, h2⟩, h3⟩ := hr
        unfold Instr.findNow mfind
        rw [h1]
        by_cases hk : a = k
        · subst hk
          simp [Instr.sameNow, h2, bytes_beq]
        · have : (a == k) = false := by rw [beq_eq_false_iff_ne]; exact hk
          simp only [Instr.sameNow, bytes_beq, this, if_neg hk]
          exact ih es (i + 1) h3
  refine ⟨?_, ?_, ?_⟩
  · intro e a w
    unfold Instr.checkKey
    simp [Sem.run_bind, run_underlying h, Result.andThen]
  · intro β encV a es kv w hr
    unfold Instr.findKey
    simp only [Sem.run_bind, run_underlying h, Result.andThen, hnow encV a kv es 0 hr]
    rfl
  · intro a
    simp [Instr.sameBits, bytes_beq]
end Go.Proofs.YtbfnnlcckpabnaaGreat

/- Edges as keys of a map. -/
namespace Go.Proofs.YtbfnnlcckpabnaaGreat
set_option linter.unusedSimpArgs false
set_option linter.unusedVariables false
open Go.RowKit

def encEdge (e : List UInt8 × Int) : Value := .agg #[.string ⟨e.1.toArray⟩, .int .i64 e.2]

theorem stood59 : Tryz.prog.stoodInHeld 64 = false := by kernel_rfl
theorem fields59 : Tryz.prog.fieldsOf 64 = #[{ name := "Tile", type := 9, offset := 0, embedded := false, tag := "", pkgPath := "", byteOffset := 0 }, { name := "Mirror", type := 3, offset := 1, embedded := false, tag := "", pkgPath := "", byteOffset := 16 }] := by kernel_rfl

theorem run_part0 (x : ByteArray) (y : Int) (w : World) : (part 9 #[.string x, .int .i64 y] 0).run Tryz.prog w = .ok (.string x) w := by kernel_rfl
theorem run_part1 (x : ByteArray) (y : Int) (w : World) : (part 3 #[.string x, .int .i64 y] 1).run Tryz.prog w = .ok (.int .i64 y) w := by kernel_rfl

theorem run_equal_edge (a b : List UInt8 × Int) (w : World) : (Op.equal 64 (encEdge a) (encEdge b)).run Tryz.prog w = .ok (decide (a = b)) w := by
  unfold Op.equal encEdge Op.maxDepth
  rw [run_equalIn_agg w 9999 64 _ _ (by rw [Tryz.underlying64, fields59]) stood59, fields59]
  simp only [Op.eqFields, Sem.run_bind, run_part0, run_part1, Result.andThen_ok, Sem.run_ite, run_equalIn_string w 9998 9 _ _ Tryz.underlying9, run_equalIn_int w 9998 3 .i64 .i64 _ _ Tryz.underlying3, Sem.run_pure]
  by_cases h1 : a.1 = b.1
  · by_cases h2 : a.2 = b.2
    · simp [h1, h2, Prod.ext_iff]
    · simp [h1, h2, Prod.ext_iff]
  · simp [h1, Prod.ext_iff]

theorem run_checkKey_edge (e : Bool) (a : List UInt8 × Int) (w : World) : (Instr.checkKey e 10000 64 (encEdge a)).run Tryz.prog w = .ok () w := by
  kernel_rfl

theorem keys_edge : Keys Tryz.prog 64 encEdge := by
  have hask : ∀ {β : Type} (encV : β → Value) (a : List UInt8 × Int) (kv : List ((List UInt8 × Int) × β)) (es : List MapEntry) (i : Nat) (w : World), Reads encEdge encV es kv →
      (Instr.findAsking 64 (encEdge a) es i).run Tryz.prog w = .ok ((mfind a kv i).map fun p => (p.1, encV p.2)) w := by
    intro β encV a kv
    induction kv with
    | nil =>
      intro es i w hr
      cases es with
      | nil => rfl
      | cons e es => cases hr
    | cons p kv ih =>
      intro es i w hr
      obtain ⟨k, v⟩ := p
      cases es with
      | nil => cases hr
      | cons e es =>
        unfold Reads at hr
        simp only [List.map_cons, List.cons.injEq, Prod.mk.injEq] at hr
        obtain ⟨⟨h1, h2⟩, h3⟩ := hr
        unfold Instr.findAsking mfind
        rw [h1]
        by_cases hk : a = k
        · simp [Sem.run_bind, run_equal_edge, hk, h2, Result.andThen]
        · simp only [Sem.run_bind, run_equal_edge, hk, decide_false, Result.andThen, Bool.false_eq_true, if_false]
          exact ih es (i + 1) w h3
  refine ⟨run_checkKey_edge, ?_, ?_⟩
  · intro β encV a es kv w hr
    unfold Instr.findKey
    simp only [Sem.run_bind, run_underlying Tryz.underlying64, Result.andThen]
    cases es with
    | nil =>
      cases kv with
      | nil => rfl
      | cons p kv => cases hr
    | cons e es =>
      have : Instr.findNow (TypeDesc.struct #[{ name := "Tile", type := 9, offset := 0, embedded := false, tag := "", pkgPath := "", byteOffset := 0 }, { name := "Mirror", type := 3, offset := 1, embedded := false, tag := "", pkgPath := "", byteOffset := 16 }]) (encEdge a) (e :: es) 0 = none := by
        unfold Instr.findNow encEdge
        simp [Instr.sameNow]
      rw [this]
      exact hask encV a kv (e :: es) 0 w hr
  · intro a
    simp [Instr.sameBits, encEdge, bytes_beq]
end Go.Proofs.YtbfnnlcckpabnaaGreat

/- The small functions of package walk. -/
namespace Go.Proofs.YtbfnnlcckpabnaaGreat
set_option linter.unusedSimpArgs false
set_option linter.unusedVariables false
open Go.RowKit

/-- The cells of a map of the walk. -/
def mapCells (o : Hy.Ord) (wb tb : Nat) : Array Value := #[.int .i64 o.m01, .int .i64 o.m12, .int .i64 o.m02, .bool true, .map (some wb), .map (some tb)]

abbrev Walls := List ((List UInt8 × Int) × Bool)
abbrev Things := List (List UInt8 × List UInt8)

structure MRep (w : World) (o : Hy.Ord) (mb wb tb : Nat) (W : Walls) (T : Things) : Prop where
  cells : w.heap[mb]? = some (.cells (mapCells o wb tb) 57 (0, 0))
  walls : MapAt w encEdge Value.bool wb W
  things : MapAt w str str tb T
  apart : wb ≠ tb
  ok : Hy.ordErr o.m01 o.m12 o.m02 = 0

theorem MRep.below {w w' : World} {o : Hy.Ord} {mb wb tb : Nat} {W : Walls} {T : Things} (h : MRep w o mb wb tb W T) {N : Nat} (hb : Below N w w') (h1 : mb < N) (h2 : wb < N) (h3 : tb < N) : MRep w' o mb wb tb W T :=
  ⟨(hb.block mb h1).trans h.cells, h.walls.of_heap (hb.block wb h2), h.things.of_heap (hb.block tb h3), h.apart, h.ok⟩

theorem MRep.lt {w : World} {o : Hy.Ord} {mb wb tb : Nat} {W : Walls} {T : Things} (h : MRep w o mb wb tb W T) : mb < w.heap.size ∧ wb < w.heap.size ∧ tb < w.heap.size :=
  ⟨(Array.getElem?_eq_some_iff.1 h.cells).1, h.walls.lt, h.things.lt⟩

theorem MRep.grow {w w' : World} {o : Hy.Ord} {mb wb tb : Nat} {W : Walls} {T : Things} (h : MRep w o mb wb tb W T) (hb : Below w.heap.size w w') : MRep w' o mb wb tb W T :=
  h.below hb h.lt.1 h.lt.2.1 h.lt.2.2

set_option maxRecDepth 100000 in
set_option maxHeartbeats 1000000 in
theorem walk_letter (i : Nat) (hi : i < 256) (w : World) :
    Calls Tryz.prog 53 #[.int .i64 i] w fun e w' => e = .returned (str (Hy.letter i)) ∧ Below w.heap.size w w' := by
  have kl := run_letter (w.alloc (.cells #[.int .u8 i] 5)) w.heap.size i (by simp)
  unfold str at *
  go_enter Tryz.func53, Tryz.ntmps53
  go_wp2_with fail
  go_ret
  exact ⟨rfl, (Below.refl _ _).alloc (Nat.le_refl _) _⟩

set_option maxRecDepth 100000 in
theorem walk_none_nil (w : World) : Calls Tryz.prog 33 #[.pointer none] w fun e w' => e = .returned (.bool true) ∧ w = w' := by
  go_enter Tryz.func33, Tryz.ntmps33
  go_wp2_with fail
  go_ret
  exact ⟨rfl, rfl⟩

set_option maxRecDepth 100000 in
theorem walk_none_some (b : Nat) (x : Bool) (w : World) (h : w.cell? ⟨b, 3, none⟩ = some (.bool x)) : Calls Tryz.prog 33 #[.pointer (some ⟨b, 0, none⟩)] w fun e w' => e = .returned (.bool (!x)) ∧ w = w' := by
  go_enter Tryz.func33, Tryz.ntmps33
  go_wp2_with fail
  go_ret
  exact ⟨rfl, rfl⟩

set_option maxRecDepth 100000 in
set_option maxHeartbeats 1000000 in
theorem walk_side (a b : List UInt8) (m : Int) (w : World) :
    Calls Tryz.prog 51 #[str a, str b, .int .i64 m] w fun e w' => e = .returned (encEdge (if b.length < a.length then b else a, m)) ∧ Below w.heap.size w w' := by
  unfold str encEdge
  by_cases h : b.length < a.length
  · rw [if_pos h]
    go_enter Tryz.func51, Tryz.ntmps51
    go_wp2_with fail
    exact bodyPost_ret (v := .agg #[.string ⟨b.toArray⟩, .int .i64 m]) (by simp [results, Tryz.results51, go_sem]) rfl ⟨rfl, ((Below.refl _ _).alloc (Nat.le_refl _) _)⟩
  · rw [if_neg h]
    go_enter Tryz.func51, Tryz.ntmps51
    go_wp2_with fail
    exact bodyPost_ret (v := .agg #[.string ⟨a.toArray⟩, .int .i64 m]) (by simp [results, Tryz.results51, go_sem]) rfl ⟨rfl, ((Below.refl _ _).alloc (Nat.le_refl _) _)⟩

set_option maxRecDepth 100000 in
set_option maxHeartbeats 1000000 in
theorem walk_to {w : World} {o : Hy.Ord} {mb wb tb : Nat} {W : Walls} {T : Things} (h : MRep w o mb wb tb W T) (ho : Small o) (u v : List UInt8) (hw : Hy.wordsErr [u, v] = 0) (fuel : Nat) (nf : List UInt8) (hnf : Hy.norm o fuel (u ++ v) = some nf) :
    Calls Tryz.prog 50 #[.pointer (some ⟨mb, 0, none⟩), str u, str v] w fun e w' => e = .returned (str nf) ∧ Below w.heap.size w w' := by
  have c0 : w.cell? ⟨mb, 0, none⟩ = some (.int .i64 o.m01) := cell_of_heap h.cells 0
  have c1 : w.cell? ⟨mb, 1, none⟩ = some (.int .i64 o.m12) := cell_of_heap h.cells 1
  have c2 : w.cell? ⟨mb, 2, none⟩ = some (.int .i64 o.m02) := cell_of_heap h.cells 2
  have HCALL := Lib.hid (words_Times_ok o ho u v w h.ok hw fuel nf hnf)
  clear h hw hnf
  unfold ordersV at *
  go_enter Tryz.func50, Tryz.ntmps50
  go_wp2_with fail
  refine HCALL.out.mono ?_
  rintro e w1 ⟨rfl, hB⟩
  have HB := Lib.hid hB; clear hB
  clear HCALL
  go_wp2_with fail
  go_ret
  exact ⟨rfl, HB.out⟩
end Go.Proofs.YtbfnnlcckpabnaaGreat

/- walk.New, normals, normal. -/
namespace Go.Proofs.YtbfnnlcckpabnaaGreat
set_option linter.unusedSimpArgs false
set_option linter.unusedVariables false
open Go.RowKit

def NewMapPost (o : Hy.Ord) (w : World) (e : Ending) (w' : World) : Prop :=
  ∃ mb wb tb : Nat, e = .returned (.tuple #[.pointer (some ⟨mb, 0, none⟩), .int .i64 0]) ∧ MRep w' o mb wb tb [] [] ∧ w.heap.size ≤ mb ∧ w.heap.size ≤ wb ∧ w.heap.size ≤ tb ∧ Below w.heap.size w w'

set_option maxRecDepth 100000 in
set_option maxHeartbeats 1000000 in
theorem walk_New_bad (a b c : Int) (w : World) (he : Hy.ordErr a b c ≠ 0) :
    Calls Tryz.prog 7 #[ordersV a b c] w fun e w' => e = .returned (.tuple #[.pointer none, .int .i64 (Hy.ordErr a b c)]) ∧ Below w.heap.size w w' := by
  have HCALL := Lib.hid (fun W => words_Normal_badOrd a b c [] W he)
  have hne : (Hy.ordErr a b c != 0) = true := by rw [bne_iff_ne]; exact he
  clear he
  unfold ordersV str at *
  go_enter Tryz.func7, Tryz.ntmps7
  go_wp2_with fail
  refine (HCALL.out _).mono ?_
  rintro e w1 ⟨rfl, hB⟩
  have HB := Lib.hid hB; clear hB
  clear HCALL
  go_wp2_with fail
  go_ret2
  exact ⟨rfl, ((Below.refl _ _).alloc (Nat.le_refl _) _).trans (HB.out.mono (by simp))⟩

set_option maxRecDepth 100000 in
set_option maxHeartbeats 1000000 in
theorem walk_New (o : Hy.Ord) (ho : Small o) (w : World) (he : Hy.ordErr o.m01 o.m12 o.m02 = 0) :
    Calls Tryz.prog 7 #[ordersV o.m01 o.m12 o.m02] w (NewMapPost o w) := by
  have HCALL := Lib.hid (fun W => words_Normal_ok o ho [] W he rfl 0 [] rfl)
  have HE := Lib.hid he; clear he
  have hmm := @run_makeMap Tryz.prog
  unfold ordersV str at *
  go_enter Tryz.func7, Tryz.ntmps7
  go_wp2_with fail
  refine (HCALL.out _).mono ?_
  rintro e w1 ⟨rfl, hB⟩
  have h1 : w1.heap[w.heap.size]? = some (.cells #[.int .i64 o.m01, .int .i64 o.m12, .int .i64 o.m02] 23 (0, 0)) :=
    (hB.block w.heap.size (by simp)).trans (alloc_heap_new w _)
  have c0 : w1.cell? ⟨w.heap.size, 0, none⟩ = some (.int .i64 o.m01) := cell_of_heap h1 0
  have c1 : w1.cell? ⟨w.heap.size, 1, none⟩ = some (.int .i64 o.m12) := cell_of_heap h1 1
  have c2 : w1.cell? ⟨w.heap.size, 2, none⟩ = some (.int .i64 o.m02) := cell_of_heap h1 2
  have HB := Lib.hid hB; clear hB
  clear HCALL h1
  go_wp2_with fail
  go_ret2
  refine ⟨w1.heap.size + 2, w1.heap.size, w1.heap.size + 1, rfl, ⟨?_, ?_, ?_, by omega, HE.out⟩, ?_, ?_, ?_, ?_⟩
  · have := alloc_heap_new ((w1.alloc (.map #[] 0)).alloc (.map #[] 0)) (.cells (mapCells o w1.heap.size (w1.heap.size + 1)) 57)
    rw [World.size_alloc, World.size_alloc] at this
    exact this
  · exact (mapAt_new w1 _ _).of_heap ((heap_alloc_lt _ _ (by simp; omega)).trans (heap_alloc_lt _ _ (by simp)))
  · have h2 : MapAt ((w1.alloc (.map #[] 0)).alloc (.map #[] 0)) str str (w1.alloc (.map #[] 0)).heap.size ([] : Things) := mapAt_new _ _ _
    rw [World.size_alloc] at h2
    exact h2.of_heap (heap_alloc_lt _ _ (by simp))
  · have := HB.out.size; simp at this; omega
  · have := HB.out.size; simp at this; omega
  · have := HB.out.size; simp at this; omega
  · have hs := HB.out.size
    simp at hs
    exact (((((Below.refl _ _).alloc (Nat.le_refl _) _).trans (HB.out.mono (by simp))).alloc (by omega) _).alloc (by simp; omega) _).alloc (by simp; omega) _

theorem infoStr : (Tryz.prog.info? 9).map (fun i => (i.zero, i.size, i.bytes)) = some (some (.string ⟨#[]⟩), 1, 16) := by kernel_rfl

theorem ownsRow_below {w w' : World} {base : Nat} {e : TypeId} {size : Nat} {v : Value} {n : Nat} {xs : List Value} (h : w.ownsRow base e size v n xs) (hb : Below w.heap.size w w') : w'.ownsRow base e size v n xs := by
  obtain ⟨h1, h2⟩ := h
  refine ⟨h1, ?_⟩
  rcases h2 with h2 | ⟨g, cap, cur, rfl, h3, h4, h5⟩
  · exact .inl h2
  · exact .inr ⟨g, cap, cur, rfl, h3, (hb.block g (Array.getElem?_eq_some_iff.1 h4).1).trans h4, h5⟩

/-- Words in memory: a slice of texts. -/
def Texts (w : World) (v : Value) (ws : List (List UInt8)) : Prop := ∃ (g cap : Nat), v = .slice (some ⟨g, 0, none⟩) ws.length cap ∧ g < w.heap.size ∧ ∀ (k : Nat) (hk : k < ws.length), w.cell? ⟨g, k, none⟩ = some (str ws[k])

theorem Texts.below {w w' : World} {v : Value} {ws : List (List UInt8)} (h : Texts w v ws) (hb : Below w.heap.size w w') : Texts w' v ws := by
  obtain ⟨g, cap, h1, h2, h3⟩ := h
  exact ⟨g, cap, h1, Nat.lt_of_lt_of_le h2 hb.size, fun k hk => (below_cell hb h2 k).trans (h3 k hk)⟩

theorem take_map_succ {nfs : List (List UInt8)} {k : Nat} {nf : List UInt8} (h : nfs[k]? = some nf) : (nfs.take (k + 1)).map str = (nfs.take k).map str ++ [str nf] := by
  obtain ⟨hk, rfl⟩ := List.getElem?_eq_some_iff.1 h
  rw [List.take_succ_eq_append_getElem hk, List.map_append]
  rfl

def NormalsPost (ws nfs : List (List UInt8)) (w : World) (e : Ending) (w' : World) : Prop :=
  Below w.heap.size w w' ∧ if Hy.wordsErr ws = 0 then ∃ v, e = .returned (.tuple #[v, .int .i64 0]) ∧ Texts w' v nfs else e = .returned (.tuple #[.slice none 0 0, .int .i64 (Hy.wordsErr ws)])

set_option maxRecDepth 100000 in
set_option maxHeartbeats 1000000 in
theorem walk_normals {w : World} {o : Hy.Ord} {mb wb tb : Nat} {W : Walls} {T : Things} (h : MRep w o mb wb tb W T) (ho : Small o) (sv : Value) (ws : List (List UInt8)) (hs : Texts w sv ws) (hn : ws.length ≤ 2) (h0 : 0 < ws.length) (hl : ∀ l ∈ ws, l.length ≤ 140737488355328) (fuel : Nat) (nfs : List (List UInt8))
    (hlen : nfs.length = ws.length) (hnf : ∀ (k : Nat) (hk : k < ws.length), Hy.wordErr ws[k] = 0 → Hy.norm o fuel ws[k] = nfs[k]?) :
    Calls Tryz.prog 49 #[.pointer (some ⟨mb, 0, none⟩), sv] w (NormalsPost ws nfs w) := by
  obtain ⟨g, cap, rfl, hg, hs⟩ := hs
  obtain ⟨i0, hi, hz0, hz1, hz2⟩ := info_parts infoStr
  have hmm := h.lt.1
  have c3 : w.cell? ⟨mb, 3, none⟩ = some (.bool true) := cell_of_heap h.cells 3
  have HM := Lib.hid h; clear h
  have HS := Lib.hid hs; clear hs
  have HL := Lib.hid hl; clear hl
  have HNF := Lib.hid hnf; clear hnf
  have HLEN := Lib.hid hlen; clear hlen
  go_enter Tryz.func49, Tryz.ntmps49
  go_wp2_with fail
  refine (walk_none_some mb true w c3).mono ?_
  rintro e w1 ⟨rfl, rfl⟩
  clear c3
  go_wp2_with fail
  go_loopw [6, 15] (fun v i wr => ∃ k : Nat, k ≤ ws.length ∧ i = .int .i64 k ∧ Hid (Hy.wordsErr (ws.drop k) = Hy.wordsErr ws) ∧ Hid (Below w.heap.size w wr) ∧ Hid (wr.ownsRow w.heap.size 9 1 v k ((nfs.take k).map str))) (fun _ i _ => ws.length - (intOf i).toNat)
  case atStart => exact ⟨0, Nat.zero_le _, rfl, rfl, Below.refl _ _, World.ownsRow_nil _ _ _ _⟩
  case round =>
    obtain ⟨k, hk, rfl, HE, HB, HR⟩ := hrel
    by_cases hlt : k < ws.length
    · have hcell : wr.cell? ⟨g, k, none⟩ = some (str ws[k]) := (below_cell HB.out hg k).trans (HS.out k hlt)
      have hmc := (HM.out.grow HB.out).cells
      have c0 : wr.cell? ⟨mb, 0, none⟩ = some (.int .i64 o.m01) := cell_of_heap hmc 0
      have c1 : wr.cell? ⟨mb, 1, none⟩ = some (.int .i64 o.m12) := cell_of_heap hmc 1
      have c2 : wr.cell? ⟨mb, 2, none⟩ = some (.int .i64 o.m02) := cell_of_heap hmc 2
      have hE := HE.out
      rw [Hy.wordsErr_drop hlt] at hE
      have HE' := Lib.hid hE; clear hE
      clear hmc
      by_cases hz : Hy.wordErr ws[k] = 0
      · have hE := HE'.out
        rw [if_neg (by simpa using hz)] at hE
        have HE2 := Lib.hid hE; clear hE
        have hkn : k < nfs.length := by rw [HLEN.out]; exact hlt
        have hnk := HNF.out k hlt hz
        obtain ⟨nf, hnf⟩ : ∃ nf, nfs[k]? = some nf := ⟨_, List.getElem?_eq_getElem hkn⟩
        rw [hnf] at hnk
        have hcall := words_Normal_ok o ho ws[k] wr HM.out.ok hz fuel nf hnk
        have HCALL := Lib.hid hcall; clear hcall hnk
        have hR2 := fun W hb => ownsRow_below (w' := W) HR.out hb
        have HR2 := Lib.hid hR2; clear hR2
        have HKN := Lib.hid hkn
        unfold ordersV at HCALL
        clear hz
        go_wp2_with fail
        refine HCALL.out.mono ?_
        rintro e w2 ⟨rfl, hB2⟩
        have hown := HR2.out w2 hB2
        have HB2 := Lib.hid hB2; clear hB2
        clear HCALL
        have hsz : w.heap.size ≤ w2.heap.size := Nat.le_trans HB.out.size HB2.out.size
        have HNFK := Lib.hid hnf; clear hnf hkn
        unfold str
        go_wp2_with (at_builtin; refine wpList_append_own _ rfl _ _ 81 rfl w.heap.size 9 i0 (.string ⟨#[]⟩) 1 16 Tryz.underlying81 hi hz0 hz1 hz2 rfl (by decide) _ _ _ rfl (hown.alloc _) ⟨w2.heap.size, 0, none⟩ 1 1 [str nf] rfl rfl ?c1 ?c2 ?c3 ?c4 ?c5 ?_)
        case c1 =>
          intro j u hj
          cases j with
          | zero => simp at hj; subst hj; simp [Addr.add, str]
          | succ j => simp at hj
        case c2 => intro u hu; simp at hu; subst hu; rfl
        case c3 => unfold maxLen; omega
        case c4 => omega
        case c5 => simp; omega
        intro v' w3 hown' hgrow _
        have hB3 : Below w.heap.size w w3 := ((HB.out.trans (HB2.out.mono HB.out.size)).alloc hsz _).grown hgrow (by simp; omega) (fun j hj => (hown.lt j hj).1)
        have HB3 := Lib.hid hB3; clear hB3
        have HO := Lib.hid hown'; clear hown'
        have HG := Lib.hid hgrow; clear hgrow
        clear hown
        go_wp2_with fail
        go_roundw
        case rel => exact ⟨k + 1, by omega, by go_num, HE2.out, HB3.out, by rw [take_map_succ HNFK.out, List.map_take]; exact HO.out⟩
        case measure => simp [intOf]; omega
      · have hE := HE'.out
        rw [if_pos hz] at hE
        have HE2 := Lib.hid hE; clear hE
        have hcall := words_Normal_badWord o ws[k] wr HM.out.ok (HL.out _ (List.getElem_mem hlt)) hz
        have HCALL := Lib.hid hcall; clear hcall
        have hne : (Hy.wordErr ws[k] != 0) = true := by rw [bne_iff_ne]; exact hz
        have HZ := Lib.hid hz; clear hz
        unfold ordersV at HCALL
        generalize Hy.wordErr ws[k] = er at *
        go_wp2_with fail
        refine HCALL.out.mono ?_
        rintro e w2 ⟨rfl, hB2⟩
        have HB2 := Lib.hid hB2; clear hB2
        clear HCALL
        go_wp2_with fail
        go_ret2
        refine ⟨HB.out.trans (HB2.out.mono HB.out.size), ?_⟩
        rw [← HE2.out, if_neg HZ.out]
        rfl
    · obtain rfl : k = ws.length := by omega
      clear hlt hk
      have hE := HE.out
      rw [List.drop_length] at hE
      have hE0 : Hy.wordsErr ws = 0 := hE.symm
      have hR := HR.out
      rw [List.take_of_length_le (by rw [HLEN.out]; exact Nat.le_refl _)] at hR
      have HE0 := Lib.hid hE0; clear hE0 hE
      have HR3 := Lib.hid hR; clear hR
      go_wp2_with fail
      go_ret2
      refine ⟨HB.out, ?_⟩
      rw [if_pos HE0.out]
      refine ⟨_, rfl, ?_⟩
      obtain ⟨h1, h2⟩ := HR3.out
      rcases h2 with ⟨_, h2⟩ | ⟨g', cap', cur, h2, h3, h4, h5, h6, h7, h8⟩
      · omega
      · refine ⟨g', cap', ?_, (Array.getElem?_eq_some_iff.1 h4).1, fun k hk => ?_⟩
        · rw [HLEN.out]; exact h2
        · rw [cell_of_heap h4]
          have h9 := congrArg (fun l => l[k]?) h8
          simp only [List.getElem?_map, List.getElem?_eq_getElem hk, Option.map_some] at h9
          have hk' : k < ws.length * 1 := by rw [← HLEN.out]; omega
          rw [List.getElem?_take_of_lt hk'] at h9
          simpa using h9
end Go.Proofs.YtbfnnlcckpabnaaGreat
