import Derived.WalkKit
import Derived.MapKept
import Derived.RangeFuncRecord
import Derived.Test.YtfdklmpkienfhaaGreatProg
import Derived.Test.YtfdklmpkienfhaaGreatWords

/- Maps as lists of pairs in the order in which they came: a look, a store, a removal. Over any program. -/
namespace Go.Proofs.YtfdklmpkienfhaaGreat
set_option linter.unusedSimpArgs false
set_option linter.unusedVariables false
open Go.RowKit

section
variable {α β : Type} [DecidableEq α]

def mlook (a : α) : List (α × β) → Option β
  | [] => none
  | (k, v) :: r => if a = k then some v else mlook a r
def mput (a : α) (b : β) : List (α × β) → List (α × β)
  | [] => [(a, b)]
  | (k, v) :: r => if a = k then (a, b) :: r else (k, v) :: mput a b r
def mdrop (a : α) : List (α × β) → List (α × β)
  | [] => []
  | (k, v) :: r => if a = k then r else (k, v) :: mdrop a r
/-- The place of a key, counted from i on. -/
def mfind (a : α) : List (α × β) → Nat → Option (Nat × β)
  | [], _ => none
  | (k, v) :: r, i => if a = k then some (i, v) else mfind a r (i + 1)

theorem mfind_look (a : α) : ∀ (l : List (α × β)) (i : Nat), (mfind a l i).map (·.2) = mlook a l
  | [], _ => rfl
  | (k, v) :: r, i => by
    unfold mfind mlook
    by_cases h : a = k
    · simp [h]
    · simp [h, mfind_look a r]

theorem mfind_none {a : α} : ∀ {l : List (α × β)} {i : Nat} (b : β), mfind a l i = none → mput a b l = l ++ [(a, b)] ∧ mdrop a l = l
  | [], _, _, _ => ⟨rfl, rfl⟩
  | (k, v) :: r, i, b, h => by
    unfold mfind at h
    by_cases hk : a = k
    · rw [if_pos hk] at h; cases h
    · rw [if_neg hk] at h
      obtain ⟨h1, h2⟩ := mfind_none b h
      exact ⟨by unfold mput; rw [if_neg hk, h1]; rfl, by unfold mdrop; rw [if_neg hk, h2]⟩

theorem mfind_some {a : α} : ∀ {l : List (α × β)} {i j : Nat} {v : β} (b : β), mfind a l i = some (j, v) → i ≤ j ∧ l[j - i]? = some (a, v) ∧ mput a b l = l.set (j - i) (a, b) ∧ mdrop a l = l.eraseIdx (j - i)
  | (k, x) :: r, i, j, v, b, h => by
    unfold mfind at h
    by_cases hk : a = k
    · rw [if_pos hk] at h
      simp only [Option.some.injEq, Prod.mk.injEq] at h
      obtain ⟨rfl, rfl⟩ := h
      subst hk
      simp [mput, mdrop]
    · rw [if_neg hk] at h
      obtain ⟨h1, h2, h3, h4⟩ := mfind_some b h
      obtain ⟨d, hd⟩ : ∃ d, j - i = d + 1 := ⟨j - i - 1, by omega⟩
      have hd' : j - (i + 1) = d := by omega
      rw [hd'] at h2 h3 h4
      refine ⟨by omega, ?_, ?_, ?_⟩
      · rw [hd]; simpa using h2
      · rw [hd]; unfold mput; rw [if_neg hk, h3]; rfl
      · rw [hd]; unfold mdrop; rw [if_neg hk, h4]; rfl
end

/-- The entries of a map read as a list of pairs. -/
def Reads {α β : Type} (encK : α → Value) (encV : β → Value) (es : List MapEntry) (kv : List (α × β)) : Prop := es.map (fun e => (e.key, e.val)) = kv.map (fun p => (encK p.1, encV p.2))

/-- Keys of a kind: they can be keys, and the search finds them. -/
structure Keys {α : Type} [DecidableEq α] (P : Program) (kt : TypeId) (encK : α → Value) : Prop where
  check : ∀ (e : Bool) (a : α) (w : World), (Instr.checkKey e 10000 kt (encK a)).run P w = .ok () w
  find : ∀ {β : Type} (encV : β → Value) (a : α) (es : List MapEntry) (kv : List (α × β)) (w : World), Reads encK encV es kv → (Instr.findKey kt (encK a) es).run P w = .ok ((mfind a kv 0).map fun p => (p.1, encV p.2)) w
  same : ∀ a, Instr.sameBits 10000 (encK a) (encK a) = true

/-- The stamps of the entries: older than the clock, no two alike. -/
def Stamps (es : List MapEntry) (clock : Nat) : Prop := (∀ x ∈ es, x.born < clock) ∧ (es.map (·.born)).Nodup

theorem Stamps.born {es : List MapEntry} {clock : Nat} (h : Stamps es clock) {es' : List MapEntry} (he : (es'.map (·.born)).Sublist (es.map (·.born))) : Stamps es' clock := by
  refine ⟨fun x hx => ?_, h.2.sublist he⟩
  obtain ⟨y, hy, hyx⟩ := List.mem_map.1 (he.subset (List.mem_map.2 ⟨x, hx, rfl⟩))
  rw [← hyx]
  exact h.1 y hy

theorem Stamps.push {es : List MapEntry} {clock : Nat} (h : Stamps es clock) (e : MapEntry) (he : e.born = clock) : Stamps (es ++ [e]) (clock + 1) := by
  refine ⟨fun x hx => ?_, ?_⟩
  · rcases List.mem_append.1 hx with hx | hx
    · have := h.1 x hx; omega
    · cases List.mem_singleton.1 hx; omega
  · rw [List.map_append, List.nodup_append]
    refine ⟨h.2, by simp, fun a ha b hb => ?_⟩
    obtain ⟨x, hx, rfl⟩ := List.mem_map.1 ha
    simp at hb
    have := h.1 x hx
    omega

/-- Block b is a map that reads so. -/
def MapAt {α β : Type} (w : World) (encK : α → Value) (encV : β → Value) (b : Nat) (kv : List (α × β)) : Prop := ∃ es clock, w.heap[b]? = some (.map es clock) ∧ Reads encK encV es.toList kv ∧ Stamps es.toList clock

theorem MapAt.of_heap {α β : Type} {w w' : World} {encK : α → Value} {encV : β → Value} {b : Nat} {kv : List (α × β)} (h : MapAt w encK encV b kv) (hh : w'.heap[b]? = w.heap[b]?) : MapAt w' encK encV b kv := by
  obtain ⟨es, clock, h1, h2⟩ := h
  exact ⟨es, clock, hh.trans h1, h2⟩

theorem mapAt_new {α β : Type} (w : World) (encK : α → Value) (encV : β → Value) : MapAt (w.alloc (.map #[] 0)) encK encV w.heap.size ([] : List (α × β)) := by
  refine ⟨#[], 0, ?_, rfl, by simp, by simp⟩
  show (w.heap.push _)[w.heap.size]? = _
  simp

theorem MapAt.lt {α β : Type} {w : World} {encK : α → Value} {encV : β → Value} {b : Nat} {kv : List (α × β)} (h : MapAt w encK encV b kv) : b < w.heap.size := by
  obtain ⟨es, clock, h1, _⟩ := h
  exact (Array.getElem?_eq_some_iff.1 h1).1

theorem reads_length {α β : Type} {encK : α → Value} {encV : β → Value} {es : List MapEntry} {kv : List (α × β)} (h : Reads encK encV es kv) : es.length = kv.length := by
  have := congrArg List.length h
  simpa using this

theorem MapAt.len {α β : Type} {P : Program} {kt et t : TypeId} {encK : α → Value} {encV : β → Value} {w : World} {b : Nat} {kv : List (α × β)} (h : MapAt w encK encV b kv) (ht : P.underlying t = some (.map kt et)) (ty : TypeId) :
    (Builtin.len_ #[t] ty #[.map (some b)]).run P w = .ok (.int .i64 kv.length) w := by
  obtain ⟨es, clock, h1, h2, h0⟩ := h
  have hl := reads_length h2
  simp at hl
  simp [Builtin.len_, run_underlying ht, MapKept.run_getObj_map h1, Result.andThen, goInt, hl]

theorem map_eraseIdx' {α β : Type} (f : α → β) : ∀ (l : List α) (j : Nat), (l.eraseIdx j).map f = (l.map f).eraseIdx j
  | [], _ => by simp
  | a :: l, 0 => by simp
  | a :: l, j + 1 => by simp [map_eraseIdx' f l j]

section
variable {α β : Type} [DecidableEq α] {P : Program} {kt et t : TypeId} {encK : α → Value} {encV : β → Value}

theorem MapAt.look {w : World} {b : Nat} {kv : List (α × β)} (h : MapAt w encK encV b kv) (K : Keys P kt encK) (ht : P.underlying t = some (.map kt et)) (a : α) {z : Value} (hz : (zeroValue et).run P w = .ok z w) (commaOk : Bool) :
    (Instr.lookup t (.map (some b)) (encK a) commaOk).run P w = .ok (if commaOk then .tuple #[((mlook a kv).map encV).getD z, .bool (mlook a kv).isSome] else ((mlook a kv).map encV).getD z) w := by
  obtain ⟨es, clock, h1, h2, h0⟩ := h
  have hf := K.find encV a es.toList kv w h2
  have hl := mfind_look a kv 0
  cases hm : mfind a kv 0 with
  | none =>
    rw [hm] at hl hf
    simp only [Option.map_none] at hl hf
    rw [← hl]
    cases commaOk <;> simp [Instr.lookup, run_underlying ht, MapKept.run_getObj_map h1, K.check _ a w, hf, hz, Result.andThen]
  | some p =>
    rw [hm] at hl hf
    simp only [Option.map_some] at hl hf
    rw [← hl]
    cases commaOk <;> simp [Instr.lookup, run_underlying ht, MapKept.run_getObj_map h1, K.check _ a w, hf, Result.andThen]

theorem MapAt.put {w : World} {b : Nat} {kv : List (α × β)} (h : MapAt w encK encV b kv) (K : Keys P kt encK) (ht : P.underlying t = some (.map kt et)) (a : α) (v : β) :
    ∃ o, (Instr.mapUpdate t (.map (some b)) (encK a) (encV v)).run P w = .ok () (w.putObj b o) ∧ MapAt (w.putObj b o) encK encV b (mput a v kv) := by
  have hlt := h.lt
  obtain ⟨es, clock, h1, h2, h0⟩ := h
  have hf := K.find encV a es.toList kv w h2
  cases hm : mfind a kv 0 with
  | none =>
    rw [hm] at hf
    simp only [Option.map_none] at hf
    refine ⟨.map (es.push ⟨encK a, encV v, clock⟩) (clock + 1), ?_, _, _, World.putObj_heap_same hlt, ?_, ?_⟩
    · simp [Instr.mapUpdate, run_underlying ht, MapKept.run_getObj_map h1, K.check _ a w, hf, MapKept.run_setObj_map _ h1, Result.andThen, World.putObj]
    · rw [(mfind_none v hm).1]
      unfold Reads at *
      simp [h2]
    · rw [Array.toList_push]
      exact h0.push _ rfl
  | some p =>
    obtain ⟨j, x⟩ := p
    rw [hm] at hf
    simp only [Option.map_some] at hf
    obtain ⟨_, hj, hp, _⟩ := mfind_some v hm
    simp only [Nat.sub_zero] at hj hp
    have hke : ∃ e, es.toList[j]? = some e ∧ e.key = encK a := by
      have := congrArg (fun l => l[j]?) h2
      simp only [List.getElem?_map, hj, Option.map_some] at this
      cases he : es.toList[j]? with
      | none => rw [he] at this; cases this
      | some e => rw [he] at this; simp only [Option.map_some, Option.some.injEq, Prod.mk.injEq] at this; exact ⟨e, rfl, this.1⟩
    obtain ⟨e, he, hek⟩ := hke
    have hee : es[j]? = some e := by simpa using he
    have hst : (Instr.keyThatStays (encK a) (encK a)).run P w = .ok (encK a) w := by
      simp [Instr.keyThatStays, K.same a]
    refine ⟨.map (es.modify j fun e => { e with key := encK a, val := encV v }) clock, ?_, _, _, World.putObj_heap_same hlt, ?_, ?_⟩
    · simp [Instr.mapUpdate, run_underlying ht, MapKept.run_getObj_map h1, K.check _ a w, hf, MapKept.run_setObj_map _ h1, Result.andThen, World.putObj, hee, hek, hst]
    · rw [hp]
      unfold Reads at *
      rw [Array.toList_modify]
      apply List.ext_getElem?
      intro i
      have hi := congrArg (fun l => l[i]?) h2
      simp only [List.getElem?_map] at hi
      simp only [List.getElem?_map, List.getElem?_modify, List.getElem?_set]
      by_cases hij : j = i
      · subst hij
        have hjl := (List.getElem?_eq_some_iff.1 hj).1
        rw [he]
        simp [hjl]
      · simp only [hij, if_false]
        rw [← hi]
        cases es.toList[i]? <;> rfl
    · refine h0.born ?_
      have : ((es.modify j fun e => { e with key := encK a, val := encV v }).toList.map (·.born)) = es.toList.map (·.born) := by
        rw [Array.toList_modify]
        apply List.ext_getElem?
        intro i
        simp only [List.getElem?_map, List.getElem?_modify]
        split
        · cases es.toList[i]? <;> rfl
        · cases es.toList[i]? <;> rfl
      rw [this]
      exact List.Sublist.refl _

theorem MapAt.drop {w : World} {b : Nat} {kv : List (α × β)} (h : MapAt w encK encV b kv) (K : Keys P kt encK) (ht : P.underlying t = some (.map kt et)) (a : α) (ty : TypeId) :
    ∃ o, (Builtin.delete_ #[t, kt] ty #[.map (some b), encK a]).run P w = .ok (.tuple #[]) (w.putObj b o) ∧ MapAt (w.putObj b o) encK encV b (mdrop a kv) := by
  have hlt := h.lt
  obtain ⟨es, clock, h1, h2, h0⟩ := h
  have hf := K.find encV a es.toList kv w h2
  cases hm : mfind a kv 0 with
  | none =>
    rw [hm] at hf
    simp only [Option.map_none] at hf
    refine ⟨.map es clock, ?_, _, _, World.putObj_heap_same hlt, ?_, ?_⟩
    · simp [Builtin.delete_, run_underlying ht, MapKept.run_getObj_map h1, K.check _ a w, hf, MapKept.run_setObj_map _ h1, Result.andThen, World.putObj]
    · have hd : mdrop a kv = kv := by
        clear hf h2 h1
        have : ∀ (l : List (α × β)) (i : Nat), mfind a l i = none → mdrop a l = l := by
          intro l
          induction l with
          | nil => intro i _; rfl
          | cons p r ih =>
            intro i h
            obtain ⟨k, v⟩ := p
            unfold mfind at h
            by_cases hk : a = k
            · rw [if_pos hk] at h; cases h
            · rw [if_neg hk] at h
              unfold mdrop
              rw [if_neg hk, ih _ h]
        exact this kv 0 hm
      rw [hd]
      exact h2
    · exact h0
  | some p =>
    obtain ⟨j, x⟩ := p
    rw [hm] at hf
    simp only [Option.map_some] at hf
    obtain ⟨_, hj, _, hp⟩ := mfind_some x hm
    simp only [Nat.sub_zero] at hj hp
    have hjl : j < es.size := by
      have h3 := (List.getElem?_eq_some_iff.1 hj).1
      have h4 := reads_length h2
      simp at h4
      omega
    refine ⟨.map (es.eraseIdxIfInBounds j) clock, ?_, _, _, World.putObj_heap_same hlt, ?_, ?_⟩
    · simp [Builtin.delete_, run_underlying ht, MapKept.run_getObj_map h1, K.check _ a w, hf, MapKept.run_setObj_map _ h1, Result.andThen, World.putObj]
    · rw [hp]
      unfold Reads at *
      have hsub : (es.eraseIdxIfInBounds j).toList = es.toList.eraseIdx j := by
        unfold Array.eraseIdxIfInBounds
        rw [dif_pos hjl]
        simp
      rw [hsub]
      have : ∀ (l : List MapEntry) (m : List (α × β)) (j : Nat), l.map (fun e => (e.key, e.val)) = m.map (fun p => (encK p.1, encV p.2)) → (l.eraseIdx j).map (fun e => (e.key, e.val)) = (m.eraseIdx j).map (fun p => (encK p.1, encV p.2)) := by
        intro l m j h
        rw [map_eraseIdx', map_eraseIdx', h]
      exact this _ _ _ h2
    · have hsub : (es.eraseIdxIfInBounds j).toList = es.toList.eraseIdx j := by
        unfold Array.eraseIdxIfInBounds
        rw [dif_pos hjl]
        simp
      rw [hsub]
      exact h0.born ((List.eraseIdx_sublist _ _).map _)
end

theorem bytes_beq (a b : List UInt8) : ((⟨a.toArray⟩ : ByteArray) == ⟨b.toArray⟩) = (a == b) := by
  show (a.toArray == b.toArray) = (a == b)
  simp

/-- Keys that are texts. -/
theorem keys_string {P : Program} {kt : TypeId} (h : P.underlying kt = some .string) : Keys P kt (fun l : List UInt8 => Value.string ⟨l.toArray⟩) := by
  have hnow : ∀ {β : Type} (encV : β → Value) (a : List UInt8) (kv : List (List UInt8 × β)) (es : List MapEntry) (i : Nat), Reads (fun l : List UInt8 => Value.string ⟨l.toArray⟩) encV es kv →
      Instr.findNow .string (.string ⟨a.toArray⟩) es i = some ((mfind a kv i).map fun p => (p.1, encV p.2)) := by
    intro β encV a kv
    induction kv with
    | nil =>
      intro es i hr
      cases es with
      | nil => rfl
      | cons e es => cases hr
    | cons p kv ih =>
      intro es i hr
      obtain ⟨k, v⟩ := p
      cases es with
      | nil => cases hr
      | cons e es =>
        unfold Reads at hr
        simp only [List.map_cons, List.cons.injEq, Prod.mk.injEq] at hr
        obtain ⟨⟨h1, h2⟩, h3⟩ := hr
        unfold Instr.findNow mfind
        rw [h1]
        by_cases hk : a = k
        · subst hk
          simp [Instr.sameNow, h2, bytes_beq]
        · have : (a == k) = false := by rw [beq_eq_false_iff_ne]; exact hk
          simp only [Instr.sameNow, bytes_beq, this, if_neg hk]
          exact ih es (i + 1) h3
  refine ⟨?_, ?_, ?_⟩
  · intro e a w
    unfold Instr.checkKey
    simp [Sem.run_bind, run_underlying h, Result.andThen]
  · intro β encV a es kv w hr
    unfold Instr.findKey
    simp only [Sem.run_bind, run_underlying h, Result.andThen, hnow encV a kv es 0 hr]
    rfl
  · intro a
    simp [Instr.sameBits, bytes_beq]
end Go.Proofs.YtfdklmpkienfhaaGreat
