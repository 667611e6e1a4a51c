/- Appends to a row of the call's own, in short; over any program. -/
import Derived.WalkKit
import Derived.OwnWalk
import Derived.Lib.AppendStr
import Derived.Laws.AppendOwn
namespace Go.Proofs.YtfdklmpkienfhaaGreat
set_option linter.unusedSimpArgs false
set_option linter.unusedVariables false
open Go.RowKit

/-- The facts of a slice's type. -/
def RowType (P : Program) (t e : TypeId) (size : Nat) : Prop :=
  ∃ (i : TypeInfo) (z : Value) (bytes : Nat), P.underlying t = some (.slice e) ∧ P.info? e = some i ∧ i.zero = some z ∧ i.size = size ∧ i.bytes = bytes ∧ z.cells.size = size ∧ 0 < size ∧ bytes ≤ 64

section
variable {P : Program}

theorem rowType_of {t e : TypeId} {z : Value} {size bytes : Nat} (hu : P.underlying t = some (.slice e)) (h : (P.info? e).map (fun i => (i.zero, i.size, i.bytes)) = some (some z, size, bytes)) (h1 : z.cells.size = size) (h2 : 0 < size) (h3 : bytes ≤ 64) : RowType P t e size := by
  obtain ⟨i, a, b, c, d⟩ := info_parts h
  exact ⟨i, z, bytes, hu, a, b, c, d, h1, h2, h3⟩

theorem below_of_grown {base : Nat} {e : TypeId} {size : Nat} {v : Value} {n : Nat} {xs : List Value} {w w' : World} (hown : w.ownsRow base e size v n xs) (hg : w.grownBy w' v.ownBlock) (hb : base ≤ w.heap.size) : Below base w w' :=
  ⟨hg.os, hg.tape, hg.output, hg.size, fun k hk => hg.block k (by omega) (fun hh => by
    have := (hown.lt k hh.symm).1
    omega)⟩

theorem new_cells {w : World} {news : List Value} {ty : TypeId} : ∀ (j : Nat) (u : Value), news[j]? = some u → (w.alloc (.cells news.toArray ty)).cell? ((⟨w.heap.size, 0, none⟩ : Addr).add j) = some u := fun j u hj => by
  have h : (w.alloc (.cells news.toArray ty)).heap[w.heap.size]? = some (.cells news.toArray ty (0, 0)) := by
    show (w.heap.push _)[w.heap.size]? = _
    simp
  rw [Addr.add_lit, Nat.zero_add]
  unfold World.cell?
  rw [h]
  simpa using hj

/-- One more element: it stands in a block of its own. -/
theorem wpList_grow1 (w : World) {ops : Array Oper} {rest : List Oper} {o : Oper} {a : Act} {Q : Exit → Act → World → Prop} {t e : TypeId} {size : Nat} (R : RowType P t e size) (hgd : o.guard = none) (s x : Operand)
    (ho : o.op = .call { callee := .builtin .append, args := #[s, x], argTypes := #[t, t] }) {base n : Nat} {v : Value} {xs : List Value} (hs : a.eval s = v) (hown : w.ownsRow base e size v n xs) (ty : TypeId) (news : List Value)
    (hx : a.eval x = .slice (some ⟨w.heap.size, 0, none⟩) 1 1) (hl : news.length = size) (h1 : ∀ u ∈ news, u.oneCell' = true) (hn : n ≤ 1000000000) (hbase : base ≤ w.heap.size)
    (hK : ∀ v' w', w'.ownsRow base e size v' (n + 1) (xs ++ news) → Below base w w' → wpList P ops Q rest (a.put o.dst v') w') : wpList P ops Q (o :: rest) a (w.alloc (.cells news.toArray ty)) := by
  obtain ⟨i, z, bytes, r1, r2, r3, r4, r5, r6, r7, r8⟩ := R
  have hb : (n + 1) * bytes ≤ 140737488355328 := by
    have := Nat.mul_le_mul (show n + 1 ≤ 1000000001 by omega) r8
    omega
  refine wpList_append_own _ hgd s x t ho base e i z size bytes r1 r2 r3 r4 r5 r6 r7 v n xs hs (hown.alloc _) ⟨w.heap.size, 0, none⟩ 1 1 news hx (by rw [hl, Nat.one_mul]) new_cells h1 (by unfold maxLen; omega) hb (by simp; omega) ?_
  intro v' w' h2 h3 _
  exact hK v' w' h2 (((Below.refl base w).alloc hbase _).trans (below_of_grown (hown.alloc _) h3 (by simp; omega)))

/-- The bytes of a string more. -/
theorem wpList_growS (w : World) {ops : Array Oper} {rest : List Oper} {o : Oper} {a : Act} {Q : Exit → Act → World → Prop} {t u e : TypeId} (hi : (P.info? e).map (fun i => (i.zero, i.size, i.bytes)) = some (some (.int .u8 0), 1, 1)) (ht : P.underlying t = some (.slice e)) (hu : P.underlying u = some .string) (hgd : o.guard = none) (s x : Operand)
    (ho : o.op = .call { callee := .builtin .append, args := #[s, x], argTypes := #[t, u] }) {base n : Nat} {v : Value} {xs : List Value} (hs : a.eval s = v) (hown : w.ownsRow base e 1 v n xs) (b : ByteArray)
    (hx : a.eval x = .string b) (hn : n + b.size ≤ 1000000000) (hbase : base ≤ w.heap.size)
    (hK : ∀ v' w', w'.ownsRow base e 1 v' (n + b.size) (xs ++ Lib.strCells b) → Below base w w' → wpList P ops Q rest (a.put o.dst v') w') : wpList P ops Q (o :: rest) a w := by
  obtain ⟨i, r2, r3, r4, r5⟩ := info_parts hi
  refine Lib.wpList_append_own_string w hgd s x t u ho base e i ht hu r2 r3 r4 r5 v n xs hs hown b hx (by unfold maxLen; omega) (by omega) hbase ?_
  intro v' w' h2 h3 _
  exact hK v' w' h2 (below_of_grown hown h3 hbase)

/-- The elements of another row more (in a block of its own, or none). -/
theorem wpList_growN (w : World) {ops : Array Oper} {rest : List Oper} {o : Oper} {a : Act} {Q : Exit → Act → World → Prop} {t e : TypeId} {size : Nat} (R : RowType P t e size) (hgd : o.guard = none) (s x : Operand)
    (ho : o.op = .call { callee := .builtin .append, args := #[s, x], argTypes := #[t, t] }) {base n : Nat} {v : Value} {xs : List Value} (hs : a.eval s = v) (hown : w.ownsRow base e size v n xs) (g m c : Nat) (news : List Value)
    (hx : a.eval x = .slice (some ⟨g, 0, none⟩) m c) (hl : news.length = m * size) (hc : ∀ j u, news[j]? = some u → w.cell? ⟨g, j, none⟩ = some u) (h1 : ∀ u ∈ news, u.oneCell' = true) (hn : n + m ≤ 1000000000) (hbase : base ≤ w.heap.size)
    (hK : ∀ v' w', w'.ownsRow base e size v' (n + m) (xs ++ news) → Below base w w' → wpList P ops Q rest (a.put o.dst v') w') : wpList P ops Q (o :: rest) a w := by
  obtain ⟨i, z, bytes, r1, r2, r3, r4, r5, r6, r7, r8⟩ := R
  have hb : (n + m) * bytes ≤ 140737488355328 := by
    have := Nat.mul_le_mul (show n + m ≤ 1000000000 by omega) r8
    omega
  refine wpList_append_own _ hgd s x t ho base e i z size bytes r1 r2 r3 r4 r5 r6 r7 v n xs hs hown ⟨g, 0, none⟩ m c news hx hl (fun j u hj => by
    rw [Addr.add_lit, Nat.zero_add]; exact hc j u hj) h1 (by unfold maxLen; omega) hb hbase ?_
  intro v' w' h2 h3 _
  exact hK v' w' h2 (below_of_grown hown h3 hbase)
end
end Go.Proofs.YtfdklmpkienfhaaGreat
