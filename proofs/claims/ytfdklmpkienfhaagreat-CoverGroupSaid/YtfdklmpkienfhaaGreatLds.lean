import Derived.StillTail
import Derived.Deep.Quiet
import Derived.BigQuiet
import Derived.Deep.RegionHeld3
import Derived.Test.YtfdklmpkienfhaaGreatAid
import Derived.Test.YtfdklmpkienfhaaGreatQueue
import Derived.Deep.RegionLaw

/- A region that draws its order: loads that may come in any order, then operations of one order, which leave the class of worlds in which the loads yield the same. Over any program. -/
namespace Go.Proofs.YtfdklmpkienfhaaGreat
set_option linter.unusedSimpArgs false
set_option linter.unusedVariables false

/-- Operations that enter no function. -/
def pureOp : Op → Bool
  | .call c => match c.callee with | .builtin .len => true | .builtin .min => true | .builtin .max => true | _ => false
  | .move _ | .assign _ | .pick .. | .load .. | .nilCheck _ | .binOp .. | .unOp .. | .convert .. | .fieldAddr .. | .field .. | .indexAddr .. | .index .. | .lookup .. | .slice .. | .build .. | .extract .. => true
  | _ => false

section
variable {P : Program} {ops : Array Oper} {md : Region.Mode} {C : World → Prop}

theorem value_noEnter (s : Sem Value) (w : World) : ∀ f args w', (Sem.run P (do pure (Next.value (← s))) w) ≠ .ok (.enter f args) w' := by
  intro f args w'
  rw [Sem.run_bind]
  cases s.run P w with
  | ok v w1 => simp [Result.andThen]
  | halt x w1 => simp [Result.andThen]

theorem noEnter {o : Oper} (h : pureOp o.op = true) (ρ : Operand → Value) (w : World) : ∀ f args w', (execOp ρ o).run P w ≠ .ok (.enter f args) w' := by
  intro f args w'
  unfold execOp
  cases ho : o.op <;> rw [ho] at h <;> simp only [pureOp, Bool.false_eq_true] at h
  all_goals simp only [ho]
  case nilCheck x =>
    split
    · simp [runtimePanic]
    · simp [runtimePanic]
    · simp [runtimePanic]
    · split
      · simp [runtimePanic]
      · rw [Sem.run_bind]
        cases (Sem.run P program w) with
        | ok p w1 =>
          simp only [Result.andThen]
          rw [Sem.run_bind]
          cases (Sem.run P (nilAhead _ _ _ _) w1) with
          | ok q w2 =>
            simp only [Result.andThen]
            split
            · simp [unsupported]
            · simp
          | halt x w2 => simp [Result.andThen]
        | halt x w1 => simp [Result.andThen]
      · simp
    · simp
  case call c =>
    unfold resolve
    cases hc : c.callee with
    | value f => rw [hc] at h; cases h
    | invoke r n => rw [hc] at h; cases h
    | builtin b =>
      rw [hc] at h
      cases b <;> simp only [Bool.false_eq_true] at h <;>
        (rw [Sem.run_bind, Sem.run_pure]
         first
          | exact value_noEnter (Builtin.len_ _ _ _) _ _ _ _
          | exact value_noEnter (Builtin.min_ _ _ _) _ _ _ _
          | exact value_noEnter (Builtin.max_ _ _ _) _ _ _ _)
  case pick c x y =>
    rw [Sem.run_bind]
    cases (Sem.run P (asBool (ρ c)) w) with
    | ok v w1 => simp [Result.andThen]
    | halt x w1 => simp [Result.andThen]
  all_goals first
    | exact value_noEnter _ _ _ _ _
    | simp

/-- No way out by a panic. -/
abbrev noQ : Exit → Act → World → Prop := fun _ _ _ => False

/-- Operation number i comes up: whatever it does, the world stays in the class. -/
def gOp (P : Program) (ops : Array Oper) (C : World → Prop) (i : Nat) (K : Act → World → Prop) (a : Act) (w : World) : Prop :=
  match ops[i]? with
  | none => K a w
  | some o => if Region.wanted o (yielded ops a.tmps) = true then o.wp P a w (fun a' w' => C w' ∧ K a' w') noQ else K (a.put o.dst undef) w

theorem gOp_mono {i : Nat} {a : Act} {w : World} {K K' : Act → World → Prop} (hC : C w) (h : ∀ a w, C w → K a w → K' a w) (hh : gOp P ops C i K a w) : gOp P ops C i K' a w := by
  unfold gOp at *
  split
  · exact h _ _ hC (by simpa [*] using hh)
  · rename_i o ho
    simp only [ho] at hh
    split
    · rename_i hw; simp only [hw, if_true] at hh; exact Oper.wp_mono (fun a w hk => ⟨hk.1, h _ _ hk.1 hk.2⟩) hh
    · rename_i hw; simp only [hw] at hh; exact h _ _ hC hh

theorem wp_noQ {o : Oper} {a : Act} {w : World} {K : Act → World → Prop} {Q : Exit → Act → World → Prop} (h : o.wp P a w K noQ) : o.wp P a w K Q := by
  unfold Oper.wp at *
  generalize (execOp a.eval o).run P w = r at *
  cases r with
  | ok n w' =>
    cases n <;> simp only [Oper.upon] at h ⊢ <;> first
      | exact h
      | exact Calls.mono h (fun e w'' he => by
          cases e with
          | returned v => exact he
          | panicked c => exact he.elim
          | outgrown => exact absurd he (by simp [LetsOut]))
      | exact h.elim
  | halt x w' =>
    cases x <;> simp only [Oper.upon] at h ⊢ <;> exact h.elim

/-- An operation that is apart from what has been laid into a slot. -/
theorem wp_put {oi oj : Oper} (hap : oi.apart ops oj = true) (hsj : ∀ cs b, oj.op ≠ .select cs b) {v : Value} {K : Act → World → Prop} {a : Act} {w : World} (h : oj.wp P (a.put oi.dst v) w K noQ) :
    oj.wp P a w (fun a' w' => K (a'.put oi.dst v) w') noQ := by
  obtain ⟨h1, h2, h3⟩ := Oper.apart_spec hap
  unfold Oper.wp at *
  rw [execOp_put oj hsj a oi.dst v h1] at h
  generalize (execOp a.eval oj).run P w = r at *
  cases r with
  | ok n w' =>
    cases n <;> simp only [Oper.upon] at h ⊢
    case value u => rw [← Act.put_comm a v u h2]; exact h
    case skip => rw [← Act.put_comm a v undef h2]; exact h
    case defer d =>
      have e : ({ a.put oi.dst v with defers := d :: (a.put oi.dst v).defers } : Act) = ({ a with defers := d :: a.defers } : Act).put oi.dst v := by
        cases oi.dst <;> rfl
      rw [e] at h
      rw [← Act.put_comm _ v undef h2]; exact h
    case enter f args =>
      exact Calls.mono h (fun e w'' he => by
        cases e with
        | returned u =>
          show K ((a.put oj.dst u).put oi.dst v) w''
          rw [← Act.put_comm a v u h2]; exact he
        | panicked c => exact he
        | outgrown => exact he)
    case row r args => exact Rows.mono h (fun u w'' he => by rw [← Act.put_comm a v u h2]; exact he)
  | halt x w' =>
    cases x <;> simp only [Oper.upon] at h ⊢ <;> exact h.elim

/-- In every world of the class it yields v, and does nothing else. -/
def Pure (P : Program) (ops : Array Oper) (C : World → Prop) (o : Oper) (v : Value) (a : Act) : Prop :=
  (Region.wanted o (yielded ops a.tmps) = true ∧ ∀ w, C w → (execOp a.eval o).run P w = .ok (.value v) w ∨ ((execOp a.eval o).run P w = .ok .skip w ∧ v = undef)) ∨
  (Region.wanted o (yielded ops a.tmps) = false ∧ v = undef)

theorem Pure.of_same {o : Oper} {v : Value} {a a' : Act} (hy : Pure P ops C o v a) (he : execOp a'.eval o = execOp a.eval o) (hw : Region.wanted o (yielded ops a'.tmps) = Region.wanted o (yielded ops a.tmps)) : Pure P ops C o v a' := by
  unfold Pure at *
  rw [he, hw]
  exact hy

theorem Pure.gOp {i : Nat} {o : Oper} {v : Value} {a : Act} {w : World} (hi : ops[i]? = some o) (hC : C w) (hy : Pure P ops C o v a) {K : Act → World → Prop} (h : K (a.put o.dst v) w) : gOp P ops C i K a w := by
  unfold Proofs.YtfdklmpkienfhaaGreat.gOp
  simp only [hi]
  rcases hy with ⟨hw, hv⟩ | ⟨hw, rfl⟩
  · simp only [hw, if_true]
    unfold Oper.wp
    rcases hv w hC with h5 | ⟨h5, h6⟩
    · rw [h5]; exact ⟨hC, h⟩
    · rw [h6] at h; rw [h5]; exact ⟨hC, h⟩
  · simp only [hw, Bool.false_eq_true, if_false]; exact h

theorem gOp_put {j : Nat} {oi oj : Oper} {v : Value} (hj : ops[j]? = some oj) (hap : oi.apart ops oj = true) (hsi : ∀ cs b, oi.op ≠ .select cs b) (hsj : ∀ cs b, oj.op ≠ .select cs b) {K : Act → World → Prop} {a : Act} {w : World}
    (hy : Pure P ops C oi v a) (h : gOp P ops C j K (a.put oi.dst v) w) : gOp P ops C j (fun a' w' => Pure P ops C oi v a' ∧ K (a'.put oi.dst v) w') a w := by
  obtain ⟨h1, h2, h3⟩ := Oper.apart_spec hap
  have keep : ∀ (a : Act), Pure P ops C oi v a → ∀ u, Pure P ops C oi v (a.put oj.dst u) := fun a hy u =>
    hy.of_same (execOp_put oi hsi a oj.dst u h3) (wanted_put oi a oj.dst u h3)
  unfold gOp at *
  simp only [hj] at *
  rw [wanted_put oj a oi.dst v h1] at h
  split
  · rename_i hw
    simp only [hw, if_true] at h
    have h4 := wp_put (K := fun a' w' => C w' ∧ K a' w') hap hsj h
    unfold Oper.wp at h4 ⊢
    generalize (execOp a.eval oj).run P w = r at *
    cases r with
    | ok n w' =>
      cases n <;> simp only [Oper.upon] at h4 ⊢
      case value u => exact ⟨h4.1, keep a hy u, h4.2⟩
      case skip => exact ⟨h4.1, keep a hy _, h4.2⟩
      case defer d =>
        refine ⟨h4.1, ?_, h4.2⟩
        refine (hy.of_same (a' := { a with defers := d :: a.defers }) rfl rfl).of_same (execOp_put oi hsi _ oj.dst undef h3) (wanted_put oi _ oj.dst undef h3)
      case enter f args =>
        exact Calls.mono h4 (fun e w'' he => by
          cases e with
          | returned u => exact ⟨he.1, keep a hy u, he.2⟩
          | panicked c => exact he
          | outgrown => exact he)
      case row r args => exact Rows.mono h4 (fun u w'' he => ⟨he.1, keep a hy u, he.2⟩)
    | halt x w' =>
      cases x <;> simp only [Oper.upon] at h4 ⊢ <;> exact h4.elim
  · rename_i hw
    simp only [hw] at h
    exact ⟨keep a hy _, by rw [← Act.put_comm a v undef h2]; exact h⟩

/-- Whatever order is picked, till only the operations from n on are left. -/
def wpAnyG (P : Program) (md : Region.Mode) (ops : Array Oper) (C : World → Prop) (n : Nat) (L : Array Bool → Act → World → Prop) : Nat → Array Bool → Act → World → Prop
  | 0, listed, a, w => L listed a w
  | f + 1, listed, a, w => Region.ready md ops listed ≠ [] ∧ ∀ i ∈ Region.ready md ops listed, i < n ∧ gOp P ops C i (wpAnyG P md ops C n L f (listed.setIfInBounds i true)) a w

theorem wpOp_of_gOp {i : Nat} {a : Act} {w : World} {K K' : Act → World → Prop} {Q' : Exit → Act → World → Prop} (hC : C w) (h : ∀ a w, C w → K a w → K' a w) (hh : gOp P ops C i K a w) : wpOp P ops Q' i K' a w := by
  unfold gOp at hh
  unfold wpOp
  split
  · rename_i ho; simp only [ho] at hh; exact h _ _ hC hh
  · rename_i o ho
    simp only [ho] at hh
    split
    · rename_i hw; simp only [hw, if_true] at hh; exact .inl (wp_noQ (Oper.wp_mono (fun a w hk => h _ _ hk.1 hk.2) hh))
    · rename_i hw; simp only [hw] at hh; exact h _ _ hC hh

theorem wpAny_of_G {n g : Nat} {L : Array Bool → Act → World → Prop} {Q' : Exit → Act → World → Prop} (hL : ∀ listed a w, C w → L listed a w → wpAny P md ops Q' g listed a w) :
    ∀ (f : Nat) (listed : Array Bool) (a : Act) (w : World), C w → wpAnyG P md ops C n L f listed a w → wpAny P md ops Q' (f + g) listed a w
  | 0, listed, a, w, hC, h => by rw [Nat.zero_add]; exact hL _ _ _ hC h
  | f + 1, listed, a, w, hC, h => by
    rw [show f + 1 + g = (f + g) + 1 by omega]
    exact ⟨fun h0 => absurd h0 h.1, fun i hi => wpOp_of_gOp hC (fun a' w' hC' h' => wpAny_of_G hL f _ a' w' hC' h') (h.2 i hi).2⟩

theorem wpAnyG_first {n i : Nat} {oi : Oper} {v : Value} {L : Array Bool → Act → World → Prop} (hi : ops[i]? = some oi) (hsel : ∀ (j : Nat) (o : Oper) cs b, ops[j]? = some o → o.op ≠ .select cs b)
    (hs : Region.sinkB md ops n = true) (hc : Region.chainB md ops n = true) (hn : n < ops.size) (hin : i < n)
    (hdone : ∀ listed a w, L listed a w → ∀ j ∈ Region.ready md ops listed, n ≤ j) :
    ∀ (f : Nat) (listed : Array Bool) (a : Act) (w : World), HeadInv md ops n listed →
      (∀ j oj, ops[j]? = some oj → j ≠ i → listed.getD j true = false → (∀ e ∈ oj.after, Region.binds md e = true → e.on ≠ i) → oi.apart ops oj = true) →
      i ∈ Region.ready md ops listed → Pure P ops C oi v a → C w →
      wpAnyG P md ops C n L f (listed.setIfInBounds i true) (a.put oi.dst v) w → wpAnyG P md ops C n L (f + 1) listed a w := by
  intro f
  induction f with
  | zero =>
    intro listed a w inv _ hr hy hC H
    have hun := (mem_ready.1 hr).1
    refine ⟨fun h => (by rw [h] at hr; cases hr), fun j hj => ?_⟩
    have hjn : j < n := by
      rcases Nat.lt_or_ge j n with h | h
      · exact h
      · exact absurd hj (tail_waits hs hc hn inv _ i rfl hin hun j h)
    refine ⟨hjn, ?_⟩
    by_cases hji : j = i
    · subst hji; exact hy.gOp hi hC H
    · have := hdone _ _ _ H j (ready_mono hj hji)
      omega
  | succ f ih =>
    intro listed a w inv hfree hr hy hC H
    have hun := (mem_ready.1 hr).1
    refine ⟨fun h => (by rw [h] at hr; cases hr), fun j hj => ?_⟩
    have hjn : j < n := by
      rcases Nat.lt_or_ge j n with h | h
      · exact h
      · exact absurd hj (tail_waits hs hc hn inv _ i rfl hin hun j h)
    refine ⟨hjn, ?_⟩
    by_cases hji : j = i
    · subst hji; exact hy.gOp hi hC H
    · have h1 := (H.2 j (ready_mono hj hji)).2
      obtain ⟨hjun, oj, hoj, hall⟩ := mem_ready.1 hj
      have hnot : ∀ e ∈ oj.after, Region.binds md e = true → e.on ≠ i := fun e he hb heq => by
        have h1 := hall e he hb
        rw [heq, getD_both hun] at h1
        cases h1
      have h2 := gOp_put hoj (hfree j oj hoj hji hjun hnot) (fun cs b => hsel i oi cs b hi) (fun cs b => hsel j oj cs b hoj) hy h1
      have hfree' : ∀ k ok, ops[k]? = some ok → k ≠ i → (listed.setIfInBounds j true).getD k true = false →
          (∀ e ∈ ok.after, Region.binds md e = true → e.on ≠ i) → oi.apart ops ok = true := fun k ok hk hki hun hno => by
        refine hfree k ok hk hki ?_ hno
        by_cases hjk : j = k
        · subst hjk; exact hjun
        · rw [getD_set_ne true hjk] at hun; exact hun
      refine gOp_mono hC (fun a' w' hC' h3 => ih (listed.setIfInBounds j true) a' w' (inv.set hj hjn) hfree' (ready_mono hr (Ne.symm hji)) h3.1 hC' ?_) h2
      rw [Array.setIfInBounds_comm _ _ hji]
      exact h3.2

/-- The operations of one order, each leaving a world of the class. -/
def wpG (P : Program) (ops : Array Oper) (C : World → Prop) (Q : Act → World → Prop) : List Oper → Act → World → Prop
  | [], a, w => Q a w
  | o :: rest, a, w => if Region.wanted o (yielded ops a.tmps) = true then o.wp P a w (fun a' w' => C w' ∧ wpG P ops C Q rest a' w') noQ else wpG P ops C Q rest (a.put o.dst undef) w

theorem wpAnyG_seq {n : Nat} {Lq : Act → World → Prop} : ∀ (l : List Oper) (k : Nat) (listed : Array Bool) (a : Act) (w : World), (∀ j, j < l.length → l[j]? = ops[k + j]?) → k + l.length = n →
    Region.seqB md ops (l.length + (ops.size - n)) k listed = true → wpG P ops C Lq l a w →
    wpAnyG P md ops C n (fun listed' a' w' => Region.seqB md ops (ops.size - n) n listed' = true ∧ Lq a' w') l.length listed a w
  | [], k, listed, a, w, hl, hk, hB, h => by
    have : k = n := by simpa using hk
    subst this
    exact ⟨by simpa using hB, h⟩
  | o :: l, k, listed, a, w, hl, hk, hB, h => by
    have h0 : ops[k]? = some o := by simpa using (hl 0 (by simp)).symm
    rw [List.length_cons, show l.length + 1 + (ops.size - n) = (l.length + (ops.size - n)) + 1 by omega] at hB
    simp only [Region.seqB, Bool.and_eq_true, decide_eq_true_eq] at hB
    refine ⟨fun h1 => (by rw [hB.1] at h1; cases h1), fun i hi => ?_⟩
    rw [hB.1] at hi
    have hik : i = k := by simpa using hi
    subst hik
    simp only [List.length_cons] at hk
    refine ⟨by omega, ?_⟩
    have hw : gOp P ops C i (wpG P ops C Lq l) a w := by unfold gOp; simp only [h0]; exact h
    have step : ∀ a w, wpG P ops C Lq l a w → wpAnyG P md ops C n (fun listed' a' w' => Region.seqB md ops (ops.size - n) n listed' = true ∧ Lq a' w') l.length (listed.setIfInBounds i true) a w := fun a' w' h' =>
      wpAnyG_seq l (i + 1) _ a' w' (fun j hj => by have := hl (j + 1) (by simp; omega); simpa [Nat.add_assoc, Nat.add_comm 1 j] using this) (by omega) hB.2 h'
    unfold gOp at hw ⊢
    simp only [h0] at hw ⊢
    split
    · rename_i hwn; simp only [hwn, if_true] at hw; exact Oper.wp_mono (fun a w hk => ⟨hk.1, step _ _ hk.2⟩) hw
    · rename_i hwn; simp only [hwn] at hw; exact step _ _ hw

theorem pure_of_quiet {o : Oper} {a : Act} (hp : pureOp o.op = true) {next : Act → Prop} (h : if Region.wanted o (yielded ops a.tmps) = true then o.quiet P a C next else next (a.put o.dst undef)) : ∃ v, Pure P ops C o v a ∧ next (a.put o.dst v) := by
  by_cases hw : Region.wanted o (yielded ops a.tmps) = true
  · rw [if_pos hw] at h
    obtain ⟨v, h1, h2⟩ := h
    refine ⟨v, .inl ⟨hw, fun w hC => ?_⟩, h2⟩
    have h3 := h1 w hC
    unfold Oper.quietAt at h3
    have hne := noEnter (P := P) hp a.eval w
    generalize (execOp a.eval o).run P w = r at h3 hne
    cases r with
    | ok n w' =>
      cases n <;> simp only [Oper.quietUpon] at h3
      case value u => obtain ⟨e1, e2⟩ := h3; rw [e1, e2]; exact .inl rfl
      case skip => obtain ⟨e1, e2⟩ := h3; rw [e1]; exact .inr ⟨rfl, e2⟩
      case enter f args => exact absurd rfl (hne f args w')
    | halt x w' => simp only [Oper.quietUpon] at h3
  · rw [if_neg hw] at h
    exact ⟨undef, .inr ⟨by simpa using hw, rfl⟩, h⟩

theorem wpAnyG_lex {n m : Nat} {Lq : Act → World → Prop} {mid : List Oper} (hsel : Region.noSelect ops = true) (hs : Region.sinkB md ops n = true) (hc : Region.chainB md ops n = true) (hn : n < ops.size) (hm : m + mid.length = n) (hmid : ∀ j, j < mid.length → mid[j]? = ops[m + j]?) :
    ∀ (l : List Oper) (k : Nat) (listed : Array Bool) (a : Act) (w : World), (∀ j, j < l.length → l[j]? = ops[k + j]?) → k + l.length = m → (∀ o ∈ l, pureOp o.op = true) → HeadInv md ops n listed →
    Region.lexHead md ops (mid.length + (ops.size - n)) l.length k listed = true → C w → wpQuiet P ops C (fun a' => wpG P ops C Lq mid a' w) l a →
    wpAnyG P md ops C n (fun listed' a' w' => Region.seqB md ops (ops.size - n) n listed' = true ∧ Lq a' w') (l.length + mid.length) listed a w
  | [], k, listed, a, w, hl, hk, hp, inv, hB, hC, h => by
    have : k = m := by simpa using hk
    subst this
    rw [List.length_nil, Nat.zero_add]
    exact wpAnyG_seq mid k listed a w hmid hm (by simpa [Region.lexHead] using hB) h
  | o :: l, k, listed, a, w, hl, hk, hp, inv, hB, hC, h => by
    have h0 : ops[k]? = some o := by simpa using (hl 0 (by simp)).symm
    simp only [List.length_cons, Region.lexHead, Bool.and_eq_true] at hB
    obtain ⟨⟨hr, hf⟩, hB'⟩ := hB
    have hkn : k < n := by simp only [List.length_cons] at hk; omega
    have hr' : k ∈ Region.ready md ops listed := by simpa using hr
    obtain ⟨v, hy, hK⟩ := pure_of_quiet (hp o List.mem_cons_self) h
    rw [List.length_cons, show l.length + 1 + mid.length = (l.length + mid.length) + 1 by omega]
    exact wpAnyG_first h0 (Region.noSelect_spec hsel) hs hc hn hkn (fun listed' a' w' hL => seqB_ready hL.1) (l.length + mid.length) listed a w inv (Region.free_spec h0 hf) hr' hy hC
      (wpAnyG_lex hsel hs hc hn hm hmid l (k + 1) _ _ w (fun j hj => by have := hl (j + 1) (by simp; omega); simpa [Nat.add_assoc, Nat.add_comm 1 j] using this) (by simp only [List.length_cons] at hk; omega) (fun o ho => hp o (List.mem_cons_of_mem _ ho)) (inv.set hr' hkn) hB' hC hK)

/-- May the law be used: m loads, up to n operations of one order, and a tail. -/
def loadsB (md : Region.Mode) (ops : Array Oper) (m n : Nat) : Bool :=
  Region.noSelect ops && decide (n < ops.size) && decide (m ≤ n) && Region.sinkB md ops n && Region.chainB md ops n && Region.lexHead md ops (ops.size - m) m 0 (Array.replicate ops.size false) && (ops.toList.take m).all (fun o => pureOp o.op)

/-- **Loads ahead.** -/
theorem wp_region_loads {id : Nat} {Q : Exit → Act → World → Prop} {a : Act} {w : World} {l : List Oper} (m n : Nat) (C : World → Prop) (hC : C w.drew) (hm : P.follows .mixedOrders = true) (hB : loadsB .any l.toArray m n = true)
    (h : wpQuiet P l.toArray C (fun a' => wpG P l.toArray C (fun a'' w'' => wpList P l.toArray Q (l.drop n) a'' w'') ((l.take n).drop m) a' w.drew) (l.take m) a) : (Code.region id l.toArray true).wp P Q a w := by
  simp only [loadsB, Bool.and_eq_true, decide_eq_true_eq] at hB
  obtain ⟨⟨⟨⟨⟨⟨hsel, hn⟩, hmn⟩, hs⟩, hc⟩, hlex⟩, hpure⟩ := hB
  have hn' : n < l.length := by simpa using hn
  have htl : (l.take m).length = m := by simp; omega
  have hml : ((l.take n).drop m).length = n - m := by simp; omega
  have hdl : (l.drop n).length = l.toArray.size - n := by simp
  have inv0 : HeadInv .any l.toArray n (Array.replicate l.toArray.size false) :=
    ⟨by simp, fun j oj _ hl => (by rw [getD_replicate_false] at hl; cases hl), fun t _ ht => getD_in (by simpa using ht) (getD_replicate_false _ _)⟩
  have H := wpAnyG_lex (P := P) (C := C) (md := .any) (ops := l.toArray) (n := n) (m := m) (mid := (l.take n).drop m) (Lq := fun a'' w'' => wpList P l.toArray Q (l.drop n) a'' w'') hsel hs hc hn (by omega) (fun j hj => by
    rw [hml] at hj
    rw [List.getElem?_drop, List.getElem?_take_of_lt (by omega)]
    simp) (l.take m) 0 _ a w.drew (fun j hj => by
    have hj' : j < m := by rw [htl] at hj; exact hj
    simp [hj']) (by omega) (fun o ho => by
    have := List.all_eq_true.1 hpure o (by simpa using ho)
    exact this) inv0 (by rw [htl, hml, show n - m + (l.toArray.size - n) = l.toArray.size - m by omega]; exact hlex) hC h
  refine wp_region_any hm ?_
  have := wpAny_of_G (Q' := Q) (g := l.toArray.size - n) (fun listed a' w' _ hL => by
    have := wpAny_of_seq (md := .any) (Q' := Q) (l.drop n) n listed a' w' (fun j => by simp [List.getElem?_drop]) (by rw [hdl]; exact hL.1) hL.2
    rwa [hdl] at this) _ _ _ _ hC H
  rw [htl, hml, show m + (n - m) + (l.toArray.size - n) = l.toArray.size by omega] at this
  exact this

theorem wpG_nil {Q : Act → World → Prop} {a : Act} {w : World} (h : Q a w) : wpG P ops C Q [] a w := h
theorem wp_to_noQ {o : Oper} {a : Act} {w : World} {K : Act → World → Prop} {Q : Exit → Act → World → Prop} (hQ : ∀ x a w, Q x a w → x = .normal) (h : o.wp P a w K Q) : o.wp P a w K noQ := by
  unfold Oper.wp at *
  generalize (execOp a.eval o).run P w = r at *
  cases r with
  | ok n w' =>
    cases n <;> simp only [Oper.upon] at h ⊢ <;> first
      | exact h
      | exact Calls.mono h (fun e w'' he => by
          cases e with
          | returned v => exact he
          | panicked c => have := hQ _ _ _ he; cases this
          | outgrown => obtain ⟨a', w', h'⟩ := (he : LetsOut Q); have := hQ _ _ _ h'; cases this)
      | exact h.elim
  | halt x w' =>
    cases x <;> simp only [Oper.upon] at h ⊢ <;> (have := hQ _ _ _ h; cases this)

/-- One operation at a time. -/
theorem wpG_step {Q : Act → World → Prop} {o : Oper} {rest : List Oper} {a : Act} {w : World} (h : ∀ K : Act → World → Prop, (∀ a w, wpG P ops C Q rest a w → K a w) → wpList P ops (fun x a w => x = .normal ∧ C w ∧ K a w) [o] a w) : wpG P ops C Q (o :: rest) a w := by
  have h1 := h _ (fun _ _ h => h)
  unfold wpG
  unfold wpList at h1
  by_cases hw : Region.wanted o (yielded ops a.tmps) = true
  · rw [if_pos hw] at h1 ⊢
    rcases h1 with h1 | ⟨_, a', w', h1⟩
    · exact Oper.wp_mono (fun a w hk => hk.2) (wp_to_noQ (fun x a w hx => hx.1) h1)
    · cases h1.1
  · rw [if_neg hw] at h1 ⊢
    exact h1.2.2
end
section
open Go.RowKit
/-- A world of which no old block has changed. -/
structure Later (w : World) where
  W : World
  h : Below w.heap.size w W

instance (w : World) : Inhabited (Later w) := ⟨⟨w, Below.refl _ _⟩⟩

open BigFrame in
theorem wp_region_later {P : Program} {id : Nat} {Q : Exit → Act → World → Prop} {a : Act} {w : World} {l : List Oper} (hm : P.follows .mixedOrders = true) (hB : Region.lexB .any l.toArray = true)
    (h : wpQuiet P l.toArray (fun w' => ∃ y : Later w, w' = y.W) (fun a' => ∀ w', (∃ y : Later w, w' = y.W) → Q .normal a' w') l a) : (Code.region id l.toArray true).wp P Q a w :=
  wp_region_quiet (C := fun w' => ∃ y : Later w, w' = y.W) hm hB ⟨⟨w.drew, (Below.refl _ _).drew⟩, rfl⟩ (by simpa using h)
end
end Go.Proofs.YtfdklmpkienfhaaGreat
