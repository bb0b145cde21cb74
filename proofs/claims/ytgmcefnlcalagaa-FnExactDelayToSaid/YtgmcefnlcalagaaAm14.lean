/- The abstract machine: append, whole. No condition. -/
import Derived.Test.YtgmcefnlcalagaaAm13
namespace Go.Proofs.Ytgmcefnlcalagaa.AM
open Go Go.RowKit
set_option linter.unusedSimpArgs false
set_option linter.unusedVariables false

section
variable {α : Type} {P : Program} {Z : Nat → Prop}

/-- Own array r has a new version, here or elsewhere. -/
theorem bump_step {X X' : Cx} (h : HR Z X) {r v : Nat} {e : Ty} {xs ys : List e.T} (hg : X.H.get r = some (.arr v e xs)) (hH : X'.H = X.H.set r (.arr (v + 1) e ys)) (hn : X'.n = X.n) (hT : X'.T = X.T)
    (hι : ∀ r', r' ≠ r → X'.ι r' = X.ι r') (hw : ∀ k, (∀ o, X.ι r ≠ some (k, o)) → k < X.w.heap.size → X'.w.heap[k]? = X.w.heap[k]?)
    (hsz : ∀ (b : Nat) (cs : Array Value) (t : TypeId) (fz : Nat × Nat), X.w.heap[b]? = some (Obj.cells cs t fz) → ∃ (cs' : Array Value) (t' : TypeId) (fz' : Nat × Nat), X'.w.heap[b]? = some (Obj.cells cs' t' fz') ∧ cs'.size = cs.size)
    (hks : X.w.heap.size ≤ X'.w.heap.size) (h1 : X'.w.os = X.w.os) (h2 : X'.w.tape = X.w.tape) (h3 : X'.w.output = X.w.output) (hB : BRel X' r (.arr (v + 1) e ys))
    (hnew : ∀ k o, X'.ι r = some (k, o) → (∃ o', X.ι r = some (k, o')) ∨ X.w.heap.size ≤ k) (hZ : ∀ b, Z b → b < X.w.heap.size) : Step Z X X' := by
  have hap : ∀ k o, X.ι r = some (k, o) → ¬ X.T k ∧ ¬ Z k := fun k o hi => h.apart r _ k o hg hi
  have hTk : ∀ k, X.T k → X'.w.heap[k]? = X.w.heap[k]? := fun k hk => hw k (fun o hi => (hap k o hi).1 hk) (h.T k hk)
  have hget : ∀ r' b', X'.H.get r' = some b' → (r' = r ∧ b' = .arr (v + 1) e ys) ∨ (r' ≠ r ∧ X.H.get r' = some b') := fun r' b' hq => by
    rw [hH, Heap.get_set] at hq
    split at hq
    · rename_i e1; subst e1; rw [hg] at hq; simp at hq; exact .inl ⟨rfl, hq.symm⟩
    · rename_i e1; exact .inr ⟨fun q => e1 q.symm, hq⟩
  have hle : Le X X' := {
    n := by rw [hn]; exact Nat.le_refl _
    T := fun b hb => by rw [hT]; exact hb
    blk := hTk
    box := by
      intro r' cs' _ hq
      rcases hget r' _ hq with ⟨-, q⟩ | ⟨ne, q⟩
      · cases q
      · exact ⟨cs', q, hι r' ne⟩
    arr := by
      intro r' v' e' xs' _ hq
      rcases hget r' _ hq with ⟨q0, q⟩ | ⟨ne, q⟩
      · subst q0
        cases q
        exact ⟨v, xs, hg, Nat.le_succ _, fun ev => by omega⟩
      · exact ⟨v', xs', q, Nat.le_refl _, fun _ => ⟨rfl, hι r' ne⟩⟩
    size := hsz }
  have hother : ∀ r' b', r' ≠ r → X.H.get r' = some b' → ∀ k o, X.ι r' = some (k, o) → X'.w.heap[k]? = X.w.heap[k]? := fun r' b' ne q k o hi =>
    hw k (fun o2 hi2 => ne (h.inj r' r b' _ k o o2 q hg hi hi2)) (own_lt (h.blk r' b' q).2 hi)
  refine ⟨hle, ⟨?_, ?_, ?_, ?_⟩, ⟨h1, h2, h3, hks, fun k hz => hw k (fun o hi => (hap k o hi).2 hz) (hZ k hz)⟩, fun k hk => by rw [hT] at hk; exact .inl hk⟩
  · intro r' b' hq
    rcases hget r' b' hq with ⟨rfl, rfl⟩ | ⟨ne, q⟩
    · exact ⟨by rw [hn]; exact (h.blk r' _ hg).1, hB⟩
    · exact ⟨by rw [hn]; exact (h.blk r' b' q).1, (h.blk r' b' q).2.mono hle (hι r' ne) fun k o hi => hother r' b' ne q k o hi⟩
  · intro r1 r2 b1 b2 k o1 o2 g1 g2 i1 i2
    rcases hget r1 b1 g1 with ⟨e1, -⟩ | ⟨n1, q1⟩ <;> rcases hget r2 b2 g2 with ⟨e2, -⟩ | ⟨n2, q2⟩
    · rw [e1, e2]
    · exfalso
      subst e1
      rw [hι r2 n2] at i2
      rcases hnew k o1 i1 with ⟨o', q⟩ | q
      · exact n2 (h.inj r2 r1 b2 _ k o2 o' q2 hg i2 q)
      · have := own_lt (h.blk r2 b2 q2).2 i2; omega
    · exfalso
      subst e2
      rw [hι r1 n1] at i1
      rcases hnew k o2 i2 with ⟨o', q⟩ | q
      · exact n1 (h.inj r1 r2 b1 _ k o1 o' q1 hg i1 q)
      · have := own_lt (h.blk r1 b1 q1).2 i1; omega
    · rw [hι r1 n1] at i1
      rw [hι r2 n2] at i2
      exact h.inj r1 r2 b1 b2 k o1 o2 q1 q2 i1 i2
  · intro r1 b1 k o1 g1 i1
    rw [hT]
    rcases hget r1 b1 g1 with ⟨e1, -⟩ | ⟨n1, q1⟩
    · subst e1
      rcases hnew k o1 i1 with ⟨o', q⟩ | q
      · exact hap k o' q
      · exact ⟨fun ht => by have := h.T k ht; omega, fun hz => by have := hZ k hz; omega⟩
    · rw [hι r1 n1] at i1
      exact h.apart r1 b1 k o1 q1 i1
  · intro k hk
    rw [hT] at hk
    exact Nat.lt_of_lt_of_le (h.T k hk) hks

/-- The facts on append's types. -/
structure AppT (P : Program) (ats : Array TypeId) (e : TypeId) (τ : Ty) : Prop where
  hs : ∃ st t2, ats[0]? = some st ∧ ats[1]? = some t2 ∧ P.underlying st = some (.slice e) ∧ ((∃ x, P.underlying t2 = some (.slice x)) ∨ P.underlying t2 = some .string)
  sz : szT P e = some τ.sz
  zero : ∃ i z, P.info? e = some i ∧ i.zero = some z ∧ z.cells.size = τ.sz

theorem zeroCells_size (z : Array Value) (n : Nat) : (Builtin.zeroCells z n).size = n * z.size := by simp [Builtin.zeroCells]

/-- In place. -/
theorem append_in {ats : Array TypeId} {e : TypeId} {τ : Ty} (ht : AppT P ats e τ) {oty : TypeId} {base : Option Addr} {len cap n : Nat} {ux : Value} {cells : Array Value} {w w' : World} (hl : (Builtin.lenOf ux).run P w = .ok n w) (hf : (Builtin.firstCells τ.sz n ux).run P w = .ok cells w)
    (hc : len + n ≤ cap) (hw : (match base with | some a => storeCells (a.add (len * τ.sz)) cells.toList | none => pure () : Sem Unit).run P w = .ok () w') :
    (Builtin.append_ ats oty #[.slice base len cap, ux]).run P w = .ok (.slice base (len + n) cap) w' := by
  obtain ⟨st, t2, h1, h2, h3, h4⟩ := ht.hs
  unfold Builtin.append_
  rcases h4 with ⟨x, h4⟩ | h4
  all_goals
    simp only [h1, h2, List.getElem?_toArray, List.getElem?_cons_zero, List.getElem?_cons_succ, Sem.run_bind, run_underlying h3, run_underlying h4, Result.andThen_ok, szT_run ht.sz, Sem.run_pure, Bool.false_eq_true, if_false, hl]
    rw [if_pos hc]
    simp only [Bool.not_false, if_true, Sem.run_bind, hf, Result.andThen_ok]
    cases base with
    | none =>
      simp only [Sem.run_pure] at hw ⊢
      cases hw
      rfl
    | some a =>
      simp only [Sem.run_bind] at hw ⊢
      rw [hw]
      simp only [Result.andThen_ok, Sem.run_pure]

/-- Elsewhere. -/
theorem append_new {ats : Array TypeId} {e : TypeId} {τ : Ty} (ht : AppT P ats e τ) {oty : TypeId} {base : Option Addr} {len cap n : Nat} {ux : Value} {old cells : Array Value} {w : World} (hl : (Builtin.lenOf ux).run P w = .ok n w)
    (hf : (Builtin.firstCells τ.sz n ux).run P w.drew = .ok cells w.drew) (ho : (Builtin.firstCells τ.sz len (.slice base len cap)).run P w.drew = .ok old w.drew)
    (hc : ¬ len + n ≤ cap) (hb : ((len + n : Nat) : Int) * (bytesT P e : Int) ≤ 140737488355328) (hb2 : len + n ≤ 140737488355328) :
    ∃ newCap rest, len + n ≤ newCap ∧ rest.size = (newCap - (len + n)) * τ.sz ∧
      (Builtin.append_ ats oty #[.slice base len cap, ux]).run P w = .ok (.slice (some ⟨w.heap.size, 0, none⟩) (len + n) newCap) (w.drew.alloc (.cells (old ++ cells ++ rest) e)) := by
  obtain ⟨st, t2, h1, h2, h3, h4⟩ := ht.hs
  obtain ⟨i, z, i1, i2, i3⟩ := ht.zero
  have hby : bytesT P e = i.bytes := by simp [bytesT, i1]
  rw [hby] at hb
  have hnc := nextcap_le (need := len + n) (cap := cap) (by omega)
  have hcap : ¬ Builtin.nextslicecap (len + n) cap * i.bytes > 2 ^ 48 := by
    have h5 : Builtin.nextslicecap (len + n) cap * i.bytes ≤ 2 * (len + n) * i.bytes := Nat.mul_le_mul_right _ hnc
    have h6 : (((len + n) * i.bytes : Nat) : Int) ≤ 140737488355328 := by rw [Int.natCast_mul]; exact hb
    rw [Nat.mul_assoc] at h5
    generalize (len + n) * i.bytes = m at h5 h6
    omega
  let nc := len + n + (w.tape w.drawn (.appendCap (len + n) cap e)) % (2 ^ 63 - (len + n))
  refine ⟨nc, Builtin.zeroCells z.cells (nc - (len + n)), Nat.le_add_right _ _, (zeroCells_size _ _).trans (congrArg _ i3), ?_⟩
  have hch : (choose (.appendCap (len + n) cap e)).run P w = .ok nc w.drew := by
    show (if (Question.appendCap (len + n) cap e).forced = true then _ else _) = _
    rw [if_neg (by intro hq; cases hq)]
    rfl
  unfold Builtin.append_
  rcases h4 with ⟨x, h4⟩ | h4
  all_goals
    simp only [h1, h2, List.getElem?_toArray, List.getElem?_cons_zero, List.getElem?_cons_succ, Sem.run_bind, run_underlying h3, run_underlying h4, Result.andThen_ok, szT_run ht.sz, Sem.run_pure, Bool.false_eq_true, if_false, hl]
    rw [if_neg hc]
    simp only [Sem.run_bind, typeInfo, run_program, Result.andThen_ok, i1, Sem.run_pure, false_or]
    rw [if_neg (by rw [IntKind.max_i64]; omega)]
    simp only [Sem.run_bind, run_program, Result.andThen_ok, i1, Sem.run_pure]
    rw [if_neg hcap]
    simp only [Sem.run_bind, hch, Result.andThen_ok, run_program, i1, Sem.run_pure, run_askRoom, ho, Bool.not_false, if_true, hf, zeroValue, typeInfo, i2, newRow_run]
    rfl

end
end Go.Proofs.Ytgmcefnlcalagaa.AM
