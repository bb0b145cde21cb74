/- The abstract machine: one operation, and a region in the order of the text. No condition. -/
import Derived.Test.YtgmcefnlcalagaaAm15
namespace Go.Proofs.Ytgmcefnlcalagaa.AM
open Go Go.RowKit
set_option linter.unusedSimpArgs false
set_option linter.unusedVariables false

/-- The machine's state stands for Go's. -/
structure SR (Z : Nat → Prop) (X0 : Cx) (N : Nat) (st : St) (a : Act) (X : Cx) : Prop where
  H : X.H = st.H
  n : X.n = st.nxt
  step : Step Z X0 X
  fr : FRel X st.fr a.tmps
  defers : a.defers = []
  size : a.tmps.size = N

/-- Arguments and their values. -/
def VsRel (X : Cx) (vs : List AV) (us : List Value) : Prop := us.length = vs.length ∧ ∀ (j : Nat) (v : AV), vs[j]? = some v → ∃ u, us[j]? = some u ∧ AVRel X v u

/-- A pure contract is kept. -/
def PSound (P : Program) (f : FuncId) (c : PC) : Prop :=
  ∀ (X : Cx) (args : List AV) (us : List Value) (y : c.β), c.f X.H args = some y → HBl X → (∀ b, X.T b → b < X.w.heap.size) → VsRel X args us →
    (∀ r b k o, X.H.get r = some b → X.ι r = some (k, o) → k < X.w.heap.size) →
    ∀ R : Ending → World → Prop, (∀ v X', GR X (c.res X.n y).2 X' → DRel X' (c.res X.n y).1 v → R (.returned v) X'.w) → Calls P f us.toArray X.w R

section
variable {P : Program} {Z : Nat → Prop} {X0 : Cx} {N : Nat}

theorem look_put (fr : List (Nat × D)) (dst : Option Nat) (d : D) (i : Nat) : look (put fr dst d) i = if dst = some i then some d else look fr i := by
  have hfil : ∀ (fr : List (Nat × D)) (t : Nat), look (fr.filter fun x => !(Nat.beq x.1 t)) i = if t = i then none else look fr i := by
    intro fr t
    induction fr with
    | nil => simp [look]
    | cons x fr ih =>
      obtain ⟨j, e⟩ := x
      by_cases h : j = t
      · subst h
        rw [List.filter_cons]
        simp only [beq_true, Bool.not_true, Bool.false_eq_true, if_false, ih, look]
        by_cases h2 : j = i
        · subst h2; simp
        · rw [if_neg h2, if_neg h2, beq_false h2]; rfl
      · rw [List.filter_cons]
        simp only [beq_false h, Bool.not_false, if_true, look, ih]
        by_cases h2 : j = i
        · subst h2
          have : ¬ t = j := fun e => h e.symm
          simp [this]
        · rw [beq_false h2]
          simp only [cond_false]
  cases dst with
  | none => simp [put]
  | some t =>
    simp only [put, look]
    by_cases h : t = i
    · subst h; simp [beq_true]
    · rw [beq_false h]
      simp only [cond_false]
      rw [hfil, if_neg h, if_neg (by simpa using h)]

theorem FRel.put {X : Cx} {fr : List (Nat × D)} {a : Act} (h : FRel X fr a.tmps) {dst : Option Nat} {d : D} {v : Value} (hd : DRel X d v) (hN : ∀ t, dst = some t → t < a.tmps.size) : FRel X (AM.put fr dst d) (a.put dst v).tmps := by
  intro i d' hi
  rw [look_put] at hi
  cases dst with
  | none =>
    rw [if_neg (by simp)] at hi
    exact h i d' hi
  | some t =>
    by_cases e : t = i
    · subst e
      rw [if_pos rfl] at hi
      cases hi
      exact ⟨v, by simp [Act.put, hN t rfl], hd⟩
    · rw [if_neg (by simpa using e)] at hi
      obtain ⟨u, h1, h2⟩ := h i d' hi
      exact ⟨u, by simp [Act.put, e, h1], h2⟩

theorem put_size (a : Act) (dst : Option Nat) (v : Value) : (a.put dst v).tmps.size = a.tmps.size := by cases dst <;> simp [Act.put]
theorem put_defers (a : Act) (dst : Option Nat) (v : Value) : (a.put dst v).defers = a.defers := by cases dst <;> simp [Act.put]

theorem undef_rel {X : Cx} : DRel X (.tup []) undef := ⟨#[], rfl, rfl, fun j v hj => by simp at hj⟩

theorem dstOk_lt {o : Oper} (h : dstOk N o = true) : ∀ t, o.dst = some t → t < N := by
  intro t ht
  unfold dstOk at h
  rw [ht] at h
  exact Nat.le_of_ble_eq_true h

theorem SR.put {st : St} {a : Act} {X X' : Cx} {H' : Heap} {n' : Nat} {o : Oper} {d : D} {v : Value} (h : SR Z X0 N st a X) (hs : Step Z X X') (hH : X'.H = H') (hn : X'.n = n') (hd : DRel X' d v) (hN : dstOk N o = true) :
    SR Z X0 N ⟨AM.put st.fr o.dst d, n', H'⟩ (a.put o.dst v) X' :=
  ⟨hH, hn, h.step.trans hs, (h.fr.mono hs.le).put hd (fun t ht => by rw [h.size]; exact dstOk_lt hN t ht), by rw [put_defers, h.defers], by rw [put_size, h.size]⟩

theorem wanted_sound {α : Type} {all : Array Oper} {fr : List (Nat × D)} {o : Oper} {kt kf : Option α} {r : α} {X : Cx} {a : Act} (h : wantedK all.toList fr o kt kf = some r) (hf : FRel X fr a.tmps) :
    (Region.wanted o (yielded all a.tmps) = true ∧ kt = some r) ∨ (Region.wanted o (yielded all a.tmps) = false ∧ kf = some r) := by
  unfold wantedK at h
  unfold Region.wanted
  split at h
  · rename_i hg; rw [hg]; exact .inl ⟨rfl, h⟩
  · rename_i j b hg
    rw [hg]
    simp only
    have key : ∀ d, guardVal all.toList fr j = some d → ∃ u, DRel X d u ∧ yielded all a.tmps j = (match some u with | some (.bool b) => some b | _ => none) := by
      intro d hd
      unfold guardVal at hd
      obtain ⟨t, h1, h2⟩ := obind hd
      obtain ⟨o', h3, h4⟩ := obind h1
      obtain ⟨u, h5, h6⟩ := hf t d h2
      refine ⟨u, h6, ?_⟩
      unfold yielded
      have h3' : all[j]? = some o' := by simpa using h3
      rw [h3', Option.bind_some, h4, Option.bind_some, h5]
      cases u <;> rfl
    split at h
    · rename_i x hv
      obtain ⟨u, h1, h2⟩ := key _ hv
      have hu : u = .bool x := (AVRel.one h1).2
      rw [h2, hu]
      cases b <;> cases x <;> simp at h ⊢ <;> first | exact h
    · rename_i hv
      obtain ⟨u, ⟨us, h1, h3, -⟩, h2⟩ := key _ hv
      rw [h2, h1]
      exact .inr ⟨by simp, h⟩
    · cases h

theorem VsRel.append {X : Cx} {vs vs' : List AV} {us us' : List Value} (h : VsRel X vs us) (h' : VsRel X vs' us') : VsRel X (vs ++ vs') (us ++ us') := by
  refine ⟨by simp [h.1, h'.1], fun j v hj => ?_⟩
  rcases Nat.lt_or_ge j vs.length with q | q
  · rw [List.getElem?_append_left q] at hj
    obtain ⟨u, h1, h2⟩ := h.2 j v hj
    exact ⟨u, by rw [List.getElem?_append_left (by rw [h.1]; exact q)]; exact h1, h2⟩
  · rw [List.getElem?_append_right q] at hj
    obtain ⟨u, h1, h2⟩ := h'.2 _ v hj
    exact ⟨u, by rw [List.getElem?_append_right (by rw [h.1]; exact q), h.1]; exact h1, h2⟩

/-- A call of a function: the function is entered with its arguments and what it captured. -/
theorem callee_sound {X : Cx} {fr : List (Nat × D)} {a : Act} {f : Operand} {args : List Operand} {ts : List TypeId} {g : FuncId} {vs : List AV} (h : callee P X.H fr f args ts = some (g, vs)) (hf : FRel X fr a.tmps) :
    ∃ us : List Value, VsRel X vs us ∧ ∀ (o : Oper) (ats : Array TypeId), o.op = .call { callee := .value f, args := args.toArray, argTypes := ats } → (execOp a.eval o).run P X.w = .ok (.enter g us.toArray) X.w := by
  unfold callee at h
  obtain ⟨c, h1, g1⟩ := obind h
  split at g1
  · rename_i g' caps
    obtain ⟨hok0, g2⟩ := bif_true g1
    simp only [Bool.and_eq_true, List.all_eq_true] at hok0
    obtain ⟨hok, hlive⟩ := hok0
    obtain ⟨vs', h2, g3⟩ := obind g2
    cases g3
    obtain ⟨-, vals, q1, q2, q3⟩ := ev1_sound h1 hf
    obtain ⟨p1, p2⟩ := evs_sound (P := P) hf h2
    refine ⟨args.map a.eval ++ vals.toList, ?_, fun o ats ho => ?_⟩
    · refine VsRel.append ⟨by simp [p1], fun j v hj => ?_⟩ ⟨by simp [capAVs, q2], fun j v hj => ?_⟩
      · obtain ⟨x, e1, e2⟩ := p2 j v hj
        exact ⟨a.eval x, by simp [e1], e2⟩
      · simp only [capAVs] at hj
        rw [List.getElem?_map] at hj
        cases hc : caps[j]? with
        | none => rw [hc] at hj; cases hj
        | some rc =>
          obtain ⟨r, off⟩ := rc
          rw [hc] at hj
          cases hj
          obtain ⟨e1, e2⟩ := q3 j r off hc
          have hj : j < vals.size := by
            rw [q2]
            rcases Nat.lt_or_ge j caps.length with q | q
            · exact q
            · rw [List.getElem?_eq_none q] at hc; cases hc
          have hbox : ∃ cs, X.H.get r = some (.box cs) := by
            have := hlive (r, off) (List.mem_of_getElem? hc)
            unfold isBox at this
            split at this
            · exact ⟨_, by assumption⟩
            · cases this
          obtain ⟨cs, hcs⟩ := hbox
          obtain ⟨b, e3, e4⟩ := e2 cs hcs
          refine ⟨_, by simpa using e4, AVRel.mk ⟨rfl, e1, fun cs' hg => ?_⟩⟩
          obtain ⟨b', e5, e6⟩ := e2 cs' hg
          rw [e3] at e5; cases e5
          exact ⟨b, e3, rfl⟩
    · unfold fnOk at hok
      split at hok
      · rename_i fn hfn
        simp only [Bool.and_eq_true, Bool.not_eq_true'] at hok
        have hb : fn.body.isNone = false := by
          cases hb : fn.body with
          | none => rw [hb] at hok; simp at hok
          | some c => rfl
        simp only [execOp, ho, resolve, Deferred.ofValue, q1, Sem.run_bind, Sem.run_pure, Result.andThen_ok, invoke, callFunc, run_program, hfn]
        simp only [hok.1, Bool.false_eq_true, if_false, hb, Sem.run_pure]
        congr 2
        simp
      · cases hok
  · cases g1

end
end Go.Proofs.Ytgmcefnlcalagaa.AM
