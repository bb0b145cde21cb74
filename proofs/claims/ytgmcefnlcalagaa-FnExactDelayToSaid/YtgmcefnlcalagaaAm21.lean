/- The abstract machine: one operation of a drawn order. No condition. -/
import Derived.Test.YtgmcefnlcalagaaAm20
namespace Go.Proofs.Ytgmcefnlcalagaa.AM
open Go Go.RowKit
set_option linter.unusedSimpArgs false
set_option linter.unusedVariables false

section
variable {P : Program} {G : FuncId → Option CE} {l : List Oper} {m : Nat} {FR : Nat → List (Nat × D)} {NN : Nat → Nat} {NW : Nat → List (Nat × Nat × Blk)} {OUT : Nat → D × List Blk}
variable {Z : Nat → Prop} {X0 : Cx} {N : Nat} {a0 a : Act} {p : Nat → Bool} {w : World} {ι : Nat → Option (Nat × Nat)} {T : Nat → Prop}

/-- The operations that have run, and one more. -/
def more (p : Nat → Bool) (i : Nat) : Nat → Bool := fun j => p j || Nat.beq j i

theorem more_iff {i j : Nat} : more p i j = true ↔ p j = true ∨ j = i := by
  unfold more
  rw [Bool.or_eq_true]
  exact ⟨fun h => h.imp id Nat.eq_of_beq_eq_true, fun h => h.imp id (fun e => by subst e; exact Nat.beq_refl _)⟩

theorem InvA.put (h : Drw P G l m X0.H X0.n FR NN NW OUT) (h0 : HR Z X0) (hZ : ∀ b, Z b → b < X0.w.heap.size) (hi : InvA l m NN NW OUT Z X0 N a0 p a w ι T) {i : Nat} {o : Oper} (him : i < m) (ho : l[i]? = some o) (hpi : p i = false)
    (hanc : ∀ j, Nat.testBit ((ancs l []).getD i 0) j = true → p j = true) (hed : ∀ e ∈ o.after, Region.binds .any e = true → p e.on = true) (hd : dstOk N o = true) {X' : Cx} {v : Value}
    (hg : GR ⟨ι, T, w, vis (Nat.testBit ((ancs l []).getD i 0)) (NW m) ++ X0.H, NN i⟩ (OUT i).2 X') (hv : DRel X' (OUT i).1 v) :
    ∃ ι' T', InvA l m NN NW OUT Z X0 N a0 (more p i) (a.put o.dst v) X'.w ι' T' := by
  obtain ⟨o', ho', s⟩ := h.at him
  rw [ho] at ho'; cases ho'
  have hnn : NN (i + 1) = NN i + (OUT i).2.length := s.nn
  have hri : ∀ {r : Nat} {b : Blk}, (i, r, b) ∈ NW m → NN i ≤ r ∧ r < NN i + (OUT i).2.length ∧ (OUT i).2[r - NN i]? = some b := fun hm => by
    obtain ⟨-, -, c2, c3, c4⟩ := h.range hm
    exact ⟨c2, by omega, c4⟩
  have hrj : ∀ {j r : Nat} {b : Blk}, (j, r, b) ∈ NW m → j ≠ i → ¬ (NN i ≤ r ∧ r < NN i + (OUT i).2.length) := fun {j r b} hm hne hc => by
    obtain ⟨c1, -, c2, c3, -⟩ := h.range hm
    exact hne (h.same c1 him c2 c3 hc.1 (by omega))
  have hge : X0.n ≤ NN i := h.ge (Nat.le_of_lt him)
  have hbel : Below w.heap.size w X'.w := hg.below
  let ι' : Nat → Option (Nat × Nat) := fun r => if NN i ≤ r ∧ r < NN i + (OUT i).2.length then X'.ι r else ι r
  let X1 : Cx := ⟨ι', X'.T, X'.w, vis (more p i) (NW m) ++ X0.H, NN m⟩
  have ιnew : ∀ {r : Nat}, NN i ≤ r ∧ r < NN i + (OUT i).2.length → ι' r = X'.ι r := fun q => if_pos q
  have ιold : ∀ {r : Nat}, ¬ (NN i ≤ r ∧ r < NN i + (OUT i).2.length) → ι' r = ι r := fun q => if_neg q
  have hι0 : ∀ r b, X0.H.get r = some b → ι' r = X0.ι r := fun r b hq => by
    have := (h0.blk r b hq).1
    rw [ιold (by omega)]
    exact hi.ιold h h0 hq
  have hbel0 : Below X0.w.heap.size X0.w X'.w := hi.below.trans (hbel.mono hi.below.size)
  have hT : ∀ b, T b → X'.T b := hg.T
  have hTlt : ∀ b, T b → b < w.heap.size := hi.step.hr.T
  have hle : Le X0 X1 := h.leX h0 (h.ge (Nat.le_refl m)) hbel0 (fun b hb => hT b (hi.step.le.T b hb)) hι0
  have hsz : X0.w.heap.size ≤ w.heap.size := hi.below.size
  -- an old block's place
  have oldlt : ∀ r b k o, Heap.get (vis p (NW m) ++ X0.H) r = some b → ι r = some (k, o) → k < w.heap.size := fun r b k o hq hk => own_lt (X := ⟨ι, T, w, vis p (NW m) ++ X0.H, NN m⟩) (hi.step.hr.blk r b hq).2 hk
  -- each block of the new heap is new or was there
  have cases' : ∀ r b, Heap.get (vis (more p i) (NW m) ++ X0.H) r = some b → ((NN i ≤ r ∧ r < NN i + (OUT i).2.length) ∧ (OUT i).2[r - NN i]? = some b) ∨ (¬ (NN i ≤ r ∧ r < NN i + (OUT i).2.length) ∧ Heap.get (vis p (NW m) ++ X0.H) r = some b) := fun r b hq => by
    rcases getV h0.blk hq with ⟨j, h1, h2⟩ | ⟨h1, h2⟩
    · by_cases e : j = i
      · subst e
        obtain ⟨c1, c2, c3⟩ := hri h2
        exact .inl ⟨⟨c1, c2⟩, c3⟩
      · refine .inr ⟨hrj h2 e, h.getNew ?_ h2⟩
        exact (more_iff.1 h1).resolve_right e
    · refine .inr ⟨by omega, ?_⟩
      rw [h.getOld h2]; exact h1
  have freshk : ∀ r b k o, (NN i ≤ r ∧ r < NN i + (OUT i).2.length) → (OUT i).2[r - NN i]? = some b → X'.ι r = some (k, o) → w.heap.size ≤ k ∧ ¬ X'.T k := fun r b k o hr hb hk => by
    have := hg.fresh (r - NN i) b k o hb (by show X'.ι (NN i + (r - NN i)) = _; rw [show NN i + (r - NN i) = r from by omega]; exact hk)
    exact this
  have hstep : Step Z X0 X1 := by
    refine ⟨hle, ⟨fun r b hq => ?_, fun r r' b b' k o1 o2 g g' i1 i2 => ?_, fun r b k o1 g i1 => ?_, fun b hb => ?_⟩, ?_, fun b hb => ?_⟩
    · rcases getV h0.blk hq with ⟨j, h1, h2⟩ | ⟨h1, h2⟩
      · obtain ⟨c1, c2, c3, c4, c5⟩ := h.range h2
        refine ⟨by show r < NN m; have := h.mono (i := j + 1) (j := m) (by omega) (Nat.le_refl m); omega, ?_⟩
        by_cases e : j = i
        · subst e
          obtain ⟨d1, d2, d3⟩ := hri h2
          have hB := hg.new (r - NN j) b d3
          rw [show (⟨ι, T, w, vis (Nat.testBit ((ancs l []).getD j 0)) (NW m) ++ X0.H, NN j⟩ : Cx).n + (r - NN j) = r from by show NN j + (r - NN j) = r; omega] at hB
          exact arr_BRel (X := X') (X' := X1) (h.isArr h2) (ιnew ⟨d1, d2⟩) (fun _ x => x) (fun _ _ => rfl) (fun _ _ _ => rfl) hB
        · have hp : p j = true := (more_iff.1 h1).resolve_right e
          have hq' := h.getNew hp h2
          have hB := (hi.step.hr.blk r b hq').2
          exact arr_BRel (X' := X1) (h.isArr h2) (ιold (hrj h2 e)) hT (fun b hb => hbel.block b (hTlt b hb)) (fun k o hk => hbel.block k (oldlt r b k o hq' hk)) hB
      · refine ⟨Nat.lt_of_lt_of_le h2 (h.ge (Nat.le_refl m)), (h0.blk r b h1).2.mono hle (hι0 r b h1) fun k o hk => ?_⟩
        exact hbel0.block k (own_lt (h0.blk r b h1).2 hk)
    · have i1' : ι' r = some (k, o1) := i1
      have i2' : ι' r' = some (k, o2) := i2
      rcases cases' r b g with ⟨c1, c2⟩ | ⟨c1, c2⟩ <;> rcases cases' r' b' g' with ⟨d1, d2⟩ | ⟨d1, d2⟩
      · rw [ιnew c1] at i1'; rw [ιnew d1] at i2'
        have := hg.inj (r - NN i) (r' - NN i) k o1 o2 (by omega) (by omega) (by show X'.ι (NN i + (r - NN i)) = _; rw [show NN i + (r - NN i) = r from by omega]; exact i1') (by show X'.ι (NN i + (r' - NN i)) = _; rw [show NN i + (r' - NN i) = r' from by omega]; exact i2')
        omega
      · rw [ιnew c1] at i1'; rw [ιold d1] at i2'
        have q1 := (freshk r b k o1 c1 c2 i1').1
        have q2 := oldlt r' b' k o2 d2 i2'
        omega
      · rw [ιold c1] at i1'; rw [ιnew d1] at i2'
        have q1 := (freshk r' b' k o2 d1 d2 i2').1
        have q2 := oldlt r b k o1 c2 i1'
        omega
      · rw [ιold c1] at i1'; rw [ιold d1] at i2'
        exact hi.step.hr.inj r r' b b' k o1 o2 c2 d2 i1' i2'
    · have i1' : ι' r = some (k, o1) := i1
      rcases cases' r b g with ⟨c1, c2⟩ | ⟨c1, c2⟩
      · rw [ιnew c1] at i1'
        obtain ⟨q1, q2⟩ := freshk r b k o1 c1 c2 i1'
        exact ⟨q2, fun hz => by have := hZ k hz; omega⟩
      · rw [ιold c1] at i1'
        obtain ⟨q1, q2⟩ := hi.step.hr.apart r b k o1 c2 i1'
        have hlt := oldlt r b k o1 c2 i1'
        exact ⟨fun ht => (hg.T' k ht).elim q1 (fun q => absurd hlt (Nat.not_lt.2 q.1)), q2⟩
    · rcases hg.T' b hb with q | q
      · exact Nat.lt_of_lt_of_le (hTlt b q) hbel.size
      · exact q.2
    · exact hi.step.keep.trans (Keep.of_below hbel fun b hz => Nat.lt_of_lt_of_le (hZ b hz) hsz)
    · rcases hg.T' b hb with q | q
      · exact hi.step.T b q
      · exact .inr fun hz => by have := hZ b hz; have : w.heap.size ≤ b := q.1; omega
  have hone : ∀ j o1 t, j < m → l[j]? = some o1 → o1.dst = some t → o.dst = some t → j = i := fun j o1 t hj h1 h2 h3 => h.writes j o1 t hj h1 h2 i o him ho h3
  refine ⟨ι', X'.T, hstep, hbel0, fun t ht => ?_, fun j o1 t hj hp h1 h2 => ?_, by rw [AM.put_size, hi.size], by rw [AM.put_defers, hi.defers], fun j o1 hp h1 e he hb => ?_, fun j hp => ?_⟩
  · rw [← hi.old t fun j o1 hj hp h1 => ht j o1 hj (more_iff.2 (.inl hp)) h1]
    have hne : o.dst ≠ some t := ht i o him (more_iff.2 (.inr rfl)) ho
    cases hds : o.dst with
    | none => rfl
    | some t' =>
      have : t' ≠ t := fun e => hne (by rw [hds, e])
      simp [Act.put, this]
  · by_cases e : j = i
    · subst e
      rw [ho] at h1; cases h1
      refine ⟨v, ?_, DRel.on (X := X') (X' := X1) (S := fun r => r < X0.n ∨ ∃ k b, (k = j ∨ Nat.testBit ((ancs l []).getD j 0) k = true) ∧ (k, r, b) ∈ NW m) ⟨fun r hr => ?_, fun b hb => hb, fun _ _ => rfl, fun r b hr hq => ?_, fun b cs t fz hb => ⟨cs, t, fz, hb, rfl⟩⟩ (h.refs him) hv⟩
      · rw [h2]
        have : t < a.tmps.size := by rw [hi.size]; exact dstOk_lt hd t h2
        simp [Act.put, this]
      · show r < NN m
        rcases hr with q | ⟨k, b, -, q⟩
        · exact Nat.lt_of_lt_of_le q (h.ge (Nat.le_refl m))
        · obtain ⟨c1, -, -, c4, -⟩ := h.range q
          have := h.mono (i := k + 1) (j := m) (by omega) (Nat.le_refl m); omega
      · rw [hg.H, Heap.get_new]
        have hq' : Heap.get (vis (more p j) (NW m) ++ X0.H) r = some b := hq
        show (if NN j ≤ r ∧ r < NN j + (OUT j).2.length then (OUT j).2[r - NN j]? else Heap.get (vis (Nat.testBit ((ancs l []).getD j 0)) (NW m) ++ X0.H) r) = some b ∧ ι' r = X'.ι r
        rcases cases' r b hq' with ⟨c1, c2⟩ | ⟨c1, c2⟩
        · rw [if_pos c1]
          exact ⟨c2, ιnew c1⟩
        · rw [if_neg c1]
          rcases hr with q | ⟨k, b', q1, q2⟩
          · refine ⟨by rw [h.getOld q, ← h.getOld q]; exact c2, ?_⟩
            rw [ιold c1]
            exact (hg.ι r (Nat.lt_of_lt_of_le q hge)).symm
          · have hk : k ≠ j := fun e => by subst e; obtain ⟨d1, d2, -⟩ := hri q2; exact c1 ⟨d1, d2⟩
            have hb := q1.resolve_left hk
            have hg1 := h.getNew (q := Nat.testBit ((ancs l []).getD j 0)) hb q2
            have hg2 := h.getNew (q := p) (hanc k hb) q2
            rw [hg2] at c2; cases c2
            refine ⟨hg1, ?_⟩
            rw [ιold c1]
            have hkj := h.anc_lt j o ho k hb
            obtain ⟨-, -, -, d4, -⟩ := h.range q2
            have := h.mono (i := k + 1) (j := j) (by omega) (by omega)
            exact (hg.ι r (by show r < NN j; omega)).symm
    · have hpj : p j = true := (more_iff.1 hp).resolve_right e
      obtain ⟨u, e1, e2⟩ := hi.outs j o1 t hj hpj h1 h2
      refine ⟨u, ?_, DRel.on (X' := X1) (S := fun r => r < X0.n ∨ ∃ k b, (k = j ∨ Nat.testBit ((ancs l []).getD j 0) k = true) ∧ (k, r, b) ∈ NW m) ⟨fun r hr => ?_, hT, fun b hb => hbel.block b (hTlt b hb), fun r b hr hq => ?_, fun b cs t fz hb => ⟨cs, t, fz, (hbel.block b (lt_of_cells hb)).trans hb, rfl⟩⟩ (h.refs hj) e2⟩
      · rw [← e1]
        cases hds : o.dst with
        | none => rfl
        | some t' =>
          have : t' ≠ t := fun q => e (hone j o1 t hj h1 h2 (by rw [hds, q]))
          simp [Act.put, this]
      · show r < NN m
        rcases hr with q | ⟨k, b, -, q⟩
        · exact Nat.lt_of_lt_of_le q (h.ge (Nat.le_refl m))
        · obtain ⟨c1, -, -, c4, -⟩ := h.range q
          have := h.mono (i := k + 1) (j := m) (by omega) (Nat.le_refl m); omega
      · have hq' : Heap.get (vis (more p i) (NW m) ++ X0.H) r = some b := hq
        have hnot : ¬ (NN i ≤ r ∧ r < NN i + (OUT i).2.length) := by
          rcases hr with q | ⟨k, b', q1, q2⟩
          · omega
          · refine hrj q2 fun ek => ?_
            subst ek
            rcases q1 with q1 | q1
            · exact e q1.symm
            · have hpk := h.anc_listed hi.closed j o1 h1 (fun e' he' hb' => hi.closed j o1 hpj h1 e' he' hb') k q1
              rw [hpi] at hpk; cases hpk
        rcases cases' r b hq' with ⟨c1, -⟩ | ⟨-, c2⟩
        · exact absurd c1 hnot
        · exact ⟨c2, ιold hnot⟩
  · rcases more_iff.1 hp with q | q
    · exact more_iff.2 (.inl (hi.closed j o1 q h1 e he hb))
    · subst q
      rw [ho] at h1; cases h1
      exact more_iff.2 (.inl (hed e he hb))
  · rcases more_iff.1 hp with q | q
    · exact hi.head j q
    · omega

end
end Go.Proofs.Ytgmcefnlcalagaa.AM
