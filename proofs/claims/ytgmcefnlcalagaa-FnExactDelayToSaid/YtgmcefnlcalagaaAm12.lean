/- The abstract machine: stores and appends. No condition. -/
import Derived.Test.YtgmcefnlcalagaaAm11
namespace Go.Proofs.Ytgmcefnlcalagaa.AM
open Go Go.RowKit
set_option linter.unusedSimpArgs false
set_option linter.unusedVariables false

section
variable {α : Type} {P : Program} {Z : Nat → Prop}

/-- A row of cells laid over a block. -/
def laid (cs : Array Value) (o : Nat) (l : List Value) : Array Value := (cs.toList.take o ++ l ++ cs.toList.drop (o + l.length)).toArray

theorem laid_size {cs : Array Value} {o : Nat} {l : List Value} (h : o + l.length ≤ cs.size) : (laid cs o l).size = cs.size := by
  simp [laid]; omega

theorem laid_get {cs : Array Value} {o : Nat} {l : List Value} (h : o + l.length ≤ cs.size) (j : Nat) : (laid cs o l)[j]? = if o ≤ j ∧ j < o + l.length then l[j - o]? else cs[j]? := by
  have hc : cs.toList.length = cs.size := by simp
  unfold laid
  rw [List.getElem?_toArray]
  by_cases h1 : j < o
  · rw [if_neg (by omega), List.append_assoc, List.getElem?_append_left (by simp; omega), List.getElem?_take, if_pos h1]; simp
  · by_cases h2 : j < o + l.length
    · rw [if_pos (by omega), List.append_assoc, List.getElem?_append_right (by simp; omega), List.getElem?_append_left (by simp; omega)]
      congr 1
      simp; omega
    · rw [if_neg (by omega), List.getElem?_append_right (by simp; omega), List.getElem?_drop]
      simp
      congr 1
      omega

theorem storeVar_run {w : World} {t : TypeId} {b o : Nat} {u : Value} {cs : Array Value} {t' : TypeId} (hs : szT P t = some u.cells.size) (hb : w.heap[b]? = some (.cells cs t' (0, 0))) (hl : o + u.cells.size ≤ cs.size) (h1 : ∀ v ∈ u.cells.toList, v.oneCell' = true) :
    (storeVar t ⟨b, o, none⟩ u).run P w = .ok () (w.setRow b (laid cs o u.cells.toList)) := by
  have := run_storeCells_at P b o t' u.cells.toList 0 cs w hb (by simpa using hl) h1
  unfold storeVar
  simp only [Sem.run_bind, szT_run hs, Result.andThen_ok]
  rw [if_neg (by simp)]
  exact this

theorem storeA_sound {X : Cx} {t : TypeId} {c : Cell} {v : AV} {p u : Value} {H' : Heap} (h : storeA P X.H t c v = some H') (hr : HR Z X) (hc : CRel X c p) (hv : AVRel X v u) :
    ∃ X', Step Z X X' ∧ X'.H = H' ∧ X'.n = X.n ∧ (Instr.storeAt t p u).run P X.w = .ok () X'.w := by
  unfold storeA at h
  obtain ⟨hz, g0⟩ := bif_true h
  have hvc := hv.cells
  have hsz : u.cells.size = v.cs.length := by have := hvc.1; simpa using this
  have hs : szT P t = some u.cells.size := by rw [hsz]; exact eqSz_sound hz
  split at g0
  · rename_i r off
    split at g0
    · rename_i cs hg
      obtain ⟨hle, g1⟩ := bif_true g0
      cases g1
      have hle := Nat.le_of_ble_eq_true hle
      obtain ⟨b, q1, q2⟩ := hc.2.2 cs hg
      obtain ⟨-, b', vs, t', q3, q4, q5⟩ := hr.blk r _ hg
      rw [q1] at q3; cases q3
      have hcl : vs.size = cs.length := by have := q5.1; simpa using this
      have hsz2 := laid_size (cs := vs) (o := off) (l := u.cells.toList) (by simp; omega)
      have hst := write_step (blk' := .box (splice cs off v.cs)) hr hg q1 q4 hsz2 trivial
        ⟨b, laid vs off u.cells.toList, t', q1, setRow_heap _ _ _ _ _ _ q4, by
          have hle' := write_le (blk' := .box (splice cs off v.cs)) hr hg q1 q4 hsz2 trivial
          have := (q5.splice hvc off).mono hle'
          simpa [laid] using this⟩
      refine ⟨_, hst, rfl, rfl, ?_⟩
      subst q2
      simp only [Instr.storeAt, Instr.sureAddr, Sem.run_bind, Sem.run_pure, Result.andThen_ok]
      exact storeVar_run hs q4 (by omega) (fun x hx => hvc.ones x hx)
    · cases g0
  · rename_i r v0 i k
    obtain ⟨pq, g1, g2⟩ := obind g0
    split at g2
    · rename_i v' e xs hg
      obtain ⟨hv0, g3⟩ := bif_true g2
      simp only [Bool.and_eq_true] at hv0
      have hkl := Nat.le_of_ble_eq_true hv0.2
      have hv0 := Nat.eq_of_beq_eq_true hv0.1
      split at g3
      · rename_i x hrd
        cases g3
        obtain ⟨T', s1, s2, s3⟩ := frz_sound (Z := Z) g1 hr hvc
        have hc' : CRel ⟨X.ι, T', X.w, pq.2, X.n⟩ (.elt r v0 i k) p := hc.mono s1.le
        obtain ⟨p1, p2⟩ := hc'.2.2 v' e xs hg
        obtain ⟨hi, b, o, q1, q2⟩ := p2 hv0
        have hB := (s1.hr.blk r _ hg).2
        rcases hB with ⟨q3, -⟩ | ⟨b', o', cs, t', q3, q4, q5, q6⟩
        · rw [show X.ι r = none from q3] at q1; cases q1
        · rw [show X.ι r = some (b', o') from q3] at q1
          cases q1
          have hx0 : xs[i]? = some (xs.getD i e.zero) := by simp [List.getD, List.getElem?_eq_getElem hi]
          obtain ⟨row, q7, q8⟩ := q6 i _ hx0
          have hrowlen := q7.len
          have hul : u.cells.toList.length = u.cells.size := by simp
          have hsp : CsRel ⟨X.ι, T', X.w, pq.2, X.n⟩ (splice (e.flat (xs.getD i e.zero)) k pq.1) (row.take k ++ u.cells.toList ++ row.drop (k + u.cells.toList.length)) := (flat_rel q7).splice s2 k
          obtain ⟨hx, hrest⟩ := rd_tree hsp hrd
          have hfull : (row.take k ++ u.cells.toList ++ row.drop (k + u.cells.toList.length)).length = e.sz := by
            simp only [List.length_append, List.length_take, List.length_drop]
            omega
          rw [List.take_of_length_le (by omega)] at hx
          have hmul : (i + 1) * e.sz ≤ xs.length * e.sz := Nat.mul_le_mul_right _ hi
          rw [Nat.add_mul, Nat.one_mul] at hmul
          have hfit : (o + i * e.sz + k) + u.cells.toList.length ≤ cs.size := by
            have : o + xs.length * e.sz ≤ cs.size := q5
            omega
          have hsz2 := laid_size (cs := cs) hfit
          have hle' := write_le (blk' := .arr v' e (xs.set i x)) s1.hr hg q3 q4 hsz2 ⟨rfl, rfl, by simp⟩
          have hst := write_step (blk' := .arr v' e (xs.set i x)) s1.hr hg q3 q4 hsz2 ⟨rfl, rfl, by simp⟩
            (.inr ⟨b, o, laid cs (o + i * e.sz + k) u.cells.toList, t', q3, setRow_heap _ _ _ _ _ _ q4, by simp; rw [hsz2]; exact q5, fun i' x' hx' => by
              by_cases hii : i = i'
              · subst hii
                rw [List.getElem?_set_self hi] at hx'
                cases hx'
                refine ⟨_, TRel.mono hle'.T hle'.blk hx, fun j z hz => ?_⟩
                rw [laid_get hfit]
                have hj : j < e.sz := by
                  rw [← hfull]
                  rcases Nat.lt_or_ge j _ with q | q
                  · exact q
                  · rw [List.getElem?_eq_none q] at hz; cases hz
                by_cases hjk : j < k
                · rw [if_neg (by omega)]
                  rw [List.append_assoc, List.getElem?_append_left (by simp; omega), List.getElem?_take, if_pos hjk] at hz
                  exact q8 j z hz
                · by_cases hjk2 : j < k + u.cells.toList.length
                  · rw [if_pos (by omega)]
                    rw [List.append_assoc, List.getElem?_append_right (by simp; omega), List.getElem?_append_left (by simp; omega)] at hz
                    rw [← hz]
                    congr 1
                    simp; omega
                  · rw [if_neg (by omega)]
                    rw [List.getElem?_append_right (by simp; omega), List.getElem?_drop] at hz
                    refine q8 j z ?_
                    rw [← hz]
                    congr 1
                    simp; omega
              · rw [List.getElem?_set_ne hii] at hx'
                obtain ⟨row', q9, q10⟩ := q6 i' x' hx'
                refine ⟨row', TRel.mono hle'.T hle'.blk q9, fun j z hz => ?_⟩
                have hj := row_lt q9 hz
                rw [laid_get hfit, if_neg]
                · exact q10 j z hz
                · rintro ⟨a1, a2⟩
                  exact hii (mul_add_inj (s := e.sz) (i := i) (i' := i') (j := o + i' * e.sz + j - (o + i * e.sz)) (j' := j) (by omega) (by omega) hj).1⟩)
          refine ⟨_, s1.trans hst, rfl, rfl, ?_⟩
          subst q2
          simp only [Instr.storeAt, Instr.sureAddr, Sem.run_bind, Sem.run_pure, Result.andThen_ok]
          exact storeVar_run hs q4 (by omega) (fun x hx => hvc.ones x hx)
      · cases g3
    · cases g2
  · cases g0

end
end Go.Proofs.Ytgmcefnlcalagaa.AM
