/- The abstract machine: structs, slices and typed reading. No condition. -/
import Derived.Test.YtgmcefnlcalagaaAm6
import Derived.Great.FillDense
import Derived.Laws.Tables
namespace Go.Proofs.Ytgmcefnlcalagaa.AM
open Go Go.RowKit
set_option linter.unusedSimpArgs false
set_option linter.unusedVariables false

section
variable {α : Type} {P : Program} {X : Cx} {fr : List (Nat × D)} {a : Act} {ty : TypeId} {k : D → List Blk → Option α} {r : α}

/-- Cells laid over an array from 'off' on. -/
theorem setAll_list (off : Nat) (u : Array Value) (cells : Array Value) (h : off + u.size ≤ cells.size) :
    (u.zipIdx.foldl (fun cs (x : Value × Nat) => cs.setIfInBounds (off + x.2) x.1) cells).toList = cells.toList.take off ++ u.toList ++ cells.toList.drop (off + u.size) := by
  have e : u.zipIdx.foldl (fun cs (x : Value × Nat) => cs.setIfInBounds (off + x.2) x.1) cells = (u.toList.zipIdx 0).foldl (fun cs (x : Value × Nat) => cs.setIfInBounds (off + x.2) x.1) cells := by
    rw [← Array.foldl_toList, Array.toList_zipIdx]
  rw [e]
  obtain ⟨h1, h2⟩ := Great.foldl_set off u.toList 0 cells
  apply List.ext_getElem?
  intro j
  rw [Array.getElem?_toList, h2 j]
  have hl : u.toList.length = u.size := by simp
  have hc : cells.toList.length = cells.size := by simp
  by_cases h3 : j < off
  · rw [if_neg (by omega), List.append_assoc, List.getElem?_append_left (by simp; omega), List.getElem?_take, if_pos h3]; simp
  · by_cases h4 : j < off + u.size
    · rw [if_pos (by omega), List.append_assoc, List.getElem?_append_right (by simp; omega), List.getElem?_append_left (by simp; omega)]
      congr 1
      simp; omega
    · rw [if_neg (by omega), List.getElem?_append_right (by simp; omega), List.getElem?_drop]
      simp
      congr 1
      omega

theorem CsRel.splice {cs l : List Cell} {vs us : List Value} (h : CsRel X cs vs) (hl : CsRel X l us) (n : Nat) : CsRel X (splice cs n l) (vs.take n ++ us ++ vs.drop (n + us.length)) := by
  unfold AM.splice
  rw [← hl.1]
  exact ((h.take n).append hl).append (h.drop _)

def PartsRel (X : Cx) : List (Nat × AV) → List (Nat × Value) → Prop
  | [], [] => True
  | (i, v) :: vs, (j, u) :: us => i = j ∧ AVRel X v u ∧ PartsRel X vs us
  | _, _ => False

theorem evParts_sound {t : Nat → Option TypeId} (hf : FRel X fr a.tmps) : ∀ {ps : List (Nat × Operand)} {vs : List (Nat × AV)}, evParts P fr t ps = some vs → PartsRel X vs (ps.map fun x => (x.1, a.eval x.2)) := by
  intro ps
  induction ps with
  | nil => intro vs h; cases h; trivial
  | cons p ps ih =>
    intro vs h
    obtain ⟨i, x⟩ := p
    simp only [evParts] at h
    obtain ⟨ti, h1, g1⟩ := obind h
    obtain ⟨v, h2, g2⟩ := obind g1
    obtain ⟨vs', h3, g3⟩ := obind g2
    cases g3
    exact ⟨rfl, ev_sound h2 hf, ih h3⟩

theorem fill_sound {places : List (Nat × Nat)} : ∀ {vs : List (Nat × AV)} {us : List (Nat × Value)} {cs cs' : List Cell} {cells : Array Value}, PartsRel X vs us → CsRel X cs cells.toList → fillC places cs vs = some cs' →
    ∃ cells', Instr.fill (places.toArray[·]?) cells us = some cells' ∧ CsRel X cs' cells'.toList := by
  intro vs
  induction vs with
  | nil =>
    intro us cs cs' cells hp hc h
    cases us with
    | nil => cases h; exact ⟨cells, rfl, hc⟩
    | cons u us => exact hp.elim
  | cons v vs ih =>
    intro us cs cs' cells hp hc h
    obtain ⟨i, v⟩ := v
    cases us with
    | nil => exact hp.elim
    | cons u us =>
      obtain ⟨j, u⟩ := u
      obtain ⟨rfl, hv, hp⟩ := hp
      simp only [fillC] at h
      obtain ⟨p, h1, g1⟩ := obind h
      obtain ⟨h2, g2⟩ := bif_true g1
      simp only [Bool.and_eq_true] at h2
      have h3 := Nat.eq_of_beq_eq_true h2.1
      have h4 := Nat.le_of_ble_eq_true h2.2
      have hu := hv.cells
      have hlen : u.cells.size = v.cs.length := by have := hu.1; simpa using this
      have hcl : cells.size = cs.length := by have := hc.1; simpa using this
      have hs := hc.splice hu p.1
      rw [show u.cells.toList.length = u.cells.size from by simp, ← setAll_list p.1 u.cells cells (by omega)] at hs
      obtain ⟨cells', h5, h6⟩ := ih hp hs g2
      refine ⟨cells', ?_, h6⟩
      unfold Instr.fill
      have h7 : places.toArray[i]? = some (p.1, p.2) := by simpa using h1
      simp only [h7]
      rw [if_neg (by simp; omega)]
      exact h5

theorem pop_build {t : TypeId} {parts : Array (Nat × Operand)} (h : pop P X.H X.n fr ty (.build t parts) k = some r) (hf : FRel X fr a.tmps) : ∃ d bs, k d bs = some r ∧ Runs P a X ty (.build t parts) d bs := by
  simp only [pop] at h
  obtain ⟨fs, h1, g1⟩ := obind h
  obtain ⟨places, h2, g2⟩ := obind g1
  obtain ⟨z, h3, g3⟩ := obind g2
  obtain ⟨vs, h4, g4⟩ := obind g3
  obtain ⟨cs, h5, g5⟩ := obind g4
  obtain ⟨F, h6, h7⟩ := fieldsT_run h1
  have hp := evParts_sound hf h4
  unfold zeroAV at h3
  split at h3
  · rename_i i hi
    obtain ⟨zv, h8, h9⟩ := obind h3
    obtain ⟨cells', h10, h11⟩ := fill_sound hp (cst_sound h9 X).cells h5
    have hb : P.built t (parts.map fun (i, x) => (i, a.eval x)).toList = some cells' := by
      unfold Program.built
      rw [hi, h6]
      simp only [h8, h7, h2]
      rw [Array.toList_map]
      exact h10
    refine ⟨_, _, g5, Runs.same (.agg cells') (AVRel.mkAgg h11) fun o ho => ?_⟩
    simp only [execOp, ho, Sem.run_bind, run_build X.w t _ _ hb, Result.andThen_ok]
    rfl
  · cases h3

/-! ### Typed reading -/

theorem rd_sound {S : Nat → Prop} {H : Heap} (hS : ∀ b, X.T b → S b) (hsub : ∀ r b, H.get r = some b → BRel X r b ∧ X.H.get r = some b) (hO : ∀ r b k o, H.get r = some b → X.ι r = some (k, o) → S k) :
    ∀ {τ : Ty} {cs rest : List Cell} {vs : List Value} {x : τ.T}, CsRel X cs vs → rd H τ cs = some (x, rest) → TRel S X.w τ x (vs.take τ.sz) ∧ CsRel X rest (vs.drop τ.sz) := by
  intro τ
  induction τ with
  | int ik =>
    intro cs rest vs x hc h
    cases cs with
    | nil => cases h
    | cons c cs =>
      cases c <;> try cases h
      rename_i k' n
      simp only [rd] at h
      split at h
      · cases h
        rename_i e; subst e
        cases vs with
        | nil => exact absurd hc.1 (by simp)
        | cons v vs =>
          obtain ⟨u, h1, h2⟩ := hc.2 0 _ rfl
          cases h1
          rw [show v = _ from h2.2]
          exact ⟨rfl, hc.drop 1⟩
      · cases h
  | bool =>
    intro cs rest vs x hc h
    cases cs with
    | nil => cases h
    | cons c cs =>
      cases c <;> cases h
      cases vs with
      | nil => exact absurd hc.1 (by simp)
      | cons v vs =>
        obtain ⟨u, h1, h2⟩ := hc.2 0 _ rfl
        cases h1
        rw [show v = _ from h2.2]
        exact ⟨rfl, hc.drop 1⟩
  | str =>
    intro cs rest vs x hc h
    cases cs with
    | nil => cases h
    | cons c cs =>
      cases c <;> cases h
      cases vs with
      | nil => exact absurd hc.1 (by simp)
      | cons v vs =>
        obtain ⟨u, h1, h2⟩ := hc.2 0 _ rfl
        cases h1
        rw [show v = _ from h2.2]
        exact ⟨rfl, hc.drop 1⟩
  | unit =>
    intro cs rest vs x hc h
    cases cs with
    | nil => cases h; exact ⟨rfl, hc⟩
    | cons c cs => cases h; exact ⟨rfl, hc⟩
  | prod A B iha ihb =>
    intro cs rest vs x hc h
    have h' : ((rd H A cs).bind fun p => (rd H B p.2).bind fun q => some ((p.1, q.1), q.2)) = some (x, rest) := by
      cases cs with
      | nil => exact h
      | cons c cs => cases c <;> exact h
    obtain ⟨p, h1, g1⟩ := obind h'
    obtain ⟨q, h2, g2⟩ := obind g1
    cases g2
    obtain ⟨t1, c1⟩ := iha hc h1
    obtain ⟨t2, c2⟩ := ihb c1 h2
    refine ⟨⟨_, _, ?_, t1, t2⟩, ?_⟩
    · simp only [Ty.sz]
      rw [List.take_add]
    · simp only [Ty.sz]
      rw [← List.drop_drop]; exact c2
  | slice e ih =>
    intro cs rest vs x hc h
    cases cs with
    | nil => cases h
    | cons c cs =>
      cases vs with
      | nil => exact absurd hc.1 (by simp)
      | cons v vs =>
        obtain ⟨u, h1, h2⟩ := hc.2 0 _ rfl
        cases h1
        have hd : CsRel X cs vs := hc.drop 1
        cases c <;> try cases h
        case sl e' xs =>
          simp only [rd] at h
          split at h
          · rename_i e0
            subst e0
            cases h
            exact ⟨TRel.mono (τ := .slice e') hS (fun _ _ => rfl) h2.2, hd⟩
          · cases h
        case emp e' =>
          simp only [rd] at h
          split at h
          · cases h
            rw [show v = _ from h2.2]
            exact ⟨⟨none, 0, rfl, Nat.le_refl _, .inl rfl⟩, hd⟩
          · cases h
        case own r v0 =>
          simp only [rd] at h
          split at h
          · rename_i v' e' xs hg
            obtain ⟨hv, g1⟩ := bif_true h
            split at g1
            · rename_i e0
              subst e0
              cases g1
              obtain ⟨hB, hX⟩ := hsub _ _ hg
              obtain ⟨A, cap, h3, h4, h5⟩ := (h2.2.2 _ _ _ hX).2 (Nat.eq_of_beq_eq_true hv)
              refine ⟨⟨A, cap, by simp [Ty.sz, h3], h4, ?_⟩, hd⟩
              rcases hB with ⟨-, h6⟩ | ⟨b, o, cells, t, h6, h7, h8, h9⟩
              · exact .inl h6
              · rcases h5 with h5 | ⟨b', o', cs', t', fz, h10, h11, -⟩
                · left; exact List.eq_nil_of_length_eq_zero (show xs.length = 0 by omega)
                · rw [h6] at h10; cases h10
                  refine .inr ⟨b, o, by simpa using h11, hO _ _ _ _ hg h6, fun i y hy => ?_⟩
                  obtain ⟨row, h12, h13⟩ := h9 i y hy
                  exact ⟨row, TRel.mono hS (fun _ _ => rfl) h12, cellsAt_of h7 h13⟩
            · cases g1
          · cases h
        case sub r v0 off len =>
          simp only [rd] at h
          split at h
          · rename_i v' e' xs hg
            obtain ⟨hv, g1⟩ := bif_true h
            split at g1
            · rename_i e0
              subst e0
              cases g1
              obtain ⟨hB, hX⟩ := hsub _ _ hg
              obtain ⟨hle, A, cap, h3, h4, h5⟩ := (h2.2.2 _ _ _ hX).2 (Nat.eq_of_beq_eq_true hv)
              have hln : ((xs.drop off).take len).length = len := by simp; omega
              refine ⟨⟨A, cap, by rw [hln]; simp [Ty.sz, h3], by rw [hln]; exact h4, ?_⟩, hd⟩
              rcases hB with ⟨-, h6⟩ | ⟨b, o, cells, t, h6, h7, h8, h9⟩
              · left; rw [h6]; simp
              · rcases h5 with h5 | ⟨b', o', cs', t', fz, h10, h11, -⟩
                · left; exact List.eq_nil_of_length_eq_zero (by rw [hln]; omega)
                · rw [h6] at h10; cases h10
                  refine .inr ⟨b, o + off * e'.sz, h11, hO _ _ _ _ hg h6, fun i y hy => ?_⟩
                  rw [List.getElem?_take] at hy
                  split at hy
                  · rw [List.getElem?_drop] at hy
                    obtain ⟨row, h12, h13⟩ := h9 _ y hy
                    refine ⟨row, TRel.mono hS (fun _ _ => rfl) h12, cellsAt_of h7 fun j u hu => ?_⟩
                    rw [show o + off * e'.sz + i * e'.sz + j = o + (off + i) * e'.sz + j from by rw [Nat.add_mul]; omega]
                    exact h13 j u hu
                  · cases hy
            · cases g1
          · cases h

/-- Cells without a reference, read. -/
theorem rd_tree {τ : Ty} {cs rest : List Cell} {vs : List Value} {x : τ.T} (hc : CsRel X cs vs) (h : rd [] τ cs = some (x, rest)) : TRel X.T X.w τ x (vs.take τ.sz) ∧ CsRel X rest (vs.drop τ.sz) :=
  rd_sound (S := X.T) (fun _ h => h) (fun _ _ hg => by cases hg) (fun _ _ _ _ hg => by cases hg) hc h

theorem rdAll_tree {τ : Ty} {v : AV} {u : Value} {x : τ.T} (hv : AVRel X v u) (h : rdAll [] τ v = some x) : TRel X.T X.w τ x u.cells.toList := by
  unfold rdAll at h
  split at h
  · rename_i x' he
    cases h
    obtain ⟨h1, h2⟩ := rd_tree hv.cells he
    have h3 : (u.cells.toList.drop τ.sz).length = 0 := h2.1
    have h4 : u.cells.toList.length ≤ τ.sz := by simp at h3 ⊢; omega
    rwa [List.take_of_length_le h4] at h1
  · cases h

end
end Go.Proofs.Ytgmcefnlcalagaa.AM
