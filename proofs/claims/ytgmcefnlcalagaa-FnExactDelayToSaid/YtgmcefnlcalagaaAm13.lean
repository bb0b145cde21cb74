/- The abstract machine: append. No condition. -/
import Derived.Test.YtgmcefnlcalagaaAm12
namespace Go.Proofs.Ytgmcefnlcalagaa.AM
open Go Go.RowKit
set_option linter.unusedSimpArgs false
set_option linter.unusedVariables false

section
variable {α : Type} {P : Program} {Z : Nat → Prop}

theorem trel_one {T : Nat → Prop} {w : World} : ∀ {τ : Ty} {x : τ.T} {vs : List Value}, TRel T w τ x vs → ∀ v ∈ vs, v.oneCell' = true := by
  intro τ
  induction τ with
  | int k => intro x vs h v hv; rw [show vs = _ from h] at hv; simp at hv; subst hv; rfl
  | bool => intro x vs h v hv; rw [show vs = _ from h] at hv; simp at hv; subst hv; rfl
  | str => intro x vs h v hv; rw [show vs = _ from h] at hv; simp at hv; subst hv; rfl
  | unit => intro x vs h v hv; rw [show vs = _ from h] at hv; simp at hv
  | prod a b iha ihb =>
    rintro x vs ⟨v1, v2, e, h1, h2⟩ v hv
    rw [e] at hv
    rcases List.mem_append.1 hv with q | q
    · exact iha h1 v q
    · exact ihb h2 v q
  | slice e ih =>
    rintro x vs ⟨A, cap, e1, -⟩ v hv
    rw [e1] at hv; simp at hv; subst hv; rfl

/-- The elements of a slice's value, whether a tree or an own array. -/
def SlRows (X : Cx) (e : Ty) (ys : List e.T) (u : Value) : Prop :=
  ∃ A cap, u = .slice A ys.length cap ∧ ys.length ≤ cap ∧ (ys = [] ∨ ∃ b o, A = some ⟨b, o, none⟩ ∧ ∀ i y, ys[i]? = some y → ∃ row, TRel X.T X.w e y row ∧ cellsAt X.w b (o + i * e.sz) row)

theorem slRows_of {X : Cx} {e : Ty} {c : Cell} {u : Value} {ys : List e.T} (hH : HBl X) (hc : CRel X c u) (h : rd X.H (.slice e) [c] = some (ys, [])) : SlRows X e ys u := by
  cases c <;> try cases h
  case sl e' xs =>
    simp only [rd] at h
    split at h
    · rename_i e0
      subst e0
      cases h
      obtain ⟨-, A, cap, h1, h2, h3⟩ := hc
      refine ⟨A, cap, by simpa using h1, h2, h3.imp id ?_⟩
      rintro ⟨b, o, q1, q2, q3⟩
      exact ⟨b, o, q1, q3⟩
    · cases h
  case emp e' =>
    simp only [rd] at h
    split at h
    · cases h
      exact ⟨none, 0, hc.2, Nat.le_refl _, .inl rfl⟩
    · cases h
  case own r v0 =>
    simp only [rd] at h
    split at h
    · rename_i v' e' xs hg
      obtain ⟨hv, g1⟩ := bif_true h
      split at g1
      · rename_i e0
        subst e0
        cases g1
        obtain ⟨A, cap, h3, h4, h5⟩ := (hc.2.2 _ _ _ hg).2 (Nat.eq_of_beq_eq_true hv)
        refine ⟨A, cap, h3, h4, ?_⟩
        rcases (hH r _ hg).2 with ⟨-, h6⟩ | ⟨b, o, cells, t, h6, h7, h8, h9⟩
        · exact .inl h6
        · rcases h5 with h5 | ⟨b', o', cs', t', fz, h10, h11, -⟩
          · left; exact List.eq_nil_of_length_eq_zero (show xs.length = 0 by omega)
          · rw [h6] at h10; cases h10
            refine .inr ⟨b, o, by simpa using h11, fun i y hy => ?_⟩
            obtain ⟨row, h12, h13⟩ := h9 i y hy
            exact ⟨row, h12, cellsAt_of h7 h13⟩
      · cases g1
    · cases h
  case sub r v0 off len =>
    simp only [rd] at h
    split at h
    · rename_i v' e' xs hg
      obtain ⟨hv, g1⟩ := bif_true h
      split at g1
      · rename_i e0
        subst e0
        cases g1
        obtain ⟨hle, A, cap, h3, h4, h5⟩ := (hc.2.2 _ _ _ hg).2 (Nat.eq_of_beq_eq_true hv)
        have hln : ((xs.drop off).take len).length = len := by simp; omega
        refine ⟨A, cap, by rw [hln]; exact h3, by rw [hln]; exact h4, ?_⟩
        rcases (hH r _ hg).2 with ⟨-, h6⟩ | ⟨b, o, cells, t, h6, h7, h8, h9⟩
        · left; rw [h6]; simp
        · rcases h5 with h5 | ⟨b', o', cs', t', fz, h10, h11, -⟩
          · left; exact List.eq_nil_of_length_eq_zero (by rw [hln]; omega)
          · rw [h6] at h10; cases h10
            refine .inr ⟨b, o + off * e'.sz, h11, fun i y hy => ?_⟩
            rw [List.getElem?_take] at hy
            split at hy
            · rw [List.getElem?_drop] at hy
              obtain ⟨row, h12, h13⟩ := h9 _ y hy
              refine ⟨row, h12, cellsAt_of h7 fun j u hu => ?_⟩
              rw [show o + off * e'.sz + i * e'.sz + j = o + (off + i) * e'.sz + j from by rw [Nat.add_mul]; omega]
              exact h13 j u hu
            · cases hy
      · cases g1
    · cases h

/-- Reading all elements' cells. -/
theorem first_run {X : Cx} {e : Ty} {ys : List e.T} {u : Value} (h : SlRows X e ys u) {w : World} (hw : ∀ b o, w.cell? ⟨b, o, none⟩ = X.w.cell? ⟨b, o, none⟩) :
    ∃ cells : Array Value, (Builtin.firstCells e.sz ys.length u).run P w = .ok cells w ∧ cells.size = ys.length * e.sz ∧ RowsRel X.T X.w e ys 0 cells ∧ ∀ v ∈ cells.toList, v.oneCell' = true := by
  obtain ⟨A, cap, rfl, hl, hr⟩ := h
  rcases hr with hr | ⟨b, o, rfl, hr⟩
  · subst hr
    refine ⟨#[], ?_, by simp, fun i x hx => by simp at hx, by simp⟩
    cases A with
    | none => simp [Builtin.firstCells]
    | some a => simp [Builtin.firstCells, loadCells, loadCellsFrom]
  · have hcell : ∀ j, j < ys.length * e.sz → ∃ v, X.w.cell? ⟨b, o + j, none⟩ = some v ∧ v.oneCell' = true := by
      intro j hj
      have hpos : 0 < e.sz := by
        rcases Nat.eq_zero_or_pos e.sz with q | q
        · rw [q] at hj; simp at hj
        · exact q
      have hi : j / e.sz < ys.length := (Nat.div_lt_iff_lt_mul hpos).2 hj
      obtain ⟨row, h1, h2⟩ := hr (j / e.sz) _ (List.getElem?_eq_getElem hi)
      have hlen := h1.len
      have hm : j % e.sz < row.length := by rw [hlen]; exact Nat.mod_lt _ hpos
      refine ⟨row[j % e.sz], ?_, trel_one h1 _ (List.getElem_mem hm)⟩
      have := h2 (j % e.sz) _ (List.getElem?_eq_getElem hm)
      rwa [Nat.add_assoc, Nat.mul_comm, Nat.div_add_mod] at this
    let f : Nat → Value := fun j => (X.w.cell? ⟨b, o + j, none⟩).getD undef
    have hf : ∀ j, j < ys.length * e.sz → X.w.cell? ⟨b, o + j, none⟩ = some (f j) := fun j hj => by
      obtain ⟨v, h1, -⟩ := hcell j hj
      simp [f, h1]
    refine ⟨((List.range (ys.length * e.sz)).map f).toArray, ?_, by simp, fun i x hx => ?_, fun v hv => ?_⟩
    · have := run_loadCells (P := P) w ⟨b, o, none⟩ (ys.length * e.sz) f (fun j hj => by rw [add_none, hw]; exact hf j hj)
      simpa [Builtin.firstCells] using this
    · obtain ⟨row, h1, h2⟩ := hr i x hx
      refine ⟨row, h1, fun j z hz => ?_⟩
      have hj := row_lt h1 hz
      have hi : i < ys.length := by
        rcases Nat.lt_or_ge i ys.length with q | q
        · exact q
        · rw [List.getElem?_eq_none q] at hx; cases hx
      have hlt : i * e.sz + j < ys.length * e.sz := by
        have : (i + 1) * e.sz ≤ ys.length * e.sz := Nat.mul_le_mul_right _ hi
        rw [Nat.add_mul] at this; omega
      have hz' := h2 j z hz
      rw [Nat.add_assoc] at hz'
      rw [hf _ hlt] at hz'
      rw [Nat.zero_add, List.getElem?_toArray, List.getElem?_map, List.getElem?_range hlt]
      simpa using hz'
    · simp at hv
      obtain ⟨j, hj, rfl⟩ := hv
      obtain ⟨v, h1, h2⟩ := hcell j hj
      simpa [f, h1] using h2

/-- What is appended. -/
theorem tail_run {X : Cx} {e : Ty} {c : Cell} {u : Value} {ys : List e.T} (hH : HBl X) (hc : CRel X c u) (h : tailOf X.H e c = some ys) {w : World} (hw : ∀ b o, w.cell? ⟨b, o, none⟩ = X.w.cell? ⟨b, o, none⟩) :
    (∀ w, (Builtin.lenOf u).run P w = .ok ys.length w) ∧ ∃ cells : Array Value, (Builtin.firstCells e.sz ys.length u).run P w = .ok cells w ∧ cells.size = ys.length * e.sz ∧ RowsRel X.T X.w e ys 0 cells ∧ ∀ v ∈ cells.toList, v.oneCell' = true := by
  have gen : ∀ {c}, CRel X c u → (match rd X.H (.slice e) [c] with | some (xs, []) => some xs | _ => none) = some ys → 
      (∀ w, (Builtin.lenOf u).run P w = .ok ys.length w) ∧ ∃ cells : Array Value, (Builtin.firstCells e.sz ys.length u).run P w = .ok cells w ∧ cells.size = ys.length * e.sz ∧ RowsRel X.T X.w e ys 0 cells ∧ ∀ v ∈ cells.toList, v.oneCell' = true := by
    intro c hc h
    split at h
    · rename_i xs hq
      cases h
      have hs := slRows_of hH hc hq
      refine ⟨fun w => ?_, first_run hs hw⟩
      obtain ⟨A, cap, rfl, -⟩ := hs
      simp [Builtin.lenOf]
    · cases h
  cases c <;> simp only [tailOf] at h
  case str s =>
    split at h
    · rename_i e'
      cases h
      have hu : u = .string s := hc.2
      subst hu
      have hl : (bytesOf s).length = s.size := by simp [bytesOf]
      have h1 : s.extract 0 s.size = s := by simp
      refine ⟨fun w => by simp [Builtin.lenOf, hl], (s.data.map fun b => .int .u8 b.toNat), by rw [hl]; simp only [Builtin.firstCells, h1]; rfl, ?_, ?_, ?_⟩
      · rw [hl]; simp only [Ty.sz, Nat.mul_one, Array.size_map]; rfl
      · intro i x hx
        simp only [bytesOf] at hx
        rw [List.getElem?_map] at hx
        cases hb : s.data.toList[i]? with
        | none => rw [hb] at hx; cases hx
        | some b =>
          rw [hb] at hx
          cases hx
          refine ⟨[.int .u8 b.toNat], rfl, fun j z hz => ?_⟩
          cases j with
          | succ j => simp at hz
          | zero =>
            simp at hz; subst hz
            have hb' : s.data[i]? = some b := by simpa using hb
            simp only [Ty.sz, Nat.mul_one, Nat.zero_add, Nat.add_zero, Array.getElem?_map, hb']
            rfl
      · intro v hv
        rw [Array.toList_map] at hv
        obtain ⟨b, -, rfl⟩ := List.mem_map.1 hv
        rfl
    · cases h
  all_goals exact gen hc h

theorem growBy_le (newLen : Nat) : ∀ (rounds c : Nat), 256 ≤ c → c ≤ 2 * newLen → Builtin.growBy newLen rounds c ≤ 2 * newLen := by
  intro rounds
  induction rounds with
  | zero => intro c h1 h2; exact h2
  | succ n ih =>
    intro c h1 h2
    unfold Builtin.growBy
    split
    · exact h2
    · exact ih _ (by omega) (by omega)

theorem nextcap_le {need cap : Nat} (h : cap < need) : Builtin.nextslicecap need cap ≤ 2 * need := by
  unfold Builtin.nextslicecap
  split
  · omega
  · split
    · omega
    · exact growBy_le _ _ _ (by omega) (by omega)

end
end Go.Proofs.Ytgmcefnlcalagaa.AM
