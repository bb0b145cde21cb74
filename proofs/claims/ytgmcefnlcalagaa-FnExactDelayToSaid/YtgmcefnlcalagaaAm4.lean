/- The abstract machine: the operations that read, reckon and make memory do what Go's do. No condition. -/
import Derived.Test.YtgmcefnlcalagaaAm3
import Derived.Laws.Entries
import Derived.Laws.Cells
namespace Go.Proofs.Ytgmcefnlcalagaa.AM
open Go Go.RowKit
set_option linter.unusedSimpArgs false
set_option linter.unusedVariables false

theorem obind {α β : Type} {x : Option α} {f : α → Option β} {r : β} (h : x.bind f = some r) : ∃ y, x = some y ∧ f y = some r := Option.bind_eq_some_iff.1 h

/-! ### Types -/

theorem szT_run {P : Program} {t : TypeId} {n : Nat} (h : szT P t = some n) (w : World) : (sizeOf t).run P w = .ok n w := by
  unfold szT at h
  split at h
  · rename_i i hi; cases h; simp [sizeOf, typeInfo, hi]
  · cases h

theorem eqSz_sound {P : Program} {t : TypeId} {n : Nat} (h : eqSz P t n = true) : szT P t = some n := by
  unfold eqSz at h
  split at h
  · rename_i m hm; rw [hm, Nat.eq_of_beq_eq_true h]
  · cases h

theorem aggT_run {P : Program} {t : TypeId} {g : Bool} (h : aggT P t = some g) (w : World) : (isAgg t).run P w = .ok g w := by
  unfold aggT at h
  cases hu : P.underlying t with
  | none => rw [hu] at h; cases h
  | some d =>
    rw [hu] at h
    simp only [isAgg, Sem.run_bind, run_underlying hu, Result.andThen_ok]
    cases d <;> cases h <;> rfl

theorem elemT_run {P : Program} {t e : TypeId} (h : elemT P t = some e) : P.underlying t = some (.slice e) := by
  unfold elemT at h
  split at h
  · rename_i hu; cases h; exact hu
  · cases h

theorem fieldsT_run {P : Program} {t : TypeId} {fs : List Field} (h : fieldsT P t = some fs) : ∃ f : Array Field, P.underlying t = some (.struct f) ∧ f.toList = fs := by
  unfold fieldsT at h
  split at h
  · rename_i f hu; cases h; exact ⟨f, hu, rfl⟩
  · cases h

theorem zeroOk_sound : ∀ {τ : Ty} {vs r : List Value}, zeroOk τ vs = some r → ∃ z, vs = z ++ r ∧ ∀ T w, TRel T w τ τ.zero z := by
  intro τ
  induction τ with
  | int k =>
    intro vs r h
    cases vs with
    | nil => simp [zeroOk] at h
    | cons v vs =>
      cases v <;> simp [zeroOk] at h
      rename_i k' n
      cases hb : (decide (k = k') && decide (n = 0)) with
      | false => rw [hb] at h; cases h
      | true =>
        rw [hb] at h; cases h
        simp at hb
        obtain ⟨rfl, rfl⟩ := hb
        exact ⟨[.int k 0], rfl, fun _ _ => rfl⟩
  | bool =>
    intro vs r h
    cases vs with
    | nil => simp [zeroOk] at h
    | cons v vs =>
      cases v <;> simp [zeroOk] at h
      rename_i b
      cases b with
      | true => cases h
      | false => cases h; exact ⟨[.bool false], rfl, fun _ _ => rfl⟩
  | str =>
    intro vs r h
    cases vs with
    | nil => simp [zeroOk] at h
    | cons v vs =>
      cases v <;> simp [zeroOk] at h
      rename_i s
      cases hb : Nat.beq s.size 0 with
      | false => rw [hb] at h; cases h
      | true =>
        rw [hb] at h; cases h
        refine ⟨[.string s], rfl, fun _ _ => ?_⟩
        have : s = ByteArray.empty := by
          have h0 := Nat.eq_of_beq_eq_true hb
          exact ByteArray.ext (Array.eq_empty_of_size_eq_zero h0)
        rw [this]; rfl
  | unit => intro vs r h; simp [zeroOk] at h; exact ⟨[], by simp [h], fun _ _ => rfl⟩
  | prod a b iha ihb =>
    intro vs r h
    simp only [zeroOk] at h
    obtain ⟨r1, h1, h2⟩ := obind h
    obtain ⟨z1, e1, t1⟩ := iha h1
    obtain ⟨z2, e2, t2⟩ := ihb h2
    exact ⟨z1 ++ z2, by rw [e1, e2, List.append_assoc], fun T w => ⟨z1, z2, rfl, t1 T w, t2 T w⟩⟩
  | slice e ih =>
    intro vs r h
    unfold zeroOk at h
    split at h
    all_goals first | contradiction | skip
    · rename_i e1
      cases e1
      cases h
      exact ⟨[.slice none 0 0], rfl, fun T w => ⟨none, 0, rfl, Nat.le_refl _, .inl rfl⟩⟩

theorem tyC_sound {P : Program} {t : TypeId} {τ : Ty} (h : tyC P t = some τ) :
    ∃ i z, P.info? t = some i ∧ i.size = τ.sz ∧ i.zero = some z ∧ isAggT P t = τ.isAgg ∧ ∀ T w, TRel T w τ τ.zero z.cells.toList := by
  unfold tyC at h
  cases h1 : tyOf P 8 t with
  | none => rw [h1] at h; cases h
  | some τ' =>
    cases h2 : P.info? t with
    | none => rw [h1, h2] at h; cases h
    | some i =>
      rw [h1, h2] at h
      simp only at h
      cases hb : (Nat.beq i.size τ'.sz && (isAggT P t == τ'.isAgg) && zeroT τ' i.zero) with
      | false => rw [hb] at h; cases h
      | true =>
        rw [hb] at h; cases h
        simp only [Bool.and_eq_true] at hb
        obtain ⟨⟨b1, b2⟩, b3⟩ := hb
        unfold zeroT at b3
        cases hz : i.zero with
        | none => rw [hz] at b3; cases b3
        | some z =>
          rw [hz] at b3
          simp only at b3
          refine ⟨i, z, rfl, Nat.eq_of_beq_eq_true b1, hz, by simpa using b2, ?_⟩
          cases hq : zeroOk τ z.cells.toList with
          | none => rw [hq] at b3; cases b3
          | some r =>
            rw [hq] at b3
            cases r with
            | cons a r => cases b3
            | nil =>
              obtain ⟨z', e, ht⟩ := zeroOk_sound hq
              intro T w
              rw [e, List.append_nil]; exact ht T w

/-! ### Constants and operands -/

theorem cstC_slice {P : Program} {t : TypeId} {A : Option Addr} {l n : Nat} {c : Cell} (h : cstC P t (.slice A l n) = some c) : A = none ∧ l = 0 ∧ n = 0 ∧ ∃ τ, c = .emp τ := by
  unfold cstC at h
  split at h
  all_goals first | contradiction | skip
  rename_i e
  cases e
  obtain ⟨e, -, h⟩ := obind h
  obtain ⟨τ, -, h⟩ := obind h
  cases h
  exact ⟨rfl, rfl, rfl, τ, rfl⟩

theorem cstC_sound {P : Program} {t : TypeId} {v : Value} {c : Cell} (h : cstC P t v = some c) (X : Cx) : CRel X c v := by
  cases v
  case slice A l n =>
    obtain ⟨rfl, rfl, rfl, τ, rfl⟩ := cstC_slice h
    exact ⟨rfl, rfl⟩
  case pointer A =>
    cases A with
    | none => cases h; exact ⟨rfl, trivial⟩
    | some A => cases h
  all_goals first | (cases h; exact ⟨rfl, rfl⟩) | cases h

theorem cstCs_sound {P : Program} : ∀ {ts : List TypeId} {vs : List Value} {cs : List Cell}, cstCs P ts vs = some cs → ∀ X : Cx, CsRel X cs vs := by
  intro ts
  induction ts with
  | nil =>
    intro vs cs h X
    cases vs with
    | nil => simp [cstCs] at h; subst h; exact ⟨rfl, by simp⟩
    | cons v vs => simp [cstCs] at h
  | cons t ts ih =>
    intro vs cs h X
    cases vs with
    | nil => simp [cstCs] at h
    | cons v vs =>
      simp only [cstCs] at h
      obtain ⟨c, h1, h⟩ := obind h
      obtain ⟨cs', h2, h⟩ := obind h
      cases h
      obtain ⟨h3, h4⟩ := ih h2 X
      refine ⟨by simp [h3], fun j c' hj => ?_⟩
      cases j with
      | zero => simp at hj; subst hj; exact ⟨v, rfl, cstC_sound h1 X⟩
      | succ j => exact h4 j c' (by simpa using hj)

theorem cst_sound {P : Program} {t : TypeId} {v : Value} {av : AV} (h : cst P t v = some av) (X : Cx) : AVRel X av v := by
  have key : ∀ {c}, cstC P t v = some c → AVRel X ⟨false, [c]⟩ v := fun hc => by
    rw [AVRel, if_neg (by simp)]; exact ⟨_, rfl, cstC_sound hc X⟩
  cases v <;> simp only [cst] at h
  case agg vs =>
    obtain ⟨cs, h1, h⟩ := obind h
    cases h
    rw [AVRel, if_pos rfl]
    exact ⟨vs, rfl, cstCs_sound h1 X⟩
  all_goals
    obtain ⟨c, h1, h⟩ := obind h
    cases h
    exact key h1

theorem look_sound {X : Cx} {fr : List (Nat × D)} {a : Act} {i : Nat} {d : D} (h : look fr i = some d) (hf : FRel X fr a.tmps) : DRel X d (a.eval (.tmp i)) := by
  obtain ⟨u, h1, h2⟩ := hf i d h
  have : a.eval (.tmp i) = u := by simp [Act.eval, Array.getD_eq_getD_getElem?, h1]
  rw [this]; exact h2

theorem ev_sound {P : Program} {X : Cx} {fr : List (Nat × D)} {a : Act} {t : TypeId} {x : Operand} {v : AV} (h : ev P fr t x = some v) (hf : FRel X fr a.tmps) : AVRel X v (a.eval x) := by
  cases x with
  | tmp i =>
    simp only [ev] at h
    obtain ⟨d, h1, h2⟩ := obind h
    cases d with
    | one v' => cases h2; exact look_sound h1 hf
    | tup vs => cases h2
  | const v' => exact cst_sound h X
  | global g => cases h
  | func f =>
    cases h
    rw [AVRel, if_neg (by simp)]
    exact ⟨_, rfl, rfl, #[], rfl, rfl, fun j r off hj => by simp at hj⟩

theorem cell1_eq {v : AV} {c : Cell} (h : cell1 v = some c) : v = ⟨false, [c]⟩ := by
  unfold cell1 at h
  split at h
  · cases h; rfl
  · cases h

theorem AVRel.one {X : Cx} {c : Cell} {u : Value} (h : AVRel X ⟨false, [c]⟩ u) : CRel X c u := by
  rw [AVRel, if_neg (by simp)] at h
  obtain ⟨c', h1, h2⟩ := h
  cases h1; exact h2

theorem AVRel.mk {X : Cx} {c : Cell} {u : Value} (h : CRel X c u) : AVRel X ⟨false, [c]⟩ u := by
  rw [AVRel, if_neg (by simp)]; exact ⟨c, rfl, h⟩

theorem AVRel.mkAgg {X : Cx} {cs : List Cell} {vs : Array Value} (h : CsRel X cs vs.toList) : AVRel X ⟨true, cs⟩ (.agg vs) := by
  rw [AVRel, if_pos rfl]; exact ⟨vs, rfl, h⟩

theorem ev1_sound {P : Program} {X : Cx} {fr : List (Nat × D)} {a : Act} {t : TypeId} {x : Operand} {c : Cell} (h : ev1 P fr t x = some c) (hf : FRel X fr a.tmps) : CRel X c (a.eval x) := by
  unfold ev1 at h
  obtain ⟨v, h1, h2⟩ := obind h
  rw [cell1_eq h2] at h1
  exact (ev_sound h1 hf).one

theorem cells_one {u : Value} (h : u.oneCell' = true) : u.cells = #[u] := by cases u <;> first | rfl | cases h

/-- A value's cells. -/
theorem AVRel.cells {X : Cx} {v : AV} {u : Value} (h : AVRel X v u) : CsRel X v.cs u.cells.toList := by
  unfold AVRel at h
  split at h
  · obtain ⟨vs, h1, h2⟩ := h; rw [h1]; exact h2
  · obtain ⟨c, h1, h2⟩ := h
    rw [h1, cells_one h2.1]
    refine ⟨rfl, fun j c' hj => ?_⟩
    cases j with
    | zero => simp at hj; subst hj; exact ⟨u, rfl, h2⟩
    | succ j => simp at hj

theorem CsRel.ones {X : Cx} {cs : List Cell} {vs : List Value} (h : CsRel X cs vs) : ∀ v ∈ vs, v.oneCell' = true := by
  intro v hv
  obtain ⟨j, hj, e⟩ := List.mem_iff_getElem.1 hv
  have hlt : j < cs.length := by rw [← h.1]; exact hj
  obtain ⟨u, h1, h2⟩ := h.2 j cs[j] (List.getElem?_eq_getElem hlt)
  rw [List.getElem?_eq_getElem hj, e] at h1
  cases h1; exact h2.1

theorem CsRel.append {X : Cx} {cs cs' : List Cell} {vs vs' : List Value} (h : CsRel X cs vs) (h' : CsRel X cs' vs') : CsRel X (cs ++ cs') (vs ++ vs') := by
  refine ⟨by simp [h.1, h'.1], fun j c hj => ?_⟩
  rcases Nat.lt_or_ge j cs.length with hl | hl
  · rw [List.getElem?_append_left hl] at hj
    obtain ⟨u, h1, h2⟩ := h.2 j c hj
    exact ⟨u, by rw [List.getElem?_append_left (by rw [h.1]; exact hl)]; exact h1, h2⟩
  · rw [List.getElem?_append_right hl] at hj
    obtain ⟨u, h1, h2⟩ := h'.2 _ c hj
    exact ⟨u, by rw [List.getElem?_append_right (by rw [h.1]; exact hl), h.1]; exact h1, h2⟩

theorem CsRel.take {X : Cx} {cs : List Cell} {vs : List Value} (h : CsRel X cs vs) (n : Nat) : CsRel X (cs.take n) (vs.take n) := by
  refine ⟨by simp [h.1], fun j c hj => ?_⟩
  rw [List.getElem?_take] at hj
  split at hj
  · obtain ⟨u, h1, h2⟩ := h.2 j c hj
    exact ⟨u, by rw [List.getElem?_take, if_pos (by assumption)]; exact h1, h2⟩
  · cases hj

theorem CsRel.drop {X : Cx} {cs : List Cell} {vs : List Value} (h : CsRel X cs vs) (n : Nat) : CsRel X (cs.drop n) (vs.drop n) := by
  refine ⟨by simp [h.1], fun j c hj => ?_⟩
  rw [List.getElem?_drop] at hj
  obtain ⟨u, h1, h2⟩ := h.2 _ c hj
  exact ⟨u, by rw [List.getElem?_drop]; exact h1, h2⟩

/-- A tree's cells. -/
theorem flat_rel {X : Cx} : ∀ {τ : Ty} {x : τ.T} {row : List Value}, TRel X.T X.w τ x row → CsRel X (τ.flat x) row := by
  have one : ∀ {c : Cell} {u : Value}, CRel X c u → CsRel X [c] [u] := fun {c u} h => ⟨rfl, fun j c' hj => by
    cases j with
    | zero => simp at hj; subst hj; exact ⟨u, rfl, h⟩
    | succ j => simp at hj⟩
  intro τ
  induction τ with
  | int k => intro x row h; rw [show row = _ from h]; exact one ⟨rfl, rfl⟩
  | bool => intro x row h; rw [show row = _ from h]; exact one ⟨rfl, rfl⟩
  | str => intro x row h; rw [show row = _ from h]; exact one ⟨rfl, rfl⟩
  | unit => intro x row h; rw [show row = _ from h]; exact ⟨rfl, by simp [Ty.flat]⟩
  | prod a b iha ihb =>
    rintro x row ⟨v1, v2, e, h1, h2⟩
    rw [e]; exact (iha h1).append (ihb h2)
  | slice e ih =>
    intro xs row h
    obtain ⟨A, cap, e1, h1⟩ := h
    subst e1
    exact one ⟨rfl, A, cap, rfl, h1⟩

end Go.Proofs.Ytgmcefnlcalagaa.AM
