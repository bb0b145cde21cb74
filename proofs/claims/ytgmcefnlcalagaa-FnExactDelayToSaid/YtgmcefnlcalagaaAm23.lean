/- The abstract machine: collecting and numbering anew. No condition. -/
import Derived.Test.YtgmcefnlcalagaaAm22
namespace Go.Proofs.Ytgmcefnlcalagaa.AM
open Go Go.RowKit
set_option linter.unusedSimpArgs false
set_option linter.unusedVariables false

theorem hasId_iff : ∀ {l : List Nat} {r : Nat}, hasId l r = true ↔ r ∈ l := by
  intro l r
  induction l with
  | nil => simp [hasId]
  | cons i l ih =>
    simp only [hasId, List.mem_cons]
    by_cases e : i = r
    · subst e; simp [beq_true]
    · rw [beq_false e]
      simp only [cond_false, ih]
      exact ⟨.inr, fun h => h.resolve_left fun q => e q.symm⟩

theorem nodupB_spec : ∀ {l : List Nat}, nodupB l = true → ∀ (i j : Nat) (r : Nat), l[i]? = some r → l[j]? = some r → i = j := by
  intro l
  induction l with
  | nil => intro _ i j r h; simp at h
  | cons x l ih =>
    intro hn i j r h1 h2
    simp only [nodupB, Bool.and_eq_true, Bool.not_eq_true'] at hn
    have hx : x ∉ l := fun q => by rw [hasId_iff.2 q] at hn; cases hn.1
    cases i with
    | zero => cases j with
      | zero => rfl
      | succ j => simp at h1; subst h1; exact absurd (List.mem_of_getElem? (by simpa using h2)) hx
    | succ i => cases j with
      | zero => simp at h2; subst h2; exact absurd (List.mem_of_getElem? (by simpa using h1)) hx
      | succ j => rw [ih hn.2 i j r (by simpa using h1) (by simpa using h2)]

theorem idx_spec : ∀ {l : List Nat} {r n i : Nat}, idx l r n = some i → n ≤ i ∧ l[i - n]? = some r := by
  intro l
  induction l with
  | nil => intro r n i h; cases h
  | cons x l ih =>
    intro r n i h
    simp only [idx] at h
    by_cases e : x = r
    · subst e; rw [beq_true] at h; cases h; simp
    · rw [beq_false e] at h
      obtain ⟨h1, h2⟩ := ih h
      refine ⟨by omega, ?_⟩
      rw [show i - n = (i - (n + 1)) + 1 from by omega]
      simpa using h2

theorem get_renLow {H0 : Heap} {base : Nat} {ids : List Nat} : ∀ (H : Heap) (r : Nat), Heap.get (renLow H0 base ids H) r = if r < base then (H.get r).map (renB0 H0 base ids) else none := by
  intro H
  induction H with
  | nil => intro r; simp [renLow, Heap.get]
  | cons x H ih =>
    intro r
    obtain ⟨i, b⟩ := x
    simp only [renLow]
    by_cases hb : i < base
    · rw [show Nat.blt i base = true from Nat.ble_eq_true_of_le hb]
      simp only [cond_true, Heap.get]
      by_cases e : i = r
      · subst e; simp [beq_true, hb]
      · rw [beq_false e]; simp only [cond_false]; exact ih r
    · rw [show Nat.blt i base = false from by
        cases h : Nat.blt i base with
        | false => rfl
        | true => exact absurd (Nat.le_of_ble_eq_true h) hb]
      simp only [cond_false]
      rw [ih r]
      by_cases e : i = r
      · subst e; rw [if_neg hb, if_neg hb]
      · simp [Heap.get, beq_false e]

theorem get_renH {H : Heap} {base : Nat} {ids : List Nat} : ∀ (l : List Nat) (n r : Nat), Heap.get (renH H base ids n l) r = if n ≤ r then (l[r - n]?).bind fun x => (H.get x).map (renB H base ids) else none := by
  intro l
  induction l with
  | nil => intro n r; simp [renH, Heap.get]
  | cons x l ih =>
    intro n r
    have key : ∀ (hr : n ≠ r), Heap.get (renH H base ids (n + 1) l) r = if n ≤ r then ((x :: l)[r - n]?).bind fun x => (H.get x).map (renB H base ids) else none := fun hr => by
      rw [ih]
      by_cases h : n + 1 ≤ r
      · rw [if_pos h, if_pos (by omega), show r - n = (r - (n + 1)) + 1 from by omega]
        simp
      · rw [if_neg h, if_neg (by omega)]
    simp only [renH]
    cases hg : H.get x with
    | none =>
      simp only
      by_cases e : n = r
      · subst e
        rw [ih, if_neg (by omega), if_pos (Nat.le_refl _)]
        simp [hg]
      · exact key e
    | some b =>
      simp only [Heap.get]
      by_cases e : n = r
      · subst e; simp [beq_true, hg]
      · rw [beq_false e]; simp only [cond_false]; exact key e

section
variable {Z : Nat → Prop} {Xs X : Cx} {N base : Nat} {ids : List Nat}

/-- The context behind a collection. -/
def Cx.ren (X : Cx) (base : Nat) (ids : List Nat) : Cx :=
  ⟨fun r => if r < base then X.ι r else (ids[r - base]?).bind X.ι, X.T, X.w, renLow X.H base ids X.H ++ renH X.H base ids base ids, base + ids.length⟩

theorem ren_get (X : Cx) (base : Nat) (ids : List Nat) (r : Nat) : (X.ren base ids).H.get r = if r < base then (X.H.get r).map (renB0 X.H base ids) else (ids[r - base]?).bind fun x => (X.H.get x).map (renB X.H base ids) := by
  show Heap.get (renLow X.H base ids X.H ++ renH X.H base ids base ids) r = _
  rw [get_app, get_renLow, get_renH]
  by_cases h : r < base
  · rw [if_pos h, if_pos h, if_neg (by omega)]
    simp
  · rw [if_neg h, if_neg h, if_pos (by omega)]
    rfl

/-- A block met under its new number. -/
theorem renI_get {r r' : Nat} (h : renI base ids r = some r') : r' < base + ids.length ∧ (X.ren base ids).ι r' = X.ι r ∧
    (X.ren base ids).H.get r' = (X.H.get r).map (if r < base then renB0 X.H base ids else renB X.H base ids) := by
  unfold renI at h
  by_cases hb : r < base
  · rw [show Nat.blt r base = true from Nat.ble_eq_true_of_le hb] at h
    cases h
    refine ⟨by omega, if_pos hb, ?_⟩
    rw [ren_get, if_pos hb, if_pos hb]
  · rw [show Nat.blt r base = false from by
      cases h : Nat.blt r base with
      | false => rfl
      | true => exact absurd (Nat.le_of_ble_eq_true h) hb] at h
    simp only [cond_false, Option.map_eq_some_iff] at h
    obtain ⟨i, h1, rfl⟩ := h
    obtain ⟨-, h2⟩ := idx_spec h1
    have hi := (List.getElem?_eq_some_iff.1 h2).1
    rw [Nat.sub_zero] at h2 hi
    refine ⟨by omega, ?_, ?_⟩
    · show (if base + i < base then X.ι (base + i) else (ids[base + i - base]?).bind X.ι) = _
      rw [if_neg (by omega), show base + i - base = i from by omega, h2]; rfl
    · rw [ren_get, if_neg (by omega), show base + i - base = i from by omega, h2, if_neg hb]; rfl

theorem renCaps_spec : ∀ {caps caps' : List (Nat × Nat)}, renCaps base ids caps = some caps' → caps'.length = caps.length ∧ ∀ (j r' off : Nat), caps'[j]? = some (r', off) → ∃ r, caps[j]? = some (r, off) ∧ renI base ids r = some r' := by
  intro caps
  induction caps with
  | nil => intro caps' h; cases h; exact ⟨rfl, fun j r' off h => by simp at h⟩
  | cons x caps ih =>
    intro caps' h
    obtain ⟨r, o⟩ := x
    simp only [renCaps] at h
    obtain ⟨r1, h1, g1⟩ := obind h
    obtain ⟨t, h2, g2⟩ := obind g1
    cases g2
    obtain ⟨k1, k2⟩ := ih h2
    refine ⟨by simp [k1], fun j r' off hj => ?_⟩
    cases j with
    | zero => simp at hj; obtain ⟨rfl, rfl⟩ := hj; exact ⟨r, rfl, h1⟩
    | succ j => simpa using k2 j r' off (by simpa using hj)

theorem ren_slv {r r' sz off len : Nat} {u : Value} (hι : (X.ren base ids).ι r' = X.ι r) (h : SlV X r sz off len u) : SlV (X.ren base ids) r' sz off len u := by
  obtain ⟨A, cap, h1, h2, h3⟩ := h
  refine ⟨A, cap, h1, h2, h3.imp id ?_⟩
  rintro ⟨b, o, cs, t, fz, h4, h5⟩
  exact ⟨b, o, cs, t, fz, hι.trans h4, h5⟩

theorem ren_arr {r : Nat} {v : Nat} {e : Ty} {xs : List e.T} {v1 : Nat} {e1 : Ty} {xs1 : List e1.T} (h : (some (Blk.arr v e xs)).map (if r < base then renB0 X.H base ids else renB X.H base ids) = some (.arr v1 e1 xs1)) :
    v1 = renVer base r v ∧ (⟨e1, xs1⟩ : (e : Ty) × List e.T) = ⟨e, xs⟩ := by
  unfold renVer
  by_cases hb : r < base
  · rw [show Nat.blt r base = true from Nat.ble_eq_true_of_le hb]
    simp only [hb, if_true, Option.map_some, Option.some.injEq, renB0] at h
    cases h
    exact ⟨rfl, rfl⟩
  · rw [show Nat.blt r base = false from by
      cases h : Nat.blt r base with
      | false => rfl
      | true => exact absurd (Nat.le_of_ble_eq_true h) hb]
    simp only [hb, if_false, Option.map_some, Option.some.injEq, renB] at h
    cases h
    exact ⟨rfl, rfl⟩

theorem ren_box {r : Nat} {b : Blk} {cs : List Cell} (h : (some b).map (if r < base then renB0 X.H base ids else renB X.H base ids) = some (.box cs)) : ∃ cs0, b = .box cs0 ∧ cs = cs0.map (renC X.H base ids) := by
  cases b with
  | arr v e xs =>
    split at h <;> simp [renB0, renB] at h
  | box cs0 =>
    refine ⟨cs0, rfl, ?_⟩
    split at h <;> simp [renB0, renB] at h <;> exact h.symm

theorem ren_crel {c : Cell} {u : Value} (h : CRel X c u) : CRel (X.ren base ids) (renC X.H base ids c) u := by
  obtain ⟨h0, h⟩ := h
  refine ⟨h0, ?_⟩
  cases c with
  | int k n => exact h
  | bool b => exact h
  | str s => exact h
  | sl e xs => exact h
  | emp e => exact h
  | nilF => exact h
  | nilI => exact h
  | err => exact h
  | junk => exact h
  | ref τ x k => exact h
  | own r v =>
    simp only [renC]
    split
    · rename_i v' e xs r' hg hr
      cases hv : Nat.beq v v' with
      | false => trivial
      | true =>
        have hv' := Nat.eq_of_beq_eq_true hv
        subst hv'
        obtain ⟨k1, k2, k3⟩ := renI_get (X := X) hr
        refine ⟨k1, fun v1 e1 xs1 hq => ?_⟩
        rw [k3, hg] at hq
        obtain ⟨q1, q2⟩ := ren_arr hq
        cases q2
        exact ⟨Nat.le_of_eq q1.symm, fun _ => ren_slv k2 ((h.2 _ _ _ hg).2 rfl)⟩
    · trivial
  | sub r v off len =>
    simp only [renC]
    split
    · rename_i v' e xs r' hg hr
      cases hv : Nat.beq v v' with
      | false => trivial
      | true =>
        have hv' := Nat.eq_of_beq_eq_true hv
        subst hv'
        obtain ⟨k1, k2, k3⟩ := renI_get (X := X) hr
        refine ⟨k1, fun v1 e1 xs1 hq => ?_⟩
        rw [k3, hg] at hq
        obtain ⟨q1, q2⟩ := ren_arr hq
        cases q2
        obtain ⟨a1, a2⟩ := (h.2 _ _ _ hg).2 rfl
        exact ⟨Nat.le_of_eq q1.symm, fun _ => ⟨a1, ren_slv k2 a2⟩⟩
    · trivial
  | elt r v i k =>
    simp only [renC]
    split
    · rename_i v' e xs r' hg hr
      cases hv : Nat.beq v v' with
      | false => trivial
      | true =>
        have hv' := Nat.eq_of_beq_eq_true hv
        subst hv'
        obtain ⟨k1, k2, k3⟩ := renI_get (X := X) hr
        refine ⟨k1, fun v1 e1 xs1 hq => ?_⟩
        rw [k3, hg] at hq
        obtain ⟨q1, q2⟩ := ren_arr hq
        cases q2
        obtain ⟨a1, b, o, a2, a3⟩ := (h.2 _ _ _ hg).2 rfl
        exact ⟨Nat.le_of_eq q1.symm, fun _ => ⟨a1, b, o, k2.trans a2, a3⟩⟩
    · trivial
  | ptr r off =>
    simp only [renC]
    split
    · rename_i cs r' hg hr
      obtain ⟨k1, k2, k3⟩ := renI_get (X := X) hr
      refine ⟨k1, fun cs1 hq => ?_⟩
      obtain ⟨b, a1, a2⟩ := h.2 _ hg
      exact ⟨b, k2.trans a1, a2⟩
    · trivial
  | fn f caps =>
    simp only [renC]
    split
    · rename_i caps' hc
      obtain ⟨vals, h1, h2, h3⟩ := h
      obtain ⟨c1, c2⟩ := renCaps_spec hc
      refine ⟨vals, h1, by omega, fun j r' off hj => ?_⟩
      obtain ⟨r, d1, d2⟩ := c2 j r' off hj
      obtain ⟨e1, e2⟩ := h3 j r off d1
      obtain ⟨k1, k2, k3⟩ := renI_get (X := X) d2
      refine ⟨k1, fun cs1 hq => ?_⟩
      rw [k3] at hq
      cases hg : X.H.get r with
      | none => rw [hg] at hq; cases hq
      | some b =>
        rw [hg] at hq
        obtain ⟨cs0, rfl, -⟩ := ren_box hq
        obtain ⟨b, a1, a2⟩ := e2 _ hg
        exact ⟨b, k2.trans a1, a2⟩
    · trivial

theorem ren_csrel {cs : List Cell} {vs : List Value} (h : CsRel X cs vs) : CsRel (X.ren base ids) (cs.map (renC X.H base ids)) vs := by
  refine ⟨by simp [h.1], fun j c hj => ?_⟩
  rw [List.getElem?_map] at hj
  cases hc : cs[j]? with
  | none => rw [hc] at hj; cases hj
  | some c0 =>
    rw [hc] at hj; cases hj
    obtain ⟨u, h1, h2⟩ := h.2 j c0 hc
    exact ⟨u, h1, ren_crel h2⟩

theorem ren_avrel {v : AV} {u : Value} (h : AVRel X v u) : AVRel (X.ren base ids) (renV X.H base ids v) u := by
  unfold AVRel at *
  split at h
  · rename_i e
    rw [if_pos (by exact e)]
    obtain ⟨vs, h1, h2⟩ := h
    exact ⟨vs, h1, ren_csrel h2⟩
  · rename_i e
    rw [if_neg (by exact e)]
    obtain ⟨c, h1, h2⟩ := h
    exact ⟨_, by simp [renV, h1], ren_crel h2⟩

theorem ren_drel {d : D} {u : Value} (h : DRel X d u) : DRel (X.ren base ids) (renD X.H base ids d) u := by
  cases d with
  | one v => exact ren_avrel h
  | tup vs =>
    obtain ⟨us, h1, h2, h3⟩ := h
    refine ⟨us, h1, by simp [h2], fun j v hj => ?_⟩
    rw [List.getElem?_map] at hj
    cases hc : vs[j]? with
    | none => rw [hc] at hj; cases hj
    | some v0 =>
      rw [hc] at hj; cases hj
      obtain ⟨x, h4, h5⟩ := h3 j v0 hc
      exact ⟨x, h4, ren_avrel h5⟩

theorem look_map {fr : List (Nat × D)} {f : D → D} : ∀ {t : Nat} {d : D}, look (fr.map fun x => (x.1, f x.2)) t = some d → ∃ d0, look fr t = some d0 ∧ d = f d0 := by
  induction fr with
  | nil => intro t d h; cases h
  | cons x fr ih =>
    intro t d h
    obtain ⟨i, d0⟩ := x
    simp only [List.map_cons, look] at h ⊢
    by_cases e : i = t
    · subst e; rw [beq_true] at h ⊢; cases h; exact ⟨d0, rfl, rfl⟩
    · rw [beq_false e] at h ⊢; exact ih h

theorem ren_sr (hb : Xs.n ≤ base) (hnd : nodupB ids = true) (hge : ∀ r ∈ ids, base ≤ r) {st : St} {a : Act} (hsr : SR Z Xs N st a X) {fr : List (Nat × D)} (hfr : ∀ t d, look fr t = some d → look st.fr t = some d) :
    SR Z Xs N ⟨fr.map fun x => (x.1, renD st.H base ids x.2), base + ids.length, renLow st.H base ids st.H ++ renH st.H base ids base ids⟩ a (X.ren base ids) := by
  have hH := hsr.H
  have hr := hsr.step.hr
  -- each block of the new heap comes of one of the old
  have src : ∀ r b, (X.ren base ids).H.get r = some b → ∃ r0 b0, X.H.get r0 = some b0 ∧ (X.ren base ids).ι r = X.ι r0 ∧ r < base + ids.length ∧ some b = (some b0).map (if r0 < base then renB0 X.H base ids else renB X.H base ids) ∧ (r < base → r0 = r) ∧ (¬ r < base → ids[r - base]? = some r0 ∧ base ≤ r0) := by
    intro r b hg
    rw [ren_get] at hg
    by_cases h : r < base
    · rw [if_pos h] at hg
      cases hg0 : X.H.get r with
      | none => rw [hg0] at hg; cases hg
      | some b0 =>
        rw [hg0] at hg
        exact ⟨r, b0, hg0, if_pos h, by omega, by rw [if_pos h]; exact hg.symm, fun _ => rfl, fun q => absurd h q⟩
    · rw [if_neg h] at hg
      obtain ⟨x, h1, h2⟩ := obind hg
      cases hg0 : X.H.get x with
      | none => rw [hg0] at h2; cases h2
      | some b0 =>
        rw [hg0] at h2
        have hx := hge x (List.mem_of_getElem? h1)
        have hi := (List.getElem?_eq_some_iff.1 h1).1
        refine ⟨x, b0, hg0, ?_, by omega, by rw [if_neg (by omega)]; exact h2.symm, fun q => absurd q h, fun _ => ⟨h1, hx⟩⟩
        show (if r < base then X.ι r else (ids[r - base]?).bind X.ι) = _
        rw [if_neg h, h1]; rfl
  have src_inj : ∀ r r' r0, (r < base → r0 = r) → (¬ r < base → ids[r - base]? = some r0 ∧ base ≤ r0) → (r' < base → r0 = r') → (¬ r' < base → ids[r' - base]? = some r0 ∧ base ≤ r0) → r = r' := by
    intro r r' r0 h1 h2 h3 h4
    by_cases h : r < base <;> by_cases h' : r' < base
    · rw [← h1 h, ← h3 h']
    · have := h1 h; have := (h4 h').2; omega
    · have := h3 h'; have := (h2 h).2; omega
    · have := nodupB_spec hnd _ _ _ (h2 h).1 (h4 h').1; omega
  have hle : Le Xs (X.ren base ids) := {
    n := by show Xs.n ≤ base + ids.length; omega
    T := hsr.step.le.T
    blk := hsr.step.le.blk
    box := by
      intro r cs' hr' hg
      obtain ⟨r0, b0, g1, g2, g3, g4, g5, -⟩ := src r _ hg
      have e := g5 (by omega)
      subst e
      obtain ⟨cs0, rfl, -⟩ := ren_box g4.symm
      obtain ⟨cs1, q1, q2⟩ := hsr.step.le.box r0 cs0 hr' g1
      exact ⟨cs1, q1, g2.trans q2⟩
    arr := by
      intro r v' e xs' hr' hg
      obtain ⟨r0, b0, g1, g2, g3, g4, g5, -⟩ := src r _ hg
      have e := g5 (by omega)
      subst e
      cases b0 with
      | box cs => rw [if_pos (by omega)] at g4; simp [renB0] at g4
      | arr v e0 xs0 =>
        rw [if_pos (by omega)] at g4
        simp only [Option.map_some, renB0, Option.some.injEq] at g4
        cases g4
        obtain ⟨v1, xs1, q1, q2, q3⟩ := hsr.step.le.arr r0 _ _ _ hr' g1
        exact ⟨v1, xs1, q1, q2, fun hv => ⟨(q3 hv).1, g2.trans (q3 hv).2⟩⟩
    size := hsr.step.le.size }
  refine ⟨by show _ = _; rw [← hH]; rfl, rfl, ⟨hle, ⟨fun r b hg => ?_, fun r r' b b' k o o' hg hg' hi hi' => ?_, fun r b k o hg hi => ?_, hr.T⟩, hsr.step.keep, hsr.step.T⟩, fun t d hl => ?_, hsr.defers, hsr.size⟩
  · obtain ⟨r0, b0, g1, g2, g3, g4, -, -⟩ := src r b hg
    refine ⟨g3, ?_⟩
    have hB := (hr.blk r0 b0 g1).2
    cases b0 with
    | arr v e xs =>
      obtain ⟨v1, rfl⟩ : ∃ v1, b = .arr v1 e xs := by
        split at g4 <;> simp [renB0, renB] at g4 <;> exact ⟨_, g4⟩
      rcases hB with ⟨h1, h2⟩ | ⟨b, o, cs, t, h1, h2⟩
      · exact .inl ⟨g2.trans h1, h2⟩
      · exact .inr ⟨b, o, cs, t, g2.trans h1, h2⟩
    | box cs =>
      obtain ⟨b1, vs, t, h1, h2, h3⟩ := hB
      have : b = .box (cs.map (renC X.H base ids)) := by
        split at g4 <;> simp [renB0, renB] at g4 <;> exact g4
      subst this
      exact ⟨b1, vs, t, g2.trans h1, h2, ren_csrel h3⟩
  · obtain ⟨r0, b0, g1, g2, -, -, g3, g4⟩ := src r b hg
    obtain ⟨r1, b1, f1, f2, -, -, f3, f4⟩ := src r' b' hg'
    rw [g2] at hi; rw [f2] at hi'
    have := hr.inj r0 r1 b0 b1 k o o' g1 f1 hi hi'
    subst this
    exact src_inj r r' r0 g3 g4 f3 f4
  · obtain ⟨r0, b0, g1, g2, -, -, g3, g4⟩ := src r b hg
    rw [g2] at hi
    exact hr.apart r0 b0 k o g1 hi
  · obtain ⟨d0, h1, rfl⟩ := look_map (f := renD st.H base ids) hl
    obtain ⟨u, h2, h3⟩ := hsr.fr t d0 (hfr t d0 h1)
    exact ⟨u, h2, by rw [← hH]; exact ren_drel h3⟩

theorem gc_sound (hb : Xs.n ≤ base) {live : List Nat} {st : St} {a : Act} (hsr : SR Z Xs N st a X) : ∃ X', X'.w = X.w ∧ SR Z Xs N (gc base live st) a X' := by
  unfold gc
  simp only
  generalize closeIds st.H base (List.length st.H + 1) 0 (addIds [] (geBase base (((liveFr st.fr live).map (fun x => dIds st.H x.2)).flatten ++ lowIds base st.H st.H))) = ids
  cases hc : nodupB ids && ids.all base.ble with
  | false => exact ⟨X, rfl, hsr⟩
  | true =>
    simp only [Bool.and_eq_true, List.all_eq_true] at hc
    exact ⟨X.ren base ids, rfl, ren_sr hb hc.1 (fun r hr => Nat.le_of_ble_eq_true (hc.2 r hr)) hsr fun t d hl => (look_live hl).2⟩

end

/-! ### Nil slices -/

/-- New arrays without an element. -/
def Emp (n n' : Nat) (H : Heap) : Prop := ∀ r b, (r, b) ∈ H → n ≤ r ∧ r < n' ∧ ∃ e, b = .arr 0 e []

/-- A cell, or in place of nil one of the new arrays. -/
def CPro (n n' : Nat) (c c' : Cell) : Prop := c' = c ∨ ∃ e r, c = .emp e ∧ c' = .own r 0 ∧ n ≤ r ∧ r < n'

theorem Emp.mono {n n' n1 n1' : Nat} {H : Heap} (h : Emp n n' H) (h1 : n1 ≤ n) (h2 : n' ≤ n1') : Emp n1 n1' H := fun r b hm => by
  obtain ⟨a, b, c⟩ := h r b hm
  exact ⟨by omega, by omega, c⟩
theorem CPro.mono {n n' n1 n1' : Nat} {c c' : Cell} (h : CPro n n' c c') (h1 : n1 ≤ n) (h2 : n' ≤ n1') : CPro n1 n1' c c' := by
  rcases h with h | ⟨e, r, a, b, c, d⟩
  · exact .inl h
  · exact .inr ⟨e, r, a, b, by omega, by omega⟩

theorem proC_spec : ∀ (cs : List Cell) (n : Nat), n ≤ (proC n cs).2.1 ∧ Emp n (proC n cs).2.1 (proC n cs).2.2 ∧ (proC n cs).1.length = cs.length ∧ ∀ (j : Nat) (c' : Cell), (proC n cs).1[j]? = some c' → ∃ c, cs[j]? = some c ∧ CPro n (proC n cs).2.1 c c' := by
  intro cs
  induction cs with
  | nil => intro n; exact ⟨Nat.le_refl _, fun r b hm => (by cases hm), rfl, fun j c' h => by simp [proC] at h⟩
  | cons c cs ih =>
    intro n
    have plain : proC n (c :: cs) = (c :: (proC n cs).1, (proC n cs).2.1, (proC n cs).2.2) → n ≤ (proC n (c :: cs)).2.1 ∧ Emp n (proC n (c :: cs)).2.1 (proC n (c :: cs)).2.2 ∧ (proC n (c :: cs)).1.length = (c :: cs).length ∧ ∀ (j : Nat) (c' : Cell), (proC n (c :: cs)).1[j]? = some c' → ∃ c0, (c :: cs)[j]? = some c0 ∧ CPro n (proC n (c :: cs)).2.1 c0 c' := fun he => by
      rw [he]
      obtain ⟨h1, h2, h3, h4⟩ := ih n
      refine ⟨h1, h2, by simp [h3], fun j c' hj => ?_⟩
      cases j with
      | zero => simp at hj; subst hj; exact ⟨c, rfl, .inl rfl⟩
      | succ j => simpa using h4 j c' (by simpa using hj)
    cases c
    case emp e =>
      obtain ⟨h1, h2, h3, h4⟩ := ih (n + 1)
      simp only [proC]
      refine ⟨by omega, fun r b hm => ?_, by simp [h3], fun j c' hj => ?_⟩
      · rcases List.mem_cons.1 hm with q | q
        · cases q; exact ⟨Nat.le_refl _, by omega, e, rfl⟩
        · exact (h2.mono (by omega) (Nat.le_refl _)) r b q
      · cases j with
        | zero => simp at hj; subst hj; exact ⟨_, rfl, .inr ⟨e, n, rfl, rfl, Nat.le_refl _, by omega⟩⟩
        | succ j =>
          obtain ⟨c0, k1, k2⟩ := h4 j c' (by simpa using hj)
          exact ⟨c0, by simpa using k1, k2.mono (by omega) (Nat.le_refl _)⟩
    all_goals exact plain rfl

theorem proFr_spec : ∀ (fr : List (Nat × D)) (n : Nat), n ≤ (proFr n fr).2.1 ∧ Emp n (proFr n fr).2.1 (proFr n fr).2.2 ∧
    ∀ (t : Nat) (d' : D), look (proFr n fr).1 t = some d' → ∃ d, look fr t = some d ∧ (d' = d ∨ ∃ g cs cs', d = .one ⟨g, cs⟩ ∧ d' = .one ⟨g, cs'⟩ ∧ cs'.length = cs.length ∧ ∀ (j : Nat) (c' : Cell), cs'[j]? = some c' → ∃ c, cs[j]? = some c ∧ CPro n (proFr n fr).2.1 c c') := by
  intro fr
  induction fr with
  | nil => intro n; exact ⟨Nat.le_refl _, fun r b hm => (by cases hm), fun t d h => by cases h⟩
  | cons x fr ih =>
    intro n
    obtain ⟨s, d⟩ := x
    cases d with
    | one v =>
      obtain ⟨p1, p2, p3, p4⟩ := proC_spec v.cs n
      obtain ⟨h1, h2, h3⟩ := ih (proC n v.cs).2.1
      simp only [proFr]
      refine ⟨by omega, fun r b hm => ?_, fun t d' hl => ?_⟩
      · rcases List.mem_append.1 hm with q | q
        · exact (p2.mono (Nat.le_refl _) h1) r b q
        · exact (h2.mono p1 (Nat.le_refl _)) r b q
      · simp only [look] at hl ⊢
        by_cases e : s = t
        · subst e
          rw [beq_true] at hl ⊢
          cases hl
          refine ⟨_, rfl, .inr ⟨v.agg, v.cs, _, rfl, rfl, p3, fun j c' hj => ?_⟩⟩
          obtain ⟨c, k1, k2⟩ := p4 j c' hj
          exact ⟨c, k1, k2.mono (Nat.le_refl _) h1⟩
        · rw [beq_false e] at hl ⊢
          obtain ⟨d, k1, k2⟩ := h3 t d' hl
          refine ⟨d, k1, k2.imp id ?_⟩
          rintro ⟨g, cs, cs', a1, a2, a3, a4⟩
          refine ⟨g, cs, cs', a1, a2, a3, fun j c' hj => ?_⟩
          obtain ⟨c, k1, k2⟩ := a4 j c' hj
          exact ⟨c, k1, k2.mono p1 (Nat.le_refl _)⟩
    | tup vs =>
      obtain ⟨h1, h2, h3⟩ := ih n
      simp only [proFr]
      refine ⟨h1, h2, fun t d' hl => ?_⟩
      simp only [look] at hl ⊢
      by_cases e : s = t
      · subst e
        rw [beq_true] at hl ⊢
        cases hl
        exact ⟨_, rfl, .inl rfl⟩
      · rw [beq_false e] at hl ⊢
        exact h3 t d' hl

theorem proH_spec : ∀ (H : Heap) (n : Nat), n ≤ (proH n H).2.1 ∧ Emp n (proH n H).2.1 (proH n H).2.2 ∧
    ∀ (r : Nat), (H.get r = none → Heap.get (proH n H).1 r = none) ∧ ∀ b', Heap.get (proH n H).1 r = some b' → ∃ b, H.get r = some b ∧ (b' = b ∨ ∃ cs cs', b = .box cs ∧ b' = .box cs' ∧ cs'.length = cs.length ∧ ∀ (j : Nat) (c' : Cell), cs'[j]? = some c' → ∃ c, cs[j]? = some c ∧ CPro n (proH n H).2.1 c c') := by
  intro H
  induction H with
  | nil => intro n; exact ⟨Nat.le_refl _, fun r b hm => (by cases hm), fun r => ⟨fun h => h, fun b h => by cases h⟩⟩
  | cons x H ih =>
    intro n
    obtain ⟨i, b⟩ := x
    cases b with
    | box v =>
      obtain ⟨p1, p2, p3, p4⟩ := proC_spec v n
      obtain ⟨h1, h2, h3⟩ := ih (proC n v).2.1
      simp only [proH]
      refine ⟨by omega, fun r b hm => ?_, fun r => ?_⟩
      · rcases List.mem_append.1 hm with q | q
        · exact (p2.mono (Nat.le_refl _) h1) r b q
        · exact (h2.mono p1 (Nat.le_refl _)) r b q
      · simp only [Heap.get]
        by_cases e : i = r
        · subst e
          rw [beq_true]
          refine ⟨fun h => (by cases h), fun b' hl => ?_⟩
          cases hl
          refine ⟨_, rfl, .inr ⟨v, _, rfl, rfl, p3, fun j c' hj => ?_⟩⟩
          obtain ⟨c, k1, k2⟩ := p4 j c' hj
          exact ⟨c, k1, k2.mono (Nat.le_refl _) h1⟩
        · rw [beq_false e]
          refine ⟨(h3 r).1, fun b' hl => ?_⟩
          obtain ⟨d, k1, k2⟩ := (h3 r).2 b' hl
          refine ⟨d, k1, k2.imp id ?_⟩
          rintro ⟨cs, cs', a1, a2, a3, a4⟩
          refine ⟨cs, cs', a1, a2, a3, fun j c' hj => ?_⟩
          obtain ⟨c, k1, k2⟩ := a4 j c' hj
          exact ⟨c, k1, k2.mono p1 (Nat.le_refl _)⟩
    | arr v e xs =>
      obtain ⟨h1, h2, h3⟩ := ih n
      simp only [proH]
      refine ⟨h1, h2, fun r => ?_⟩
      simp only [Heap.get]
      by_cases e : i = r
      · subst e
        rw [beq_true]
        exact ⟨fun h => (by cases h), fun b' hl => by cases hl; exact ⟨_, rfl, .inl rfl⟩⟩
      · rw [beq_false e]
        exact h3 r

theorem get_mem {H : Heap} {r : Nat} {b : Blk} (h : H.get r = some b) : (r, b) ∈ H := by
  induction H with
  | nil => cases h
  | cons x H ih =>
    obtain ⟨i, b'⟩ := x
    simp only [Heap.get] at h
    by_cases e : i = r
    · subst e; rw [beq_true] at h; cases h; simp
    · rw [beq_false e] at h; exact List.mem_cons_of_mem _ (ih h)

section
variable {Z : Nat → Prop} {Xs X : Cx} {N base : Nat}

theorem pro_sound {st : St} {a : Act} (hsr : SR Z Xs N st a X) : ∃ X', X'.w = X.w ∧ SR Z Xs N (pro st) a X' := by
  have hr := hsr.step.hr
  obtain ⟨p1, p2, p3⟩ := proFr_spec st.fr st.nxt
  obtain ⟨q1, q2, q3⟩ := proH_spec st.H (proFr st.nxt st.fr).2.1
  let X' : Cx := ⟨fun r => if r < X.n then X.ι r else none, X.T, X.w, (pro st).H, (pro st).nxt⟩
  have hn : X.n = st.nxt := hsr.n
  have hH : X.H = st.H := hsr.H
  have hnx : (pro st).nxt = (proH (proFr st.nxt st.fr).2.1 st.H).2.1 := rfl
  have hHx : (pro st).H = (proH (proFr st.nxt st.fr).2.1 st.H).1 ++ (proFr st.nxt st.fr).2.2 ++ (proH (proFr st.nxt st.fr).2.1 st.H).2.2 := rfl
  -- each block is an old one, or new and without an element
  have src : ∀ r b', X'.H.get r = some b' → (r < X.n ∧ ∃ b, X.H.get r = some b ∧ (b' = b ∨ ∃ cs cs', b = .box cs ∧ b' = .box cs' ∧ cs'.length = cs.length ∧ ∀ (j : Nat) (c' : Cell), cs'[j]? = some c' → ∃ c, cs[j]? = some c ∧ CPro X.n X'.n c c')) ∨ (X.n ≤ r ∧ r < X'.n ∧ ∃ e, b' = .arr 0 e []) := by
    intro r b' hg
    have hg' : Heap.get ((proH (proFr st.nxt st.fr).2.1 st.H).1 ++ (proFr st.nxt st.fr).2.2 ++ (proH (proFr st.nxt st.fr).2.1 st.H).2.2) r = some b' := hg
    rw [get_app, get_app] at hg'
    cases h1 : Heap.get (proH (proFr st.nxt st.fr).2.1 st.H).1 r with
    | some b =>
      rw [h1] at hg'
      cases hg'
      obtain ⟨b0, k1, k2⟩ := (q3 r).2 b' h1
      rw [← hH] at k1
      refine .inl ⟨(hr.blk r b0 k1).1, b0, k1, k2.imp id ?_⟩
      rintro ⟨cs, cs', a1, a2, a3, a4⟩
      refine ⟨cs, cs', a1, a2, a3, fun j c' hj => ?_⟩
      obtain ⟨c, m1, m2⟩ := a4 j c' hj
      exact ⟨c, m1, m2.mono (by omega) (Nat.le_refl _)⟩
    | none =>
      rw [h1] at hg'
      right
      cases h2 : Heap.get (proFr st.nxt st.fr).2.2 r with
      | some b =>
        rw [h2] at hg'
        cases hg'
        obtain ⟨m1, m2, m3⟩ := p2 r b' (get_mem h2)
        exact ⟨by omega, by show r < (pro st).nxt; omega, m3⟩
      | none =>
        rw [h2] at hg'
        obtain ⟨m1, m2, m3⟩ := q2 r b' (get_mem hg')
        exact ⟨by omega, m2, m3⟩
  have hle : Le X X' := {
    n := by show X.n ≤ (pro st).nxt; omega
    T := fun _ h => h
    blk := fun _ _ => rfl
    box := by
      intro r cs' hr' hg
      rcases src r _ hg with ⟨k1, b, k2, k3⟩ | ⟨k1, -⟩
      · rcases k3 with rfl | ⟨cs, cs1, rfl, -⟩
        · exact ⟨cs', k2, if_pos hr'⟩
        · exact ⟨cs, k2, if_pos hr'⟩
      · omega
    arr := by
      intro r v' e xs' hr' hg
      rcases src r _ hg with ⟨k1, b, k2, k3⟩ | ⟨k1, -⟩
      · rcases k3 with rfl | ⟨cs, cs1, -, k3, -⟩
        · exact ⟨v', xs', k2, Nat.le_refl _, fun _ => ⟨rfl, if_pos hr'⟩⟩
        · cases k3
      · omega
    size := fun b cs t fz h => ⟨cs, t, fz, h, rfl⟩ }
  have cell : ∀ c c' u, CPro X.n X'.n c c' → CRel X c u → CRel X' c' u := by
    rintro c c' u (rfl | ⟨e, r, rfl, rfl, k1, k2⟩) ⟨h0, h⟩
    · exact CRel.mono hle ⟨h0, h⟩
    · refine ⟨h0, k2, fun v' e' xs hg => ⟨Nat.zero_le _, fun _ => ?_⟩⟩
      rcases src r _ hg with ⟨m1, -⟩ | ⟨-, -, e2, m3⟩
      · omega
      · cases m3
        exact ⟨none, 0, h, Nat.le_refl _, .inl rfl⟩
  have cells : ∀ cs cs' vs, cs'.length = cs.length → (∀ (j : Nat) (c' : Cell), cs'[j]? = some c' → ∃ c, cs[j]? = some c ∧ CPro X.n X'.n c c') → CsRel X cs vs → CsRel X' cs' vs := by
    intro cs cs' vs k1 k2 h
    refine ⟨by rw [h.1, k1], fun j c' hj => ?_⟩
    obtain ⟨c, m1, m2⟩ := k2 j c' hj
    obtain ⟨u, m3, m4⟩ := h.2 j c m1
    exact ⟨u, m3, cell c c' u m2 m4⟩
  refine ⟨X', rfl, rfl, rfl, hsr.step.trans ⟨hle, ⟨fun r b' hg => ?_, fun r r' b b' k o o' hg hg' hi hi' => ?_, fun r b k o hg hi => ?_, hr.T⟩, Keep.refl _ _, fun b hb => .inl hb⟩, fun t d' hl => ?_, hsr.defers, hsr.size⟩
  · rcases src r _ hg with ⟨k1, b, k2, k3⟩ | ⟨k1, k2, e, k3⟩
    · refine ⟨by show r < (pro st).nxt; omega, ?_⟩
      rcases k3 with rfl | ⟨cs, cs1, rfl, rfl, k4, k5⟩
      · exact (hr.blk r b' k2).2.mono hle (if_pos k1) fun _ _ _ => rfl
      · obtain ⟨b, vs, t, m1, m2, m3⟩ := (hr.blk r _ k2).2
        exact ⟨b, vs, t, (if_pos k1).trans m1, m2, cells cs cs1 _ k4 k5 m3⟩
    · subst k3
      exact ⟨k2, .inl ⟨if_neg (by omega), rfl⟩⟩
  · have lt : ∀ r k o, X'.ι r = some (k, o) → r < X.n ∧ X.ι r = some (k, o) := fun r k o h => by
      have h' : (if r < X.n then X.ι r else none) = some (k, o) := h
      split at h'
      · exact ⟨by assumption, h'⟩
      · cases h'
    obtain ⟨l1, l2⟩ := lt r k o hi
    obtain ⟨l3, l4⟩ := lt r' k o' hi'
    rcases src r _ hg with ⟨-, b0, k2, -⟩ | ⟨k1, -⟩
    · rcases src r' _ hg' with ⟨-, b1, k3, -⟩ | ⟨k1, -⟩
      · exact hr.inj r r' b0 b1 k o o' k2 k3 l2 l4
      · omega
    · omega
  · have h' : (if r < X.n then X.ι r else none) = some (k, o) := hi
    split at h'
    · rcases src r _ hg with ⟨-, b0, k2, -⟩ | ⟨k1, -⟩
      · exact hr.apart r b0 k o k2 h'
      · omega
    · cases h'
  · obtain ⟨d, k1, k2⟩ := p3 t d' hl
    obtain ⟨u, m1, m2⟩ := hsr.fr t d k1
    refine ⟨u, m1, ?_⟩
    rcases k2 with rfl | ⟨g, cs, cs', rfl, rfl, k3, k4⟩
    · exact m2.mono hle
    · have k4' : ∀ (j : Nat) (c' : Cell), cs'[j]? = some c' → ∃ c, cs[j]? = some c ∧ CPro X.n X'.n c c' := fun j c' hj => by
        obtain ⟨c, z1, z2⟩ := k4 j c' hj
        exact ⟨c, z1, z2.mono (by omega) (by show _ ≤ (pro st).nxt; omega)⟩
      have m2' : AVRel X ⟨g, cs⟩ u := m2
      show AVRel X' ⟨g, cs'⟩ u
      unfold AVRel at *
      cases g with
      | true =>
        rw [if_pos rfl] at m2' ⊢
        obtain ⟨vs, n1, n2⟩ := m2'
        exact ⟨vs, n1, cells cs cs' _ k3 k4' n2⟩
      | false =>
        rw [if_neg (by simp)] at m2' ⊢
        obtain ⟨c, n1, n2⟩ := m2'
        have n1' : cs = [c] := n1
        subst n1'
        match cs', k3, k4' with
        | [c'], _, k4' =>
          obtain ⟨c0, z1, z2⟩ := k4' 0 c' rfl
          simp at z1; subst z1
          exact ⟨c', rfl, cell _ _ u z2 n2⟩

theorem canon_sound (hb : Xs.n ≤ base) {live : List Nat} {st : St} {a : Act} (hsr : SR Z Xs N st a X) : ∃ X', X'.w = X.w ∧ SR Z Xs N (canon base live st) a X' := by
  obtain ⟨X1, h1, h2⟩ := pro_sound hsr
  obtain ⟨X2, h3, h4⟩ := gc_sound (live := live) hb h2
  exact ⟨X2, h3.trans h1, h4⟩

end
end Go.Proofs.Ytgmcefnlcalagaa.AM
