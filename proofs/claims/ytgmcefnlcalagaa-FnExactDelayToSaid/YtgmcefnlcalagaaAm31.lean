/- The abstract machine: contracts whose results are own arrays. No condition. -/
import Derived.Test.YtgmcefnlcalagaaAm30
namespace Go.Proofs.Ytgmcefnlcalagaa.AM
open Go Go.RowKit
set_option linter.unusedSimpArgs false
set_option linter.unusedVariables false

/-- How many slices stand at a type's top. -/
def nsl : Ty → Nat
  | .slice _ => 1
  | .prod a b => nsl a + nsl b
  | _ => 0

/-- No slice within a slice. -/
def flatEl : Ty → Bool
  | .slice e => noSl e
  | .prod a b => flatEl a && flatEl b
  | _ => true

/-- The cells of a value whose slices are own arrays, numbered from n on. -/
def ownFlat : (τ : Ty) → τ.T → Nat → List Cell
  | .int k, x, _ => [.int k x]
  | .bool, x, _ => [.bool x]
  | .str, x, _ => [.str x]
  | .unit, _, _ => []
  | .prod a b, x, n => ownFlat a x.1 n ++ ownFlat b x.2 (n + nsl a)
  | .slice _, _, n => [.own n 0]

def ownBlks : (τ : Ty) → τ.T → List Blk
  | .slice e, xs => [.arr 0 e xs]
  | .prod a b, x => ownBlks a x.1 ++ ownBlks b x.2
  | _, _ => []

def avsO : (τs : List Ty) → (tysT τs).T → Nat → List AV
  | [], _, _ => []
  | τ :: r, x, n => ⟨τ.isAgg, ownFlat τ x.1 n⟩ :: avsO r x.2 (n + nsl τ)

/-- A value read off cells whose slices are own arrays, each with its number, or nil. -/
def rdO (H : Heap) : (τ : Ty) → List Cell → Option (τ.T × List (Option Nat) × List Cell)
  | .int k, .int k' n :: r => if k = k' then some (n, [], r) else none
  | .bool, .bool b :: r => some (b, [], r)
  | .str, .str s :: r => some (s, [], r)
  | .unit, r => some ((), [], r)
  | .prod a b, r => (rdO H a r).bind fun p => (rdO H b p.2.2).bind fun q => some ((p.1, q.1), p.2.1 ++ q.2.1, q.2.2)
  | .slice e, .emp e' :: r => if e' = e then some ([], [none], r) else none
  | .slice e, .own i v :: r =>
    match H.get i with
    | some (.arr v' e' xs) => bif Nat.beq v v' then (if h : e' = e then some (h ▸ xs, [some i], r) else none) else none
    | _ => none
  | _, _ => none

def rdVO (H : Heap) (τ : Ty) (v : AV) : Option (τ.T × List (Option Nat)) :=
  bif v.agg == τ.isAgg then (rdO H τ v.cs).bind fun p => match p.2.2 with
    | [] => some (p.1, p.2.1)
    | _ => none
  else none

def rdVsO (H : Heap) : (ρs : List Ty) → List AV → Option ((tysT ρs).T × List (Option Nat))
  | [], [] => some ((), [])
  | ρ :: r, v :: vs => (rdVO H ρ v).bind fun x => (rdVsO H r vs).bind fun y => some ((x.1, y.1), x.2 ++ y.2)
  | _, _ => none

def nodupO (ids : List (Option Nat)) : Bool := nodupB (ids.filterMap id)

def fstO {β : Type} (p : Option (β × List (Option Nat))) : Option β :=
  p.bind fun q => bif nodupO q.2 then some q.1 else none

def outO : (ρs : List Ty) → D → St → Option (tysT ρs).T
  | [ρ], .one v, st => fstO (rdVsO st.H [ρ] [v])
  | [_], .tup _, _ => none
  | ρs, .tup vs, st => fstO (rdVsO st.H ρs vs)
  | _, .one _, _ => none

/-- A function that reckons F and gives its slices as own arrays. -/
def PC.fnO (own : Bool) (ps : List Par) (ρs : List Ty) (F : (parsT ps).T → Option (tysT ρs).T) : PC :=
  ⟨(tysT ρs).T, fun H args => (rdArgs (bif own then H else []) ps args).bind F, fun n y => (resD (avsO ρs y n), ownBlks (tysT ρs) y)⟩

theorem ownBlks_len : ∀ {τ : Ty} {x : τ.T}, (ownBlks τ x).length = nsl τ := by
  intro τ
  induction τ with
  | prod a b iha ihb => intro x; simp [ownBlks, nsl, iha, ihb]
  | _ => intro x; rfl

theorem ownFlat_len : ∀ {τ : Ty} {x : τ.T} {n : Nat}, (ownFlat τ x n).length = τ.sz := by
  intro τ
  induction τ with
  | prod a b iha ihb => intro x n; simp [ownFlat, Ty.sz, iha, ihb]
  | _ => intro x n; rfl

/-- The blocks and the numbers that were read. -/
def OwnIds (H : Heap) (bs : List Blk) (ids : List (Option Nat)) : Prop :=
  ids.length = bs.length ∧ ∀ (i : Nat) (b : Blk), bs[i]? = some b → ∃ (e : Ty) (xs : List e.T), b = Blk.arr 0 e xs ∧ ((ids[i]? = some none ∧ xs = []) ∨ ∃ (r v : Nat), ids[i]? = some (some r) ∧ H.get r = some (Blk.arr v e xs))

theorem OwnIds.append {H : Heap} {bs bs' : List Blk} {ids ids' : List (Option Nat)} (h : OwnIds H bs ids) (h' : OwnIds H bs' ids') : OwnIds H (bs ++ bs') (ids ++ ids') := by
  refine ⟨by simp [h.1, h'.1], fun i b hb => ?_⟩
  rw [List.getElem?_append] at hb ⊢
  rw [h.1]
  split at hb
  · rename_i hi; rw [if_pos hi]; exact h.2 i b hb
  · rename_i hi; rw [if_neg hi]; exact h'.2 _ b hb

theorem rdO_ids {H : Heap} : ∀ {τ : Ty} {cs rest : List Cell} {x : τ.T} {ids : List (Option Nat)}, rdO H τ cs = some (x, ids, rest) → OwnIds H (ownBlks τ x) ids := by
  intro τ
  induction τ with
  | int k =>
    intro cs rest x ids h
    cases cs with
    | nil => cases h
    | cons c cs =>
      cases c <;> try cases h
      simp only [rdO] at h
      split at h
      · cases h; exact ⟨rfl, fun i b hb => by simp [ownBlks] at hb⟩
      · cases h
  | bool => intro cs rest x ids h; cases cs with
    | nil => cases h
    | cons c cs => cases c <;> cases h; exact ⟨rfl, fun i b hb => by simp [ownBlks] at hb⟩
  | str => intro cs rest x ids h; cases cs with
    | nil => cases h
    | cons c cs => cases c <;> cases h; exact ⟨rfl, fun i b hb => by simp [ownBlks] at hb⟩
  | unit => intro cs rest x ids h; cases cs with
    | nil => cases h; exact ⟨rfl, fun i b hb => by simp [ownBlks] at hb⟩
    | cons c cs => cases h; exact ⟨rfl, fun i b hb => by simp [ownBlks] at hb⟩
  | prod a b iha ihb =>
    intro cs rest x ids h
    have h' : ((rdO H a cs).bind fun p => (rdO H b p.2.2).bind fun q => some ((p.1, q.1), p.2.1 ++ q.2.1, q.2.2)) = some (x, ids, rest) := by
      cases cs with
      | nil => exact h
      | cons c cs => cases c <;> exact h
    obtain ⟨⟨x1, i1, r1⟩, h1, g1⟩ := obind h'
    obtain ⟨⟨x2, i2, r2⟩, h2, g2⟩ := obind g1
    cases g2
    exact (iha h1).append (ihb h2)
  | slice e ih =>
    intro cs rest x ids h
    cases cs with
    | nil => cases h
    | cons c cs =>
      cases c <;> try cases h
      case emp e' =>
        simp only [rdO] at h
        split at h
        · cases h
          refine ⟨rfl, fun i b hb => ?_⟩
          cases i with
          | zero => simp [ownBlks] at hb; exact ⟨e, [], hb.symm, .inl ⟨rfl, rfl⟩⟩
          | succ i => simp [ownBlks] at hb
        · cases h
      case own i v =>
        simp only [rdO] at h
        split at h
        · rename_i v' e' xs hg
          obtain ⟨h1, h2⟩ := bif_true h
          split at h2
          · rename_i he; subst he; cases h2
            refine ⟨rfl, fun j b hb => ?_⟩
            cases j with
            | zero => simp [ownBlks] at hb; exact ⟨e', xs, hb.symm, .inr ⟨i, v', rfl, hg⟩⟩
            | succ j => simp [ownBlks] at hb
          · cases h2
        · cases h

/-- In X3 the own arrays stand that X' had under the numbers read; N is the first new number. -/
structure Moved (X' X3 : Cx) (N : Nat) (bs : List Blk) (ids : List (Option Nat)) : Prop where
  w : X3.w = X'.w
  n : N + bs.length ≤ X3.n
  get : ∀ (i : Nat) (b : Blk), bs[i]? = some b → X3.H.get (N + i) = some b
  ι : ∀ (i r : Nat) (k : Nat × Nat), ids[i]? = some (some r) → X'.ι r = some k → X3.ι (N + i) = some k

theorem Moved.left {X' X3 : Cx} {N : Nat} {bs bs' : List Blk} {ids ids' : List (Option Nat)} (hl : ids.length = bs.length) (h : Moved X' X3 N (bs ++ bs') (ids ++ ids')) : Moved X' X3 N bs ids where
  w := h.w
  n := by have := h.n; simp at this; omega
  get := fun i b hb => h.get i b (by rw [List.getElem?_append_left (List.getElem?_eq_some_iff.1 hb).1]; exact hb)
  ι := fun i r k hi hk => h.ι i r k (by rw [List.getElem?_append_left (List.getElem?_eq_some_iff.1 hi).1]; exact hi) hk

theorem Moved.right {X' X3 : Cx} {N : Nat} {bs bs' : List Blk} {ids ids' : List (Option Nat)} (hl : ids.length = bs.length) (h : Moved X' X3 N (bs ++ bs') (ids ++ ids')) : Moved X' X3 (N + bs.length) bs' ids' where
  w := h.w
  n := by have := h.n; simp at this; omega
  get := fun i b hb => by
    rw [Nat.add_assoc]
    exact h.get _ b (by rw [List.getElem?_append_right (by omega)]; simpa using hb)
  ι := fun i r k hi hk => by
    rw [Nat.add_assoc]
    refine h.ι _ r k ?_ hk
    rw [List.getElem?_append_right (by omega), ← hl]; simpa using hi

theorem rdO_sound {X' X3 : Cx} : ∀ {τ : Ty} {cs rest : List Cell} {x : τ.T} {ids : List (Option Nat)} {N : Nat} {vs : List Value}, rdO X'.H τ cs = some (x, ids, rest) → Moved X' X3 N (ownBlks τ x) ids → CsRel X' cs vs →
    CsRel X3 (ownFlat τ x N) (vs.take τ.sz) ∧ CsRel X' rest (vs.drop τ.sz) := by
  have one : ∀ {c : Cell} {u : Value}, CRel X3 c u → CsRel X3 [c] [u] := fun {c u} h => ⟨rfl, fun j c' hj => by
    cases j with
    | zero => simp at hj; subst hj; exact ⟨u, rfl, h⟩
    | succ j => simp at hj⟩
  have hd : ∀ {c : Cell} {cs : List Cell} {vs : List Value}, CsRel X' (c :: cs) vs → ∃ u vs', vs = u :: vs' ∧ CRel X' c u ∧ CsRel X' cs vs' := fun {c cs vs} h => by
    cases vs with
    | nil => exact absurd h.1 (by simp)
    | cons u vs =>
      obtain ⟨u', h1, h2⟩ := h.2 0 c rfl
      cases h1
      exact ⟨u, vs, rfl, h2, h.drop 1⟩
  intro τ
  induction τ with
  | int k =>
    intro cs rest x ids N vs h hm hc
    cases cs with
    | nil => cases h
    | cons c cs =>
      cases c <;> try cases h
      simp only [rdO] at h
      split at h
      · rename_i e; subst e; cases h
        obtain ⟨u, vs', rfl, h1, h2⟩ := hd hc
        exact ⟨one ⟨h1.1, h1.2⟩, h2⟩
      · cases h
  | bool =>
    intro cs rest x ids N vs h hm hc
    cases cs with
    | nil => cases h
    | cons c cs =>
      cases c <;> cases h
      obtain ⟨u, vs', rfl, h1, h2⟩ := hd hc
      exact ⟨one ⟨h1.1, h1.2⟩, h2⟩
  | str =>
    intro cs rest x ids N vs h hm hc
    cases cs with
    | nil => cases h
    | cons c cs =>
      cases c <;> cases h
      obtain ⟨u, vs', rfl, h1, h2⟩ := hd hc
      exact ⟨one ⟨h1.1, h1.2⟩, h2⟩
  | unit =>
    intro cs rest x ids N vs h hm hc
    have h' : some ((), [], cs) = some (x, ids, rest) := by
      cases cs with
      | nil => exact h
      | cons c cs => cases c <;> exact h
    cases h'
    exact ⟨⟨rfl, fun j c hj => by simp [ownFlat] at hj⟩, hc⟩
  | prod a b iha ihb =>
    intro cs rest x ids N vs h hm hc
    have h' : ((rdO X'.H a cs).bind fun p => (rdO X'.H b p.2.2).bind fun q => some ((p.1, q.1), p.2.1 ++ q.2.1, q.2.2)) = some (x, ids, rest) := by
      cases cs with
      | nil => exact h
      | cons c cs => cases c <;> exact h
    obtain ⟨⟨x1, i1, r1⟩, h1, g1⟩ := obind h'
    obtain ⟨⟨x2, i2, r2⟩, h2, g2⟩ := obind g1
    cases g2
    have hl := (rdO_ids h1).1
    obtain ⟨k1, k2⟩ := iha h1 (hm.left hl) hc
    have hm2 := hm.right hl
    rw [ownBlks_len] at hm2
    obtain ⟨k3, k4⟩ := ihb h2 hm2 k2
    refine ⟨?_, ?_⟩
    · show CsRel X3 (ownFlat a x1 N ++ ownFlat b x2 (N + nsl a)) (vs.take (a.sz + b.sz))
      rw [List.take_add]
      exact k1.append k3
    · show CsRel X' _ (vs.drop (a.sz + b.sz))
      rw [← List.drop_drop]
      exact k4
  | slice e ih =>
    intro cs rest x ids N vs h hm hc
    cases cs with
    | nil => cases h
    | cons c cs =>
      cases c <;> try cases h
      case emp e' =>
        simp only [rdO] at h
        split at h
        · cases h
          obtain ⟨u, vs', rfl, h1, h2⟩ := hd hc
          refine ⟨one ⟨h1.1, ?_, fun v' e2 xs hg => ⟨Nat.zero_le _, fun _ => ?_⟩⟩, h2⟩
          · have := hm.n; simp [ownBlks] at this; omega
          · have hg' := hm.get 0 _ rfl
            rw [Nat.add_zero] at hg'
            rw [hg'] at hg
            cases hg
            have hu : u = .slice none 0 0 := h1.2
            exact ⟨none, 0, hu, Nat.le_refl _, .inl rfl⟩
        · cases h
      case own i v =>
        simp only [rdO] at h
        split at h
        · rename_i v' e' xs hg
          obtain ⟨hv, h⟩ := bif_true h
          have hv := Nat.eq_of_beq_eq_true hv
          split at h
          · rename_i he; subst he; cases h
            obtain ⟨u, vs', rfl, h1, h2⟩ := hd hc
            refine ⟨one ⟨h1.1, ?_, fun v2 e2 xs2 hg2 => ⟨Nat.zero_le _, fun _ => ?_⟩⟩, h2⟩
            · have := hm.n; simp [ownBlks] at this; omega
            · have hg' := hm.get 0 _ rfl
              rw [Nat.add_zero] at hg'
              rw [hg'] at hg2
              cases hg2
              obtain ⟨-, hh⟩ := h1.2
              obtain ⟨-, hs⟩ := hh _ _ _ hg
              obtain ⟨A, cap, q1, q2, q3⟩ := hs hv
              refine ⟨A, cap, q1, q2, q3.imp id ?_⟩
              rintro ⟨b, o, cs', t, fz, q4, q5, q6, q7⟩
              exact ⟨b, o, cs', t, fz, by simpa using hm.ι 0 i _ rfl q4, q5, by rw [hm.w]; exact q6, q7⟩
          · cases h
        · cases h

theorem rdVO_sound {X' X3 : Cx} {τ : Ty} {v : AV} {u : Value} {x : τ.T} {ids : List (Option Nat)} {N : Nat} (hv : AVRel X' v u) (h : rdVO X'.H τ v = some (x, ids)) (hm : Moved X' X3 N (ownBlks τ x) ids) : AVRel X3 ⟨τ.isAgg, ownFlat τ x N⟩ u := by
  unfold rdVO at h
  obtain ⟨h1, h2⟩ := bif_true h
  have h1' : v.agg = τ.isAgg := by simpa using h1
  obtain ⟨⟨y, i1, rest⟩, h3, h4⟩ := obind h2
  split at h4
  · rename_i hr
    simp only [Option.some.injEq, Prod.mk.injEq] at h4
    obtain ⟨rfl, rfl⟩ := h4
    simp only at hr
    subst hr
    unfold AVRel at hv ⊢
    rw [← h1']
    have key : ∀ vs : List Value, CsRel X' v.cs vs → CsRel X3 (ownFlat τ y N) vs := fun vs hc => by
      obtain ⟨k1, k2⟩ := rdO_sound h3 hm hc
      have : (vs.drop τ.sz).length = 0 := k2.1
      rwa [List.take_of_length_le (by rw [List.length_drop] at this; omega)] at k1
    split at hv
    · rename_i e
      obtain ⟨vs, rfl, hc⟩ := hv
      rw [if_pos e]
      exact ⟨vs, rfl, key _ hc⟩
    · rename_i e
      obtain ⟨c, hcs, hc⟩ := hv
      rw [if_neg e]
      have : CsRel X3 (ownFlat τ y N) [u] := key _ (by
        rw [hcs]
        exact ⟨rfl, fun j c' hj => by
          cases j with
          | zero => simp at hj; subst hj; exact ⟨u, rfl, hc⟩
          | succ j => simp at hj⟩)
      cases hf : ownFlat τ y N with
      | nil => rw [hf] at this; exact absurd this.1 (by simp)
      | cons c' r =>
        rw [hf] at this
        have hr : r = [] := by have := this.1; simpa using this.symm
        subst hr
        obtain ⟨u', k1, k2⟩ := this.2 0 c' rfl
        simp at k1; subst k1
        exact ⟨c', rfl, k2⟩
  · cases h4

theorem rdVsO_ids {H : Heap} : ∀ {ρs : List Ty} {vs : List AV} {x : (tysT ρs).T} {ids : List (Option Nat)}, rdVsO H ρs vs = some (x, ids) → OwnIds H (ownBlks (tysT ρs) x) ids := by
  intro ρs
  induction ρs with
  | nil =>
    intro vs x ids h
    cases vs with
    | nil => cases h; exact ⟨rfl, fun i b hb => by simp [ownBlks, tysT] at hb⟩
    | cons v vs => cases h
  | cons ρ ρs ih =>
    intro vs x ids h
    cases vs with
    | nil => cases h
    | cons v vs =>
      simp only [rdVsO] at h
      obtain ⟨⟨y, i1⟩, h1, h2⟩ := obind h
      obtain ⟨⟨z, i2⟩, h3, h4⟩ := obind h2
      cases h4
      unfold rdVO at h1
      obtain ⟨-, h1⟩ := bif_true h1
      obtain ⟨⟨y', i', rest⟩, h5, h6⟩ := obind h1
      split at h6
      · cases h6
        exact (rdO_ids h5).append (ih h3)
      · cases h6

theorem rdVsO_sound {X' X3 : Cx} : ∀ {ρs : List Ty} {vs : List AV} {us : List Value} {x : (tysT ρs).T} {ids : List (Option Nat)} {N : Nat}, VsRel X' vs us → rdVsO X'.H ρs vs = some (x, ids) → Moved X' X3 N (ownBlks (tysT ρs) x) ids → VsRel X3 (avsO ρs x N) us := by
  intro ρs
  induction ρs with
  | nil =>
    intro vs us x ids N hv h hm
    cases vs with
    | nil =>
      have : us = [] := by have := hv.1; simpa using this
      subst this
      exact ⟨rfl, fun j v hj => by simp [avsO] at hj⟩
    | cons v vs => cases h
  | cons ρ ρs ih =>
    intro vs us x ids N hv h hm
    cases vs with
    | nil => cases h
    | cons v vs =>
    cases us with
    | nil => exact absurd hv.1 (by simp)
    | cons u us =>
    simp only [rdVsO] at h
    obtain ⟨⟨y, i1⟩, h1, h2⟩ := obind h
    obtain ⟨⟨z, i2⟩, h3, h4⟩ := obind h2
    cases h4
    have hl : i1.length = (ownBlks ρ y).length := by
      unfold rdVO at h1
      obtain ⟨-, h1⟩ := bif_true h1
      obtain ⟨⟨y', i', rest⟩, h5, h6⟩ := obind h1
      split at h6
      · cases h6; exact (rdO_ids h5).1
      · cases h6
    have hv1 : AVRel X' v u := by obtain ⟨u', k1, k2⟩ := hv.2 0 v rfl; simp at k1; subst k1; exact k2
    have hv2 : VsRel X' vs us := ⟨by simpa using hv.1, fun j w hj => by simpa using hv.2 (j + 1) w (by simpa using hj)⟩
    have hm2 := Moved.right (bs := ownBlks ρ y) (bs' := ownBlks (tysT ρs) z) hl hm
    rw [ownBlks_len] at hm2
    exact VsRel.cons (rdVO_sound hv1 h1 (Moved.left (bs := ownBlks ρ y) (bs' := ownBlks (tysT ρs) z) hl hm)) (ih hv2 h3 hm2)

theorem flatEl_blk : ∀ {τ : Ty} {x : τ.T} {i : Nat} {v : Nat} {e : Ty} {xs : List e.T}, flatEl τ = true → (ownBlks τ x)[i]? = some (.arr v e xs) → noSl e = true := by
  intro τ
  induction τ with
  | prod a b iha ihb =>
    intro x i v e xs h hb
    simp only [flatEl, Bool.and_eq_true] at h
    simp only [ownBlks] at hb
    rw [List.getElem?_append] at hb
    split at hb
    · exact iha h.1 hb
    · exact ihb h.2 hb
  | slice e0 ih =>
    intro x i v e xs h hb
    cases i with
    | zero => simp only [ownBlks, List.getElem?_cons_zero, Option.some.injEq] at hb; cases hb; exact h
    | succ i => simp [ownBlks] at hb
  | _ => intro x i v e xs h hb; simp [ownBlks] at hb

theorem nodupO_spec {ids : List (Option Nat)} (h : nodupO ids = true) : ∀ (i j r : Nat), ids[i]? = some (some r) → ids[j]? = some (some r) → i = j := by
  unfold nodupO at h
  induction ids with
  | nil => intro i j r hi; simp at hi
  | cons x ids ih =>
    cases x with
    | none =>
      have h' : nodupB (ids.filterMap id) = true := by simpa using h
      intro i j r hi hj
      cases i with
      | zero => simp at hi
      | succ i => cases j with
        | zero => simp at hj
        | succ j => rw [ih h' i j r (by simpa using hi) (by simpa using hj)]
    | some r0 =>
      have h' : (!(hasId (ids.filterMap id) r0) && nodupB (ids.filterMap id)) = true := by simpa [nodupB] using h
      simp only [Bool.and_eq_true, Bool.not_eq_true'] at h'
      have no : ∀ k : Nat, ids[k]? ≠ some (some r0) := fun k hk => by
        have hm : r0 ∈ ids.filterMap id := List.mem_filterMap.2 ⟨some r0, List.mem_of_getElem? hk, rfl⟩
        rw [hasId_iff.2 hm] at h'
        exact absurd h'.1 (by simp)
      intro i j r hi hj
      cases i with
      | zero => cases j with
        | zero => rfl
        | succ j => simp at hi; subst hi; exact absurd (by simpa using hj) (no j)
      | succ i => cases j with
        | zero => simp at hj; subst hj; exact absurd (by simpa using hi) (no i)
        | succ j => rw [ih h'.2 i j r (by simpa using hi) (by simpa using hj)]

section
variable {P : Program}

/-- A function of which every run comes to F, its slices in own arrays, keeps the contract. -/
theorem own_sound {G : FuncId → Option CE} {m n : Nat} {f : FuncId} {lt : LT} (hE : EnvS P G) (hm : P.follows .mixedOrders = true) (hG : ∀ f lt, G f = some (.inl lt) → LTok P G m f lt) (hl : LTok P G m f lt) {own : Bool} {ps : List Par} {ρs : List Ty} {F : (parsT ps).T → Option (tysT ρs).T}
    (hmode : own = true → flatEl (tysT ρs) = true) (hrun : ∀ x y, F x = some y → acall P G m n f lt (argAVs ps x) ⟨[], 0, []⟩ (outO ρs) = some y) : PSound P f (PC.fnO own ps ρs F) := by
  intro X args us y hf hX hT hv hown R hR
  obtain ⟨x, hx, hFx⟩ := obind hf
  let S : Nat → Prop := fun b => if own = true then b < X.w.heap.size else X.T b
  have hST : ∀ b, X.T b → S b := fun b hb => by show if own = true then _ else _; split; exact hT b hb; exact hb
  have hSlt : ∀ b, S b → b < X.w.heap.size := fun b hb => by
    have hb' : if own = true then b < X.w.heap.size else X.T b := hb
    split at hb'
    · exact hb'
    · exact hT b hb'
  let Y : Cx := ⟨fun _ => none, S, X.w, [], 0⟩
  have hvY : VsRel Y (argAVs ps x) us := by
    refine rdArgs_sound (X := X) (Y := Y) (S := S) (H := bif own then X.H else []) hX hST ?_ ?_ rfl rfl hv hx
    · intro r b hg
      cases own with
      | true => exact hg
      | false => cases hg
    · intro r b k o hg hi
      cases own with
      | true => show if true = true then _ else _; rw [if_pos rfl]; exact hown r b k o hg hi
      | false => cases hg
  have hrY : HR (fun b => b < X.w.heap.size) Y := ⟨fun r b h => (by cases h), fun r r' b b' k o o' h => (by cases h), fun r b k o h => (by cases h), hSlt⟩
  have := acall_sound hE hm hG n f lt hl (fun b => b < X.w.heap.size) Y ⟨[], 0, []⟩ (argAVs ps x) us (outO ρs) y (hrun x y hFx) rfl rfl hrY (fun b hb => hb) hvY
  refine this.mono ?_
  rintro e w' ⟨d, st', v, X', rfl, h1, h2, h3, h4, -, h5, rfl⟩
  have hkeep := h2.keep.below
  have hkw : X'.w.heap.size ≥ X.w.heap.size := hkeep.size
  have fin : ∀ (vs : List AV) (ids : List (Option Nat)), rdVsO X'.H ρs vs = some (y, ids) → nodupO ids = true →
      ∃ X3, GR X (ownBlks (tysT ρs) y) X3 ∧ X3.w = X'.w ∧ ∀ us', VsRel X' vs us' → VsRel X3 (avsO ρs y X.n) us' := by
    intro vs ids hq hnd
    have hids := rdVsO_ids hq
    let bs := ownBlks (tysT ρs) y
    let X3 : Cx := ⟨fun r => if r < X.n then X.ι r else (ids.getD (r - X.n) none).bind X'.ι, fun b => X.T b ∨ (X.w.heap.size ≤ b ∧ X'.T b), X'.w, newBlks X.n bs ++ X.H, X.n + bs.length⟩
    have hι : ∀ i r, ids[i]? = some (some r) → X3.ι (X.n + i) = X'.ι r := fun i r hi => by
      show (if X.n + i < X.n then _ else _) = _
      rw [if_neg (by omega), Nat.add_sub_cancel_left, List.getD_eq_getElem?_getD, hi]; rfl
    have hιn : ∀ i, ids[i]? = some none → X3.ι (X.n + i) = none := fun i hi => by
      show (if X.n + i < X.n then _ else _) = _
      rw [if_neg (by omega), Nat.add_sub_cancel_left, List.getD_eq_getElem?_getD, hi]; rfl
    have hTT : own = false → ∀ b, X'.T b → X3.T b := fun hw b hb => by
      rcases h2.T b hb with q | q
      · have q' : if own = true then b < X.w.heap.size else X.T b := q
        rw [hw] at q'
        exact .inl q'
      · have q' : ¬ b < X.w.heap.size := q
        exact .inr ⟨by omega, hb⟩
    have hinv : ∀ i k o, i < bs.length → X3.ι (X.n + i) = some (k, o) → ∃ r b, ids[i]? = some (some r) ∧ X'.H.get r = some b ∧ X'.ι r = some (k, o) := by
      intro i k o hi hk
      obtain ⟨b, hb⟩ : ∃ b, bs[i]? = some b := ⟨bs[i], List.getElem?_eq_getElem hi⟩
      obtain ⟨e, xs, rfl, hc⟩ := hids.2 i b hb
      rcases hc with ⟨h1, -⟩ | ⟨r, v, h1, h2⟩
      · rw [hιn i h1] at hk; cases hk
      · rw [hι i r h1] at hk; exact ⟨r, _, h1, h2, hk⟩
    refine ⟨X3, ?_, rfl, fun us' hv' => rdVsO_sound hv' hq ⟨rfl, Nat.le_refl _, fun i b hb => ?_, fun i r k hi hk => (hι i r hi).trans hk⟩⟩
    · exact {
        H := rfl
        n := rfl
        below := hkeep
        ι := fun r hr => by show (if r < X.n then _ else _) = _; rw [if_pos hr]
        T := fun b hb => .inl hb
        T' := fun b hb => hb.imp id fun hb => ⟨hb.1, h2.hr.T b hb.2⟩
        new := by
          intro i b hb
          obtain ⟨e, xs, rfl, hc⟩ := hids.2 i b hb
          rcases hc with ⟨h1, rfl⟩ | ⟨r, v, h1, h2'⟩
          · exact .inl ⟨hιn i h1, rfl⟩
          · rcases (h2.hr.blk r _ h2').2 with ⟨g1, g2⟩ | ⟨b, o, cs, t, g1, g2, g3, g4⟩
            · exact .inl ⟨(hι i r h1).trans g1, g2⟩
            · refine .inr ⟨b, o, cs, t, (hι i r h1).trans g1, g2, g3, fun j z hz => ?_⟩
              obtain ⟨row, g5, g6⟩ := g4 j z hz
              refine ⟨row, ?_, g6⟩
              cases hw : own with
              | true => exact noSl_rel (flatEl_blk (hmode hw) hb) g5
              | false => exact TRel.sub (hTT hw) g5
        fresh := by
          intro i b k o hb hk
          obtain ⟨r, b', g1, g2, g3⟩ := hinv i k o (List.getElem?_eq_some_iff.1 hb).1 hk
          obtain ⟨g4, g5⟩ := h2.hr.apart r b' k o g2 g3
          have g5' : ¬ k < X.w.heap.size := g5
          exact ⟨by omega, fun hT3 => hT3.elim (fun q => g5' (hT k q)) (fun q => g4 q.2)⟩
        inj := by
          intro i j k o o' hi hj h6 h7
          obtain ⟨r, b, g1, g2, g3⟩ := hinv i k o hi h6
          obtain ⟨r', b', q1, q2, q3⟩ := hinv j k o' hj h7
          have := h2.hr.inj r r' b b' k o o' g2 q2 g3 q3
          subst this
          exact nodupO_spec hnd i j r g1 q1 }
    · show Heap.get (newBlks X.n bs ++ X.H) (X.n + i) = some b
      have : i < bs.length := (List.getElem?_eq_some_iff.1 hb).1
      rw [Heap.get_new, if_pos (by constructor <;> omega), Nat.add_sub_cancel_left]
      exact hb
  have split1 : ∀ (vs : List AV), fstO (rdVsO st'.H ρs vs) = some y → ∃ ids, rdVsO X'.H ρs vs = some (y, ids) ∧ nodupO ids = true := by
    intro vs hq
    unfold fstO at hq
    obtain ⟨⟨y', ids⟩, q1, q2⟩ := obind hq
    obtain ⟨q3, q4⟩ := bif_true q2
    cases q4
    exact ⟨ids, by rw [h3]; exact q1, q3⟩
  have hlen : ∀ {ρs : List Ty} {y : (tysT ρs).T} {n : Nat}, (avsO ρs y n).length = ρs.length := by
    intro ρs
    induction ρs with
    | nil => intro y n; rfl
    | cons ρ r ih => intro y n; simp [avsO, ih]
  have tup : ∀ vs, d = .tup vs → fstO (rdVsO st'.H ρs vs) = some y → ρs.length ≠ 1 → R (.returned v) X'.w := by
    rintro vs rfl hq hne
    obtain ⟨ids, q1, q2⟩ := split1 vs hq
    obtain ⟨X3, q3, q4, q5⟩ := fin vs ids q1 q2
    obtain ⟨us', rfl, k1, k2⟩ := h5
    obtain ⟨k3, k4⟩ := q5 us'.toList ⟨by simpa using k1, fun j w hj => by simpa using k2 j w hj⟩
    rw [← q4]
    refine hR _ X3 q3 ?_
    show DRel X3 (resD (avsO ρs y X.n)) _
    have : resD (avsO ρs y X.n) = .tup (avsO ρs y X.n) := by
      unfold resD
      split
      · rename_i w hw
        have := hlen (ρs := ρs) (y := y) (n := X.n)
        rw [hw] at this
        exact absurd this.symm hne
      · rfl
    rw [this]
    exact ⟨us', rfl, by simpa using k3, fun j w hj => by simpa using k4 j w hj⟩
  unfold outO at h1
  split at h1
  · rename_i ρ v0
    obtain ⟨ids, q1, q2⟩ := split1 [v0] h1
    obtain ⟨X3, q3, q4, q5⟩ := fin [v0] ids q1 q2
    obtain ⟨k3, k4⟩ := q5 [v] ⟨rfl, fun j w hj => by
      cases j with
      | zero => simp at hj; subst hj; exact ⟨v, rfl, h5⟩
      | succ j => simp at hj⟩
    rw [← q4]
    refine hR _ X3 q3 ?_
    obtain ⟨u, k5, k6⟩ := k4 0 _ rfl
    simp at k5; subst k5
    exact k6
  · cases h1
  · rename_i hne
    refine tup _ rfl h1 fun h1' => ?_
    match ρs, h1', hne with
    | [ρ], _, hne => exact hne ρ rfl
  · cases h1

end
end Go.Proofs.Ytgmcefnlcalagaa.AM
