/- The abstract machine: shapes of states at a loop's head. No condition. -/
import Derived.Test.YtgmcefnlcalagaaAm28
namespace Go.Proofs.Ytgmcefnlcalagaa.AM
open Go Go.RowKit
set_option linter.unusedSimpArgs false
set_option linter.unusedVariables false

/-- A cell's shape: what kind of value it holds, or the cell itself. -/
inductive CSh where
  | int (k : IntKind)
  | bool
  | str
  | sl (e : Ty)
  | ref (τ : Ty) (k : Nat)
  | sub (r v : Nat)
  | elt (r v k : Nat)
  | lit (c : Cell)

@[reducible] def CSh.T : CSh → Type
  | .int _ => Int
  | .bool => Bool
  | .str => ByteArray
  | .sl e => List e.T
  | .ref τ _ => τ.T
  | .sub _ _ => Nat × Nat
  | .elt _ _ _ => Nat
  | .lit _ => Unit

def CSh.mk : (s : CSh) → s.T → Cell
  | .int k, n => .int k n
  | .bool, b => .bool b
  | .str, s => .str s
  | .sl e, xs => .sl e xs
  | .ref τ k, x => .ref τ x k
  | .sub r v, x => .sub r v x.1 x.2
  | .elt r v k, i => .elt r v i k
  | .lit c, _ => c

def eqCaps : List (Nat × Nat) → List (Nat × Nat) → Bool
  | [], [] => true
  | (a, b) :: r, (c, d) :: s => Nat.beq a c && Nat.beq b d && eqCaps r s
  | _, _ => false

def eqLit : Cell → Cell → Bool
  | .own r v, .own r' v' => Nat.beq r r' && Nat.beq v v'
  | .sub r v o l, .sub r' v' o' l' => Nat.beq r r' && Nat.beq v v' && Nat.beq o o' && Nat.beq l l'
  | .ptr r o, .ptr r' o' => Nat.beq r r' && Nat.beq o o'
  | .elt r v i k, .elt r' v' i' k' => Nat.beq r r' && Nat.beq v v' && Nat.beq i i' && Nat.beq k k'
  | .fn f c, .fn f' c' => Nat.beq f f' && eqCaps c c'
  | .emp e, .emp e' => decide (e = e')
  | .nilF, .nilF => true
  | .nilI, .nilI => true
  | .err, .err => true
  | .junk, .junk => true
  | _, _ => false

def CSh.ps : (s : CSh) → Cell → Option s.T
  | .int k, .int k' n => bif decide (k' = k) then some n else none
  | .bool, .bool b => some b
  | .str, .str s => some s
  | .sl e, .sl e' xs => if h : e' = e then some (h ▸ xs) else none
  | .ref τ k, .ref τ' x k' => bif Nat.beq k k' then (if h : τ' = τ then some (h ▸ x) else none) else none
  | .sub r v, .sub r' v' o l => bif Nat.beq r r' && Nat.beq v v' then some (o, l) else none
  | .elt r v k, .elt r' v' i k' => bif Nat.beq r r' && (Nat.beq v v' && Nat.beq k k') then some i else none
  | .lit c, c' => bif eqLit c c' then some () else none
  | _, _ => none

@[reducible] def CsT : List CSh → Type
  | [] => Unit
  | s :: r => s.T × CsT r

def csMk : (ss : List CSh) → CsT ss → List Cell
  | [], _ => []
  | s :: r, x => s.mk x.1 :: csMk r x.2

def csPs : (ss : List CSh) → List Cell → Option (CsT ss)
  | [], [] => some ()
  | s :: r, c :: cs => (s.ps c).bind fun x => (csPs r cs).bind fun y => some (x, y)
  | _, _ => none

structure Slot where
  t : Nat
  agg : Bool
  cs : List CSh

@[reducible] def FrT : List Slot → Type
  | [] => Unit
  | s :: r => CsT s.cs × FrT r

def frMk : (ss : List Slot) → FrT ss → List (Nat × D)
  | [], _ => []
  | s :: r, x => (s.t, .one ⟨s.agg, csMk s.cs x.1⟩) :: frMk r x.2

def frPs : (ss : List Slot) → List (Nat × D) → Option (FrT ss)
  | [], [] => some ()
  | s :: r, (t, .one v) :: fr => bif Nat.beq t s.t && (v.agg == s.agg) then (csPs s.cs v.cs).bind fun x => (frPs r fr).bind fun y => some (x, y) else none
  | _, _ => none

inductive BSh where
  | arr (ver : Nat) (e : Ty)
  | box (cs : List CSh)

@[reducible] def BSh.T : BSh → Type
  | .arr _ e => List e.T
  | .box cs => CsT cs

def BSh.mk : (b : BSh) → b.T → Blk
  | .arr v e, xs => .arr v e xs
  | .box cs, x => .box (csMk cs x)

def BSh.ps : (b : BSh) → Blk → Option b.T
  | .arr v e, .arr v' e' xs => bif Nat.beq v' v then (if h : e' = e then some (h ▸ xs) else none) else none
  | .box cs, .box l => csPs cs l
  | _, _ => none

@[reducible] def HpT : List (Nat × BSh) → Type
  | [] => Unit
  | b :: r => b.2.T × HpT r

def hpMk : (bs : List (Nat × BSh)) → HpT bs → Heap
  | [], _ => []
  | b :: r, x => (b.1, b.2.mk x.1) :: hpMk r x.2

def hpPs : (bs : List (Nat × BSh)) → Heap → Option (HpT bs)
  | [], [] => some ()
  | b :: r, (i, x) :: H => bif Nat.beq i b.1 then (b.2.ps x).bind fun y => (hpPs r H).bind fun z => some (y, z) else none
  | _, _ => none

/-- A state's shape. -/
structure Sh where
  fr : List Slot
  n : Nat
  H : List (Nat × BSh)

@[reducible] def Sh.T (s : Sh) : Type := FrT s.fr × HpT s.H

def Sh.mk' (s : Sh) (x : s.T) : St := ⟨frMk s.fr x.1, s.n, hpMk s.H x.2⟩

def Sh.ps (s : Sh) (st : St) : Option s.T :=
  bif Nat.beq st.nxt s.n then (frPs s.fr st.fr).bind fun x => (hpPs s.H st.H).bind fun y => some (x, y) else none

theorem eqCaps_eq : ∀ {a b : List (Nat × Nat)}, eqCaps a b = true → a = b := by
  intro a
  induction a with
  | nil => intro b h; cases b with
    | nil => rfl
    | cons x b => cases h
  | cons x a ih => intro b h; cases b with
    | nil => cases h
    | cons y b =>
      obtain ⟨x1, x2⟩ := x
      obtain ⟨y1, y2⟩ := y
      simp only [eqCaps, Bool.and_eq_true] at h
      rw [Nat.eq_of_beq_eq_true h.1.1, Nat.eq_of_beq_eq_true h.1.2, ih h.2]

theorem eqLit_eq {a b : Cell} (h : eqLit a b = true) : a = b := by
  cases a <;> cases b <;> first | (cases h; done) | skip
  all_goals try simp only [eqLit, Bool.and_eq_true, decide_eq_true_eq] at h
  case own.own => rw [Nat.eq_of_beq_eq_true h.1, Nat.eq_of_beq_eq_true h.2]
  case sub.sub => rw [Nat.eq_of_beq_eq_true h.1.1.1, Nat.eq_of_beq_eq_true h.1.1.2, Nat.eq_of_beq_eq_true h.1.2, Nat.eq_of_beq_eq_true h.2]
  case ptr.ptr => rw [Nat.eq_of_beq_eq_true h.1, Nat.eq_of_beq_eq_true h.2]
  case elt.elt => rw [Nat.eq_of_beq_eq_true h.1.1.1, Nat.eq_of_beq_eq_true h.1.1.2, Nat.eq_of_beq_eq_true h.1.2, Nat.eq_of_beq_eq_true h.2]
  case fn.fn => rw [Nat.eq_of_beq_eq_true h.1, eqCaps_eq h.2]
  case emp.emp => rw [h]
  all_goals rfl

theorem CSh.ps_mk {s : CSh} {c : Cell} {x : s.T} (h : s.ps c = some x) : c = s.mk x := by
  cases s with
  | int k =>
    cases c <;> try cases h
    obtain ⟨h1, h2⟩ := bif_true h
    have := of_decide_eq_true h1
    subst this
    cases h2; rfl
  | bool => cases c <;> try cases h
            rfl
  | str => cases c <;> try cases h
           rfl
  | sl e =>
    cases c <;> try cases h
    simp only [CSh.ps] at h
    split at h
    · rename_i he; subst he; cases h; rfl
    · cases h
  | ref τ k =>
    cases c <;> try cases h
    simp only [CSh.ps] at h
    obtain ⟨h1, h2⟩ := bif_true h
    have := Nat.eq_of_beq_eq_true h1
    subst this
    split at h2
    · rename_i he; subst he; cases h2; rfl
    · cases h2
  | sub r v =>
    cases c <;> try cases h
    simp only [CSh.ps] at h
    obtain ⟨h1, h2⟩ := bif_true h
    simp only [Bool.and_eq_true] at h1
    rw [Nat.eq_of_beq_eq_true h1.1, Nat.eq_of_beq_eq_true h1.2]
    cases h2; rfl
  | elt r v k =>
    cases c <;> try cases h
    simp only [CSh.ps] at h
    obtain ⟨h1, h2⟩ := bif_true h
    simp only [Bool.and_eq_true] at h1
    rw [Nat.eq_of_beq_eq_true h1.1, Nat.eq_of_beq_eq_true h1.2.1, Nat.eq_of_beq_eq_true h1.2.2]
    cases h2; rfl
  | lit c0 =>
    have h' : (bif eqLit c0 c then some () else none) = some x := by cases c <;> exact h
    obtain ⟨h1, h2⟩ := bif_true h'
    exact (eqLit_eq h1).symm

theorem csPs_mk : ∀ {ss : List CSh} {cs : List Cell} {x : CsT ss}, csPs ss cs = some x → cs = csMk ss x := by
  intro ss
  induction ss with
  | nil => intro cs x h; cases cs with
    | nil => rfl
    | cons c cs => cases h
  | cons s ss ih => intro cs x h; cases cs with
    | nil => cases h
    | cons c cs =>
      simp only [csPs] at h
      obtain ⟨y, h1, h2⟩ := obind h
      obtain ⟨z, h3, h4⟩ := obind h2
      cases h4
      rw [CSh.ps_mk h1, ih h3]; rfl

theorem frPs_mk : ∀ {ss : List Slot} {fr : List (Nat × D)} {x : FrT ss}, frPs ss fr = some x → fr = frMk ss x := by
  intro ss
  induction ss with
  | nil => intro fr x h; cases fr with
    | nil => rfl
    | cons c cs => cases h
  | cons s ss ih => intro fr x h; cases fr with
    | nil => cases h
    | cons c fr =>
      obtain ⟨t, d⟩ := c
      cases d with
      | tup vs => cases h
      | one v =>
        simp only [frPs] at h
        obtain ⟨h0, h⟩ := bif_true h
        simp only [Bool.and_eq_true, beq_iff_eq] at h0
        obtain ⟨y, h1, h2⟩ := obind h
        obtain ⟨z, h3, h4⟩ := obind h2
        cases h4
        obtain ⟨g, cs⟩ := v
        have e1 := Nat.eq_of_beq_eq_true h0.1
        have e2 : g = s.agg := h0.2
        have e3 : cs = csMk s.cs y := csPs_mk h1
        rw [e1, e2, e3, ih h3]; rfl

theorem BSh.ps_mk {b : BSh} {k : Blk} {x : b.T} (h : b.ps k = some x) : k = b.mk x := by
  cases b with
  | arr v e =>
    cases k with
    | box l => cases h
    | arr v' e' xs =>
      simp only [BSh.ps] at h
      obtain ⟨h1, h2⟩ := bif_true h
      have := Nat.eq_of_beq_eq_true h1
      subst this
      split at h2
      · rename_i he; subst he; cases h2; rfl
      · cases h2
  | box cs =>
    cases k with
    | arr v' e' xs => cases h
    | box l => rw [csPs_mk (ss := cs) (x := x) h]; rfl

theorem hpPs_mk : ∀ {bs : List (Nat × BSh)} {H : Heap} {x : HpT bs}, hpPs bs H = some x → H = hpMk bs x := by
  intro bs
  induction bs with
  | nil => intro H x h; cases H with
    | nil => rfl
    | cons c cs => cases h
  | cons b bs ih => intro H x h; cases H with
    | nil => cases h
    | cons c H =>
      obtain ⟨i, k⟩ := c
      simp only [hpPs] at h
      obtain ⟨h0, h⟩ := bif_true h
      obtain ⟨y, h1, h2⟩ := obind h
      obtain ⟨z, h3, h4⟩ := obind h2
      cases h4
      rw [Nat.eq_of_beq_eq_true h0, BSh.ps_mk h1, ih h3]; rfl

theorem Sh.ps_mk {s : Sh} {st : St} {x : s.T} (h : s.ps st = some x) : st = s.mk' x := by
  simp only [Sh.ps] at h
  obtain ⟨h0, h⟩ := bif_true h
  obtain ⟨y, h1, h2⟩ := obind h
  obtain ⟨z, h3, h4⟩ := obind h2
  cases h4
  obtain ⟨fr, n, H⟩ := st
  have e1 : n = s.n := Nat.eq_of_beq_eq_true h0
  have e2 : fr = frMk s.fr y := frPs_mk h1
  have e3 : H = hpMk s.H z := hpPs_mk h3
  rw [e1, e2, e3]; rfl

/-- A loop's summary over one shape, for calls with the room b. -/
structure LCA where
  b : Nat
  s : Sh
  F : s.T → {α : Type} → (Ex → St → Option α) → Option α

def altRun {α : Type} : List LCA → Nat → St → (Ex → St → Option α) → Option α
  | [], _, _, _ => none
  | a :: r, base, st, k => bif Nat.beq base a.b then (match a.s.ps st with
    | some x => a.F x k
    | none => altRun r base st k) else altRun r base st k

/-- A loop's summary: one for each shape with which it is met. -/
def LC.alts (d : Nat) (l : List LCA) : LC := ⟨d, altRun l⟩

theorem altRun_ok {α : Type} {base : Nat} {st : St} {k : Ex → St → Option α} {r : α} : ∀ {l : List LCA}, altRun l base st k = some r → ∃ a ∈ l, base = a.b ∧ ∃ x, st = a.s.mk' x ∧ a.F x k = some r := by
  intro l
  induction l with
  | nil => intro h; cases h
  | cons a l ih =>
    intro h
    simp only [altRun] at h
    have rest : altRun l base st k = some r → ∃ a' ∈ a :: l, base = a'.b ∧ ∃ x, st = a'.s.mk' x ∧ a'.F x k = some r := fun h => by
      obtain ⟨a', h1, h2⟩ := ih h
      exact ⟨a', List.mem_cons_of_mem _ h1, h2⟩
    cases hb : Nat.beq base a.b with
    | false => rw [hb] at h; exact rest h
    | true =>
      rw [hb] at h
      simp only [cond_true] at h
      split at h
      · rename_i x hx
        exact ⟨a, List.mem_cons_self .., Nat.eq_of_beq_eq_true hb, x, Sh.ps_mk hx, h⟩
      · exact rest h

end Go.Proofs.Ytgmcefnlcalagaa.AM
