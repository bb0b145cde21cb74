/- The abstract machine: a call's arguments as trees, and read again. No condition. -/
import Derived.Test.YtgmcefnlcalagaaAm26
import Derived.WideShapes
import Derived.ChangeMaps5
import Derived.RowKit
import Derived.Carry
namespace Go.Proofs.Ytgmcefnlcalagaa.AM
open Go Go.RowKit Go.ChangeShapes Go.WideShapes
set_option linter.unusedSimpArgs false
set_option linter.unusedVariables false

/-- A tree as a value. -/
def avT (τ : Ty) (x : τ.T) : AV := ⟨τ.isAgg, τ.flat x⟩

def tysT : List Ty → Ty
  | [] => .unit
  | a :: r => .prod a (tysT r)

def avs : (τs : List Ty) → (tysT τs).T → List AV
  | [], _ => []
  | τ :: r, x => avT τ x.1 :: avs r x.2

def chkAll (P : Program) (n : Nat) : List TypeId → List Ty → Bool
  | [], [] => true
  | t :: ts, τ :: τs => chk P n t τ && chkAll P n ts τs
  | _, _ => false

section
variable {H : Type} {enc : TypeId × Value → H} {P : Program} {W : World} {sp : Nat → Bool} {hd : Bool} {base : Nat}

theorem struct_form {t : TypeId} {fs : Array Field} {v : Value} (ht : P.underlying t = some (.struct fs)) (h : Value.okWide P W .any base t v) : ∃ cs, v = .agg cs := by
  unfold Value.okWide at h
  rw [ht] at h
  obtain ⟨cs, h1, -⟩ := h
  exact ⟨cs, h1⟩

theorem chkF_agg {c : TypeId → Ty → Bool} {off : Nat} {fs : List Field} {τ : Ty} (h : chkF c off fs τ = true) : τ.isAgg = true := by
  match fs, h with
  | [], h => cases τ <;> simp only [chkF, Bool.false_eq_true] at h; rfl
  | [f], h => cases τ <;> simp only [chkF, Bool.false_eq_true] at h; rfl
  | [f, g], h => cases τ <;> simp only [chkF, Bool.false_eq_true] at h; rfl
  | f :: g :: k :: r, h => cases τ <;> simp only [chkF, Bool.false_eq_true] at h; rfl

theorem arg_tree {n : Nat} {t : TypeId} {τ : Ty} {v : Value} {d : DataW H} {p : List MemPlace} (hc : chk P n t τ = true) (hv : Value.okWide P W .any base t v) (ht : DataW.Trod enc P W 0 sp hd t v d p) :
    ∃ x, AVRel (Cx.old W) (avT τ x) v ∧ τ.wf x := by
  obtain ⟨fuel, hf⟩ := ht
  obtain ⟨x, h1, h2⟩ := trod_tree n t τ fuel v.cells.toList _ hc hf
  refine ⟨x, ?_, h2⟩
  have hcs : CsRel (Cx.old W) (τ.flat x) v.cells.toList := flat_rel (X := Cx.old W) h1
  have agg : τ.isAgg = true → (∃ cs, v = .agg cs) → AVRel (Cx.old W) (avT τ x) v := by
    rintro ha ⟨cs, rfl⟩
    unfold AVRel avT
    rw [if_pos ha]
    exact ⟨cs, rfl, hcs⟩
  have one : τ.isAgg = false → (∃ u, v = u ∧ v.cells = #[v]) → (∃ c, τ.flat x = [c]) → AVRel (Cx.old W) (avT τ x) v := by
    rintro ha ⟨u, -, hu⟩ ⟨c, hx⟩
    unfold AVRel avT
    rw [if_neg (by rw [ha]; simp)]
    refine ⟨c, hx, ?_⟩
    rw [hu, hx] at hcs
    obtain ⟨u', k1, k2⟩ := hcs.2 0 c rfl
    simp at k1; subst k1
    exact k2
  cases n with
  | zero => cases hc
  | succ n =>
    simp only [chk, Bool.and_eq_true] at hc
    replace hc := hc.2
    split at hc
    · rename_i k k' hu
      obtain ⟨m, rfl⟩ := okWide_int hu hv
      exact one rfl ⟨_, rfl, rfl⟩ ⟨_, rfl⟩
    · rename_i hu
      obtain ⟨m, rfl⟩ := okWide_bool hu hv
      exact one rfl ⟨_, rfl, rfl⟩ ⟨_, rfl⟩
    · rename_i hu
      obtain ⟨m, rfl⟩ := okWide_string hu hv
      exact one rfl ⟨_, rfl, rfl⟩ ⟨_, rfl⟩
    · rename_i e τe hu
      obtain ⟨a, len, cap, rfl⟩ := okWide_slice hu hv
      exact one rfl ⟨_, rfl, rfl⟩ ⟨_, rfl⟩
    · rename_i fs hu
      refine agg ?_ (struct_form hu hv)
      exact chkF_agg hc
    · cases hc

theorem VsRel.cons {X : Cx} {v : AV} {vs : List AV} {u : Value} {us : List Value} (h : AVRel X v u) (h' : VsRel X vs us) : VsRel X (v :: vs) (u :: us) := by
  refine ⟨by simp [h'.1], fun j w hj => ?_⟩
  cases j with
  | zero => simp at hj; subst hj; exact ⟨u, rfl, h⟩
  | succ j => simpa using h'.2 j w (by simpa using hj)

theorem args_tree {n : Nat} : ∀ {ts : List TypeId} {τs : List Ty} {vs : List Value} {ds : List (DataW H)} {ps : List MemPlace}, chkAll P n ts τs = true → DataW.TrodAll enc P W 0 sp hd ts vs ds ps →
    (∀ (j : Nat) t v, ts[j]? = some t → vs[j]? = some v → Value.okWide P W .any base t v) → ∃ x : (tysT τs).T, VsRel (Cx.old W) (avs τs x) vs ∧ (tysT τs).wf x ∧ ds.length = ts.length := by
  intro ts
  induction ts with
  | nil =>
    intro τs vs ds ps hc ht hv
    obtain ⟨rfl, rfl, rfl⟩ := trodAll_nil ht
    cases τs with
    | nil => exact ⟨(), ⟨rfl, fun j v h => by simp [avs] at h⟩, trivial, rfl⟩
    | cons τ r => cases hc
  | cons t ts ih =>
    intro τs vs ds ps hc ht hv
    obtain ⟨v, vs', d, ds', p, q, rfl, rfl, rfl, h1, h2⟩ := trodAll_cons ht
    cases τs with
    | nil => cases hc
    | cons τ τs =>
      simp only [chkAll, Bool.and_eq_true] at hc
      obtain ⟨x, k1, k2⟩ := arg_tree hc.1 (hv 0 t v rfl rfl) h1
      obtain ⟨y, k3, k4, k5⟩ := ih hc.2 h2 (fun j t v a b => hv (j + 1) t v (by simpa using a) (by simpa using b))
      exact ⟨(x, y), VsRel.cons k1 k3, ⟨k2, k4⟩, by simp [k5]⟩

/-- The arguments read behind the call as they read before. -/
theorem args_back {W' : World} (hl : laidOutB P = true) (hb : Below W.heap.size W W') : ∀ {ts : List TypeId} {vs : List Value} {ds : List (DataW H)} {ps : List MemPlace}, (ts.all fun t => P.readableRec t && decide (t < P.types.size)) = true →
    DataW.TrodAll enc P W 0 (fun _ => true) true ts vs ds ps → DataW.TrodAll enc P W' 0 (fun b => decide (b < W.heap.size)) true ts vs ds ps := by
  intro ts
  induction ts with
  | nil =>
    intro vs ds ps _ h
    obtain ⟨rfl, rfl, rfl⟩ := trodAll_nil h
    exact trodAll_mk0
  | cons t ts ih =>
    intro vs ds ps hr h
    have hlt := DataW.TrodAll.lt h
    obtain ⟨v, vs', d, ds', p, q, rfl, rfl, rfl, h1, h2⟩ := trodAll_cons h
    simp only [List.all_cons, Bool.and_eq_true, decide_eq_true_eq] at hr
    refine ⟨p, q, Below.trod hl hr.1.1 hr.1.2 h1 hb (fun x hx => hlt x (List.mem_append_left _ hx)), ih ?_ h2, rfl⟩
    simpa using hr.2

end
end Go.Proofs.Ytgmcefnlcalagaa.AM
