/- The abstract machine: pure contracts out of runs. No condition. -/
import Derived.Test.YtgmcefnlcalagaaAm27
namespace Go.Proofs.Ytgmcefnlcalagaa.AM
open Go Go.RowKit
set_option linter.unusedSimpArgs false
set_option linter.unusedVariables false

/-- A parameter: a value, or a pointer to one that is only read. -/
inductive Par where
  | val (τ : Ty)
  | ptr (τ : Ty)

def Par.ty : Par → Ty
  | .val τ => τ
  | .ptr τ => τ

def parsT : List Par → Ty
  | [] => .unit
  | p :: r => .prod p.ty (parsT r)

def argAV (p : Par) (x : p.ty.T) : AV :=
  match p, x with
  | .val τ, x => avT τ x
  | .ptr τ, x => ⟨false, [.ref τ x 0]⟩

def argAVs : (ps : List Par) → (parsT ps).T → List AV
  | [], _ => []
  | p :: r, x => argAV p x.1 :: argAVs r x.2

def rdV (H : Heap) (τ : Ty) (v : AV) : Option τ.T :=
  bif v.agg == τ.isAgg then (rd H τ v.cs).bind fun p => match p.2 with
    | [] => some p.1
    | _ => none
  else none

def rdArg (H : Heap) (p : Par) (v : AV) : Option p.ty.T :=
  match p with
  | .val τ => rdV H τ v
  | .ptr τ => (cell1 v).bind fun c => (cellsOf H c).bind fun cs => (rd H τ cs).bind fun q => some q.1

def rdArgs (H : Heap) : (ps : List Par) → List AV → Option (parsT ps).T
  | [], [] => some ()
  | p :: r, v :: vs => (rdArg H p v).bind fun x => (rdArgs H r vs).bind fun y => some (x, y)
  | _, _ => none

def rdVs (H : Heap) : (ρs : List Ty) → List AV → Option (tysT ρs).T
  | [], [] => some ()
  | ρ :: r, v :: vs => (rdV H ρ v).bind fun x => (rdVs H r vs).bind fun y => some (x, y)
  | _, _ => none

/-- The results, read off the heap at the end. -/
def outR : (ρs : List Ty) → D → St → Option (tysT ρs).T
  | [ρ], .one v, st => rdVs st.H [ρ] [v]
  | [_], .tup _, _ => none
  | ρs, .tup vs, st => rdVs st.H ρs vs
  | _, .one _, _ => none

def noSl : Ty → Bool
  | .slice _ => false
  | .prod a b => noSl a && noSl b
  | _ => true

/-- A function that reckons F: 'own': its arguments may lead to own memory (then its results hold no slice). -/
def PC.fn (own : Bool) (ps : List Par) (ρs : List Ty) (F : (parsT ps).T → Option (tysT ρs).T) : PC :=
  ⟨(tysT ρs).T, fun H args => (rdArgs (bif own then H else []) ps args).bind F, fun _ y => (resD (avs ρs y), [])⟩

section
variable {P : Program}

theorem noSl_rel {T T' : Nat → Prop} {w w' : World} : ∀ {τ : Ty} {x : τ.T} {vs : List Value}, noSl τ = true → TRel T w τ x vs → TRel T' w' τ x vs := by
  intro τ
  induction τ with
  | int k => intro x vs _ h; exact h
  | bool => intro x vs _ h; exact h
  | str => intro x vs _ h; exact h
  | unit => intro x vs _ h; exact h
  | prod a b iha ihb =>
    rintro x vs hn ⟨v1, v2, e, h1, h2⟩
    simp only [noSl, Bool.and_eq_true] at hn
    exact ⟨v1, v2, e, iha hn.1 h1, ihb hn.2 h2⟩
  | slice e ih => intro x vs hn; cases hn

theorem TRel.sub {S S' : Nat → Prop} {w : World} (h : ∀ b, S b → S' b) {τ : Ty} {x : τ.T} {vs : List Value} (ht : TRel S w τ x vs) : TRel S' w τ x vs := TRel.mono h (fun _ _ => rfl) ht

/-- A tree as a value, in any context. -/
theorem avT_rel {X : Cx} {τ : Ty} {x : τ.T} {u : Value} (hc : CsRel X (τ.flat x) u.cells.toList) (ha : (τ.isAgg = true ∧ ∃ cs, u = .agg cs) ∨ (τ.isAgg = false ∧ u.cells = #[u])) : AVRel X (avT τ x) u := by
  unfold AVRel avT
  rcases ha with ⟨h1, cs, rfl⟩ | ⟨h1, h2⟩
  · rw [if_pos h1]; exact ⟨cs, rfl, hc⟩
  · rw [if_neg (by rw [h1]; simp)]
    rw [h2] at hc
    cases hf : τ.flat x with
    | nil => rw [hf] at hc; exact absurd hc.1 (by simp)
    | cons c r =>
      rw [hf] at hc
      have : r = [] := by have := hc.1; simpa using this.symm
      subst this
      obtain ⟨u', k1, k2⟩ := hc.2 0 c rfl
      simp at k1; subst k1
      exact ⟨c, by simp, k2⟩

theorem rdV_sound {X : Cx} {S : Nat → Prop} {H : Heap} (hS : ∀ b, X.T b → S b) (hsub : ∀ r b, H.get r = some b → BRel X r b ∧ X.H.get r = some b) (hO : ∀ r b k o, H.get r = some b → X.ι r = some (k, o) → S k)
    {τ : Ty} {v : AV} {u : Value} {x : τ.T} (hv : AVRel X v u) (h : rdV H τ v = some x) : TRel S X.w τ x u.cells.toList ∧ ((τ.isAgg = true ∧ ∃ cs, u = .agg cs) ∨ (τ.isAgg = false ∧ u.cells = #[u])) := by
  unfold rdV at h
  obtain ⟨h1, h2⟩ := bif_true h
  have h1' : v.agg = τ.isAgg := by simpa using h1
  obtain ⟨p, h3, h4⟩ := obind h2
  obtain ⟨y, rest⟩ := p
  split at h4
  · rename_i hr
    cases h4
    simp only at hr
    subst hr
    have key : ∀ vs : List Value, CsRel X v.cs vs → TRel S X.w τ y vs := fun vs hc => by
      obtain ⟨k1, k2⟩ := rd_sound hS hsub hO hc h3
      have : (vs.drop τ.sz).length = 0 := k2.1
      rwa [List.take_of_length_le (by rw [List.length_drop] at this; omega)] at k1
    unfold AVRel at hv
    split at hv
    · rename_i e
      obtain ⟨vs, rfl, hc⟩ := hv
      exact ⟨key _ hc, .inl ⟨by rw [← h1', e], vs, rfl⟩⟩
    · rename_i e
      obtain ⟨c, hcs, hc⟩ := hv
      have ha : v.agg = false := by simpa using e
      have hu : u.cells = #[u] := by
        have := hc.1
        cases u <;> first | rfl | (simp [Value.oneCell'] at this)
      refine ⟨?_, .inr ⟨by rw [← h1', ha], hu⟩⟩
      rw [hu]
      refine key _ ?_
      rw [hcs]
      exact ⟨rfl, fun j c' hj => by
        cases j with
        | zero => simp at hj; subst hj; exact ⟨u, rfl, hc⟩
        | succ j => simp at hj⟩
  · cases h4


theorem cellsOf_up {H H' : Heap} (hsub : ∀ r b, H.get r = some b → H'.get r = some b) {c : Cell} {cs : List Cell} (h : cellsOf H c = some cs) : cellsOf H' c = some cs := by
  cases c <;> try cases h
  case ptr r off =>
    simp only [cellsOf] at h ⊢
    split at h
    · rename_i cs0 hg; rw [hsub _ _ hg]; exact h
    · cases h
  case ref τ x k => rfl
  case elt r v i k =>
    simp only [cellsOf] at h ⊢
    split at h
    · rename_i v' e xs hg; rw [hsub _ _ hg]; exact h
    · cases h

theorem cellsOf_in {X : Cx} {S : Nat → Prop} {H : Heap} (hS : ∀ b, X.T b → S b) (hsub : ∀ r b, H.get r = some b → X.H.get r = some b) (hO : ∀ r b k o, H.get r = some b → X.ι r = some (k, o) → S k)
    {c : Cell} {u : Value} {cs : List Cell} (hc : CRel X c u) (h : cellsOf H c = some cs) : ∀ b o, u = .pointer (some ⟨b, o, none⟩) → S b := by
  intro b o hu
  cases c <;> try cases h
  case ptr r off =>
    simp only [cellsOf] at h
    split at h
    · rename_i cs0 hg
      obtain ⟨-, -, hb⟩ := hc
      obtain ⟨b', h1, h2⟩ := hb cs0 (hsub _ _ hg)
      rw [hu] at h2; cases h2
      exact hO r _ b 0 hg h1
    · cases h
  case ref τ x k =>
    obtain ⟨-, b', o', row, h1, h2, -⟩ := hc
    rw [hu] at h1; cases h1
    exact hS b h2
  case elt r v i k =>
    simp only [cellsOf] at h
    split at h
    · rename_i v' e xs hg
      obtain ⟨hv, -⟩ := bif_true h
      obtain ⟨-, -, hb⟩ := hc
      obtain ⟨-, b', o', h1, h2⟩ := (hb v' e xs (hsub _ _ hg)).2 (Nat.eq_of_beq_eq_true hv)
      rw [hu] at h2; cases h2
      exact hO r _ b o' hg h1
    · cases h

theorem rdArgs_sound {X Y : Cx} {S : Nat → Prop} {H : Heap} (hX : HBl X) (hS : ∀ b, X.T b → S b) (hsub : ∀ r b, H.get r = some b → X.H.get r = some b) (hO : ∀ r b k o, H.get r = some b → X.ι r = some (k, o) → S k) (hYT : Y.T = S) (hYw : Y.w = X.w) :
    ∀ {ps : List Par} {vs : List AV} {us : List Value} {x : (parsT ps).T}, VsRel X vs us → rdArgs H ps vs = some x → VsRel Y (argAVs ps x) us := by
  have hsub2 : ∀ r b, H.get r = some b → BRel X r b ∧ X.H.get r = some b := fun r b h => ⟨(hX r b (hsub r b h)).2, hsub r b h⟩
  intro ps
  induction ps with
  | nil =>
    intro vs us x hv h
    cases vs with
    | nil =>
      have : us = [] := by have := hv.1; simpa using this
      subst this
      exact ⟨rfl, fun j v hj => by simp [argAVs] at hj⟩
    | cons v vs => cases h
  | cons p ps ih =>
    intro vs us x hv h
    cases vs with
    | nil => cases h
    | cons v vs =>
    cases us with
    | nil => exact absurd hv.1 (by simp)
    | cons u us =>
    simp only [rdArgs] at h
    obtain ⟨y, h1, h2⟩ := obind h
    obtain ⟨z, h3, h4⟩ := obind h2
    cases h4
    have hv1 : AVRel X v u := by obtain ⟨u', k1, k2⟩ := hv.2 0 v rfl; simp at k1; subst k1; exact k2
    have hv2 : VsRel X vs us := ⟨by simpa using hv.1, fun j w hj => by simpa using hv.2 (j + 1) w (by simpa using hj)⟩
    refine VsRel.cons ?_ (ih hv2 h3)
    cases p with
    | val τ =>
      obtain ⟨k1, k2⟩ := rdV_sound hS hsub2 hO hv1 h1
      refine avT_rel (flat_rel ?_) k2
      rw [hYT, hYw]
      exact k1
    | ptr τ =>
      simp only [rdArg] at h1
      obtain ⟨c, g1, g2⟩ := obind h1
      obtain ⟨cs, g3, g4⟩ := obind g2
      obtain ⟨q, g5, g6⟩ := obind g4
      obtain ⟨y', rest⟩ := q
      cases g6
      rw [cell1_eq g1] at hv1
      obtain ⟨b, o, ws, rfl, k2, k3⟩ := cells_sound hX hv1.one (cellsOf_up hsub g3)
      obtain ⟨k4, -⟩ := rd_sound hS hsub2 hO k2 g5
      refine AVRel.mk ⟨rfl, b, o, _, rfl, ?_, by rw [hYT, hYw]; exact k4, ?_⟩
      · rw [hYT]; exact cellsOf_in hS hsub hO hv1.one g3 b o rfl
      · rw [hYw]
        intro j w hj
        rw [List.getElem?_take] at hj
        split at hj
        · exact k3 j w hj
        · cases hj

/-- A function of which every run comes to F keeps the contract. -/
theorem pure_sound {G : FuncId → Option CE} {m n : Nat} {f : FuncId} {lt : LT} (hE : EnvS P G) (hm : P.follows .mixedOrders = true) (hG : ∀ f lt, G f = some (.inl lt) → LTok P G m f lt) (hl : LTok P G m f lt) {own : Bool} {ps : List Par} {ρs : List Ty} {F : (parsT ps).T → Option (tysT ρs).T}
    (hmode : own = true → noSl (tysT ρs) = true) (hrun : ∀ x y, F x = some y → acall P G m n f lt (argAVs ps x) ⟨[], 0, []⟩ (outR ρs) = some y) : PSound P f (PC.fn own ps ρs F) := by
  intro X args us y hf hX hT hv hown R hR
  obtain ⟨x, hx, hFx⟩ := obind hf
  let S : Nat → Prop := fun b => if own = true then b < X.w.heap.size else X.T b
  have hST : ∀ b, X.T b → S b := fun b hb => by show if own = true then _ else _; split; exact hT b hb; exact hb
  have hSlt : ∀ b, S b → b < X.w.heap.size := fun b hb => by
    have hb' : if own = true then b < X.w.heap.size else X.T b := hb
    split at hb'
    · exact hb'
    · exact hT b hb'
  let Y : Cx := ⟨fun _ => none, S, X.w, [], 0⟩
  have hvY : VsRel Y (argAVs ps x) us := by
    refine rdArgs_sound (X := X) (Y := Y) (S := S) (H := bif own then X.H else []) hX hST ?_ ?_ rfl rfl hv hx
    · intro r b hg
      cases own with
      | true => exact hg
      | false => cases hg
    · intro r b k o hg hi
      cases own with
      | true => show if true = true then _ else _; rw [if_pos rfl]; exact hown r b k o hg hi
      | false => cases hg
  have hrY : HR (fun b => b < X.w.heap.size) Y := ⟨fun r b h => (by cases h), fun r r' b b' k o o' h => (by cases h), fun r b k o h => (by cases h), hSlt⟩
  have := acall_sound hE hm hG n f lt hl (fun b => b < X.w.heap.size) Y ⟨[], 0, []⟩ (argAVs ps x) us (outR ρs) y (hrun x y hFx) rfl rfl hrY (fun b hb => hb) hvY
  refine this.mono ?_
  rintro e w' ⟨d, st', v, X', rfl, h1, h2, h3, h4, -, h5, rfl⟩
  have hkeep := h2.keep.below
  have hkw : X'.w.heap.size ≥ X.w.heap.size := hkeep.size
  let X3 : Cx := ⟨X.ι, fun b => X.T b ∨ (X.w.heap.size ≤ b ∧ b < X'.w.heap.size), X'.w, X.H, X.n⟩
  have hg : GR X [] X3 := {
    H := rfl
    n := rfl
    below := hkeep
    ι := fun _ _ => rfl
    T := fun b hb => .inl hb
    T' := fun b hb => hb
    new := by intro i b h; simp at h
    fresh := by intro i b k o h; simp at h
    inj := by intro i j k o o' h; simp at h }
  refine hR v X3 hg ?_
  -- the results, as trees behind the call
  let S' : Nat → Prop := fun b => X'.T b ∨ ∃ r bl o, X'.H.get r = some bl ∧ X'.ι r = some (b, o)
  have hS'3 : own = false → ∀ b, S' b → X3.T b := by
    rintro hw b (hb | ⟨r, bl, o, q1, q2⟩)
    · rcases h2.T b hb with q | q
      · have q' : if own = true then b < X.w.heap.size else X.T b := q
        rw [hw] at q'
        exact .inl q'
      · have q' : ¬ b < X.w.heap.size := q
        exact .inr ⟨by omega, h2.hr.T b hb⟩
    · have q' : ¬ b < X.w.heap.size := (h2.hr.apart r bl b o q1 q2).2
      exact .inr ⟨by omega, own_lt (h2.hr.blk r bl q1).2 q2⟩
  have conv : ∀ (τ : Ty) (x : τ.T) vs, TRel S' X'.w τ x vs → noSl τ = true ∨ own = false → TRel X3.T X3.w τ x vs := by
    rintro τ x vs ht (hq | hq)
    · exact noSl_rel hq ht
    · exact TRel.sub (hS'3 hq) ht
  have hcase : noSl (tysT ρs) = true ∨ own = false := by
    cases own with
    | true => exact .inl (hmode rfl)
    | false => exact .inr rfl
  have fin : ∀ (vs : List AV) (us' : List Value), VsRel X' vs us' → rdVs X'.H ρs vs = some y → VsRel X3 (avs ρs y) us' := by
    intro vs us' hv' hq
    have aux : ∀ {ρs : List Ty} {vs : List AV} {us : List Value} {x : (tysT ρs).T}, (noSl (tysT ρs) = true ∨ own = false) → VsRel X' vs us → rdVs X'.H ρs vs = some x → VsRel X3 (avs ρs x) us := by
      intro ρs
      induction ρs with
      | nil =>
        intro vs us x hn hv h
        cases vs with
        | nil =>
          have : us = [] := by have := hv.1; simpa using this
          subst this
          exact ⟨rfl, fun j v hj => by simp [avs] at hj⟩
        | cons v vs => cases h
      | cons ρ ρs ih =>
        intro vs us x hn hv h
        cases vs with
        | nil => cases h
        | cons v vs =>
        cases us with
        | nil => exact absurd hv.1 (by simp)
        | cons u us =>
        simp only [rdVs] at h
        obtain ⟨y, h1, h2'⟩ := obind h
        obtain ⟨z, h3, h4⟩ := obind h2'
        cases h4
        have hv1 : AVRel X' v u := by obtain ⟨u', k1, k2⟩ := hv.2 0 v rfl; simp at k1; subst k1; exact k2
        have hv2 : VsRel X' vs us := ⟨by simpa using hv.1, fun j w hj => by simpa using hv.2 (j + 1) w (by simpa using hj)⟩
        have hn1 : (noSl ρ = true ∨ own = false) ∧ (noSl (tysT ρs) = true ∨ own = false) := by
          rcases hn with hn | hn
          · simp only [tysT, noSl, Bool.and_eq_true] at hn; exact ⟨.inl hn.1, .inl hn.2⟩
          · exact ⟨.inr hn, .inr hn⟩
        refine VsRel.cons ?_ (ih hn1.2 hv2 h3)
        obtain ⟨k1, k2⟩ := rdV_sound (S := S') (H := X'.H) (fun b hb => .inl hb) (fun r b h => ⟨(h2.hr.blk r b h).2, h⟩) (fun r b k o hb hi => .inr ⟨r, b, o, hb, hi⟩) hv1 h1
        exact avT_rel (flat_rel (conv _ _ _ k1 hn1.1)) k2
    exact aux hcase hv' hq
  show DRel X3 (resD (avs ρs y)) v
  have tup : ∀ vs, d = .tup vs → rdVs st'.H ρs vs = some y → (∀ w, avs ρs y ≠ [w]) → DRel X3 (resD (avs ρs y)) v := by
    rintro vs rfl hq hne
    obtain ⟨us, rfl, k1, k2⟩ := h5
    rw [← h3] at hq
    obtain ⟨k3, k4⟩ := fin vs us.toList ⟨by simpa using k1, fun j w hj => by simpa using k2 j w hj⟩ hq
    have : resD (avs ρs y) = .tup (avs ρs y) := by
      unfold resD
      split
      · rename_i w hw; exact absurd hw (hne w)
      · rfl
    rw [this]
    exact ⟨us, rfl, by simpa using k3, fun j w hj => by simpa using k4 j w hj⟩
  unfold outR at h1
  split at h1
  · rename_i ρ v0
    rw [← h3] at h1
    obtain ⟨k3, k4⟩ := fin [v0] [v] ⟨rfl, fun j w hj => by
      cases j with
      | zero => simp at hj; subst hj; exact ⟨v, rfl, h5⟩
      | succ j => simp at hj⟩ h1
    obtain ⟨u, k5, k6⟩ := k4 0 _ rfl
    simp at k5; subst k5
    exact k6
  · cases h1
  · rename_i hne
    refine tup _ rfl h1 fun w hw => ?_
    have hlen : ∀ {ρs : List Ty} {y : (tysT ρs).T}, (avs ρs y).length = ρs.length := by
      intro ρs
      induction ρs with
      | nil => intro y; rfl
      | cons ρ r ih => intro y; simp [avs, ih]
    have h1' : ρs.length = 1 := by
      have := hlen (ρs := ρs) (y := y)
      rw [hw] at this
      simpa using this.symm
    match ρs, h1', hne with
    | [ρ], _, hne => exact hne ρ rfl
  · cases h1

end
end Go.Proofs.Ytgmcefnlcalagaa.AM
