/- The abstract machine: code and calls. No condition. -/
import Derived.Test.YtgmcefnlcalagaaAm23
import Derived.LoopN
import Derived.Laws.Sem
namespace Go.Proofs.Ytgmcefnlcalagaa.AM
open Go Go.RowKit
set_option linter.unusedSimpArgs false
set_option linter.unusedVariables false

def exOf : Ex → Exit
  | .normal => .normal
  | .exit i => .exit i
  | .ret => .ret

/-- The loops' summaries are kept: each tells what going round comes to. -/
def LTS {α : Type} (P : Program) (G : FuncId → Option CE) (call : FuncId → LT → List AV → St → (D → St → Option α) → Option α) (m base N : Nat) : Code → LT → Prop
  | .seq a b, lt => LTS P G call m base N a lt.l ∧ LTS P G call m base N b lt.r
  | .cond _ a b, lt => LTS P G call m base N a lt.l ∧ LTS P G call m base N b lt.r
  | .block _ c, lt => LTS P G call m base N c lt
  | .loop c, lt => match lt with
    | .loop live outs (some L) inner => LTS P G call m base N c inner ∧ ∀ (st : St) (k : Ex → St → Option α) (r : α), L.run base st k = some r → ∃ m', iter (fun s q => aexec P G call m base N c inner s q) (canon base live) m' st (fun e s => k e (canon base outs s)) = some r
    | .loop _ _ none inner => LTS P G call m base N c inner
    | _ => LTS P G call m base N c .leaf
  | _, _ => True

section
variable {α : Type} {P : Program} {G : FuncId → Option CE} {call : FuncId → LT → List AV → St → (D → St → Option α) → Option α} {Z : Nat → Prop} {Xs : Cx} {m base N : Nat} {r : α}

/-- What a piece of code does: each way out is one with which the machine went on. -/
def CodeS (P : Program) (Z : Nat → Prop) (Xs : Cx) (N : Nat) (r : α) (c : Code) (run : St → (Ex → St → Option α) → Option α) : Prop :=
  ∀ (st : St) (a : Act) (X : Cx) (k : Ex → St → Option α) (Q : Exit → Act → World → Prop), SR Z Xs N st a X → run st k = some r →
    (∀ e st' a' X', k e st' = some r → SR Z Xs N st' a' X' → Q (exOf e) a' X'.w) → c.wp P Q a X.w

theorem iter_sound {c : Code} {f : St → (Ex → St → Option α) → Option α} {cn : St → St} (hf : CodeS P Z Xs N r c f) (hcn : ∀ st a X, SR Z Xs N st a X → ∃ X', X'.w = X.w ∧ SR Z Xs N (cn st) a X') {k : Ex → St → Option α} {Q : Exit → Act → World → Prop}
    (hQ : ∀ e st' a' X', k e st' = some r → SR Z Xs N st' a' X' → Q (exOf e) a' X'.w) : ∀ (n : Nat) (st : St) (a : Act) (X : Cx), SR Z Xs N st a X → iter f cn n st k = some r → Code.rounds P c Q n a X.w := by
  intro n
  induction n with
  | zero => intro st a X hsr h; cases h
  | succ n ih =>
    intro st a X hsr h
    rw [rounds_succ]
    simp only [iter] at h
    refine hf st a X _ _ hsr h fun e st' a' X' hk hsr' => ?_
    cases e with
    | normal =>
      obtain ⟨X2, h1, h2⟩ := hcn st' a' X' hsr'
      have := ih (cn st') a' X2 h2 hk
      rw [h1] at this
      exact this
    | exit i => exact hQ (.exit i) st' a' X' hk hsr'
    | ret => exact hQ .ret st' a' X' hk hsr'

theorem aexec_sound (hE : EnvS P G) (hcall : ∀ f lt, G f = some (.inl lt) → CallSA P f (fun st args k => call f lt args st k)) (hm : P.follows .mixedOrders = true) (hZ : ∀ b, Z b → b < Xs.w.heap.size) (hb : Xs.n ≤ base) :
    ∀ (c : Code) (lt : LT), LTS P G call m base N c lt → CodeS P Z Xs N r c (fun st k => aexec P G call m base N c lt st k) := by
  intro c
  induction c with
  | skip =>
    intro lt _ st a X k Q hsr h hQ
    exact wp_skip (hQ .normal st a X h hsr)
  | region id ops draw =>
    intro lt _ st a X k Q hsr h hQ
    refine areg_sound hE hcall hm hZ ?_ hsr h
    rintro a' w' ⟨st', X', h1, h2, rfl⟩
    exact hQ .normal st' a' X' h1 h2
  | seq x y ihx ihy =>
    intro lt hl st a X k Q hsr h hQ
    refine wp_seq (ihx lt.l hl.1 st a X _ _ hsr h fun e st' a' X' hk hsr' => ?_)
    cases e with
    | normal => exact ihy lt.r hl.2 st' a' X' k Q hsr' hk hQ
    | exit i => exact hQ (.exit i) st' a' X' hk hsr'
    | ret => exact hQ .ret st' a' X' hk hsr'
  | cond o x y ihx ihy =>
    intro lt hl st a X k Q hsr h hQ
    simp only [aexec] at h
    split at h
    · rename_i b hc
      have hv := ev1_sound hc hsr.fr
      have hev : a.eval o = .bool b := hv.2
      refine wp_cond hev ?_
      cases b with
      | true => exact ihx lt.l hl.1 st a X k Q hsr h hQ
      | false => exact ihy lt.r hl.2 st a X k Q hsr h hQ
    · cases h
  | block id x ih =>
    intro lt hl st a X k Q hsr h hQ
    refine wp_block (ih lt hl st a X _ _ hsr h fun e st' a' X' hk hsr' => ?_)
    cases e with
    | normal => exact hQ .normal st' a' X' hk hsr'
    | exit i =>
      simp only [exOf, Exit.inBlock]
      have hk' : (bif Nat.beq i id then k .normal st' else k (.exit i) st') = some r := hk
      by_cases e : i = id
      · subst e
        rw [beq_true] at hk'
        rw [if_pos rfl]
        exact hQ .normal st' a' X' hk' hsr'
      · rw [beq_false e] at hk'
        rw [if_neg e]
        exact hQ (.exit i) st' a' X' hk' hsr'
    | ret => exact hQ .ret st' a' X' hk hsr'
  | loop x ih =>
    intro lt hl st a X k Q hsr h hQ
    have idn : ∀ (st : St) (a : Act) (X : Cx), SR Z Xs N st a X → ∃ X', X'.w = X.w ∧ SR Z Xs N (id st) a X' := fun st a X h => ⟨X, rfl, h⟩
    cases lt with
    | leaf => exact wp_loop_rounds m (iter_sound (ih .leaf hl) idn hQ m st a X hsr h)
    | node p q => exact wp_loop_rounds m (iter_sound (ih .leaf hl) idn hQ m st a X hsr h)
    | loop live outs L inner =>
      obtain ⟨X1, h1, h2⟩ := canon_sound (live := live) hb hsr
      have hQ' : ∀ e st' a' X', k e (canon base outs st') = some r → SR Z Xs N st' a' X' → Q (exOf e) a' X'.w := fun e st' a' X' hk hs => by
        obtain ⟨X2, q1, q2⟩ := canon_sound (live := outs) hb hs
        rw [← q1]
        exact hQ e _ a' X2 hk q2
      cases L with
      | none =>
        have := iter_sound (ih inner hl) (fun st a X h => canon_sound hb h) hQ' m _ a X1 h2 h
        rw [h1] at this
        exact wp_loop_rounds m this
      | some L =>
        obtain ⟨m', h3⟩ := hl.2 _ _ _ h
        have := iter_sound (ih inner hl.1) (fun st a X h => canon_sound hb h) hQ' m' _ a X1 h2 h3
        rw [h1] at this
        exact wp_loop_rounds m' this
  | exit i =>
    intro lt _ st a X k Q hsr h hQ
    exact wp_exit (hQ (.exit i) st a X h hsr)
  | ret =>
    intro lt _ st a X k Q hsr h hQ
    exact wp_ret (hQ .ret st a X h hsr)
  | label l =>
    intro lt _ st a X k Q hsr h hQ
    exact wp_label (hQ .normal st a X h hsr)
  | rangeFunc f ps x y _ _ => intro lt _ st a X k Q hsr h hQ; cases h
  | scope x _ => intro lt _ st a X k Q hsr h hQ; cases h
  | goto l => intro lt _ st a X k Q hsr h hQ; cases h
  | refuse s => intro lt _ st a X k Q hsr h hQ; cases h

/-! ### Results -/

def resG (tmps : Array Value) : ResultVar → Sem Value
  | .tmp t => pure (tmps.getD t undef)
  | .cell a t => do loadVar t (← asAddr (tmps.getD a undef))

theorem results_eq (fn : Func) (tmps : Array Value) : results fn tmps = (do let vs ← fn.results.mapM (resG tmps); pure (if h : vs.size = 1 then vs[0] else .tuple vs)) := by
  unfold results
  congr 1

theorem one?_eq {d : D} {v : AV} (h : one? d = some v) : d = .one v := by
  cases d with
  | one v' => cases h; rfl
  | tup vs => cases h

theorem res_sound {st : St} {a : Act} {X : Cx} (hf : FRel X st.fr a.tmps) (hH : HBl X) (hst : X.H = st.H) : ∀ (l : List ResultVar) (vs : List AV), resAVs P st l = some vs → ∃ us, (l.mapM (resG a.tmps)).run P X.w = .ok us X.w ∧ VsRel X vs us := by
  intro l
  induction l with
  | nil => intro vs h; cases h; exact ⟨[], by simp, rfl, fun j v hj => by simp at hj⟩
  | cons x l ih =>
    intro vs h
    have key : ∀ (v : AV) (u : Value) (rest : List AV), resAVs P st l = some rest → vs = v :: rest → AVRel X v u → (resG a.tmps x).run P X.w = .ok u X.w → ∃ us, ((x :: l).mapM (resG a.tmps)).run P X.w = .ok us X.w ∧ VsRel X vs us := by
      intro v u rest h1 h2 h3 h4
      subst h2
      obtain ⟨us, k1, k2, k3⟩ := ih rest h1
      refine ⟨u :: us, by simp [List.mapM_cons, h4, k1], by simp [k2], fun j v' hj => ?_⟩
      cases j with
      | zero => simp at hj; subst hj; exact ⟨u, rfl, h3⟩
      | succ j => simpa using k3 j v' (by simpa using hj)
    cases x with
    | tmp t =>
      simp only [resAVs] at h
      obtain ⟨v, h1, g1⟩ := obind h
      obtain ⟨rest, h2, g2⟩ := obind g1
      cases g2
      obtain ⟨d, h3, h4⟩ := obind h1
      have hd := one?_eq h4
      subst hd
      obtain ⟨u, h5, h6⟩ := hf t _ h3
      refine key v u rest h2 rfl h6 ?_
      simp [resG, Array.getD_eq_getD_getElem?, h5]
    | cell c t =>
      simp only [resAVs] at h
      obtain ⟨cc, h1, g1⟩ := obind h
      obtain ⟨v, h2, g2⟩ := obind g1
      obtain ⟨rest, h3, g3⟩ := obind g2
      cases g3
      rw [← hst] at h2
      have hc := ev1_sound h1 hf
      obtain ⟨b, o, u, h4, h5, h6⟩ := loadA_sound hH hc h2
      refine key v u rest h3 rfl h5 ?_
      have h4' : a.tmps.getD c undef = .pointer (some ⟨b, o, none⟩) := h4
      simp [resG, h4', asAddr, h6]

theorem resD_rel {X : Cx} {vs : List AV} {us : List Value} (h : VsRel X vs us) : DRel X (resD vs) (if h : us.toArray.size = 1 then us.toArray[0] else .tuple us.toArray) := by
  obtain ⟨h1, h2⟩ := h
  match vs, us, h1, h2 with
  | [v], [u], _, h2 =>
    obtain ⟨u', k1, k2⟩ := h2 0 v rfl
    simp at k1; subst k1
    exact k2
  | [], [], _, _ => exact ⟨#[], rfl, rfl, fun j v hj => by simp at hj⟩
  | v :: v2 :: vs, u :: u2 :: us, h1, h2 =>
    rw [dif_neg (by simp)]
    exact ⟨_, rfl, by simpa using h1, fun j v' hj => by simpa using h2 j v' hj⟩

theorem look_argFr : ∀ (vs : List AV) (i t : Nat) (d : D), look (argFr i vs) t = some d → ∃ v, i ≤ t ∧ vs[t - i]? = some v ∧ d = .one v := by
  intro vs
  induction vs with
  | nil => intro i t d h; cases h
  | cons v vs ih =>
    intro i t d h
    simp only [argFr, look] at h
    by_cases e : i = t
    · subst e; rw [beq_true] at h; cases h; exact ⟨v, Nat.le_refl _, by simp, rfl⟩
    · rw [beq_false e] at h
      obtain ⟨v', h1, h2, h3⟩ := ih (i + 1) t d h
      exact ⟨v', by omega, by rw [show t - i = (t - (i + 1)) + 1 from by omega]; simpa using h2, h3⟩

theorem abody_sound (hE : EnvS P G) (hcall : ∀ f lt, G f = some (.inl lt) → CallSA P f (fun st args k => call f lt args st k)) (hm : P.follows .mixedOrders = true) {f : FuncId} {fn : Func} (hfn : P.funcs[f]? = some fn) {lt : LT}
    (hl : ∀ base c, fn.body = some c → LTS P G call m base fn.ntmps c lt) : CallSA P f (fun st args k => abody P G call m fn lt args st.nxt st.H fun d st' => k d ⟨st.fr, st'.nxt, st'.H⟩) := by
  intro Z X st args us k r h hH hn hr hZ hv
  simp only [abody] at h
  split at h
  · rename_i c hbody
    obtain ⟨h1, h2⟩ := bif_true h
    have hle := Nat.le_of_ble_eq_true h1
    refine calls_of_wp hfn hbody ?_
    have hsz : us.length = args.length := hv.1
    have hsr : SR Z X fn.ntmps ⟨argFr 0 args, st.nxt, st.H⟩ { tmps := us.toArray ++ Array.replicate (fn.ntmps - us.toArray.size) undef, defers := [] } X := by
      refine ⟨hH, hn, Step.refl hr, fun t d hl => ?_, rfl, by simp; omega⟩
      obtain ⟨v, -, k1, rfl⟩ := look_argFr args 0 t d hl
      obtain ⟨u, k2, k3⟩ := hv.2 _ v k1
      rw [Nat.sub_zero] at k2
      refine ⟨u, ?_, k3⟩
      have : t < us.length := (List.getElem?_eq_some_iff.1 k2).1
      rw [Array.getElem?_append_left (by simpa using this)]
      simpa using k2
    refine aexec_sound hE hcall hm hZ (Nat.le_of_eq hn) c lt (hl st.nxt c hbody) _ _ X _ _ hsr h2 ?_
    intro e st' a' X' hk hsr'
    have fin : ((resAVs P st' fn.results.toList).bind fun vs => k (resD vs) ⟨st.fr, st'.nxt, st'.H⟩) = some r → bodyPost P fn (fun e w' => ∃ d st' v X', e = .returned v ∧ k d st' = some r ∧ Step Z X X' ∧ X'.H = st'.H ∧ X'.n = st'.nxt ∧ st'.fr = st.fr ∧ DRel X' d v ∧ X'.w = w') .ret a' X'.w := by
      intro hq
      obtain ⟨vs, q1, q2⟩ := obind hq
      obtain ⟨us', q3, q4⟩ := res_sound (P := P) hsr'.fr hsr'.step.hr.blk hsr'.H _ _ q1
      refine ⟨hsr'.defers, _, ?_, _, _, _, X', rfl, q2, hsr'.step, hsr'.H, hsr'.n, rfl, resD_rel q4, rfl⟩
      rw [results_eq, Array.mapM_eq_mapM_toList]
      simp [q3]
    cases e with
    | normal => exact fin hk
    | exit i => cases hk
    | ret => exact fin hk
  · cases h

end

/-- The summaries that a proof gives for a function's loops are kept, whatever the room. -/
def LTok (P : Program) (G : FuncId → Option CE) (m : Nat) (f : FuncId) (lt : LT) : Prop :=
  ∀ (α : Type) (n base : Nat) (fn : Func) (c : Code), lt.dep ≤ n → P.funcs[f]? = some fn → fn.body = some c → LTS P G (fun g lt' args st (k : D → St → Option α) => acall P G m n g lt' args st k) m base fn.ntmps c lt

theorem acall_sound {α : Type} {P : Program} {G : FuncId → Option CE} {m : Nat} (hE : EnvS P G) (hm : P.follows .mixedOrders = true) (hG : ∀ f lt, G f = some (.inl lt) → LTok P G m f lt) :
    ∀ (n : Nat) (f : FuncId) (lt : LT), LTok P G m f lt → CallSA (α := α) P f (fun st args k => acall P G m n f lt args st k) := by
  intro n
  induction n with
  | zero => intro f lt hl Z X st args us k r h; cases h
  | succ n ih =>
    intro f lt hl Z X st args us k r h hH hn hr hZ hv
    simp only [acall] at h
    obtain ⟨hd, h⟩ := bif_true h
    have hd := leB_le hd
    split at h
    · rename_i fn hfn
      refine abody_sound (α := α) hE ?_ hm hfn (lt := lt) (fun base c hc => hl α n base fn c hd hfn hc) Z X st args us k r h hH hn hr hZ hv
      intro g lt' hg
      exact ih g lt' (hG g lt' hg)
    · cases h

end Go.Proofs.Ytgmcefnlcalagaa.AM
