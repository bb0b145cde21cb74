/- The abstract machine: any operation in its turn, and a region in the order of the text. No condition. -/
import Derived.Test.YtgmcefnlcalagaaAm16
namespace Go.Proofs.Ytgmcefnlcalagaa.AM
open Go Go.RowKit
set_option linter.unusedSimpArgs false
set_option linter.unusedVariables false

/-- What a call does, for one kind of result. -/
def CallSA {α : Type} (P : Program) (f : FuncId) (run : St → List AV → (D → St → Option α) → Option α) : Prop :=
  ∀ (Z : Nat → Prop) (X : Cx) (st : St) (args : List AV) (us : List Value) (k : D → St → Option α) (r : α), run st args k = some r → X.H = st.H → X.n = st.nxt → HR Z X → (∀ b, Z b → b < X.w.heap.size) → VsRel X args us →
    Calls P f us.toArray X.w fun e w' => ∃ d st' v X', e = .returned v ∧ k d st' = some r ∧ Step Z X X' ∧ X'.H = st'.H ∧ X'.n = st'.nxt ∧ st'.fr = st.fr ∧ DRel X' d v ∧ X'.w = w'

/-- All contracts at hand are kept. -/
def EnvS (P : Program) (G : FuncId → Option CE) : Prop :=
  ∀ f ce, G f = some ce → match ce with
    | .pure c => PSound P f c
    | .gen c => ∀ α : Type, CallSA P f (c.run (α := α))
    | .inl _ => True

section
variable {α : Type} {P : Program} {G : FuncId → Option CE} {call : FuncId → LT → List AV → St → (D → St → Option α) → Option α} {Z : Nat → Prop} {X0 : Cx} {N : Nat} {r : α}

/-- What holds behind an operation. -/
def Next (Z : Nat → Prop) (X0 : Cx) (N : Nat) (r : α) (k : St → Option α) (a' : Act) (w' : World) : Prop := ∃ st' X', k st' = some r ∧ SR Z X0 N st' a' X' ∧ X'.w = w'

theorem wp_value {o : Oper} {a : Act} {w w' : World} {next : Act → World → Prop} {Q : Exit → Act → World → Prop} {v : Value} (h : (execOp a.eval o).run P w = .ok (.value v) w') (hn : next (a.put o.dst v) w') : o.wp P a w next Q := by
  unfold Oper.wp; rw [h]; exact hn

theorem wp_skip_op {o : Oper} {a : Act} {w w' : World} {next : Act → World → Prop} {Q : Exit → Act → World → Prop} (h : (execOp a.eval o).run P w = .ok .skip w') (hn : next (a.put o.dst undef) w') : o.wp P a w next Q := by
  unfold Oper.wp; rw [h]; exact hn

theorem wp_enter {o : Oper} {a : Act} {w w' : World} {next : Act → World → Prop} {Q : Exit → Act → World → Prop} {f : FuncId} {args : Array Value} {R : Ending → World → Prop} (h : (execOp a.eval o).run P w = .ok (.enter f args) w')
    (hc : Calls P f args w' R) (hn : ∀ e w'', R e w'' → ∃ v, e = .returned v ∧ next (a.put o.dst v) w'') : o.wp P a w next Q := by
  unfold Oper.wp
  rw [h]
  refine Calls.mono hc fun e w'' hr => ?_
  obtain ⟨v, rfl, hv⟩ := hn e w'' hr
  exact hv

theorem pop_wp {st : St} {a : Act} {X : Cx} {o : Oper} {k : St → Option α} {Q : Exit → Act → World → Prop} (hsr : SR Z X0 N st a X) (hZ : ∀ b, Z b → b < X.w.heap.size) (hd : dstOk N o = true)
    (h : pop P st.H st.nxt st.fr o.type o.op (fun d bs => k (addBlks st d o.dst bs)) = some r) : o.wp P a X.w (Next Z X0 N r k) Q := by
  rw [← hsr.H, ← hsr.n] at h
  obtain ⟨d, bs, h1, v, X', h2, h3, h4⟩ := pop_sound (a := a) h hsr.step.hr.blk hsr.step.hr.T hsr.fr
  have hst := Step.gr hsr.step.hr h2 hZ
  refine wp_value (h4 o rfl rfl) ⟨_, X', h1, ?_, rfl⟩
  exact hsr.put hst (by rw [h2.H, hsr.H, hsr.n]) (by rw [h2.n, hsr.n]) h3 hd

theorem append_args {args : Array Operand} {ats : Array TypeId} {fr : List (Nat × D)} {X : Cx} {a : Act} {vs : List AV} {s x : Cell} (h1 : evs P fr ats.toList args.toList = some vs) (h2 : mapO cell1 vs = some [s, x]) (hf : FRel X fr a.tmps) :
    ∃ y1 y2, args = #[y1, y2] ∧ CRel X s (a.eval y1) ∧ CRel X x (a.eval y2) := by
  obtain ⟨q1, q2⟩ := evs_sound (P := P) hf h1
  obtain ⟨q3, q4⟩ := mapO_spec h2
  have arg : ∀ (j : Nat) (c : Cell), [s, x][j]? = some c → ∃ x, args[j]? = some x ∧ CRel X c (a.eval x) := fun j c hj => by
    obtain ⟨v, p1, p2⟩ := q4 j c hj
    rw [cell1_eq p2] at p1
    obtain ⟨x, p3, p4⟩ := q2 j _ p1
    exact ⟨x, by simpa using p3, p4.one⟩
  obtain ⟨y1, p1, p2⟩ := arg 0 _ rfl
  obtain ⟨y2, p3, p4⟩ := arg 1 _ rfl
  have hs : args.size = 2 := by have : args.toList.length = 2 := by rw [← q1, ← q3]; rfl
                                simpa using this
  refine ⟨y1, y2, ?_, p2, p4⟩
  apply Array.ext
  · simp [hs]
  · intro i hi _
    rcases (by omega : i = 0 ∨ i = 1) with rfl | rfl
    · rw [Array.getElem?_eq_getElem (by omega)] at p1; simpa using p1
    · rw [Array.getElem?_eq_getElem (by omega)] at p3; simpa using p3

theorem append_wp {st : St} {a : Act} {X : Cx} {o : Oper} {args : Array Operand} {ats : Array TypeId} (ho : o.op = .call { callee := .builtin .append, args := args, argTypes := ats }) {k : St → Option α} {Q : Exit → Act → World → Prop} (hsr : SR Z X0 N st a X) (hZ : ∀ b, Z b → b < X.w.heap.size) (hd : dstOk N o = true)
    {vs : List AV} {s x : Cell} {t t2 : TypeId} {ts : List TypeId} (h1 : evs P st.fr ats.toList args.toList = some vs) (h2 : mapO cell1 vs = some [s, x]) (h3 : ats.toList = t :: t2 :: ts) {e : TypeId} (h4 : elemT P t = some e) (h5 : tailTy P t2 = true)
    (h : appendA P st e s x (fun c st' => k ⟨put st'.fr o.dst (.one ⟨false, [c]⟩), st'.nxt, st'.H⟩) = some r) : o.wp P a X.w (Next Z X0 N r k) Q := by
  obtain ⟨y1, y2, rfl, c1, c2⟩ := append_args (P := P) h1 h2 hsr.fr
  have ha0 : ats[0]? = some t := by rw [← Array.getElem?_toList, h3]; rfl
  have ha1 : ats[1]? = some t2 := by rw [← Array.getElem?_toList, h3]; rfl
  have run : ∀ (X' : Cx) (val : Value), (Builtin.append_ ats o.type #[a.eval y1, a.eval y2]).run P X.w = .ok val X'.w → (execOp a.eval o).run P X.w = .ok (.value val) X'.w := fun X' val hr => by
    simp [execOp, ho, resolve, invoke, builtin, hr]
  have hget : ∀ r b, st.H.get r = b → X.H.get r = b := fun r b hq => by rw [hsr.H]; exact hq
  cases s <;> simp only [appendA] at h
  case emp τ =>
    obtain ⟨ys, g1, g2⟩ := obind h
    obtain ⟨hi, g3⟩ := bif_true g2
    obtain ⟨hb, g3⟩ := bif_true g3
    have hb := capOk_spec hb
    · skip
      rw [← hsr.H] at g1
      obtain ⟨X', val, s1, s2, s3, s4, s5⟩ := append_emp (P := P) (oty := o.type) (isTy_app ha0 ha1 h4 h5 hi) hsr.step.hr hZ c2 g1 hb.1 hb.2
      have hu : a.eval y1 = .slice none 0 0 := c1.2
      rw [hu] at run
      refine wp_value (run X' val s5) ⟨_, X', g3, ?_, rfl⟩
      rw [hsr.n] at s4
      exact hsr.put s1 (by rw [s2, hsr.H, hsr.n]) (by rw [s3, hsr.n]) (DRel.one s4) hd
  case own r0 v =>
    split at h
    · rename_i v' τ xs hg
      obtain ⟨ys, g1, g2⟩ := obind h
      obtain ⟨hi, g3⟩ := bif_true g2
      simp only [Bool.and_eq_true] at hi
      obtain ⟨hb, g3⟩ := bif_true g3
      have hb := capOk_spec hb
      · skip
        have hg' := hget _ _ hg
        rw [← hsr.H] at g1
        have hv := Nat.eq_of_beq_eq_true hi.1
        obtain ⟨X', val, s1, s2, s3, s4, s5⟩ := append_own (P := P) (oty := o.type) (isTy_app ha0 ha1 h4 h5 hi.2) hsr.step.hr hZ (zs := xs) hg' (by simp) (by simp) ((c1.2.2 _ _ _ hg').2 hv) c2 g1 hb.1 hb.2
        refine wp_value (run X' val s5) ⟨_, X', g3, ?_, rfl⟩
        exact hsr.put s1 (by rw [s2, hsr.H]) (by rw [s3, hsr.n]) (DRel.one s4) hd
    · cases h
  case sub r0 v off len =>
    split at h
    · rename_i v' τ xs hg
      obtain ⟨ys, g1, g2⟩ := obind h
      obtain ⟨hi, g3⟩ := bif_true g2
      simp only [Bool.and_eq_true] at hi
      obtain ⟨hb, g3⟩ := bif_true g3
      have hb := capOk_spec hb
      · skip
        have hg' := hget _ _ hg
        rw [← hsr.H] at g1
        have hv := Nat.eq_of_beq_eq_true hi.1
        obtain ⟨hle, hsl⟩ := (c1.2.2 _ _ _ hg').2 hv
        obtain ⟨X', val, s1, s2, s3, s4, s5⟩ := append_own (P := P) (oty := o.type) (isTy_app ha0 ha1 h4 h5 hi.2) hsr.step.hr hZ (zs := (xs.drop off).take len) hg' rfl hle hsl c2 g1 hb.1 hb.2
        refine wp_value (run X' val s5) ⟨_, X', g3, ?_, rfl⟩
        exact hsr.put s1 (by rw [s2, hsr.H]) (by rw [s3, hsr.n]) (DRel.one s4) hd
    · cases h
  all_goals cases h

theorem own_bound {X : Cx} (h : HR Z X) : ∀ r b k o, X.H.get r = some b → X.ι r = some (k, o) → k < X.w.heap.size := fun r b k o hg hi => own_lt (h.blk r b hg).2 hi

theorem aop_sound (hE : EnvS P G) (hcall : ∀ f lt, G f = some (.inl lt) → CallSA P f (fun st args k => call f lt args st k)) {st : St} {a : Act} {X : Cx} {o : Oper} {k : St → Option α} {Q : Exit → Act → World → Prop} (hsr : SR Z X0 N st a X) (hZ : ∀ b, Z b → b < X.w.heap.size) (hd : dstOk N o = true)
    (h : aop P G call st o k = some r) : o.wp P a X.w (Next Z X0 N r k) Q := by
  unfold aop at h
  split at h
  · rename_i t x y ho
    obtain ⟨c, h1, g1⟩ := obind h
    obtain ⟨v, h2, g2⟩ := obind g1
    obtain ⟨H', h3, g3⟩ := obind g2
    rw [← hsr.H] at h3
    obtain ⟨X', s1, s2, s3, s4⟩ := storeA_sound (P := P) (Z := Z) h3 hsr.step.hr (ev1_sound h1 hsr.fr) (ev_sound h2 hsr.fr)
    refine wp_skip_op (w' := X'.w) (by simp [execOp, ho, s4]) ⟨_, X', g3, ?_, rfl⟩
    exact hsr.put s1 s2 (by rw [s3, hsr.n]) undef_rel hd
  · rename_i args ats ho
    obtain ⟨vs, h1, g1⟩ := obind h
    obtain ⟨cs, h2, g2⟩ := obind g1
    split at g2
    · rename_i s x t t2 ts h3
      obtain ⟨h5, g3⟩ := bif_true g2
      obtain ⟨e, h4, g4⟩ := obind g3
      exact append_wp ho hsr hZ hd h1 h2 h3 h4 h5 g4
    · cases g2
  · rename_i f args ats ho
    obtain ⟨p, h1, g1⟩ := obind h
    rw [← hsr.H] at h1
    obtain ⟨g, vs⟩ := p
    obtain ⟨us, q1, q2⟩ := callee_sound h1 hsr.fr
    have hrun := q2 o ats (by rw [ho])
    have hce := hE g
    split at g1
    · rename_i c hg
      rw [← hsr.H, ← hsr.n] at g1
      obtain ⟨y, e0, e1⟩ := obind g1
      have e2 := (hce _ hg) X vs us y e0 hsr.step.hr.blk hsr.step.hr.T q1 (own_bound hsr.step.hr)
      refine wp_enter hrun (e2 (fun e w' => ∃ v X', e = .returned v ∧ GR X (c.res X.n y).2 X' ∧ DRel X' (c.res X.n y).1 v ∧ X'.w = w') fun v X' p1 p2 => ⟨v, X', rfl, p1, p2, rfl⟩) ?_
      rintro e w' ⟨v, X', rfl, p1, p2, rfl⟩
      refine ⟨v, rfl, _, X', e1, ?_, rfl⟩
      have hst := Step.gr hsr.step.hr p1 hZ
      exact hsr.put hst (by rw [p1.H, hsr.H, hsr.n]) (by rw [p1.n, hsr.n]) p2 hd
    · rename_i c hg
      refine wp_enter hrun ((hce _ hg) α Z X st vs us _ r g1 hsr.H hsr.n hsr.step.hr hZ q1) ?_
      rintro e w' ⟨d, st', v, X', rfl, e1, s1, s2, s3, s4, s5, rfl⟩
      refine ⟨v, rfl, _, X', e1, ?_, rfl⟩
      rw [s4]
      exact hsr.put s1 s2 s3 s5 hd
    · rename_i lt hg
      refine wp_enter hrun (hcall _ lt hg Z X st vs us _ r g1 hsr.H hsr.n hsr.step.hr hZ q1) ?_
      rintro e w' ⟨d, st', v, X', rfl, e1, s1, s2, s3, s4, s5, rfl⟩
      refine ⟨v, rfl, _, X', e1, ?_, rfl⟩
      rw [s4]
      exact hsr.put s1 s2 s3 s5 hd
    · cases g1
  · exact pop_wp hsr hZ hd h

theorem SR.Zlt {st : St} {a : Act} {X : Cx} (h : SR Z X0 N st a X) (hZ : ∀ b, Z b → b < X0.w.heap.size) : ∀ b, Z b → b < X.w.heap.size := fun b hb => Nat.lt_of_lt_of_le (hZ b hb) h.step.keep.size

/-- A region in the order of the text, from operation number i on. -/
theorem arun_sound (hE : EnvS P G) (hcall : ∀ f lt, G f = some (.inl lt) → CallSA P f (fun st args k => call f lt args st k)) (hZ : ∀ b, Z b → b < X0.w.heap.size) {ops : Array Oper} (hN : ∀ o ∈ ops.toList, dstOk N o = true) {Q : Exit → Act → World → Prop} {k : St → Option α}
    (hQ : ∀ a' w', Next Z X0 N r k a' w' → Q .normal a' w') : ∀ (l : List Oper) (i : Nat) (st : St) (a : Act) (X : Cx), ops.toList.drop i = l → SR Z X0 N st a X → arun P G call ops.toList l st k = some r → wpOps P ops Q (List.range' i l.length) a X.w := by
  intro l
  induction l with
  | nil =>
    intro i st a X hl hsr h
    exact hQ _ _ ⟨st, X, h, hsr, rfl⟩
  | cons o l ih =>
    intro i st a X hl hsr h
    have ho : ops[i]? = some o := by
      have : (ops.toList.drop i)[0]? = some o := by rw [hl]; rfl
      rw [List.getElem?_drop] at this
      simpa using this
    have hl' : ops.toList.drop (i + 1) = l := by
      rw [← List.drop_drop, hl]; rfl
    have hmem : dstOk N o = true := hN o (List.mem_of_getElem? (by rw [Array.getElem?_toList]; exact ho))
    have hrng : List.range' i (o :: l).length = i :: List.range' (i + 1) l.length := by
      simp [List.range'_succ]
    rw [hrng]
    simp only [wpOps, ho]
    simp only [arun, splitS_eq] at h
    rcases wanted_sound h hsr.fr with ⟨h1, h2⟩ | ⟨h1, h2⟩
    · rw [if_pos h1]
      left
      refine Oper.wp_mono ?_ (aop_sound hE hcall (Q := Q) hsr (hsr.Zlt hZ) hmem h2)
      rintro a' w' ⟨st', X', q1, q2, rfl⟩
      exact ih (i + 1) st' a' X' hl' q2 q1
    · rw [if_neg (by rw [h1]; simp)]
      refine ih (i + 1) _ _ X hl' ?_ h2
      exact hsr.put (Step.refl hsr.step.hr) hsr.H hsr.n undef_rel hmem

end
end Go.Proofs.Ytgmcefnlcalagaa.AM
