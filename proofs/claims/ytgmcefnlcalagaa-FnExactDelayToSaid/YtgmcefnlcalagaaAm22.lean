/- The abstract machine: regions, in the order of the text and in any order. No condition. -/
import Derived.Test.YtgmcefnlcalagaaAm21
namespace Go.Proofs.Ytgmcefnlcalagaa.AM
open Go Go.RowKit
set_option linter.unusedSimpArgs false
set_option linter.unusedVariables false

theorem okDraw_facts {l : List Oper} {m : Nat} (hm : m ≤ l.length) (h : okDraw l (ancs l []) m = true) :
    (∀ i o, l[i]? = some o → ∀ e ∈ o.after, Region.binds .any e = true → e.on < i) ∧
    (∀ i o t, i < m → l[i]? = some o → t ∈ opTmps o ++ guardTmps l o → ∀ j o', j < m → l[j]? = some o' → o'.dst = some t → Nat.testBit ((ancs l []).getD i 0) j = true) ∧
    (∀ i o t, i < m → l[i]? = some o → o.dst = some t → ∀ j o', j < m → l[j]? = some o' → o'.dst = some t → i = j) ∧
    (∀ i o, m ≤ i → l[i]? = some o → ∀ j, j < i → Nat.testBit ((ancs l []).getD i 0) j = true) := by
  have zip : ∀ {l : List Oper} {i : Nat} {o : Oper}, l[i]? = some o → (o, i) ∈ l.zipIdx := fun {l i o} hl => by
    rw [List.mem_zipIdx_iff_getElem?]; exact hl
  have wr : ∀ {t j : Nat} {o' : Oper}, j < m → l[j]? = some o' → o'.dst = some t → j ∈ writers l m t := fun {t j o'} hj hl hd => by
    unfold writers
    simp only [List.mem_map, List.mem_filter]
    refine ⟨(o', j), ⟨zip ?_, by simp [hd]⟩, rfl⟩
    rw [List.getElem?_take, if_pos hj]; exact hl
  unfold okDraw at h
  simp only [Bool.and_eq_true, List.all_eq_true] at h
  obtain ⟨⟨h1, h2⟩, h3⟩ := h
  refine ⟨fun i o ho e he hb => ?_, fun i o t hi ho ht j o' hj hl hd => ?_, fun i o t hi ho ht j o' hj hl hd => ?_, fun i o hi ho j hj => ?_⟩
  · have := h1 (o, i) (zip ho)
    simp only [edgesOk, List.all_eq_true, Array.mem_toList_iff, Bool.or_eq_true] at this
    rcases this e he with q | q
    · exact Nat.le_of_ble_eq_true q
    · unfold Region.binds at hb
      split at q
      · rename_i hg; rw [hg] at hb; simp at hb
      · cases q
  · have := (h2 (o, i) (zip (by rw [List.getElem?_take, if_pos hi]; exact ho))).1 t ht j (wr hj hl hd)
    exact this
  · have := (h2 (o, i) (zip (by rw [List.getElem?_take, if_pos hi]; exact ho))).2
    rw [ht] at this
    simp only [List.all_eq_true] at this
    exact Nat.eq_of_beq_eq_true (this j (wr hj hl hd))
  · have := h3 (o, i - m) (zip (by rw [List.getElem?_drop, show m + (i - m) = i from by omega]; exact ho)) j (by simp; omega)
    rwa [show m + (i - m) = i from by omega] at this

theorem headLen_le : ∀ (l : List Oper), headLen l ≤ l.length := by
  intro l
  induction l with
  | nil => exact Nat.le_refl _
  | cons o l ih =>
    simp only [headLen]
    cases isWrite o.op <;> simp <;> omega

theorem look_live {fr : List (Nat × D)} : ∀ {S : List Nat} {t : Nat} {d : D}, look (liveFr fr S) t = some d → t ∈ S ∧ look fr t = some d := by
  intro S
  induction S with
  | nil => intro t d h; cases h
  | cons s S ih =>
    intro t d h
    simp only [liveFr] at h
    split at h
    · rename_i d' hd
      simp only [look] at h
      by_cases e : s = t
      · subst e; rw [beq_true] at h; cases h; exact ⟨by simp, hd⟩
      · rw [beq_false e] at h
        obtain ⟨h1, h2⟩ := ih h
        exact ⟨by simp [h1], h2⟩
    · obtain ⟨h1, h2⟩ := ih h
      exact ⟨by simp [h1], h2⟩

theorem look_live_of {fr : List (Nat × D)} : ∀ {S : List Nat} {t : Nat}, t ∈ S → look (liveFr fr S) t = look fr t := by
  intro S
  induction S with
  | nil => intro t h; cases h
  | cons s S ih =>
    intro t h
    simp only [liveFr]
    by_cases e : s = t
    · subst e
      split
      · rename_i d hd; simp only [look, beq_true, cond_true]; exact hd.symm
      · rename_i hd
        cases hl : look (liveFr fr S) s with
        | none => exact hd.symm
        | some d => rw [(look_live hl).2] at hd; cases hd
    · have hm : t ∈ S := (List.mem_cons.1 h).resolve_left fun q => e q.symm
      split
      · simp only [look, beq_false e, cond_false]; exact ih hm
      · exact ih hm

theorem wantedB_live {all : List Oper} {fr : List (Nat × D)} {o : Oper} : wantedB all (liveFr fr (guardTmps all o)) o = wantedB all fr o := by
  unfold wantedB wantedK
  split
  · rfl
  · rename_i j b hg
    have : guardVal all (liveFr fr (guardTmps all o)) j = guardVal all fr j := by
      unfold guardVal guardTmps
      rw [hg]
      cases hd : (all[j]?).bind (·.dst) with
      | none => rfl
      | some t =>
        exact look_live_of (by simp [hd])
    rw [this]

section
variable {α : Type} {P : Program} {G : FuncId → Option CE} {call : FuncId → LT → List AV → St → (D → St → Option α) → Option α} {Z : Nat → Prop} {Xs : Cx} {N : Nat} {r : α}

theorem qop_sound (hE : EnvS P G) {X : Cx} {a : Act} {fr : List (Nat × D)} {o : Oper} {d : D} {bs : List Blk} (h : qop P G X.H X.n fr o (fun d bs => some (d, bs)) = some (d, bs)) (hH : HBl X) (hT : ∀ b, X.T b → b < X.w.heap.size) (hf : FRel X fr a.tmps) {Q : Exit → Act → World → Prop} :
    o.wp P a X.w (fun a' w' => ∃ v X', a' = a.put o.dst v ∧ X'.w = w' ∧ GR X bs X' ∧ DRel X' d v) Q := by
  unfold qop at h
  split at h
  · rename_i f args ats ho
    obtain ⟨p, h1, g1⟩ := obind h
    obtain ⟨g, vs⟩ := p
    obtain ⟨us, q1, q2⟩ := callee_sound h1 hf
    have hrun := q2 o ats (by rw [ho])
    split at g1
    · rename_i c hg
      obtain ⟨y, e0, e1⟩ := obind g1
      cases e1
      have e2 := (hE g _ hg) X vs us y e0 hH hT q1 (fun r b k o hb hk => own_lt (hH r b hb).2 hk)
      refine wp_enter hrun (e2 (fun e w' => ∃ v X', e = .returned v ∧ GR X (c.res X.n y).2 X' ∧ DRel X' (c.res X.n y).1 v ∧ X'.w = w') fun v X' p1 p2 => ⟨v, X', rfl, p1, p2, rfl⟩) ?_
      rintro e w' ⟨v, X', rfl, p1, p2, rfl⟩
      exact ⟨v, rfl, v, X', rfl, rfl, p1, p2⟩
    · cases g1
  · obtain ⟨d', bs', h1, v, X', h2, h3, h4⟩ := pop_sound (a := a) h hH hT hf
    cases h1
    exact wp_value (h4 o rfl rfl) ⟨v, X', rfl, rfl, h2, h3⟩

theorem drawn_step {X : Cx} (h : HR Z X) (k : Nat) : Step Z X { X with w := { X.w with drawn := k } } := by
  have hle : Le X { X with w := { X.w with drawn := k } } := {
    n := Nat.le_refl _
    T := fun _ h => h
    blk := fun _ _ => rfl
    box := fun r cs' _ h => ⟨cs', h, rfl⟩
    arr := fun r v' e xs' _ h => ⟨v', xs', h, Nat.le_refl _, fun _ => ⟨rfl, rfl⟩⟩
    size := fun b cs t fz h => ⟨cs, t, fz, h, rfl⟩ }
  exact ⟨hle, ⟨fun r b hg => ⟨(h.blk r b hg).1, (h.blk r b hg).2.mono hle rfl fun _ _ _ => rfl⟩, h.inj, h.apart, h.T⟩, ⟨rfl, rfl, rfl, Nat.le_refl _, fun _ _ => rfl⟩, fun b hb => .inl hb⟩

/-- The operation that comes next in the order of the text. -/
theorem tail_op (hE : EnvS P G) (hcall : ∀ f lt, G f = some (.inl lt) → CallSA P f (fun st args k => call f lt args st k)) (hZ : ∀ b, Z b → b < Xs.w.heap.size) {ops : Array Oper} (hN : ∀ o ∈ ops.toList, dstOk N o = true) {Q : Exit → Act → World → Prop} {k : St → Option α}
    {i : Nat} {o : Oper} (ho : ops[i]? = some o) {st : St} {a : Act} {X : Cx} (hsr : SR Z Xs N st a X) (h : arun P G call ops.toList (ops.toList.drop i) st k = some r) :
    wpOp P ops Q i (fun a' w' => ∃ st' X', X'.w = w' ∧ SR Z Xs N st' a' X' ∧ arun P G call ops.toList (ops.toList.drop (i + 1)) st' k = some r) a X.w := by
  have hi : i < ops.toList.length := by simpa using (Array.getElem?_eq_some_iff.1 ho).1
  have hl : ops.toList.drop i = o :: ops.toList.drop (i + 1) := by
    rw [List.drop_eq_getElem_cons hi]
    congr 1
    have := (Array.getElem?_eq_some_iff.1 ho).2
    simpa using this
  rw [hl] at h
  have hmem : dstOk N o = true := hN o (List.mem_of_getElem? (i := i) (by rw [Array.getElem?_toList]; exact ho))
  simp only [arun, splitS_eq] at h
  unfold wpOp
  simp only [ho]
  rcases wanted_sound h hsr.fr with ⟨h1, h2⟩ | ⟨h1, h2⟩
  · rw [if_pos h1]
    left
    refine Oper.wp_mono ?_ (aop_sound hE hcall (Q := Q) hsr (hsr.Zlt hZ) hmem h2)
    rintro a' w' ⟨st', X', q1, q2, rfl⟩
    exact ⟨st', X', rfl, q2, q1⟩
  · rw [if_neg (by rw [h1]; simp)]
    exact ⟨_, X, rfl, hsr.put (Step.refl hsr.step.hr) hsr.H hsr.n undef_rel hmem, h2⟩

theorem drawn_sound (hE : EnvS P G) (hcall : ∀ f lt, G f = some (.inl lt) → CallSA P f (fun st args k => call f lt args st k)) (hm : P.follows .mixedOrders = true) (hZ : ∀ b, Z b → b < Xs.w.heap.size) {ops : Array Oper} (hN : ∀ o ∈ ops.toList, dstOk N o = true) {Q : Exit → Act → World → Prop} {k : St → Option α}
    (hQ : ∀ a' w', Next Z Xs N r k a' w' → Q .normal a' w') {id : Nat} {st : St} {a : Act} {X : Cx} (hsr : SR Z Xs N st a X)
    (hok : okDraw ops.toList (ancs ops.toList []) (headLen ops.toList) = true)
    (h : qrun P G ops.toList (ancs ops.toList []) st.H st.nxt 0 (ops.toList.take (headLen ops.toList)) st.fr st.nxt [] (fun fr n news => arun P G call ops.toList (ops.toList.drop (headLen ops.toList)) ⟨fr, n, news.map (·.2) ++ st.H⟩ k) = some r) :
    (Code.region id ops true).wp P Q a X.w := by
  have hml := headLen_le ops.toList
  obtain ⟨FR, NN, NW, OUT, e1, e2, e3, e4, e5⟩ := qrun_steps _ _ _ _ _ h
  obtain ⟨f1, f2, f3, f4⟩ := okDraw_facts hml hok
  have hlen : (ops.toList.take (headLen ops.toList)).length = headLen ops.toList := by rw [List.length_take]; omega
  simp only [hlen, Nat.zero_add] at e4 e5
  generalize hmd : headLen ops.toList = m at *
  -- the world behind the draw
  let X0 : Cx := { X with w := { X.w with drawn := X.w.drawn + 1 } }
  have hd0 : Step Z X X0 := drawn_step hsr.step.hr _
  have hs0 : Step Z Xs X0 := hsr.step.trans hd0
  have hD : Drw P G ops.toList m X0.H X0.n FR NN NW OUT := by
    refine ⟨f1, f2, f3, f4, fun j o hj ho => ?_, hml, by rw [e2]; exact hsr.n.symm, e3⟩
    have := e4 j o (by rw [List.getElem?_take, if_pos hj]; exact ho)
    show QStep P G ops.toList (ancs ops.toList []) X.H X.n FR NN NW OUT j o
    rw [hsr.H, hsr.n]
    exact this
  have hZ0 : ∀ b, Z b → b < X0.w.heap.size := hsr.Zlt hZ
  have hf0 : FRel X0 (FR 0) a.tmps := by rw [e1]; exact hsr.fr.mono hd0.le
  -- when the first m have run
  have seq : ∀ (p : Nat → Bool) (a' : Act) (w' : World) ι T, InvA ops.toList m NN NW OUT Z X0 N a p a' w' ι T → (∀ j, j < m → p j = true) → ∃ st' X', X'.w = w' ∧ SR Z Xs N st' a' X' ∧ arun P G call ops.toList (ops.toList.drop m) st' k = some r := by
    intro p a' w' ι T hi hp
    have hall : vis p (NW m) = (NW m).map (·.2) := vis_all fun j r b hmm => hp j (hD.range hmm).1
    refine ⟨_, ⟨ι, T, w', vis p (NW m) ++ X0.H, NN m⟩, rfl, ⟨?_, rfl, hs0.trans hi.step, fun t d hl => ?_, hi.defers, hi.size⟩, e5⟩
    · show vis p (NW m) ++ X.H = _
      rw [hall, hsr.H]
    · exact hi.frame hD hs0.hr hf0 (q := p) (fun _ x => x) (Nat.le_refl m) (Nat.le_refl _) (fun j r b hmm _ => by
        obtain ⟨c1, -, -, c4, -⟩ := hD.range hmm
        have := hD.mono (i := j + 1) (j := m) (by omega) (Nat.le_refl m); omega) hl (fun j o hj _ _ => ⟨hp j hj, hj⟩)
  let Inv : Array Bool → Act → World → Prop := fun listed a' w' => listed.size = ops.size ∧
    ((∃ ι T, InvA ops.toList m NN NW OUT Z X0 N a (fun j => listed.getD j false) a' w' ι T) ∨
     (∃ i, m ≤ i ∧ i ≤ ops.size ∧ (∀ j, listed.getD j false = true ↔ j < i) ∧ ∃ st' X', X'.w = w' ∧ SR Z Xs N st' a' X' ∧ arun P G call ops.toList (ops.toList.drop i) st' k = some r))
  have gt : ∀ (listed : Array Bool) (k : Nat), listed.getD k false = true ↔ listed[k]? = some true := fun listed k => by
    rw [Array.getD_eq_getD_getElem?]
    cases listed[k]? with
    | none => simp
    | some b => cases b <;> simp
  have setp : ∀ (listed : Array Bool) (i : Nat), listed[i]? = some false → (fun j => (listed.setIfInBounds i true).getD j false) = more (fun j => listed.getD j false) i := fun listed i hi => by
    funext j
    have hlt := (Array.getElem?_eq_some_iff.1 hi).1
    have : ((listed.setIfInBounds i true).getD j false = true) ↔ more (fun j => listed.getD j false) i j = true := by
      rw [gt, more_iff, gt]
      by_cases e : i = j
      · subst e; simp [hlt]
      · rw [Array.getElem?_setIfInBounds_ne e]
        constructor
        · exact .inl
        · rintro (q | q)
          · exact q
          · exact absurd q.symm e
    cases h1 : (listed.setIfInBounds i true).getD j false <;> cases h2 : more (fun j => listed.getD j false) i j <;> simp_all
  refine wp_region_any hm (wpAny_inv Inv (fun _ _ _ hI => hI.1) (fun i o ho => f1 i o (by rw [Array.getElem?_toList]; exact ho)) ?_ ?_ _ _ _ _ ?_ ?_)
  · -- all have run
    rintro listed a' w' ⟨hs, hI⟩ hall
    have hp : ∀ j, j < ops.size → listed.getD j false = true := fun j hj => (gt _ _).2 (hall j hj)
    have hml' : m ≤ ops.size := by simpa using hml
    rcases hI with ⟨ι, T, hi⟩ | ⟨i, h1, h2, h3, st', X', rfl, h5, h6⟩
    · obtain ⟨st', X', rfl, h5, h6⟩ := seq _ _ _ _ _ hi fun j hj => hp j (by omega)
      have : ops.size = m := by
        rcases Nat.lt_or_ge m ops.size with q | q
        · have := hi.head m (hp m q); omega
        · omega
      rw [List.drop_of_length_le (by simp; omega)] at h6
      exact hQ _ _ ⟨st', X', h6, h5, rfl⟩
    · have : i = ops.size := by
        rcases Nat.lt_or_ge i ops.size with q | q
        · have := (h3 i).1 (hp i q); omega
        · omega
      rw [List.drop_of_length_le (by simp; omega)] at h6
      exact hQ _ _ ⟨st', X', h6, h5, rfl⟩
  · -- one more
    rintro listed a' w' i o ⟨hs, hI⟩ ho hl he
    have hol : ops.toList[i]? = some o := by rw [Array.getElem?_toList]; exact ho
    have hisz : i < ops.size := (Array.getElem?_eq_some_iff.1 ho).1
    have hnot : ¬ listed.getD i false = true := fun q => by rw [gt, hl] at q; cases q
    have tl : ∀ (st' : St) (X' : Cx), X'.w = w' → m ≤ i → (∀ j, listed.getD j false = true ↔ j < i) → SR Z Xs N st' a' X' → arun P G call ops.toList (ops.toList.drop i) st' k = some r → wpOp P ops Q i (fun a' w' => Inv (listed.setIfInBounds i true) a' w') a' w' := by
      rintro st' X' rfl hmi hiff h5 h6
      refine wpOp_mono ?_ (tail_op hE hcall hZ hN (Q := Q) ho h5 h6)
      rintro a2 w2 ⟨st2, X2, rfl, g1, g2⟩
      refine ⟨by simpa using hs, .inr ⟨i + 1, by omega, by omega, fun j => ?_, st2, X2, rfl, g1, g2⟩⟩
      have := congrFun (setp listed i hl) j
      have this2 : (listed.setIfInBounds i true).getD j false = more (fun j => listed.getD j false) i j := this
      rw [this2, more_iff, hiff]; omega
    rcases hI with ⟨ι, T, hi⟩ | ⟨i0, h1, h2, h3, st', X', hw, h5, h6⟩
    · have hanc := hD.anc_listed hi.closed i o hol (fun e he' hb => (gt _ _).2 (he e he' hb))
      rcases Nat.lt_or_ge i m with him | him
      · obtain ⟨o', ho', s⟩ := hD.at him
        rw [hol] at ho'; cases ho'
        have hpi : (fun j => listed.getD j false) i = false := by
          cases hq : listed.getD i false with
          | true => exact absurd hq hnot
          | false => exact hq
        have hNi : ∀ j r b, (j, r, b) ∈ NW m → Nat.testBit ((ancs ops.toList []).getD i 0) j = true → r < NN i := fun j r b hmm hb => by
          obtain ⟨c1, -, -, c4, -⟩ := hD.range hmm
          have := hD.anc_lt i o hol j hb
          have := hD.mono (i := j + 1) (j := i) (by omega) (by omega); omega
        let Xi : Cx := ⟨ι, T, w', vis (Nat.testBit ((ancs ops.toList []).getD i 0)) (NW m) ++ X0.H, NN i⟩
        have hsub : Step Z X0 Xi := hi.sub hD hs0.hr hanc (hD.ge (Nat.le_of_lt him)) hNi
        have hfr : ∀ t d, t ∈ opTmps o ++ guardTmps ops.toList o → look (FR i) t = some d → ∃ u, a'.tmps[t]? = some u ∧ DRel Xi d u := fun t d ht hlk =>
          hi.frame hD hs0.hr hf0 hanc (Nat.le_of_lt him) (Nat.le_refl _) hNi hlk fun j o1 hj hl1 hd1 => by
            have hb := f2 i o t him hol ht j o1 hj hl1 hd1
            exact ⟨hanc j hb, hD.anc_lt i o hol j hb⟩
        have hg : FRel Xi (liveFr (FR i) (guardTmps ops.toList o)) a'.tmps := fun t d hlk => by
          obtain ⟨g1, g2⟩ := look_live hlk
          exact hfr t d (List.mem_append_right _ g1) g2
        have hop : FRel Xi (liveFr (FR i) (opTmps o)) a'.tmps := fun t d hlk => by
          obtain ⟨g1, g2⟩ := look_live hlk
          exact hfr t d (List.mem_append_left _ g1) g2
        have hmem : dstOk N o = true := hN o (List.mem_of_getElem? hol)
        have fin : ∀ (v : Value) (X' : Cx), GR Xi (OUT i).2 X' → DRel X' (OUT i).1 v → Inv (listed.setIfInBounds i true) (a'.put o.dst v) X'.w := fun v X' g1 g2 => by
          obtain ⟨ι', T', g3⟩ := hi.put hD hs0.hr hZ0 him hol hpi hanc (fun e he' hb => (gt _ _).2 (he e he' hb)) hmem g1 g2
          refine ⟨by simpa using hs, .inl ⟨ι', T', ?_⟩⟩
          rw [setp listed i hl]
          exact g3
        unfold wpOp
        simp only [ho]
        rcases s.run with ⟨r1, r2⟩ | ⟨r1, r2⟩
        · rw [← wantedB_live] at r1
          have hw : Region.wanted o (yielded ops a'.tmps) = true := by
            rcases wanted_sound (r := true) r1 hg with ⟨q1, -⟩ | ⟨-, q2⟩
            · exact q1
            · cases q2
          rw [if_pos hw]
          left
          rw [hD.seen him] at r2
          refine Oper.wp_mono ?_ (qop_sound (Q := Q) (X := Xi) (a := a') hE r2 hsub.hr.blk hsub.hr.T hop)
          rintro a2 w2 ⟨v, X', rfl, rfl, g1, g2⟩
          exact fin v X' g1 g2
        · rw [← wantedB_live] at r1
          have hw : Region.wanted o (yielded ops a'.tmps) = false := by
            rcases wanted_sound (r := false) r1 hg with ⟨-, q2⟩ | ⟨q1, -⟩
            · cases q2
            · exact q1
          rw [if_neg (by rw [hw]; simp)]
          refine fin undef Xi (by rw [r2]; exact GR.same Xi) (by rw [r2]; exact undef_rel)
      · have hiff : ∀ j, j < i → listed.getD j false = true := fun j hj => hanc j (hD.tail i o him hol j hj)
        have : i = m := by
          rcases Nat.lt_or_ge m i with q | q
          · have := hi.head m (hiff m q); omega
          · omega
        subst this
        obtain ⟨st', X', hw, g1, g2⟩ := seq _ _ _ _ _ hi hiff
        exact tl st' X' hw (Nat.le_refl _) (fun j => ⟨fun q => hi.head j q, hiff j⟩) g1 g2
    · have hanc := hD.anc_listed (p := fun j => listed.getD j false) (fun j o1 hj hl1 e he' hb => (h3 _).2 (by have := (h3 _).1 hj; have := f1 j o1 hl1 e he' hb; omega)) i o hol (fun e he' hb => (gt _ _).2 (he e he' hb))
      have hge : i0 ≤ i := by
        rcases Nat.lt_or_ge i i0 with q | q
        · exact absurd ((h3 i).2 q) hnot
        · exact q
      have : i = i0 := by
        rcases Nat.lt_or_ge i0 i with q | q
        · have := (h3 i0).1 (hanc i0 (hD.tail i o (by omega) hol i0 q)); omega
        · omega
      subst this
      exact tl st' X' hw h1 h3 h5 h6
  · -- at the start
    refine ⟨by simp, .inl ⟨X0.ι, X0.T, ?_⟩⟩
    have hp : (fun j => (Array.replicate ops.size false).getD j false) = fun _ => false := by
      funext j
      rw [Array.getD_eq_getD_getElem?, Array.getElem?_replicate]
      split <;> rfl
    rw [hp]
    have hle : Le X0 ⟨X0.ι, X0.T, X0.w, vis (fun _ => false) (NW m) ++ X0.H, NN m⟩ := hD.leX hs0.hr (hD.ge (Nat.le_refl m)) (Below.refl _ _) (fun _ h => h) (fun _ _ _ => rfl)
    have hv : vis (fun _ => false) (NW m) = [] := vis_none fun _ _ _ _ => rfl
    have hgq : ∀ r, Heap.get (vis (fun _ => false) (NW m) ++ X0.H) r = X0.H.get r := fun r => by rw [hv]; rfl
    refine ⟨⟨hle, ⟨fun r b hg => ?_, fun r r' b b' k o o' g g' => ?_, fun r b k o g => ?_, hs0.hr.T⟩, Keep.refl _ _, fun b hb => .inl hb⟩, Below.refl _ _, fun t _ => rfl, fun j o t hj hq => (by cases hq), hsr.size, hsr.defers, fun j o hq => (by cases hq), fun j hq => (by cases hq)⟩
    · have hg' : X0.H.get r = some b := by rw [← hgq]; exact hg
      exact ⟨Nat.lt_of_lt_of_le (hs0.hr.blk r b hg').1 (hD.ge (Nat.le_refl m)), (hs0.hr.blk r b hg').2.mono hle rfl fun _ _ _ => rfl⟩
    · exact hs0.hr.inj r r' b b' k o o' (by rw [← hgq]; exact g) (by rw [← hgq]; exact g')
    · exact hs0.hr.apart r b k o (by rw [← hgq]; exact g)
  · simp [List.count_replicate]

/-- A region. -/
theorem areg_sound (hE : EnvS P G) (hcall : ∀ f lt, G f = some (.inl lt) → CallSA P f (fun st args k => call f lt args st k)) (hm : P.follows .mixedOrders = true) (hZ : ∀ b, Z b → b < Xs.w.heap.size) {ops : Array Oper} {draw : Bool} {Q : Exit → Act → World → Prop} {k : St → Option α}
    (hQ : ∀ a' w', Next Z Xs N r k a' w' → Q .normal a' w') {id : Nat} {st : St} {a : Act} {X : Cx} (hsr : SR Z Xs N st a X) (h : areg P G call N ops draw st k = some r) : (Code.region id ops draw).wp P Q a X.w := by
  unfold areg at h
  simp only at h
  cases hb : ops.toList.all (dstOk N) with
  | false => rw [hb] at h; cases h
  | true =>
    rw [hb] at h
    have hN : ∀ o ∈ ops.toList, dstOk N o = true := List.all_eq_true.1 hb
    cases draw with
    | false =>
      refine wp_region ?_
      have := arun_sound hE hcall hZ hN (Q := Q) hQ ops.toList 0 st a X rfl hsr h
      rwa [Array.length_toList, ← List.range_eq_range'] at this
    | true =>
      simp only [Bool.not_true, cond_true, cond_false] at h
      obtain ⟨h1, h2⟩ := bif_true h
      exact drawn_sound hE hcall hm hZ hN hQ hsr h1 h2

end
end Go.Proofs.Ytgmcefnlcalagaa.AM
