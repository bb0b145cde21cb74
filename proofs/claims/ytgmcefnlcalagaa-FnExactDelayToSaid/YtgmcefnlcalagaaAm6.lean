/- The abstract machine: every operation that reads, reckons or makes memory does what Go's does. No condition. -/
import Derived.Test.YtgmcefnlcalagaaAm5
import Derived.Laws.StructEq
namespace Go.Proofs.Ytgmcefnlcalagaa.AM
open Go Go.RowKit
set_option linter.unusedSimpArgs false
set_option linter.unusedVariables false

theorem bif_true {α : Type} {b : Bool} {x : Option α} {r : α} (h : (bif b then x else none) = some r) : b = true ∧ x = some r := by
  cases b with
  | true => exact ⟨rfl, h⟩
  | false => cases h

section
variable {α : Type} {P : Program} {X : Cx} {fr : List (Nat × D)} {a : Act} {ty : TypeId} {k : D → List Blk → Option α} {r : α}

theorem pop_move {x : Operand} (h : pop P X.H X.n fr ty (.move x) k = some r) (hf : FRel X fr a.tmps) : ∃ d bs, k d bs = some r ∧ Runs P a X ty (.move x) d bs := by
  cases x with
  | tmp i =>
    simp only [pop] at h
    obtain ⟨d, h1, h2⟩ := obind h
    exact ⟨d, [], h2, Runs.same _ (look_sound h1 hf) fun o ho => by simp [execOp, ho]⟩
  | _ =>
    simp only [pop] at h
    obtain ⟨v, h1, h2⟩ := obind h
    exact ⟨_, [], h2, Runs.same _ (show DRel X (.one v) _ from ev_sound h1 hf) fun o ho => by simp [execOp, ho]⟩

theorem pop_assign {x : Operand} (h : pop P X.H X.n fr ty (.assign x) k = some r) (hf : FRel X fr a.tmps) : ∃ d bs, k d bs = some r ∧ Runs P a X ty (.assign x) d bs := by
  cases x with
  | tmp i =>
    simp only [pop] at h
    obtain ⟨d, h1, h2⟩ := obind h
    exact ⟨d, [], h2, Runs.same _ (look_sound h1 hf) fun o ho => by simp [execOp, ho]⟩
  | _ =>
    simp only [pop] at h
    obtain ⟨v, h1, h2⟩ := obind h
    exact ⟨_, [], h2, Runs.same _ (show DRel X (.one v) _ from ev_sound h1 hf) fun o ho => by simp [execOp, ho]⟩

theorem pop_pick {c x y : Operand} (h : pop P X.H X.n fr ty (.pick c x y) k = some r) (hf : FRel X fr a.tmps) : ∃ d bs, k d bs = some r ∧ Runs P a X ty (.pick c x y) d bs := by
  simp only [pop] at h
  obtain ⟨cc, h1, h⟩ := obind h
  have hc := ev1_sound h1 hf
  split at h
  · rename_i t
    cases t with
    | true =>
      simp only [cond_true] at h
      obtain ⟨v, h2, h3⟩ := obind h
      exact ⟨_, [], h3, Runs.same _ (show DRel X (.one v) _ from ev_sound h2 hf) fun o ho => by simp [execOp, ho, show a.eval c = .bool true from hc.2, asBool]⟩
    | false =>
      simp only [cond_false] at h
      obtain ⟨v, h2, h3⟩ := obind h
      exact ⟨_, [], h3, Runs.same _ (show DRel X (.one v) _ from ev_sound h2 hf) fun o ho => by simp [execOp, ho, show a.eval c = .bool false from hc.2, asBool]⟩
  · cases h

theorem zeroAV_sound {t : TypeId} {v : AV} (h : zeroAV P t = some v) (X : Cx) : ∃ z, AVRel X v z ∧ ∀ w, (zeroValue t).run P w = .ok z w := by
  unfold zeroAV at h
  split at h
  · rename_i i hi
    obtain ⟨z, h1, h2⟩ := obind h
    exact ⟨z, cst_sound h2 X, fun w => by simp [zeroValue, typeInfo, hi, h1]⟩
  · cases h

theorem pop_alloc {t : TypeId} (h : pop P X.H X.n fr ty (.alloc t) k = some r) (hT : ∀ b, X.T b → b < X.w.heap.size) : ∃ d bs, k d bs = some r ∧ Runs P a X ty (.alloc t) d bs := by
  simp only [pop] at h
  obtain ⟨v, h1, h2⟩ := obind h
  obtain ⟨z, h3, h4⟩ := zeroAV_sound h1 X
  obtain ⟨h5, h6⟩ := GR.newBox X hT t h3.cells
  refine ⟨_, _, h2, _, _, h5, DRel.one h6, fun o ho _ => ?_⟩
  simp [execOp, ho, Instr.alloc, h4, newVar_run]
  rfl

theorem pop_box {t : TypeId} {x : Operand} (h : pop P X.H X.n fr ty (.box t x) k = some r) (hf : FRel X fr a.tmps) (hT : ∀ b, X.T b → b < X.w.heap.size) : ∃ d bs, k d bs = some r ∧ Runs P a X ty (.box t x) d bs := by
  simp only [pop] at h
  obtain ⟨v, h1, h2⟩ := obind h
  obtain ⟨h5, h6⟩ := GR.newBox X hT t (ev_sound h1 hf).cells
  refine ⟨_, _, h2, _, _, h5, DRel.one h6, fun o ho _ => ?_⟩
  simp [execOp, ho, Instr.box, newVar_run]
  rfl

theorem pop_load {t : TypeId} {x : Operand} (h : pop P X.H X.n fr ty (.load t x) k = some r) (hH : HBl X) (hf : FRel X fr a.tmps) : ∃ d bs, k d bs = some r ∧ Runs P a X ty (.load t x) d bs := by
  simp only [pop] at h
  obtain ⟨c, h1, h⟩ := obind h
  obtain ⟨v, h2, h3⟩ := obind h
  obtain ⟨b, o, val, h4, h5, h6⟩ := loadA_sound hH (ev1_sound h1 hf) h2
  refine ⟨_, _, h3, Runs.same val (show DRel X (.one v) _ from h5) fun o ho => ?_⟩
  simp [execOp, ho, Instr.loadAt, h4, Instr.sureAddr, h6]

theorem pop_nilCheck {x : Operand} (h : pop P X.H X.n fr ty (.nilCheck x) k = some r) (hH : HBl X) (hf : FRel X fr a.tmps) : ∃ d bs, k d bs = some r ∧ Runs P a X ty (.nilCheck x) d bs := by
  simp only [pop] at h
  obtain ⟨c, h1, h⟩ := obind h
  have hc := ev1_sound h1 hf
  split at h
  · obtain ⟨-, vals, h2, -⟩ := hc
    exact ⟨_, _, h, Runs.same (a.eval x) (DRel.one (ev1_sound h1 hf)) fun o ho => by simp [execOp, ho, h2]⟩
  · obtain ⟨cs, h2, h3⟩ := obind h
    obtain ⟨b, o, vs, h4, -, -⟩ := cells_sound hH hc h2
    exact ⟨_, _, h3, Runs.same (a.eval x) (DRel.one hc) fun o ho => by simp [execOp, ho, h4]⟩

theorem shift_sound {c c' : Cell} {u : Value} {cs : List Cell} {n : Nat} (hH : HBl X) (hc : CRel X c u) (h : cellsOf X.H c = some cs) (hs : shiftC c n = some c') :
    ∃ b o, u = .pointer (some ⟨b, o, none⟩) ∧ CRel X c' (.pointer (some ⟨b, o + n, none⟩)) := by
  obtain ⟨b, o, vs, h1, -, -⟩ := cells_sound hH hc h
  refine ⟨b, o, h1, rfl, ?_⟩
  subst h1
  cases c <;> cases hs
  case ptr r off =>
    refine ⟨hc.2.1, fun cs' hg => ?_⟩
    obtain ⟨b', h2, h3⟩ := hc.2.2 cs' hg
    cases h3
    exact ⟨b, h2, rfl⟩
  case ref τ x k =>
    obtain ⟨-, b', o', row, h2, h3, h4, h5⟩ := hc
    cases h2
    exact ⟨b, o', row, by rw [Nat.add_assoc], h3, h4, h5⟩
  case elt r v i k =>
    refine ⟨hc.2.1, fun v' e xs hg => ?_⟩
    obtain ⟨h2, h3⟩ := hc.2.2 v' e xs hg
    refine ⟨h2, fun hv => ?_⟩
    obtain ⟨h4, b', o', h5, h6⟩ := h3 hv
    cases h6
    exact ⟨h4, b, o', h5, by rw [Nat.add_assoc]⟩

theorem pop_fieldAddr {s f : Nat} {x : Operand} (h : pop P X.H X.n fr ty (.fieldAddr s x f) k = some r) (hH : HBl X) (hf : FRel X fr a.tmps) : ∃ d bs, k d bs = some r ∧ Runs P a X ty (.fieldAddr s x f) d bs := by
  simp only [pop] at h
  obtain ⟨c, h1, h⟩ := obind h
  obtain ⟨cs, h2, h⟩ := obind h
  obtain ⟨off, h3, g⟩ := obind h
  obtain ⟨c', h4, g1⟩ := obind g
  obtain ⟨b, o, h5, h6⟩ := shift_sound hH (ev1_sound h1 hf) h2 h4
  unfold fieldOff at h3
  obtain ⟨fs, h7, h3⟩ := obind h3
  obtain ⟨fd, h8, h3⟩ := obind h3
  obtain ⟨F, h9, h10⟩ := fieldsT_run h7
  split at h3
  · rename_i n hz
    cases h3
    refine ⟨_, _, g1, Runs.same _ (DRel.one h6) fun o' ho => ?_⟩
    have hF : F[f]? = some fd := by rw [← Array.getElem?_toList, h10]; exact h8
    simp [execOp, ho, Instr.fieldAt, run_underlying h9, hF, h5, Instr.sureAddr, fieldPlace, szT_run hz, add_none]
  · cases h3

theorem pop_field {s f : Nat} {x : Operand} (h : pop P X.H X.n fr ty (.field s x f) k = some r) (hf : FRel X fr a.tmps) : ∃ d bs, k d bs = some r ∧ Runs P a X ty (.field s x f) d bs := by
  simp only [pop] at h
  obtain ⟨v, h1, g1⟩ := obind h
  obtain ⟨fs, h2, g2⟩ := obind g1
  obtain ⟨fd, h3, g3⟩ := obind g2
  obtain ⟨hv, g4⟩ := bif_true g3
  obtain ⟨n, h4, g5⟩ := obind g4
  obtain ⟨g, h5, g6⟩ := obind g5
  obtain ⟨l, h6, g7⟩ := obind g6
  obtain ⟨u, h7, g8⟩ := obind g7
  obtain ⟨F, h9, h10⟩ := fieldsT_run h2
  have hF : F[f]? = some fd := by rw [← Array.getElem?_toList, h10]; exact h3
  have hx := ev_sound h1 hf
  rw [AVRel, if_pos hv] at hx
  obtain ⟨vs, h11, h12⟩ := hx
  obtain ⟨h13, h14⟩ := takeO_spec h6
  have h15 : CsRel X l ((vs.toList.drop fd.offset).take n) := by rw [h13]; exact (h12.drop fd.offset).take n
  have hE : vs.extract fd.offset (fd.offset + n) = ((vs.toList.drop fd.offset).take n).toArray := by
    apply Array.ext'
    simp [List.extract_eq_take_drop]
  rcases mkAV_rel h7 h15 with ⟨hg, h16⟩ | ⟨hg, z, h16, h17⟩
  · rw [hg] at h5
    refine ⟨_, _, g8, Runs.same _ (show DRel X (.one u) _ from h16) fun o' ho => ?_⟩
    rw [← hE]
    simp [execOp, ho, Instr.field, run_underlying h9, hF, h11, asAgg, part, aggT_run h5, szT_run h4]
  · rw [hg] at h5
    refine ⟨_, _, g8, Runs.same z (show DRel X (.one u) _ from h17) fun o' ho => ?_⟩
    have hz : vs[fd.offset]? = some z := by
      have h0 : ((vs.toList.drop fd.offset).take n)[0]? = some z := by rw [h16]; rfl
      rw [List.getElem?_take] at h0
      split at h0
      · rw [List.getElem?_drop] at h0; simpa using h0
      · cases h0
    simp [execOp, ho, Instr.field, run_underlying h9, hF, h11, asAgg, part, aggT_run h5, hz]

theorem opTy_bool {t : TypeId} {b : Bool} (h : opTy P t (.bool b) = true) : P.underlying t = some .bool := by
  simp only [opTy] at h
  split at h
  · assumption
  · cases h

theorem opTy_nil {t : TypeId} (h : opTy P t .nilI = true) : ∃ ms, P.underlying t = some (.interface ms) := by
  simp only [opTy] at h
  split at h
  · exact ⟨_, by assumption⟩
  · cases h

theorem opTy_err {t : TypeId} (h : opTy P t .err = true) : ∃ ms, P.underlying t = some (.interface ms) := by
  simp only [opTy] at h
  split at h
  · exact ⟨_, by assumption⟩
  · cases h

/-- A value of type t and its cells. -/
def PartR (P : Program) (X : Cx) (t : TypeId) (cs : List Cell) (u : Value) : Prop :=
  ∃ vs : List Value, CsRel X cs vs ∧ ((aggT P t = some true ∧ u = .agg vs.toArray) ∨ (aggT P t = some false ∧ vs = [u]))

theorem part_sound {t : TypeId} {n off : Nat} {cs l : List Cell} {xs : Array Value} {g : Bool} (hn : szT P t = some n) (hg : aggT P t = some g) (h1 : g = false → n = 1) (hl : takeO n (cs.drop off) = some l) (hc : CsRel X cs xs.toList) :
    ∃ u, (part t xs off).run P X.w = .ok u X.w ∧ PartR P X t l u := by
  obtain ⟨e1, e2⟩ := takeO_spec hl
  have hcs : CsRel X l ((xs.toList.drop off).take n) := by rw [e1]; exact (hc.drop off).take n
  cases g with
  | true =>
    refine ⟨.agg (xs.extract off (off + n)), ?_, _, hcs, .inl ⟨hg, ?_⟩⟩
    · simp [part, aggT_run hg, szT_run hn]
    · congr 1
      apply Array.ext'
      simp [List.drop_take, Nat.add_sub_cancel_left]
  | false =>
    have hn1 := h1 rfl
    subst hn1
    have hlen : ((xs.toList.drop off).take 1).length = 1 := by rw [hcs.1, e2]
    match hv : (xs.toList.drop off).take 1, hlen with
    | [u], _ =>
      refine ⟨u, ?_, [u], by rw [hv] at hcs; exact hcs, .inr ⟨hg, rfl⟩⟩
      have : xs[off]? = some u := by
        have h0 : ((xs.toList.drop off).take 1)[0]? = some u := by rw [hv]; rfl
        rw [List.getElem?_take, if_pos (by omega), List.getElem?_drop] at h0
        simpa using h0
      simp [part, aggT_run hg, this]

theorem eqT_scal {d : Nat} {t : TypeId} {cs ds : List Cell} {b : Bool} (h : eqT P d t cs ds = some b) (hg : aggT P t = some false) : cs.length = 1 := by
  cases d with
  | zero => cases h
  | succ d =>
    simp only [eqT] at h
    split at h
    · split at h
      · rfl
      · cases h
    · split at h
      · rfl
      · cases h
    · split at h
      · rfl
      · cases h
    · rename_i fs hu
      simp [aggT, hu] at hg
    · cases h

theorem eqT_agg {d : Nat} {t : TypeId} {cs ds : List Cell} {b : Bool} (h : eqT P d t cs ds = some b) : ∃ g, aggT P t = some g := by
  cases d with
  | zero => cases h
  | succ d =>
    simp only [eqT] at h
    split at h <;> rename_i hu <;> first | exact ⟨_, by simp only [aggT, hu]; rfl⟩ | cases h

theorem eqT_sound : ∀ (d D : Nat) (t : TypeId) (cs ds : List Cell) (b : Bool) (u v : Value), d ≤ D → eqT P d t cs ds = some b → PartR P X t cs u → PartR P X t ds v → (Op.equalIn D t u v).run P X.w = .ok b X.w := by
  intro d
  induction d with
  | zero => intro D t cs ds b u v _ h; cases h
  | succ d ih =>
    intro D t cs ds b u v hD h hu hv
    obtain ⟨D, rfl⟩ : ∃ D', D = D' + 1 := ⟨D - 1, by omega⟩
    simp only [eqT] at h
    split at h
    · rename_i kk ht
      split at h
      · rename_i k a k' b'
        obtain ⟨h1, h2⟩ := bif_true h
        have := of_decide_eq_true h1
        subst this
        cases h2
        obtain ⟨vs, c1, c2⟩ := hu
        obtain ⟨ws, c3, c4⟩ := hv
        have e1 : u = .int k a := by
          rcases c2 with ⟨q, -⟩ | ⟨-, rfl⟩
          · simp [aggT, ht] at q
          · obtain ⟨z, z1, z2⟩ := c1.2 0 _ rfl; simp at z1; subst z1; exact z2.2
        have e2 : v = .int k b' := by
          rcases c4 with ⟨q, -⟩ | ⟨-, rfl⟩
          · simp [aggT, ht] at q
          · obtain ⟨z, z1, z2⟩ := c3.2 0 _ rfl; simp at z1; subst z1; exact z2.2
        subst e1; subst e2
        exact run_equalIn_int X.w D t k kk a b' ht
      · cases h
    · rename_i ht
      split at h
      · rename_i a b'
        cases h
        obtain ⟨vs, c1, c2⟩ := hu
        obtain ⟨ws, c3, c4⟩ := hv
        have e1 : u = .bool a := by
          rcases c2 with ⟨q, -⟩ | ⟨-, rfl⟩
          · simp [aggT, ht] at q
          · obtain ⟨z, z1, z2⟩ := c1.2 0 _ rfl; simp at z1; subst z1; exact z2.2
        have e2 : v = .bool b' := by
          rcases c4 with ⟨q, -⟩ | ⟨-, rfl⟩
          · simp [aggT, ht] at q
          · obtain ⟨z, z1, z2⟩ := c3.2 0 _ rfl; simp at z1; subst z1; exact z2.2
        subst e1; subst e2
        exact run_equalIn_bool' X.w D t a b' ht
      · cases h
    · rename_i ht
      split at h
      · rename_i a b'
        cases h
        obtain ⟨vs, c1, c2⟩ := hu
        obtain ⟨ws, c3, c4⟩ := hv
        have e1 : u = .string a := by
          rcases c2 with ⟨q, -⟩ | ⟨-, rfl⟩
          · simp [aggT, ht] at q
          · obtain ⟨z, z1, z2⟩ := c1.2 0 _ rfl; simp at z1; subst z1; exact z2.2
        have e2 : v = .string b' := by
          rcases c4 with ⟨q, -⟩ | ⟨-, rfl⟩
          · simp [aggT, ht] at q
          · obtain ⟨z, z1, z2⟩ := c3.2 0 _ rfl; simp at z1; subst z1; exact z2.2
        subst e1; subst e2
        exact run_equalIn_string X.w D t a b' ht
      · cases h
    · rename_i fs ht
      cases hst : P.stoodInHeld t with
      | true => rw [hst] at h; cases h
      | false =>
        rw [hst] at h
        simp only [cond_false] at h
        obtain ⟨vs, c1, c2⟩ := hu
        obtain ⟨ws, c3, c4⟩ := hv
        have e1 : u = .agg vs.toArray := by
          rcases c2 with ⟨-, q⟩ | ⟨q, -⟩
          · exact q
          · simp [aggT, ht] at q
        have e2 : v = .agg ws.toArray := by
          rcases c4 with ⟨-, q⟩ | ⟨q, -⟩
          · exact q
          · simp [aggT, ht] at q
        subst e1; subst e2
        have hfo : P.fieldsOf t = fs := by simp [Program.fieldsOf, ht]
        rw [run_equalIn_struct (P := P) X.w D t _ _ (by rw [hfo]; exact ht) hst, hfo]
        have key : ∀ (l : List Field) (b : Bool), eqF P (eqT P d) cs ds l = some b → (Op.eqFields D vs.toArray ws.toArray l).run P X.w = .ok b X.w := by
          intro l
          induction l with
          | nil => intro b hb; cases hb; simp [Op.eqFields]
          | cons f l ihl =>
            intro b hb
            simp only [eqF] at hb
            split at hb
            · rename_i hname
              obtain ⟨n, g1, hb⟩ := obind hb
              obtain ⟨l1, g2, hb⟩ := obind hb
              obtain ⟨l2, g3, hb⟩ := obind hb
              obtain ⟨b1, g4, hb⟩ := obind hb
              obtain ⟨b2, g5, hb⟩ := obind hb
              cases hb
              obtain ⟨g, hg⟩ := eqT_agg g4
              have h1 : g = false → n = 1 := fun hgf => by
                subst hgf
                have := eqT_scal g4 hg
                rw [(takeO_spec g2).2] at this; exact this
              obtain ⟨x1, q1, q2⟩ := part_sound (X := X) (P := P) (xs := vs.toArray) g1 hg h1 g2 (by simpa using c1)
              obtain ⟨x2, q3, q4⟩ := part_sound (X := X) (P := P) (xs := ws.toArray) g1 hg h1 g3 (by simpa using c3)
              have q5 := ih D f.type l1 l2 b1 x1 x2 (by omega) g4 q2 q4
              have q6 := ihl b2 g5
              simp only [Op.eqFields, if_pos hname, Sem.run_bind, q1, q3, q5, Result.andThen_ok]
              cases b1 with
              | true => simpa using q6
              | false => simp
            · rename_i hname
              simp only [Op.eqFields, if_neg hname]
              exact ihl b hb
        exact key fs.toList b h
    · cases h

theorem pop_binOp {op : BinOp} {t t' : TypeId} {x y : Operand} (h : pop P X.H X.n fr ty (.binOp op t x y t') k = some r) (hf : FRel X fr a.tmps) : ∃ d bs, k d bs = some r ∧ Runs P a X ty (.binOp op t x y t') d bs := by
  simp only [pop] at h
  obtain ⟨v1, hv1, h⟩ := obind h
  obtain ⟨v2, hv2, h⟩ := obind h
  cases hag : v1.agg with
  | true =>
    rw [hag] at h
    simp only [cond_true] at h
    obtain ⟨hok, h⟩ := bif_true h
    simp only [Bool.and_eq_true, Bool.not_eq_true'] at hok
    obtain ⟨b, hb, h⟩ := obind h
    have r1 := ev_sound hv1 hf
    have r2 := ev_sound hv2 hf
    unfold AVRel at r1 r2
    rw [if_pos hag] at r1
    rw [if_pos hok.1.1] at r2
    obtain ⟨xs, e1, c1⟩ := r1
    obtain ⟨ys, e2, c2⟩ := r2
    obtain ⟨⟨hok1, hok2⟩, hok3⟩ := hok
    have hst : aggT P t = some true := by
      unfold isAggT at hok3
      split at hok3
      · rename_i g hg; rw [hg, hok3]
      · cases hok3
    have heq := eqT_sound (X := X) (P := P) 6 10000 t v1.cs v2.cs b (.agg xs) (.agg ys) (by omega) hb ⟨xs.toList, c1, .inl ⟨hst, by simp⟩⟩ ⟨ys.toList, c2, .inl ⟨hst, by simp⟩⟩
    have hgd := fun (x y : Operand) => run_eqGuard_agg (P := P) X.w op t x y xs ys hok2
    cases op <;> try cases h
    case eql =>
      exact ⟨_, _, h, Runs.same (.bool b) (DRel.one ⟨rfl, rfl⟩) fun o ho => by simp only [execOp, ho, Sem.run_bind, e1, e2, hgd, Result.andThen_ok, run_eql_struct, heq]; rfl⟩
    case neq =>
      exact ⟨_, _, h, Runs.same (.bool (!b)) (DRel.one ⟨rfl, rfl⟩) fun o ho => by simp only [execOp, ho, Sem.run_bind, e1, e2, hgd, Result.andThen_ok, run_neq_struct, heq]; rfl⟩
  | false =>
  rw [hag] at h
  simp only [cond_false] at h
  obtain ⟨c1, h1', h⟩ := obind h
  obtain ⟨c2, h2', h⟩ := obind h
  have h1 : ev1 P fr t x = some c1 := by unfold ev1; rw [hv1]; exact h1'
  have h2 : ev1 P fr t y = some c2 := by unfold ev1; rw [hv2]; exact h2'
  obtain ⟨hok, h⟩ := bif_true h
  obtain ⟨c, z, h3, h4, h5⟩ := bop_sound h (ev1_sound h1 hf) (ev1_sound h2 hf)
    (fun e => by
      rcases e with e | e <;> (rw [e] at hok; exact opTy_bool hok))
    (fun e => by
      rcases e with e | e <;> rw [e] at hok
      · exact opTy_nil hok
      · exact opTy_err hok)
  exact ⟨_, _, h3, Runs.same z (DRel.one h4) fun o ho => by
    simp only [execOp, ho, Sem.run_bind] at h5 ⊢
    rw [h5]; rfl⟩

theorem pop_unOp {op : UnOp} {t : TypeId} {x : Operand} (h : pop P X.H X.n fr ty (.unOp op t x) k = some r) (hf : FRel X fr a.tmps) : ∃ d bs, k d bs = some r ∧ Runs P a X ty (.unOp op t x) d bs := by
  simp only [pop] at h
  obtain ⟨c1, h1, h⟩ := obind h
  obtain ⟨c, z, h3, h4, h5⟩ := uop_sound (P := P) h (ev1_sound h1 hf)
  exact ⟨_, _, h3, Runs.same z (DRel.one h4) fun o ho => by simp [execOp, ho, h5]⟩

end
end Go.Proofs.Ytgmcefnlcalagaa.AM
