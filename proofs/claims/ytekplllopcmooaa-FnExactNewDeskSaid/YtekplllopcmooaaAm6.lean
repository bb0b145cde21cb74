/- The abstract machine: every operation that reads, reckons or makes memory does what Go's does. No condition. -/
import Derived.Test.YtekplllopcmooaaAm5
namespace Go.Proofs.Ytekplllopcmooaa.AM
open Go Go.RowKit
set_option linter.unusedSimpArgs false
set_option linter.unusedVariables false

theorem bif_true {α : Type} {b : Bool} {x : Option α} {r : α} (h : (bif b then x else none) = some r) : b = true ∧ x = some r := by
  cases b with
  | true => exact ⟨rfl, h⟩
  | false => cases h

section
variable {α : Type} {P : Program} {X : Cx} {fr : List (Nat × D)} {a : Act} {ty : TypeId} {k : D → List Blk → Option α} {r : α}

theorem pop_move {x : Operand} (h : pop P X.H X.n fr ty (.move x) k = some r) (hf : FRel X fr a.tmps) : ∃ d bs, k d bs = some r ∧ Runs P a X ty (.move x) d bs := by
  cases x with
  | tmp i =>
    simp only [pop] at h
    obtain ⟨d, h1, h2⟩ := obind h
    exact ⟨d, [], h2, Runs.same _ (look_sound h1 hf) fun o ho => by simp [execOp, ho]⟩
  | _ =>
    simp only [pop] at h
    obtain ⟨v, h1, h2⟩ := obind h
    exact ⟨_, [], h2, Runs.same _ (show DRel X (.one v) _ from ev_sound h1 hf) fun o ho => by simp [execOp, ho]⟩

theorem pop_assign {x : Operand} (h : pop P X.H X.n fr ty (.assign x) k = some r) (hf : FRel X fr a.tmps) : ∃ d bs, k d bs = some r ∧ Runs P a X ty (.assign x) d bs := by
  cases x with
  | tmp i =>
    simp only [pop] at h
    obtain ⟨d, h1, h2⟩ := obind h
    exact ⟨d, [], h2, Runs.same _ (look_sound h1 hf) fun o ho => by simp [execOp, ho]⟩
  | _ =>
    simp only [pop] at h
    obtain ⟨v, h1, h2⟩ := obind h
    exact ⟨_, [], h2, Runs.same _ (show DRel X (.one v) _ from ev_sound h1 hf) fun o ho => by simp [execOp, ho]⟩

theorem pop_pick {c x y : Operand} (h : pop P X.H X.n fr ty (.pick c x y) k = some r) (hf : FRel X fr a.tmps) : ∃ d bs, k d bs = some r ∧ Runs P a X ty (.pick c x y) d bs := by
  simp only [pop] at h
  obtain ⟨cc, h1, h⟩ := obind h
  have hc := ev1_sound h1 hf
  split at h
  · rename_i t
    cases t with
    | true =>
      simp only [cond_true] at h
      obtain ⟨v, h2, h3⟩ := obind h
      exact ⟨_, [], h3, Runs.same _ (show DRel X (.one v) _ from ev_sound h2 hf) fun o ho => by simp [execOp, ho, show a.eval c = .bool true from hc.2, asBool]⟩
    | false =>
      simp only [cond_false] at h
      obtain ⟨v, h2, h3⟩ := obind h
      exact ⟨_, [], h3, Runs.same _ (show DRel X (.one v) _ from ev_sound h2 hf) fun o ho => by simp [execOp, ho, show a.eval c = .bool false from hc.2, asBool]⟩
  · cases h

theorem zeroAV_sound {t : TypeId} {v : AV} (h : zeroAV P t = some v) (X : Cx) : ∃ z, AVRel X v z ∧ ∀ w, (zeroValue t).run P w = .ok z w := by
  unfold zeroAV at h
  split at h
  · rename_i i hi
    obtain ⟨z, h1, h2⟩ := obind h
    exact ⟨z, cst_sound h2 X, fun w => by simp [zeroValue, typeInfo, hi, h1]⟩
  · cases h

theorem pop_alloc {t : TypeId} (h : pop P X.H X.n fr ty (.alloc t) k = some r) (hT : ∀ b, X.T b → b < X.w.heap.size) : ∃ d bs, k d bs = some r ∧ Runs P a X ty (.alloc t) d bs := by
  simp only [pop] at h
  obtain ⟨v, h1, h2⟩ := obind h
  obtain ⟨z, h3, h4⟩ := zeroAV_sound h1 X
  obtain ⟨h5, h6⟩ := GR.newBox X hT t h3.cells
  refine ⟨_, _, h2, _, _, h5, DRel.one h6, fun o ho _ => ?_⟩
  simp [execOp, ho, Instr.alloc, h4, newVar_run]
  rfl

theorem pop_box {t : TypeId} {x : Operand} (h : pop P X.H X.n fr ty (.box t x) k = some r) (hf : FRel X fr a.tmps) (hT : ∀ b, X.T b → b < X.w.heap.size) : ∃ d bs, k d bs = some r ∧ Runs P a X ty (.box t x) d bs := by
  simp only [pop] at h
  obtain ⟨v, h1, h2⟩ := obind h
  obtain ⟨h5, h6⟩ := GR.newBox X hT t (ev_sound h1 hf).cells
  refine ⟨_, _, h2, _, _, h5, DRel.one h6, fun o ho _ => ?_⟩
  simp [execOp, ho, Instr.box, newVar_run]
  rfl

theorem pop_load {t : TypeId} {x : Operand} (h : pop P X.H X.n fr ty (.load t x) k = some r) (hH : HBl X) (hf : FRel X fr a.tmps) : ∃ d bs, k d bs = some r ∧ Runs P a X ty (.load t x) d bs := by
  simp only [pop] at h
  obtain ⟨c, h1, h⟩ := obind h
  obtain ⟨v, h2, h3⟩ := obind h
  obtain ⟨b, o, val, h4, h5, h6⟩ := loadA_sound hH (ev1_sound h1 hf) h2
  refine ⟨_, _, h3, Runs.same val (show DRel X (.one v) _ from h5) fun o ho => ?_⟩
  simp [execOp, ho, Instr.loadAt, h4, Instr.sureAddr, h6]

theorem pop_nilCheck {x : Operand} (h : pop P X.H X.n fr ty (.nilCheck x) k = some r) (hH : HBl X) (hf : FRel X fr a.tmps) : ∃ d bs, k d bs = some r ∧ Runs P a X ty (.nilCheck x) d bs := by
  simp only [pop] at h
  obtain ⟨c, h1, h⟩ := obind h
  have hc := ev1_sound h1 hf
  split at h
  · obtain ⟨-, vals, h2, -⟩ := hc
    exact ⟨_, _, h, Runs.same (a.eval x) (DRel.one (ev1_sound h1 hf)) fun o ho => by simp [execOp, ho, h2]⟩
  · obtain ⟨cs, h2, h3⟩ := obind h
    obtain ⟨b, o, vs, h4, -, -⟩ := cells_sound hH hc h2
    exact ⟨_, _, h3, Runs.same (a.eval x) (DRel.one hc) fun o ho => by simp [execOp, ho, h4]⟩

theorem shift_sound {c c' : Cell} {u : Value} {cs : List Cell} {n : Nat} (hH : HBl X) (hc : CRel X c u) (h : cellsOf X.H c = some cs) (hs : shiftC c n = some c') :
    ∃ b o, u = .pointer (some ⟨b, o, none⟩) ∧ CRel X c' (.pointer (some ⟨b, o + n, none⟩)) := by
  obtain ⟨b, o, vs, h1, -, -⟩ := cells_sound hH hc h
  refine ⟨b, o, h1, rfl, ?_⟩
  subst h1
  cases c <;> cases hs
  case ptr r off =>
    refine ⟨hc.2.1, fun cs' hg => ?_⟩
    obtain ⟨b', h2, h3⟩ := hc.2.2 cs' hg
    cases h3
    exact ⟨b, h2, rfl⟩
  case ref τ x k =>
    obtain ⟨-, b', o', row, h2, h3, h4, h5⟩ := hc
    cases h2
    exact ⟨b, o', row, by rw [Nat.add_assoc], h3, h4, h5⟩
  case elt r v i k =>
    refine ⟨hc.2.1, fun v' e xs hg => ?_⟩
    obtain ⟨h2, h3⟩ := hc.2.2 v' e xs hg
    refine ⟨h2, fun hv => ?_⟩
    obtain ⟨h4, b', o', h5, h6⟩ := h3 hv
    cases h6
    exact ⟨h4, b, o', h5, by rw [Nat.add_assoc]⟩

theorem pop_fieldAddr {s f : Nat} {x : Operand} (h : pop P X.H X.n fr ty (.fieldAddr s x f) k = some r) (hH : HBl X) (hf : FRel X fr a.tmps) : ∃ d bs, k d bs = some r ∧ Runs P a X ty (.fieldAddr s x f) d bs := by
  simp only [pop] at h
  obtain ⟨c, h1, h⟩ := obind h
  obtain ⟨cs, h2, h⟩ := obind h
  obtain ⟨off, h3, g⟩ := obind h
  obtain ⟨c', h4, g1⟩ := obind g
  obtain ⟨b, o, h5, h6⟩ := shift_sound hH (ev1_sound h1 hf) h2 h4
  unfold fieldOff at h3
  obtain ⟨fs, h7, h3⟩ := obind h3
  obtain ⟨fd, h8, h3⟩ := obind h3
  obtain ⟨F, h9, h10⟩ := fieldsT_run h7
  split at h3
  · rename_i n hz
    cases h3
    refine ⟨_, _, g1, Runs.same _ (DRel.one h6) fun o' ho => ?_⟩
    have hF : F[f]? = some fd := by rw [← Array.getElem?_toList, h10]; exact h8
    simp [execOp, ho, Instr.fieldAt, run_underlying h9, hF, h5, Instr.sureAddr, fieldPlace, szT_run hz, add_none]
  · cases h3

theorem pop_field {s f : Nat} {x : Operand} (h : pop P X.H X.n fr ty (.field s x f) k = some r) (hf : FRel X fr a.tmps) : ∃ d bs, k d bs = some r ∧ Runs P a X ty (.field s x f) d bs := by
  simp only [pop] at h
  obtain ⟨v, h1, g1⟩ := obind h
  obtain ⟨fs, h2, g2⟩ := obind g1
  obtain ⟨fd, h3, g3⟩ := obind g2
  obtain ⟨hv, g4⟩ := bif_true g3
  obtain ⟨n, h4, g5⟩ := obind g4
  obtain ⟨g, h5, g6⟩ := obind g5
  obtain ⟨l, h6, g7⟩ := obind g6
  obtain ⟨u, h7, g8⟩ := obind g7
  obtain ⟨F, h9, h10⟩ := fieldsT_run h2
  have hF : F[f]? = some fd := by rw [← Array.getElem?_toList, h10]; exact h3
  have hx := ev_sound h1 hf
  rw [AVRel, if_pos hv] at hx
  obtain ⟨vs, h11, h12⟩ := hx
  obtain ⟨h13, h14⟩ := takeO_spec h6
  have h15 : CsRel X l ((vs.toList.drop fd.offset).take n) := by rw [h13]; exact (h12.drop fd.offset).take n
  have hE : vs.extract fd.offset (fd.offset + n) = ((vs.toList.drop fd.offset).take n).toArray := by
    apply Array.ext'
    simp [List.extract_eq_take_drop]
  rcases mkAV_rel h7 h15 with ⟨hg, h16⟩ | ⟨hg, z, h16, h17⟩
  · rw [hg] at h5
    refine ⟨_, _, g8, Runs.same _ (show DRel X (.one u) _ from h16) fun o' ho => ?_⟩
    rw [← hE]
    simp [execOp, ho, Instr.field, run_underlying h9, hF, h11, asAgg, part, aggT_run h5, szT_run h4]
  · rw [hg] at h5
    refine ⟨_, _, g8, Runs.same z (show DRel X (.one u) _ from h17) fun o' ho => ?_⟩
    have hz : vs[fd.offset]? = some z := by
      have h0 : ((vs.toList.drop fd.offset).take n)[0]? = some z := by rw [h16]; rfl
      rw [List.getElem?_take] at h0
      split at h0
      · rw [List.getElem?_drop] at h0; simpa using h0
      · cases h0
    simp [execOp, ho, Instr.field, run_underlying h9, hF, h11, asAgg, part, aggT_run h5, hz]

theorem opTy_bool {t : TypeId} {b : Bool} (h : opTy P t (.bool b) = true) : P.underlying t = some .bool := by
  simp only [opTy] at h
  split at h
  · assumption
  · cases h

theorem opTy_nil {t : TypeId} (h : opTy P t .nilI = true) : ∃ ms, P.underlying t = some (.interface ms) := by
  simp only [opTy] at h
  split at h
  · exact ⟨_, by assumption⟩
  · cases h

theorem opTy_err {t : TypeId} (h : opTy P t .err = true) : ∃ ms, P.underlying t = some (.interface ms) := by
  simp only [opTy] at h
  split at h
  · exact ⟨_, by assumption⟩
  · cases h

theorem pop_binOp {op : BinOp} {t t' : TypeId} {x y : Operand} (h : pop P X.H X.n fr ty (.binOp op t x y t') k = some r) (hf : FRel X fr a.tmps) : ∃ d bs, k d bs = some r ∧ Runs P a X ty (.binOp op t x y t') d bs := by
  simp only [pop] at h
  obtain ⟨c1, h1, h⟩ := obind h
  obtain ⟨c2, h2, h⟩ := obind h
  obtain ⟨hok, h⟩ := bif_true h
  obtain ⟨c, z, h3, h4, h5⟩ := bop_sound h (ev1_sound h1 hf) (ev1_sound h2 hf)
    (fun e => by
      rcases e with e | e <;> (rw [e] at hok; exact opTy_bool hok))
    (fun e => by
      rcases e with e | e <;> rw [e] at hok
      · exact opTy_nil hok
      · exact opTy_err hok)
  exact ⟨_, _, h3, Runs.same z (DRel.one h4) fun o ho => by
    simp only [execOp, ho, Sem.run_bind] at h5 ⊢
    rw [h5]; rfl⟩

theorem pop_unOp {op : UnOp} {t : TypeId} {x : Operand} (h : pop P X.H X.n fr ty (.unOp op t x) k = some r) (hf : FRel X fr a.tmps) : ∃ d bs, k d bs = some r ∧ Runs P a X ty (.unOp op t x) d bs := by
  simp only [pop] at h
  obtain ⟨c1, h1, h⟩ := obind h
  obtain ⟨c, z, h3, h4, h5⟩ := uop_sound (P := P) h (ev1_sound h1 hf)
  exact ⟨_, _, h3, Runs.same z (DRel.one h4) fun o ho => by simp [execOp, ho, h5]⟩

theorem pop_convert {s t : TypeId} {x : Operand} (h : pop P X.H X.n fr ty (.convert s t x) k = some r) (hf : FRel X fr a.tmps) : ∃ d bs, k d bs = some r ∧ Runs P a X ty (.convert s t x) d bs := by
  simp only [pop] at h
  cases hs : P.underlying s with
  | none => rw [hs] at h; cases h
  | some ds =>
    rw [hs] at h
    simp only [isNone?, cond_false] at h
    obtain ⟨c1, h1, h⟩ := obind h
    have hc := ev1_sound h1 hf
    split at h
    · rename_i k' n ik hd
      refine ⟨_, _, h, Runs.same (.int ik (ik.wrap n)) (DRel.one ⟨rfl, rfl⟩) fun o ho => ?_⟩
      simp [execOp, ho, convert, run_underlying hs, run_underlying hd, show a.eval x = .int k' n from hc.2, Conv.intToInt]
    · rename_i s' hd
      refine ⟨_, _, h, Runs.same (.string s') (DRel.one ⟨rfl, rfl⟩) fun o ho => ?_⟩
      simp [execOp, ho, convert, run_underlying hs, run_underlying hd, show a.eval x = .string s' from hc.2]
    · cases h

end
end Go.Proofs.Ytekplllopcmooaa.AM
