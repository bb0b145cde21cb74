/- The abstract machine: operations that read, reckon and make memory, one by one. No condition. -/
import Derived.Test.YtgmcefnlcalagaaAm4
namespace Go.Proofs.Ytgmcefnlcalagaa.AM
open Go Go.RowKit
set_option linter.unusedSimpArgs false
set_option linter.unusedVariables false

theorem cell_of {w : World} {b : Nat} {vs : Array Value} {t : TypeId} {fz : Nat × Nat} (h : w.heap[b]? = some (.cells vs t fz)) (o : Nat) : w.cell? ⟨b, o, none⟩ = vs[o]? := by
  simp [World.cell?, h]

theorem cellsAt_of {w : World} {b o : Nat} {vs : Array Value} {t : TypeId} {fz : Nat × Nat} {l : List Value} (h : w.heap[b]? = some (.cells vs t fz)) (hl : ∀ j u, l[j]? = some u → vs[o + j]? = some u) : cellsAt w b o l :=
  fun j u hu => by rw [cell_of h]; exact hl j u hu

theorem cells_sound {X : Cx} {c : Cell} {u : Value} {cs : List Cell} (hH : HBl X) (hc : CRel X c u) (h : cellsOf X.H c = some cs) :
    ∃ b o vs, u = .pointer (some ⟨b, o, none⟩) ∧ CsRel X cs vs ∧ cellsAt X.w b o vs := by
  cases c <;> try cases h
  case ptr r off =>
    simp only [cellsOf] at h
    split at h
    · rename_i cs0 hg
      cases h
      obtain ⟨-, -, hb⟩ := hc
      obtain ⟨b, h1, h2⟩ := hb cs0 hg
      obtain ⟨-, b', vs, t, h3, h4, h5⟩ := hH r _ hg
      rw [h1] at h3; cases h3
      refine ⟨b, off, vs.toList.drop off, h2, h5.drop off, cellsAt_of h4 fun j u hu => ?_⟩
      rw [List.getElem?_drop] at hu
      simpa using hu
    · cases h
  case ref τ x k =>
    obtain ⟨-, b, o, row, h1, h2, h3, h4⟩ := hc
    refine ⟨b, o + k, row.drop k, h1, (flat_rel h3).drop k, fun j u hu => ?_⟩
    rw [List.getElem?_drop] at hu
    have := h4 _ _ hu
    rwa [← Nat.add_assoc] at this
  case elt r v i k =>
    simp only [cellsOf] at h
    split at h
    · rename_i v' e xs hg
      cases hv : Nat.beq v v' with
      | false => rw [hv] at h; cases h
      | true =>
        rw [hv] at h; cases h
        obtain ⟨-, -, hb⟩ := hc
        obtain ⟨hi, b, o, h1, h2⟩ := (hb v' e xs hg).2 (Nat.eq_of_beq_eq_true hv)
        obtain ⟨-, h3⟩ := hH r _ hg
        rcases h3 with ⟨h4, h5⟩ | ⟨b', o', vs, t, h4, h5, h6, h7⟩
        · rw [h5] at hi; simp at hi
        · rw [h1] at h4; cases h4
          have hx : xs[i]? = some (xs.getD i e.zero) := by simp [List.getD, List.getElem?_eq_getElem hi]
          obtain ⟨row, h8, h9⟩ := h7 i _ hx
          refine ⟨b, o + i * e.sz + k, row.drop k, h2, (flat_rel h8).drop k, cellsAt_of h5 fun j u hu => ?_⟩
          rw [List.getElem?_drop] at hu
          have := h9 _ _ hu
          rwa [← Nat.add_assoc] at this
    · cases h

theorem takeO_spec {β : Type} : ∀ {n : Nat} {l r : List β}, takeO n l = some r → r = l.take n ∧ r.length = n := by
  intro n
  induction n with
  | zero => intro l r h; simp [takeO] at h; subst h; simp
  | succ n ih =>
    intro l r h
    cases l with
    | nil => simp [takeO] at h
    | cons a l =>
      simp only [takeO] at h
      obtain ⟨t, h1, h2⟩ := obind h
      cases h2
      obtain ⟨h3, h4⟩ := ih h1
      simp [← h3, h4]

theorem add_none (b o n : Nat) : Addr.add ⟨b, o, none⟩ n = ⟨b, o + n, none⟩ := by
  unfold Addr.add
  split
  · rename_i h; subst h; rfl
  · rfl

theorem mkAV_rel {X : Cx} {g : Bool} {cs : List Cell} {vs : List Value} {v : AV} (h : mkAV g cs = some v) (hc : CsRel X cs vs) :
    (g = true ∧ AVRel X v (.agg vs.toArray)) ∨ (g = false ∧ ∃ u, vs = [u] ∧ AVRel X v u) := by
  cases g with
  | true => cases h; exact .inl ⟨rfl, AVRel.mkAgg (by simpa using hc)⟩
  | false =>
    right
    simp only [mkAV, cond_false] at h
    split at h
    · rename_i c
      cases h
      obtain ⟨u, h1, h2⟩ := hc.2 0 c rfl
      have : vs.length = 1 := hc.1
      match vs, this, h1 with
      | [u'], _, h1 => cases h1; exact ⟨rfl, _, rfl, AVRel.mk h2⟩
    · cases h

theorem loadA_sound {P : Program} {X : Cx} {t : TypeId} {c : Cell} {u : Value} {v : AV} (hH : HBl X) (hc : CRel X c u) (h : loadA P X.H t c = some v) :
    ∃ b o val, u = .pointer (some ⟨b, o, none⟩) ∧ AVRel X v val ∧ (loadVar t ⟨b, o, none⟩).run P X.w = .ok val X.w := by
  unfold loadA at h
  obtain ⟨cs, h1, h⟩ := obind h
  obtain ⟨n, h2, h⟩ := obind h
  obtain ⟨g, h3, h⟩ := obind h
  obtain ⟨l, h4, h⟩ := obind h
  obtain ⟨b, o, vs, h5, h6, h7⟩ := cells_sound hH hc h1
  obtain ⟨h8, h9⟩ := takeO_spec h4
  subst h8
  have h10 : CsRel X (cs.take n) (vs.take n) := h6.take n
  have hlen : (vs.take n).length = n := by rw [h10.1, h9]
  have hl : (loadCells ⟨b, o, none⟩ n).run P X.w = .ok (vs.take n).toArray X.w := by
    have := run_loadCells_list (P := P) X.w ⟨b, o, none⟩ (vs.take n) (fun j x hj => by
      rw [add_none]
      rw [List.getElem?_take] at hj
      split at hj
      · exact h7 j x hj
      · cases hj)
    rwa [hlen] at this
  refine ⟨b, o, ?_⟩
  rcases mkAV_rel h h10 with ⟨rfl, h11⟩ | ⟨rfl, x, h11, h12⟩
  · refine ⟨_, h5, h11, ?_⟩
    simp [loadVar, aggT_run h3, szT_run h2, hl]
  · refine ⟨x, h5, h12, ?_⟩
    have hx : X.w.cell? ⟨b, o, none⟩ = some x := by
      have h0 : (vs.take n)[0]? = some x := by rw [h11]; rfl
      rw [List.getElem?_take] at h0
      split at h0
      · exact h7 0 x h0
      · cases h0
    simp [loadVar, aggT_run h3, load, Sem.run, hx]

/-- The operation, run from X, comes to d and the new blocks bs. -/
def Runs (P : Program) (a : Act) (X : Cx) (ty : TypeId) (op : Op) (d : D) (bs : List Blk) : Prop :=
  ∃ v X', GR X bs X' ∧ DRel X' d v ∧ ∀ o : Oper, o.op = op → o.type = ty → (execOp a.eval o).run P X.w = .ok (.value v) X'.w

theorem Runs.same {P : Program} {a : Act} {X : Cx} {ty : TypeId} {op : Op} {d : D} (v : Value) (hd : DRel X d v)
    (h : ∀ o : Oper, o.op = op → (execOp a.eval o).run P X.w = .ok (.value v) X.w) : Runs P a X ty op d [] :=
  ⟨v, X, GR.same X, hd, fun o ho _ => h o ho⟩

theorem DRel.one {X : Cx} {c : Cell} {u : Value} (h : CRel X c u) : DRel X (.one ⟨false, [c]⟩) u := AVRel.mk h

/-- A new variable. -/
theorem GR.newBox (X : Cx) (hT : ∀ b, X.T b → b < X.w.heap.size) (t : TypeId) {cs : List Cell} {vs : Array Value} (h : CsRel X cs vs.toList) :
    GR X [.box cs] (X.push vs t (.box cs)) ∧ CRel (X.push vs t (.box cs)) (.ptr X.n 0) (.pointer (some ⟨X.w.heap.size, 0, none⟩)) := by
  have hle : Le X (X.push vs t (.box cs)) := {
    n := Nat.le_succ _
    T := fun _ h => h
    blk := fun b hb => Below.heap_alloc _ _ _ (hT b hb)
    box := by
      intro r cs' hr hg
      simp only [Cx.push] at hg ⊢
      rw [Heap.get_new, if_neg (by omega)] at hg
      exact ⟨cs', hg, by rw [if_neg (by omega)]⟩
    arr := by
      intro r v' e xs' hr hg
      simp only [Cx.push] at hg ⊢
      rw [Heap.get_new, if_neg (by omega)] at hg
      exact ⟨v', xs', hg, Nat.le_refl _, fun _ => ⟨rfl, by rw [if_neg (by omega)]⟩⟩
    size := fun b cs t fz hb => ⟨cs, t, fz, (Below.heap_alloc _ _ _ (lt_of_cells hb)).trans hb, rfl⟩ }
  refine ⟨GR.push X vs t _ hT ⟨X.w.heap.size, vs, t, by simp [Cx.push], heap_alloc_new _ _, h.mono hle⟩, rfl, Nat.lt_succ_self _, fun cs' hg => ⟨X.w.heap.size, by simp [Cx.push], rfl⟩⟩

theorem newVar_run {P : Program} {w : World} (t : TypeId) (u : Value) : (newVar t u).run P w = .ok ⟨w.heap.size, 0, none⟩ (w.alloc (.cells u.cells t)) := by
  simp [newVar, newRow, newObj, Sem.run]

theorem bop_int {α : Type} {P : Program} {w : World} {cst : Bool} {op : BinOp} {t : TypeId} {ik ik' : IntKind} {a b : Int} {k : Cell → Option α} {r : α} (h : bop cst op (.int ik a) (.int ik' b) k = some r) (p q : Operand) :
    ∃ c z, k c = some r ∧ (∀ X, CRel X c z) ∧ (do eqGuard op t p q (.int ik a) (.int ik' b); binOp op t (.int ik a) (.int ik' b) : Sem Value).run P w = .ok z w := by
  have gi : ∀ {x : Int}, k (.int ik x) = some r → (do eqGuard op t p q (.int ik a) (.int ik' b); binOp op t (.int ik a) (.int ik' b) : Sem Value).run P w = .ok (.int ik x) w →
      ∃ c z, k c = some r ∧ (∀ X, CRel X c z) ∧ (do eqGuard op t p q (.int ik a) (.int ik' b); binOp op t (.int ik a) (.int ik' b) : Sem Value).run P w = .ok z w :=
    fun hk hr => ⟨_, _, hk, fun _ => ⟨rfl, rfl⟩, hr⟩
  have gb : ∀ {x : Bool}, k (.bool x) = some r → (do eqGuard op t p q (.int ik a) (.int ik' b); binOp op t (.int ik a) (.int ik' b) : Sem Value).run P w = .ok (.bool x) w →
      ∃ c z, k c = some r ∧ (∀ X, CRel X c z) ∧ (do eqGuard op t p q (.int ik a) (.int ik' b); binOp op t (.int ik a) (.int ik' b) : Sem Value).run P w = .ok z w :=
    fun hk hr => ⟨_, _, hk, fun _ => ⟨rfl, rfl⟩, hr⟩
  have cnd : ∀ {x : Option α}, (bif decide (ik = ik') then x else none) = some r → ik = ik' ∧ x = some r := fun {x} hc => by
    by_cases e : ik = ik'
    · rw [decide_eq_true e] at hc; exact ⟨e, hc⟩
    · rw [decide_eq_false e] at hc; cases hc
  simp only [eqGuard_at_int, pure_bind] at gi gb ⊢
  cases op <;> simp only [bop, cmpInt, bitsInt] at h
  case shl =>
    split at h
    · cases h
    · rename_i hb
      exact gi h (by rw [binOp_shl, Op.shift, if_neg hb]; rfl)
  case shr =>
    split at h
    · cases h
    · rename_i hb
      exact gi h (by rw [binOp_shr, Op.shift, if_neg hb]; rfl)
  case quo =>
    obtain ⟨e, h'⟩ := cnd h
    subst e
    split at h'
    · cases h'
    · rename_i hb
      exact gi h' (by rw [binOp_quo, Op.intDiv, if_neg hb]; rfl)
  case rem =>
    obtain ⟨e, h'⟩ := cnd h
    subst e
    split at h'
    · cases h'
    · rename_i hb
      exact gi h' (by rw [binOp_rem, Op.intDiv, if_neg hb]; rfl)
  case add => obtain ⟨e, h'⟩ := cnd h; subst e; exact gi h' (by rw [binOp_add]; rfl)
  case sub => obtain ⟨e, h'⟩ := cnd h; subst e; exact gi h' (by rw [binOp_sub]; rfl)
  case mul => obtain ⟨e, h'⟩ := cnd h; subst e; exact gi h' (by rw [binOp_mul]; rfl)
  case and => obtain ⟨e, h'⟩ := cnd h; subst e; exact gi h' (by rw [binOp_and]; rfl)
  case or => obtain ⟨e, h'⟩ := cnd h; subst e; exact gi h' (by rw [binOp_or]; rfl)
  case xor => obtain ⟨e, h'⟩ := cnd h; subst e; exact gi h' (by rw [binOp_xor]; rfl)
  case andNot => obtain ⟨e, h'⟩ := cnd h; subst e; exact gi h' (by rw [binOp_andNot]; rfl)
  case eql => obtain ⟨e, h'⟩ := cnd h; subst e; exact gb h' (by rw [binOp_eql]; rfl)
  case neq => obtain ⟨e, h'⟩ := cnd h; subst e; exact gb h' (by rw [binOp_neq]; rfl)
  case lss => obtain ⟨e, h'⟩ := cnd h; subst e; exact gb h' (by rw [binOp_lss]; rfl)
  case leq => obtain ⟨e, h'⟩ := cnd h; subst e; exact gb h' (by rw [binOp_leq]; rfl)
  case gtr => obtain ⟨e, h'⟩ := cnd h; subst e; exact gb h' (by rw [binOp_gtr]; rfl)
  case geq => obtain ⟨e, h'⟩ := cnd h; subst e; exact gb h' (by rw [binOp_geq]; rfl)

theorem bop_str {α : Type} {P : Program} {w : World} {cst : Bool} {op : BinOp} {t : TypeId} {a b : ByteArray} {k : Cell → Option α} {r : α} (h : bop cst op (.str a) (.str b) k = some r) (p q : Operand) :
    ∃ c z, k c = some r ∧ (∀ X, CRel X c z) ∧ (do eqGuard op t p q (.string a) (.string b); binOp op t (.string a) (.string b) : Sem Value).run P w = .ok z w := by
  simp only [eqGuard_at_string, pure_bind]
  cases op <;> simp only [bop, cmpStr] at h
  case add =>
    split at h
    · rename_i hb
      refine ⟨_, _, h, fun _ => ⟨rfl, rfl⟩, ?_⟩
      simp only [binOp, Op.stringOp]
      rw [if_neg (by rw [IntKind.max_i64]; omega)]; rfl
    · cases h
  all_goals first | cases h | exact ⟨_, _, h, fun _ => ⟨rfl, rfl⟩, rfl⟩

theorem eqIn_bool {P : Program} {t : TypeId} (h : P.underlying t = some .bool) (a b : Bool) (w : World) (d : Nat) : (Op.equalIn (d + 1) t (.bool a) (.bool b)).run P w = .ok (a == b) w := by
  rw [Op.equalIn]; simp only [Sem.run_bind, run_underlying h, Result.andThen_ok, Sem.run_pure]
theorem eqIn_nil {P : Program} {t : TypeId} {ms : Array (String × TypeId)} (h : P.underlying t = some (.interface ms)) (w : World) (d : Nat) : (Op.equalIn (d + 1) t .nilIface .nilIface).run P w = .ok true w := by
  rw [Op.equalIn]; simp only [Sem.run_bind, run_underlying h, Result.andThen_ok, Sem.run_pure]
theorem eqIn_err {P : Program} {t : TypeId} {ms : Array (String × TypeId)} (h : P.underlying t = some (.interface ms)) (e : TypeId) (x : Value) (w : World) (d : Nat) : (Op.equalIn (d + 1) t (.iface e x) .nilIface).run P w = .ok false w := by
  rw [Op.equalIn]; simp only [Sem.run_bind, run_underlying h, Result.andThen_ok, Sem.run_pure]

theorem eqb {P : Program} {w : World} {t : TypeId} {x y : Value} {b : Bool} (h : (Op.equalIn (9999 + 1) t x y).run P w = .ok b w) :
    (do pure (.bool (← Op.equal t x y)) : Sem Value).run P w = .ok (.bool b) w ∧ (do pure (.bool (!(← Op.equal t x y))) : Sem Value).run P w = .ok (.bool (!b)) w := by
  have e : Op.equal t x y = Op.equalIn (9999 + 1) t x y := rfl
  rw [e]
  constructor
  · simp only [Sem.run_bind, h, Result.andThen_ok, Sem.run_pure]
  · simp only [Sem.run_bind, h, Result.andThen_ok, Sem.run_pure]

theorem bop_sound {α : Type} {P : Program} {X : Cx} {op : BinOp} {t : TypeId} {x y : Cell} {p q : Operand} {u v : Value} {k : Cell → Option α} {r : α} (h : bop (isConst p || isConst q) op x y k = some r)
    (hx : CRel X x u) (hy : CRel X y v) (ht : x = .bool true ∨ x = .bool false → P.underlying t = some .bool) (hi : x = .nilI ∨ x = .err → ∃ ms, P.underlying t = some (.interface ms)) :
    ∃ c z, k c = some r ∧ CRel X c z ∧ (do eqGuard op t p q u v; binOp op t u v : Sem Value).run P X.w = .ok z X.w := by
  cases x with
  | int ik a =>
    cases y <;> simp only [bop] at h <;> try cases h
    rename_i ik' b
    cases hx.2; cases hy.2
    obtain ⟨c, z, h1, h2, h3⟩ := bop_int (P := P) (w := X.w) (t := t) (cst := false) h p q
    exact ⟨c, z, h1, h2 X, h3⟩
  | str a =>
    cases y <;> simp only [bop] at h <;> try cases h
    rename_i b
    cases hx.2; cases hy.2
    obtain ⟨c, z, h1, h2, h3⟩ := bop_str (P := P) (w := X.w) (t := t) (cst := false) h p q
    exact ⟨c, z, h1, h2 X, h3⟩
  | bool a =>
    cases y <;> simp only [bop] at h <;> try cases h
    rename_i b
    cases hx.2; cases hy.2
    have hu := ht (by cases a <;> simp)
    simp only [eqGuard_at_bool, pure_bind]
    cases op <;> simp only at h <;> try cases h
    · exact ⟨_, _, h, ⟨rfl, rfl⟩, (eqb (eqIn_bool hu _ _ _ _)).1⟩
    · exact ⟨_, _, h, ⟨rfl, rfl⟩, (eqb (eqIn_bool hu _ _ _ _)).2⟩
  | nilI =>
    cases y <;> simp only [bop] at h <;> try cases h
    cases hx.2; cases hy.2
    obtain ⟨ms, hu⟩ := hi (.inl rfl)
    have hg : eqGuard op t p q .nilIface .nilIface = pure () := by
      cases hc : (isConst p || isConst q) with
      | false => rw [hc] at h; cases h
      | true =>
        cases p <;> cases q <;> simp [isConst] at hc <;> first | exact eqGuard_nil_constL .. | exact eqGuard_nil_constR ..
    rw [hg]
    simp only [pure_bind]
    cases hc : (isConst p || isConst q) with
    | false => rw [hc] at h; cases h
    | true =>
      rw [hc] at h
      simp only [cond_true] at h
      cases op <;> simp only at h <;> try cases h
      · exact ⟨_, _, h, ⟨rfl, rfl⟩, (eqb (eqIn_nil hu _ _)).1⟩
      · exact ⟨_, _, h, ⟨rfl, rfl⟩, (eqb (eqIn_nil hu _ _)).2⟩
  | err =>
    cases y <;> simp only [bop] at h <;> try cases h
    obtain ⟨-, d, z, rfl⟩ := hx
    cases hy.2
    obtain ⟨ms, hu⟩ := hi (.inr rfl)
    simp only [eqGuard_at_iface, pure_bind]
    cases op <;> simp only at h <;> try cases h
    · exact ⟨_, _, h, ⟨rfl, rfl⟩, (eqb (eqIn_err hu _ _ _ _)).1⟩
    · exact ⟨_, _, h, ⟨rfl, rfl⟩, (eqb (eqIn_err hu _ _ _ _)).2⟩
  | _ => simp only [bop] at h; cases h

theorem uop_sound {α : Type} {P : Program} {X : Cx} {op : UnOp} {x : Cell} {u : Value} {k : Cell → Option α} {r : α} (h : uop op x k = some r) (hx : CRel X x u) :
    ∃ c z, k c = some r ∧ CRel X c z ∧ (Op.unary op u).run P X.w = .ok z X.w := by
  unfold uop at h
  split at h
  · cases hx.2; exact ⟨_, _, h, ⟨rfl, rfl⟩, rfl⟩
  · cases hx.2; exact ⟨_, _, h, ⟨rfl, rfl⟩, rfl⟩
  · cases h

/-- A length is the value's own. -/
theorem lenC_sound {X : Cx} {c : Cell} {u : Value} {n : Nat} (hc : CRel X c u) (h : lenC X.H c = some n) :
    (∃ s : ByteArray, u = .string s ∧ s.size = n ∧ c = .str s) ∨ (∃ A cap, u = .slice A n cap ∧ n ≤ cap) := by
  cases c <;> try cases h
  case str s => exact .inl ⟨s, hc.2, rfl, rfl⟩
  case sl e xs =>
    obtain ⟨-, A, cap, h1, h2, -⟩ := hc
    cases h1
    exact .inr ⟨A, cap, rfl, h2⟩
  case emp e => exact .inr ⟨none, 0, hc.2, Nat.le_refl _⟩
  case own r v =>
    simp only [lenC] at h
    split at h
    · rename_i v' e xs hg
      cases hv : Nat.beq v v' with
      | false => rw [hv] at h; cases h
      | true =>
        rw [hv] at h; cases h
        obtain ⟨A, cap, h1, h2, -⟩ := (hc.2.2 _ _ _ hg).2 (Nat.eq_of_beq_eq_true hv)
        exact .inr ⟨A, cap, h1, h2⟩
    · cases h
  case sub r v off l =>
    simp only [lenC] at h
    split at h
    · rename_i v' e xs hg
      cases hv : Nat.beq v v' with
      | false => rw [hv] at h; cases h
      | true =>
        rw [hv] at h; cases h
        obtain ⟨-, A, cap, h1, h2, -⟩ := (hc.2.2 _ _ _ hg).2 (Nat.eq_of_beq_eq_true hv)
        exact .inr ⟨A, cap, h1, h2⟩
    · cases h

end Go.Proofs.Ytgmcefnlcalagaa.AM
