/- The abstract machine: all operations that read, reckon or make memory, together. No condition. -/
import Derived.Test.YtgmcefnlcalagaaAm8
namespace Go.Proofs.Ytgmcefnlcalagaa.AM
open Go Go.RowKit
set_option linter.unusedSimpArgs false
set_option linter.unusedVariables false

section
variable {α : Type} {P : Program} {X : Cx} {fr : List (Nat × D)} {a : Act} {ty : TypeId} {k : D → List Blk → Option α} {r : α}

theorem run_program {w : World} : (program : Sem Program).run P w = .ok P w := rfl
theorem run_askRoom {w : World} (n : Nat) : (askRoom n).run P w = .ok () w := by unfold askRoom; split <;> rfl

theorem wrap_in (n : Int) (h : -9223372036854775808 ≤ n ∧ n ≤ 9223372036854775807) : IntKind.i64.wrap n = n := IntWalk.i64_in n h

theorem pop_makeSlice {t : TypeId} {l c : Operand} (h : pop P X.H X.n fr ty (.makeSlice t l c) k = some r) (hf : FRel X fr a.tmps) (hT : ∀ b, X.T b → b < X.w.heap.size) : ∃ d bs, k d bs = some r ∧ Runs P a X ty (.makeSlice t l c) d bs := by
  simp only [pop] at h
  obtain ⟨e, h1, g1⟩ := obind h
  obtain ⟨τ, h2, g2⟩ := obind g1
  obtain ⟨cl, h3, g3⟩ := obind g2
  obtain ⟨cc, h4, g4⟩ := obind g3
  obtain ⟨i, z, i1, i2, i3, -, i5⟩ := tyC_sound h2
  have hu := elemT_run h1
  split at g4
  · rename_i n m
    split at g4
    · rename_i hb
      obtain ⟨b1, b2, b3, b4⟩ := hb
      have hl : a.eval l = .int .i64 n := (ev1_sound h3 hf).2
      have hc : a.eval c = .int .i64 m := (ev1_sound h4 hf).2
      have hz := i5 X.T X.w
      have hzs : z.cells.size = τ.sz := by have := hz.len; simpa using this
      have hR := rows_zero hz m.toNat
      have hR' : RowsRel X.T X.w τ (List.replicate n.toNat τ.zero) 0 ((Array.range (m.toNat * τ.sz)).map (z.cells[· % z.cells.size]!)) := by
        intro j x hx
        have hj : j < n.toNat := by
          rcases Nat.lt_or_ge j n.toNat with q | q
          · exact q
          · rw [List.getElem?_eq_none (by simpa using q)] at hx; cases hx
        rw [List.getElem?_replicate, if_pos hj] at hx
        exact hR j x (by rw [List.getElem?_replicate, if_pos (by omega)]; exact hx)
      obtain ⟨n1, n2⟩ := GR.newArr (cap := m.toNat) hT e hR' (by simp; omega) (by simp)
      simp only [List.length_replicate] at n2
      refine ⟨_, _, g4, _, _, n1, DRel.one n2, fun o ho _ => ?_⟩
      have hby : bytesT P e = i.bytes := by simp [bytesT, i1]
      rw [hby] at b3
      have e1 : IntKind.i64.wrap n = n := wrap_in n ⟨by omega, by omega⟩
      have e2 : IntKind.i64.wrap m = m := wrap_in m ⟨by omega, by omega⟩
      have e3 : ¬ ((i.bytes : Int) * m > 2 ^ 48) := by rw [Int.mul_comm]; omega
      have hcnd : (((decide (m < 0) || decide ((i.bytes : Int) * m > 2 ^ 48)) || decide (n < 0)) || decide (n > m)) = false := by
        simp only [Bool.or_eq_false_iff, decide_eq_false_iff_not]
        exact ⟨⟨⟨by omega, e3⟩, by omega⟩, by omega⟩
      simp only [execOp, ho, Instr.makeSlice, Sem.run_bind, run_underlying hu, Result.andThen_ok, hl, hc, asInt, asIntOf, Sem.run_pure, typeInfo, run_program, i1, e1, e2]
      rw [if_neg (by rw [Bool.not_eq_true]; exact hcnd)]
      simp only [Sem.run_bind, run_askRoom, Result.andThen_ok, sizeOf, typeInfo, run_program, i1, Sem.run_pure, i2]
      by_cases h0 : m.toNat * τ.sz = 0
      · simp only [h0, if_true, Sem.run_bind, Sem.run_pure, Result.andThen_ok, newRow_run, show Array.range 0 = #[] from rfl, Array.map_empty]
        rfl
      · simp only [h0, if_false, zeroValue, typeInfo, Sem.run_bind, Result.andThen_ok, run_program, i1, i3, Sem.run_pure, newRow_run]
        rfl
    · cases g4
  · cases g4

theorem bound_sound {d : Nat} {x : Option Operand} {c : Cell} (h : bound P fr d x = some c) (hf : FRel X fr a.tmps) :
    (x = none ∧ c = .int .i64 d) ∨ ∃ y, x = some y ∧ CRel X c (a.eval y) := by
  cases x with
  | none => cases h; exact .inl ⟨rfl, rfl⟩
  | some y => exact .inr ⟨y, rfl, ev1_sound h hf⟩

/-- The bounds of a slice expression without a third index. -/
theorem bounds_run {isS : Bool} {n cap : Nat} {lo hi : Option Operand} {cl ch : Cell} (h1 : bound P fr 0 lo = some cl) (h2 : bound P fr n hi = some ch) (hf : FRel X fr a.tmps) {kl kh : IntKind} {l h : Int}
    (e1 : cl = .int kl l) (e2 : ch = .int kh h) (h0 : 0 ≤ l) (hlh : l ≤ h) (hn : h ≤ n) (hnc : n ≤ cap) :
    (Instr.sliceBounds isS n cap (lo.map a.eval) (hi.map a.eval) none).run P X.w = .ok (l.toNat, h.toNat, cap) X.w := by
  have hb : ∀ (v : Value) (kk : IntKind) (x : Int) (y : Nat) (cd : BoundsCode), v = .int kk x → 0 ≤ x → x ≤ y → (Instr.sliceBound v y cd).run P X.w = .ok x.toNat X.w := by
    intro v kk x y cd hv q1 q2
    subst hv
    simp only [Instr.sliceBound, asIntOf, Sem.run_bind, Sem.run_pure, Result.andThen_ok]
    rw [if_pos ⟨q1, q2⟩]; rfl
  have hh : (match hi.map a.eval with | some v => Instr.sliceBound v cap (if isS then .sliceAcap else .sliceAlen) | none => pure n : Sem Nat).run P X.w = .ok h.toNat X.w := by
    rcases bound_sound (a := a) (X := X) h2 hf with ⟨q1, q2⟩ | ⟨y, q1, q2⟩
    · subst q1; rw [e2] at q2; cases q2; simp
    · subst q1; rw [e2] at q2
      exact hb _ _ _ _ _ q2.2 (by omega) (by omega)
  have hl : (match lo.map a.eval with | some v => Instr.sliceBound v h.toNat (if (none : Option Value).isSome then .slice3C else .sliceB) | none => pure 0 : Sem Nat).run P X.w = .ok l.toNat X.w := by
    rcases bound_sound (a := a) (X := X) h1 hf with ⟨q1, q2⟩ | ⟨y, q1, q2⟩
    · subst q1; rw [e1] at q2; cases q2; simp
    · subst q1; rw [e1] at q2
      exact hb _ _ _ _ _ q2.2 (by omega) (by omega)
  unfold Instr.sliceBounds
  cases hhi : hi.map a.eval with
  | none =>
    rw [hhi] at hh
    cases hlo : lo.map a.eval with
    | none =>
      rw [hlo] at hl
      simp only [Sem.run_pure, Result.ok.injEq, and_true] at hh hl
      simp only [Sem.run_bind, Result.andThen_ok, Sem.run_pure, hh, hl]
    | some u =>
      rw [hlo] at hl
      simp only [Sem.run_pure, Result.ok.injEq, and_true] at hh
      simp only [Sem.run_bind, Result.andThen_ok, Sem.run_pure, hh, hl]
  | some v =>
    rw [hhi] at hh
    simp only at hh
    cases hlo : lo.map a.eval with
    | none =>
      rw [hlo] at hl
      simp only [Sem.run_pure, Result.ok.injEq, and_true] at hl
      simp only [Sem.run_bind, Result.andThen_ok, Sem.run_pure, hh, hl]
    | some u =>
      rw [hlo] at hl
      simp only [Sem.run_bind, Result.andThen_ok, Sem.run_pure, hh, hl]

theorem sliceK_spec {n : Nat} {lo hi : Cell} {β : Type} {k : Nat → Nat → Option β} {r : β} (h : sliceK n lo hi k = some r) :
    ∃ kl kh l h', lo = .int kl l ∧ hi = .int kh h' ∧ 0 ≤ l ∧ l ≤ h' ∧ h' ≤ n ∧ k l.toNat h'.toNat = some r := by
  unfold sliceK at h
  split at h
  · split at h
    · rename_i q; exact ⟨_, _, _, _, rfl, rfl, q.1, q.2.1, q.2.2, h⟩
    · cases h
  · cases h

/-- A slice expression over a slice's value. -/
theorem slice_run {t e : TypeId} {sz : Nat} (hu : P.underlying t = some (.slice e)) (hs : szT P e = some sz) {x : Operand} {lo hi : Option Operand} {A : Option Addr} {n cap : Nat} (hx : a.eval x = .slice A n cap) {l h : Nat}
    (hb : (Instr.sliceBounds true n cap (lo.map a.eval) (hi.map a.eval) none).run P X.w = .ok (l, h, cap) X.w) {o : Oper} (ho : o.op = .slice t x lo hi none) :
    (execOp a.eval o).run P X.w = .ok (.value (.slice (if cap = l then A else A.map (·.add (l * sz))) (h - l) (cap - l))) X.w := by
  simp only [execOp, ho, Instr.sliceAt, Sem.run_bind, run_underlying hu, Result.andThen_ok, Instr.slice, hx, Option.map_none, hb, szT_run hs, Sem.run_pure]

theorem pop_slice {t : TypeId} {x : Operand} {lo hi mx : Option Operand} (h : pop P X.H X.n fr ty (.slice t x lo hi mx) k = some r) (hH : HBl X) (hf : FRel X fr a.tmps) : ∃ d bs, k d bs = some r ∧ Runs P a X ty (.slice t x lo hi mx) d bs := by
  simp only [pop] at h
  obtain ⟨hmx, g0⟩ := bif_true h
  cases mx with
  | some y => cases hmx
  | none =>
  obtain ⟨c, h1, g1⟩ := obind g0
  obtain ⟨n, h2, g2⟩ := obind g1
  obtain ⟨cl, h3, g3⟩ := obind g2
  obtain ⟨ch, h4, g4⟩ := obind g3
  have hc := ev1_sound h1 hf
  have hlen := lenC_sound hc h2
  split at g4
  · rename_i s hu
    obtain ⟨kl, kh, l, h', e1, e2, b1, b2, b3, g5⟩ := sliceK_spec g4
    rcases hlen with ⟨s', q1, q2, q3⟩ | ⟨A, cap, q1, q2⟩
    · cases q3
      have hb := bounds_run (P := P) (X := X) (isS := false) (cap := s.size) h3 h4 hf e1 e2 b1 b2 b3 (by omega)
      refine ⟨_, _, g5, Runs.same (.string (s.extract l.toNat h'.toNat)) (DRel.one ⟨rfl, rfl⟩) fun o ho => ?_⟩
      rw [← q2] at hb
      simp only [execOp, ho, Instr.sliceAt, Sem.run_bind, run_underlying hu, Result.andThen_ok, Instr.slice, q1, Option.map_none, Option.isSome_none]
      simp [hb]
    · have hq : CB X (.str s) _ := hc.2
      rw [q1] at hq; cases hq
  · rename_i et e xs hu
    obtain ⟨hz, g5⟩ := bif_true g4
    obtain ⟨kl, kh, l, h', e1, e2, b1, b2, b3, g6⟩ := sliceK_spec g5
    have hsz := eqSz_sound hz
    obtain ⟨-, A, cap, q1, q2, q3⟩ := hc
    cases h2
    have q1' : a.eval x = .slice A xs.length cap := by simpa using q1
    have hb := bounds_run (P := P) (X := X) (isS := true) h3 h4 hf e1 e2 b1 b2 b3 q2
    have hln : ((xs.take h'.toNat).drop l.toNat).length = h'.toNat - l.toNat := by simp; omega
    refine ⟨_, _, g6, Runs.same _ (DRel.one ⟨rfl, ?_⟩) fun o ho => slice_run hu hsz q1' hb ho⟩
    refine ⟨_, _, by rw [hln], by rw [hln]; omega, ?_⟩
    rcases q3 with q3 | ⟨b, o', q4, q5, q6⟩
    · left; rw [q3]; simp
    · by_cases hcl : cap = l.toNat
      · left; exact List.eq_nil_of_length_eq_zero (by rw [hln]; omega)
      · right
        refine ⟨b, o' + l.toNat * e.sz, by rw [if_neg hcl, q4]; simp [add_none], q5, fun i y hy => ?_⟩
        rw [List.getElem?_drop, List.getElem?_take] at hy
        split at hy
        · obtain ⟨row, q7, q8⟩ := q6 _ y hy
          refine ⟨row, q7, fun j u hu => ?_⟩
          have := q8 j u hu
          rwa [Nat.add_mul, ← Nat.add_assoc] at this
        · cases hy
  · rename_i et r0 v hu
    obtain ⟨z, hz0, g5⟩ := obind g4
    obtain ⟨hz, g6⟩ := bif_true g5
    obtain ⟨kl, kh, l, h', e1, e2, b1, b2, b3, g7⟩ := sliceK_spec g6
    have hsz := eqSz_sound hz
    rcases hlen with ⟨s', q1, q2, q3⟩ | ⟨A, cap, q1, q2⟩
    · cases q3
    · have hb := bounds_run (P := P) (X := X) (isS := true) h3 h4 hf e1 e2 b1 b2 b3 q2
      refine ⟨_, _, g7, Runs.same _ (DRel.one ⟨rfl, hc.2.1, fun v' e xs hg => ?_⟩) fun o ho => slice_run hu hsz q1 hb ho⟩
      obtain ⟨p1, p2⟩ := hc.2.2 v' e xs hg
      refine ⟨p1, fun hv => ?_⟩
      obtain ⟨A', cap', p3, p4, p5⟩ := p2 hv
      have p3' := q1.symm.trans p3
      cases p3'
      have hz' : z = e.sz := by simp only [elSz, hg] at hz0; cases hz0; rfl
      subst hz'
      refine ⟨by omega, _, _, rfl, by omega, ?_⟩
      by_cases hcl : cap = l.toNat
      · left; omega
      · right
        rcases p5 with p5 | ⟨b, o', cs, t', fz, p6, p7, p8, p9⟩
        · omega
        · refine ⟨b, o', cs, t', fz, p6, by rw [if_neg hcl, p7]; simp [add_none], p8, ?_⟩
          rw [show l.toNat + (cap - l.toNat) = 0 + cap from by omega]; exact p9
  · rename_i et r0 v o0 l0 hu
    obtain ⟨z, hz0, g5⟩ := obind g4
    obtain ⟨hz, g6⟩ := bif_true g5
    obtain ⟨kl, kh, l, h', e1, e2, b1, b2, b3, g7⟩ := sliceK_spec g6
    have hsz := eqSz_sound hz
    rcases hlen with ⟨s', q1, q2, q3⟩ | ⟨A, cap, q1, q2⟩
    · cases q3
    · have hb := bounds_run (P := P) (X := X) (isS := true) h3 h4 hf e1 e2 b1 b2 b3 q2
      refine ⟨_, _, g7, Runs.same _ (DRel.one ⟨rfl, hc.2.1, fun v' e xs hg => ?_⟩) fun o ho => slice_run hu hsz q1 hb ho⟩
      obtain ⟨p1, p2⟩ := hc.2.2 v' e xs hg
      refine ⟨p1, fun hv => ?_⟩
      obtain ⟨p0, A', cap', p3, p4, p5⟩ := p2 hv
      have p3' := q1.symm.trans p3
      cases p3'
      have hz' : z = e.sz := by simp only [elSz, hg] at hz0; cases hz0; rfl
      subst hz'
      refine ⟨by omega, _, _, rfl, by omega, ?_⟩
      by_cases hcl : cap = l.toNat
      · left; omega
      · right
        rcases p5 with p5 | ⟨b, o', cs, t', fz, p6, p7, p8, p9⟩
        · omega
        · refine ⟨b, o', cs, t', fz, p6, by rw [if_neg hcl, p7]; simp [add_none, Nat.add_mul]; omega, p8, ?_⟩
          rw [show o0 + l.toNat + (cap - l.toNat) = o0 + cap from by omega]; exact p9
  · cases g4

end
end Go.Proofs.Ytgmcefnlcalagaa.AM
