/- The abstract machine: places in slices, strings, tuples, closures, lengths; and all operations together. No condition. -/
import Derived.Test.YtgmcefnlcalagaaAm9
namespace Go.Proofs.Ytgmcefnlcalagaa.AM
open Go Go.RowKit
set_option linter.unusedSimpArgs false
set_option linter.unusedVariables false

section
variable {α : Type} {P : Program} {X : Cx} {fr : List (Nat × D)} {a : Act} {ty : TypeId} {k : D → List Blk → Option α} {r : α}

theorem indexAt_run {t e : TypeId} {sz : Nat} (hu : P.underlying t = some (.slice e)) (hs : szT P e = some sz) {b o : Nat} {n cap : Nat} {kk : IntKind} {i : Int} (h0 : 0 ≤ i) (h1 : i < n) {w : World} :
    (Instr.indexAt t (.slice (some ⟨b, o, none⟩) n cap) (.int kk i)).run P w = .ok (.pointer (some ⟨b, o + i.toNat * sz, none⟩)) w := by
  simp only [Instr.indexAt, asIntOf, Sem.run_bind, Sem.run_pure, Result.andThen_ok, run_underlying hu]
  rw [if_pos ⟨h0, h1⟩]
  simp only [Sem.run_bind, szT_run hs, Result.andThen_ok, Sem.run_pure, add_none]

theorem pop_indexAddr {t : TypeId} {x ix : Operand} (h : pop P X.H X.n fr ty (.indexAddr t x ix) k = some r) (hf : FRel X fr a.tmps) : ∃ d bs, k d bs = some r ∧ Runs P a X ty (.indexAddr t x ix) d bs := by
  simp only [pop] at h
  obtain ⟨e, h1, g1⟩ := obind h
  obtain ⟨c, h2, g2⟩ := obind g1
  obtain ⟨ci, h3, g3⟩ := obind g2
  have hu := elemT_run h1
  have hc := ev1_sound h2 hf
  have hi := ev1_sound h3 hf
  split at g3
  · rename_i kk n
    have hiv : a.eval ix = .int kk n := hi.2
    split at g3
    · rename_i τ xs
      obtain ⟨hz, g4⟩ := bif_true g3
      have hsz := eqSz_sound hz
      split at g4
      · rename_i h0
        obtain ⟨y, h5, g5⟩ := obind g4
        obtain ⟨-, A, cap, q1, q2, q3⟩ := hc
        have q1' : a.eval x = .slice A xs.length cap := by simpa using q1
        have hlt : n.toNat < xs.length := by
          rcases Nat.lt_or_ge n.toNat xs.length with q | q
          · exact q
          · rw [List.getElem?_eq_none q] at h5; cases h5
        rcases q3 with q3 | ⟨b, o, q4, q5, q6⟩
        · rw [q3] at hlt; simp at hlt
        · obtain ⟨row, q7, q8⟩ := q6 _ y h5
          subst q4
          refine ⟨_, _, g5, Runs.same (.pointer (some ⟨b, o + n.toNat * τ.sz, none⟩)) (DRel.one ⟨rfl, b, o + n.toNat * τ.sz, row, rfl, q5, q7, q8⟩) fun o' ho => ?_⟩
          simp only [execOp, ho, q1', hiv, Sem.run_bind, indexAt_run hu hsz h0 (show n < (xs.length : Int) by omega), Result.andThen_ok, Sem.run_pure]
      · cases g4
    · rename_i r0 v
      split at g3
      · rename_i v' τ xs hg
        obtain ⟨hz, g4⟩ := bif_true g3
        simp only [Bool.and_eq_true] at hz
        have hsz := eqSz_sound hz.2
        have hv := Nat.eq_of_beq_eq_true hz.1
        split at g4
        · rename_i hb
          obtain ⟨p1, p2⟩ := hc.2.2 v' τ xs hg
          obtain ⟨A, cap, p3, p4, p5⟩ := p2 hv
          rcases p5 with p5 | ⟨b, o, cs, t', fz, p6, p7, p8, p9⟩
          · omega
          · subst p7
            refine ⟨_, _, g4, Runs.same (.pointer (some ⟨b, o + 0 * τ.sz + n.toNat * τ.sz, none⟩)) (DRel.one ⟨rfl, hc.2.1, fun v2 τ2 xs2 hg2 => ?_⟩) fun o' ho => ?_⟩
            · rw [hg] at hg2; cases hg2
              exact ⟨p1, fun _ => ⟨by omega, b, o, p6, by simp⟩⟩
            · simp only [execOp, ho, p3, hiv, Sem.run_bind, indexAt_run hu hsz hb.1 hb.2, Result.andThen_ok, Sem.run_pure]
        · cases g4
      · cases g3
    · rename_i r0 v o0 l0
      split at g3
      · rename_i v' τ xs hg
        obtain ⟨hz, g4⟩ := bif_true g3
        simp only [Bool.and_eq_true] at hz
        have hsz := eqSz_sound hz.2
        have hv := Nat.eq_of_beq_eq_true hz.1
        split at g4
        · rename_i hb
          obtain ⟨p1, p2⟩ := hc.2.2 v' τ xs hg
          obtain ⟨p0, A, cap, p3, p4, p5⟩ := p2 hv
          rcases p5 with p5 | ⟨b, o, cs, t', fz, p6, p7, p8, p9⟩
          · omega
          · subst p7
            refine ⟨_, _, g4, Runs.same (.pointer (some ⟨b, o + o0 * τ.sz + n.toNat * τ.sz, none⟩)) (DRel.one ⟨rfl, hc.2.1, fun v2 τ2 xs2 hg2 => ?_⟩) fun o' ho => ?_⟩
            · rw [hg] at hg2; cases hg2
              exact ⟨p1, fun _ => ⟨by omega, b, o, p6, by simp [Nat.add_mul, Nat.add_assoc]⟩⟩
            · simp only [execOp, ho, p3, hiv, Sem.run_bind, indexAt_run hu hsz hb.1 hb.2, Result.andThen_ok, Sem.run_pure]
        · cases g4
      · cases g3
    · cases g3
  · cases g3

theorem pop_index {t : TypeId} {x ix : Operand} (h : pop P X.H X.n fr ty (.index t x ix) k = some r) (hf : FRel X fr a.tmps) : ∃ d bs, k d bs = some r ∧ Runs P a X ty (.index t x ix) d bs := by
  simp only [pop] at h
  split at h
  · rename_i hu
    obtain ⟨c, h1, g1⟩ := obind h
    obtain ⟨ci, h2, g2⟩ := obind g1
    split at g2
    · rename_i s kk n
      split at g2
      · rename_i hb
        have hx : a.eval x = .string s := (ev1_sound h1 hf).2
        have hi : a.eval ix = .int kk n := (ev1_sound h2 hf).2
        refine ⟨_, _, g2, Runs.same (.int .u8 ((s.get! n.toNat).toNat : Int)) (DRel.one ⟨rfl, rfl⟩) fun o ho => ?_⟩
        have hlt : n.toNat < s.size := by omega
        have hg : s[n.toNat]? = some (s.get! n.toNat) := by
          rw [getElem?_pos s n.toNat hlt]
          have h2 : n.toNat < s.data.size := hlt
          have e1 : s[n.toNat] = s.data[n.toNat] := rfl
          rw [e1]
          show some s.data[n.toNat] = some (s.data[n.toNat]!)
          rw [getElem!_pos s.data n.toNat h2]
        simp only [execOp, ho, Instr.index, hx, hi, asIntOf, Sem.run_bind, Sem.run_pure, Result.andThen_ok, run_underlying hu]
        rw [if_pos hb.1, hg]
        simp
      · cases g2
    · cases g2
  · cases h

theorem pop_extract {x : Operand} {i : Nat} (h : pop P X.H X.n fr ty (.extract x i) k = some r) (hf : FRel X fr a.tmps) : ∃ d bs, k d bs = some r ∧ Runs P a X ty (.extract x i) d bs := by
  simp only [pop] at h
  split at h
  · rename_i t
    obtain ⟨d, h1, g1⟩ := obind h
    split at g1
    · rename_i vs
      obtain ⟨v, h2, g2⟩ := obind g1
      obtain ⟨us, q1, q2, q3⟩ := look_sound (a := a) h1 hf
      obtain ⟨u, q4, q5⟩ := q3 i v h2
      refine ⟨_, _, g2, Runs.same u (show DRel X (.one v) u from q5) fun o ho => ?_⟩
      simp [execOp, ho, Instr.extract, q1, q4]
    · cases g1
  · cases h

theorem evs_sound (hf : FRel X fr a.tmps) : ∀ {xs : List Operand} {ts : List TypeId} {vs : List AV}, evs P fr ts xs = some vs →
    vs.length = xs.length ∧ ∀ (j : Nat) (v : AV), vs[j]? = some v → ∃ x, xs[j]? = some x ∧ AVRel X v (a.eval x) := by
  intro xs
  induction xs with
  | nil => intro ts vs h; cases ts <;> cases h <;> exact ⟨rfl, fun j v hj => by simp at hj⟩
  | cons x xs ih =>
    intro ts vs h
    cases ts with
    | nil => cases h
    | cons t ts =>
      simp only [evs] at h
      obtain ⟨v, h1, g1⟩ := obind h
      obtain ⟨vs', h2, g2⟩ := obind g1
      cases g2
      obtain ⟨q1, q2⟩ := ih h2
      refine ⟨by simp [q1], fun j v' hj => ?_⟩
      cases j with
      | zero => simp at hj; subst hj; exact ⟨x, rfl, ev_sound h1 hf⟩
      | succ j => simpa using q2 j v' (by simpa using hj)

theorem mapO_spec {β γ : Type} {f : β → Option γ} : ∀ {l : List β} {r : List γ}, mapO f l = some r → r.length = l.length ∧ ∀ (j : Nat) (y : γ), r[j]? = some y → ∃ x, l[j]? = some x ∧ f x = some y := by
  intro l
  induction l with
  | nil => intro r h; cases h; exact ⟨rfl, fun j y hj => by simp at hj⟩
  | cons b l ih =>
    intro r h
    simp only [mapO] at h
    obtain ⟨y, h1, g1⟩ := obind h
    obtain ⟨ys, h2, g2⟩ := obind g1
    cases g2
    obtain ⟨q1, q2⟩ := ih h2
    refine ⟨by simp [q1], fun j z hj => ?_⟩
    cases j with
    | zero => simp at hj; subst hj; exact ⟨b, rfl, h1⟩
    | succ j => simpa using q2 j z (by simpa using hj)

theorem pop_makeFunc {fn : Fn} {first captured : Array Operand} (h : pop P X.H X.n fr ty (.makeFunc fn first captured) k = some r) (hf : FRel X fr a.tmps) : ∃ d bs, k d bs = some r ∧ Runs P a X ty (.makeFunc fn first captured) d bs := by
  simp only [pop] at h
  split at h
  all_goals first | contradiction | skip
  rename_i f first' captured' e
  cases e
  obtain ⟨hz, g0⟩ := bif_true h
  obtain ⟨vs, h1, g1⟩ := obind g0
  obtain ⟨caps, h2, g2⟩ := obind g1
  obtain ⟨q1, q2⟩ := evs_sound (P := P) hf h1
  obtain ⟨q3, q4⟩ := mapO_spec h2
  have hfirst : first = #[] := Array.eq_empty_of_size_eq_zero (Nat.eq_of_beq_eq_true hz)
  refine ⟨_, _, g2, Runs.same (.func (.func f) #[] (captured.map a.eval)) (DRel.one ⟨rfl, captured.map a.eval, rfl, by simp; rw [q3, q1]; simp, fun j r0 off hj => ?_⟩) fun o ho => ?_⟩
  · obtain ⟨v, p1, p2⟩ := q4 j _ hj
    split at p2
    · rename_i r' o'
      cases p2
      obtain ⟨x, p3, p4⟩ := q2 j _ p1
      have p5 := p4.one
      refine ⟨p5.2.1, fun cs hg => ?_⟩
      obtain ⟨b, p6, p7⟩ := p5.2.2 cs hg
      refine ⟨b, p6, ?_⟩
      rw [Array.getElem?_toList] at p3
      rw [Array.getElem?_map, p3]
      simp [p7]
    · cases p2
  · simp [execOp, ho, Instr.makeFunc, hfirst]

theorem len_run {t ty' : TypeId} {c : Cell} {u : Value} {n : Nat} (hok : lenOk P t c = true) (hc : CRel X c u) (hl : lenC X.H c = some n) : (Builtin.len_ #[t] ty' #[u]).run P X.w = .ok (.int .i64 n) X.w := by
  rcases lenC_sound hc hl with ⟨s, q1, q2, q3⟩ | ⟨A, cap, q1, q2⟩
  · subst q3
    simp only [lenOk] at hok
    split at hok
    · rename_i hu _
      simp [Builtin.len_, run_underlying hu, q1, goInt, q2]
    all_goals first | (cases hok; done) | simp_all
  · have hu : ∃ e, P.underlying t = some (.slice e) := by
      unfold lenOk at hok
      split at hok
      · have : CB X (.str _) u := hc.2
        rw [q1] at this; cases this
      · cases hok
      · exact ⟨_, by assumption⟩
      · cases hok
    obtain ⟨e, hu⟩ := hu
    simp [Builtin.len_, run_underlying hu, q1, goInt]

theorem pop_call {cl : Call} (h : pop P X.H X.n fr ty (.call cl) k = some r) (hf : FRel X fr a.tmps) : ∃ d bs, k d bs = some r ∧ Runs P a X ty (.call cl) d bs := by
  simp only [pop] at h
  split at h
  all_goals first | contradiction | skip
  rename_i b args ats e
  cases e
  obtain ⟨vs, h1, g1⟩ := obind h
  obtain ⟨cs, h2, g2⟩ := obind g1
  obtain ⟨q1, q2⟩ := evs_sound (P := P) hf h1
  obtain ⟨q3, q4⟩ := mapO_spec h2
  have arg : ∀ (j : Nat) (c : Cell), cs[j]? = some c → ∃ x, args[j]? = some x ∧ CRel X c (a.eval x) := fun j c hj => by
    obtain ⟨v, p1, p2⟩ := q4 j c hj
    rw [cell1_eq p2] at p1
    obtain ⟨x, p3, p4⟩ := q2 j _ p1
    exact ⟨x, by simpa using p3, p4.one⟩
  split at g2
  · rename_i c
    obtain ⟨hok, g3⟩ := bif_true g2
    obtain ⟨n, h3, g4⟩ := obind g3
    obtain ⟨x, p1, p2⟩ := arg 0 c rfl
    have hargs : args = #[x] := by
      have hs : args.size = 1 := by have : args.toList.length = 1 := by rw [← q1, ← q3]; rfl
                                    simpa using this
      apply Array.ext
      · simp [hs]
      · intro i hi _
        have : i = 0 := by omega
        subst this
        rw [Array.getElem?_eq_getElem (by omega)] at p1
        simpa using p1
    refine ⟨_, _, g4, Runs.same (.int .i64 n) (DRel.one ⟨rfl, rfl⟩) fun o ho => ?_⟩
    have hats : ∃ t, ats[0]? = some t := by
      cases hl : ats.toList with
      | nil => rw [hl, hargs] at h1; cases h1
      | cons t ts => exact ⟨t, by rw [← Array.getElem?_toList, hl]; rfl⟩
    obtain ⟨t, ht⟩ := hats
    have hgd : ats.getD 0 0 = t := by simp [Array.getD_eq_getD_getElem?, ht]
    rw [hgd] at hok
    have hr : (Builtin.len_ ats o.type #[a.eval x]).run P X.w = .ok (.int .i64 n) X.w := by
      have := len_run (ty' := o.type) hok p2 h3
      unfold Builtin.len_ at this ⊢
      simpa [ht] using this
    simp [execOp, ho, resolve, hargs, invoke, builtin, hr]
  · rename_i ik x1 ik' x2
    obtain ⟨hik, g3⟩ := bif_true g2
    have hik := of_decide_eq_true hik
    subst hik
    obtain ⟨y1, p1, p2⟩ := arg 0 _ rfl
    obtain ⟨y2, p3, p4⟩ := arg 1 _ rfl
    have hs : args.size = 2 := by have : args.toList.length = 2 := by rw [← q1, ← q3]; rfl
                                  simpa using this
    have hargs : args = #[y1, y2] := by
      apply Array.ext
      · simp [hs]
      · intro i hi _
        rcases (by omega : i = 0 ∨ i = 1) with rfl | rfl
        · rw [Array.getElem?_eq_getElem (by omega)] at p1; simpa using p1
        · rw [Array.getElem?_eq_getElem (by omega)] at p3; simpa using p3
    have e1 : a.eval y1 = .int ik x1 := p2.2
    have e2 : a.eval y2 = .int ik x2 := p4.2
    refine ⟨_, _, g3, Runs.same _ (DRel.one ⟨rfl, rfl⟩) fun o ho => ?_⟩
    simp [execOp, ho, resolve, hargs, invoke, builtin, Builtin.max_, e1, e2, Builtin.max2]
  · rename_i ik x1 ik' x2
    obtain ⟨hik, g3⟩ := bif_true g2
    have hik := of_decide_eq_true hik
    subst hik
    obtain ⟨y1, p1, p2⟩ := arg 0 _ rfl
    obtain ⟨y2, p3, p4⟩ := arg 1 _ rfl
    have hs : args.size = 2 := by have : args.toList.length = 2 := by rw [← q1, ← q3]; rfl
                                  simpa using this
    have hargs : args = #[y1, y2] := by
      apply Array.ext
      · simp [hs]
      · intro i hi _
        rcases (by omega : i = 0 ∨ i = 1) with rfl | rfl
        · rw [Array.getElem?_eq_getElem (by omega)] at p1; simpa using p1
        · rw [Array.getElem?_eq_getElem (by omega)] at p3; simpa using p3
    have e1 : a.eval y1 = .int ik x1 := p2.2
    have e2 : a.eval y2 = .int ik x2 := p4.2
    refine ⟨_, _, g3, Runs.same _ (DRel.one ⟨rfl, rfl⟩) fun o ho => ?_⟩
    simp [execOp, ho, resolve, hargs, invoke, builtin, Builtin.min_, e1, e2, Builtin.min2]
  · cases g2

/-- All of them. -/
theorem pop_sound {op : Op} (h : pop P X.H X.n fr ty op k = some r) (hH : HBl X) (hT : ∀ b, X.T b → b < X.w.heap.size) (hf : FRel X fr a.tmps) : ∃ d bs, k d bs = some r ∧ Runs P a X ty op d bs := by
  cases op
  case move x => exact pop_move h hf
  case assign x => exact pop_assign h hf
  case pick c x y => exact pop_pick h hf
  case alloc t => exact pop_alloc h hT
  case box t x => exact pop_box h hf hT
  case build t ps => exact pop_build h hf
  case buildSlice t l ps => exact pop_buildSlice h hf hT
  case load t x => exact pop_load h hH hf
  case nilCheck x => exact pop_nilCheck h hH hf
  case binOp op t x y t' => exact pop_binOp h hf
  case unOp op t x => exact pop_unOp h hf
  case convert s t x => exact pop_convert h hH hf
  case makeFunc f x y => exact pop_makeFunc h hf
  case makeSlice t l c => exact pop_makeSlice h hf hT
  case slice t x lo hi mx => exact pop_slice h hH hf
  case fieldAddr s x f => exact pop_fieldAddr h hH hf
  case field s x f => exact pop_field h hf
  case indexAddr t x i => exact pop_indexAddr h hf
  case index t x i => exact pop_index h hf
  case extract x i => exact pop_extract h hf
  case call c => exact pop_call h hf
  all_goals (simp only [pop] at h; cases h)

end
end Go.Proofs.Ytgmcefnlcalagaa.AM
