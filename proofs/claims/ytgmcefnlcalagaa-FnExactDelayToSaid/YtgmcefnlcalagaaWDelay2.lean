/- The walk of functions of the program: typed texts, loops, runs, contracts; printed by walk.py. No condition. -/
import Derived.Test.YtgmcefnlcalagaaAm32
import Derived.Test.YtgmcefnlcalagaaSort
import Derived.Test.YtgmcefnlcalagaaProg
import Derived.Test.YtgmcefnlcalagaaChecked
import Derived.Test.YtgmcefnlcalagaaWDelay
namespace Go.Proofs.Ytgmcefnlcalagaa.W
open Go Go.RowKit Go.Proofs.Ytgmcefnlcalagaa.AM
set_option maxRecDepth 100000
set_option linter.unusedVariables false
set_option linter.unusedSimpArgs false
/-! impl.DelayTo -/
noncomputable def impl_DelayTo_l0_r {α : Type} (p : Nat) (v0 : List Int) (v2 : Int) (v4 : List Int) (v5 : List (Ty.T TPipe)) (v7 : List (Ty.T Tway)) (rec : (Int) → (List Int) → Option α) (v3 : Int) (v6 : List Int) (k0 : (List Int) → Option α) : Option α :=
  (bif (decide (v3 < v2)) then (if 0 ≤ v3 ∧ v3 < (v7.length : Int) then ((impl_way_along_p p ((v7.getD v3.toNat (Ty.zero Tway)).1, ((v7.getD v3.toNat (Ty.zero Tway)).2)) (v4, v5) v0).bind fun r5 => (bif (decide (r5.1 ≤ (0 : Int))) then (if 0 ≤ ((v7.getD v3.toNat (Ty.zero Tway)).1) ∧ ((v7.getD v3.toNat (Ty.zero Tway)).1) < (v6.length : Int) then (rec (IntKind.wrap .i64 (v3 + (1 : Int))) (v6.set (((v7.getD v3.toNat (Ty.zero Tway)).1).toNat) (-1 : Int))) else none)
 else (if 0 ≤ (((v7.getD v3.toNat (Ty.zero Tway)).2).1) ∧ (((v7.getD v3.toNat (Ty.zero Tway)).2).1) < (v6.length : Int) then (bif (decide ((v6.getD ((((v7.getD v3.toNat (Ty.zero Tway)).2).1).toNat) (Ty.zero (.int .i64))) < (0 : Int))) then (if 0 ≤ ((v7.getD v3.toNat (Ty.zero Tway)).1) ∧ ((v7.getD v3.toNat (Ty.zero Tway)).1) < (v6.length : Int) then (rec (IntKind.wrap .i64 (v3 + (1 : Int))) (v6.set (((v7.getD v3.toNat (Ty.zero Tway)).1).toNat) (-1 : Int))) else none)
 else (if 0 ≤ (((v7.getD v3.toNat (Ty.zero Tway)).2).1) ∧ (((v7.getD v3.toNat (Ty.zero Tway)).2).1) < (v6.length : Int) then (if 0 ≤ (((v7.getD v3.toNat (Ty.zero Tway)).2).2) then (v5[(((v7.getD v3.toNat (Ty.zero Tway)).2).2).toNat]?).bind fun y6 => ((impl_Pipe_delay_p p y6 r5.1).bind fun r7 => (if 0 ≤ ((v7.getD v3.toNat (Ty.zero Tway)).1) ∧ ((v7.getD v3.toNat (Ty.zero Tway)).1) < (v6.length : Int) then (rec (IntKind.wrap .i64 (v3 + (1 : Int))) (v6.set (((v7.getD v3.toNat (Ty.zero Tway)).1).toNat) (IntKind.wrap .i64 ((v6.getD ((((v7.getD v3.toNat (Ty.zero Tway)).2).1).toNat) (Ty.zero (.int .i64))) + r7.1)))) else none)) else none) else none)) else none))) else none)
 else (k0 v6))
noncomputable def impl_DelayTo_l0_go {α : Type} (p : Nat) (v0 : List Int) (v2 : Int) (v4 : List Int) (v5 : List (Ty.T TPipe)) (v7 : List (Ty.T Tway)) : Nat → (Int) → (List Int) → ((List Int) → Option α) → Option α
  | 0, _, _, _ => none
  | q + 1, v3, v6, k0 => impl_DelayTo_l0_r p v0 v2 v4 v5 v7 (fun v3 v6 => impl_DelayTo_l0_go p v0 v2 v4 v5 v7 q v3 v6 k0) v3 v6 k0
def impl_DelayTo_l0_sh : Sh := ⟨[⟨2, false, [.sl (.int .i64)]⟩, ⟨3, false, [.int .i64]⟩, ⟨4, false, [.lit (.ptr 0 0)]⟩, ⟨11, false, [.lit (.own 1 0)]⟩, ⟨37, false, [.lit (.own 2 0)]⟩, ⟨38, false, [.int .i64]⟩, ⟨39, false, [.int .i64]⟩], 3, [(0, .box [.sl (.int .i64), .sl TPipe]), (1, .arr 0 (.int .i64)), (2, .arr 0 Tway)]⟩
noncomputable def impl_DelayTo_lc0 (p : Nat) : LC := LC.alts 0 [⟨0, impl_DelayTo_l0_sh, fun x {α} k => impl_DelayTo_l0_go p x.1.1.1 x.1.2.2.2.2.2.1.1 x.2.1.1 x.2.1.2.1 x.2.2.2.1 p x.1.2.2.2.2.2.2.1.1 x.2.2.1 (fun o1 => k (.exit 1) ⟨[(3, .one ⟨false, [.int .i64 x.1.2.1.1]⟩), (11, .one ⟨false, [.own 0 0]⟩)], 1, [(0, .arr 0 (.int .i64) o1)]⟩)⟩]
noncomputable def impl_DelayTo_lt (p : Nat) : LT := (.node .leaf (.node .leaf (.node .leaf (.node .leaf (.node (.node .leaf (.loop [2, 3, 4, 11, 37, 38, 39] [3, 11] (some (impl_DelayTo_lc0 p)) .leaf)) .leaf)))))
noncomputable def impl_DelayTo_G (p : Nat) : FuncId → Option CE := glist [(31, .pure (impl_ValidNetwork_c p)), (32, .pure (impl_Network_hasNode_c p)), (33, .pure (impl_flowsCode_c p)), (34, .pure (impl_Network_ways_c p)), (35, .pure (impl_way_along_c p)), (36, .pure (impl_Pipe_delay_c p)), (37, .pure (impl_orNotFound_c p))]
noncomputable def impl_DelayTo_c0 : Code := codeAt [1, 1, 1, 1, 0, 1, 0, 0] (bodyOf Try.f10)
noncomputable def impl_DelayTo_it0 {α : Type} (p n b : Nat) (k : Ex → St → Option α) (q : Nat) (st : St) : Option α :=
  iter (fun s q => aexec Try.prog (impl_DelayTo_G p) (fun g lt args st (k : D → St → Option α) => acall Try.prog (impl_DelayTo_G p) 5 (n + 0) g lt args st k) 5 b 92 impl_DelayTo_c0 .leaf s q) (canon b [2, 3, 4, 11, 37, 38, 39]) q st (fun e s => k e (canon b [3, 11] s))
theorem impl_DelayTo_l0_step {α : Type} (p n : Nat) (k : Ex → St → Option α) (v0 : List Int) (v1 : Int) (v2 : Int) (v4 : List Int) (v5 : List (Ty.T TPipe)) (v7 : List (Ty.T Tway)) (q : Nat) (v3 : Int) (v6 : List Int) : impl_DelayTo_it0 p n 0 k (q + 1) (impl_DelayTo_l0_sh.mk' (((v0, ()), (v1, ()), ((), ()), ((), ()), ((), ()), (v2, ()), (v3, ()), ()), ((v4, v5, ()), v6, v7, ()))) =
  impl_DelayTo_l0_r p v0 v2 v4 v5 v7 (fun v3 v6 => impl_DelayTo_it0 p n 0 k q (impl_DelayTo_l0_sh.mk' (((v0, ()), (v1, ()), ((), ()), ((), ()), ((), ()), (v2, ()), (v3, ()), ()), ((v4, v5, ()), v6, v7, ())))) v3 v6 (fun o1 => k (.exit 1) ⟨[(3, .one ⟨false, [.int .i64 v1]⟩), (11, .one ⟨false, [.own 0 0]⟩)], 1, [(0, .arr 0 (.int .i64) o1)]⟩) := by kernel_rfl
theorem impl_DelayTo_l0_ok {α : Type} (p n : Nat) (k : Ex → St → Option α) (v0 : List Int) (v1 : Int) (v2 : Int) (v4 : List Int) (v5 : List (Ty.T TPipe)) (v7 : List (Ty.T Tway)) : ∀ (q : Nat) (v3 : Int) (v6 : List Int), impl_DelayTo_it0 p n 0 k q (impl_DelayTo_l0_sh.mk' (((v0, ()), (v1, ()), ((), ()), ((), ()), ((), ()), (v2, ()), (v3, ()), ()), ((v4, v5, ()), v6, v7, ()))) =
  impl_DelayTo_l0_go p v0 v2 v4 v5 v7 q v3 v6 (fun o1 => k (.exit 1) ⟨[(3, .one ⟨false, [.int .i64 v1]⟩), (11, .one ⟨false, [.own 0 0]⟩)], 1, [(0, .arr 0 (.int .i64) o1)]⟩) := by
  intro q
  induction q with
  | zero => intros; rfl
  | succ q ih => intro v3 v6; rw [impl_DelayTo_l0_step]; simp only [ih]; rfl
theorem impl_DelayTo_ltok_10_ls (p : Nat) : loopsOf (bodyOf Try.f10) (impl_DelayTo_lt p) = [⟨impl_DelayTo_c0, [2, 3, 4, 11, 37, 38, 39], [3, 11], impl_DelayTo_lc0 p, .leaf⟩] := by kernel_rfl
theorem impl_DelayTo_ltok_10_dep (p : Nat) : LT.dep (impl_DelayTo_lt p) = 0 := by kernel_rfl
theorem impl_DelayTo_ltok_10 (p : Nat) : LTok Try.prog (impl_DelayTo_G p) 5 10 (impl_DelayTo_lt p) := by
  intro α n base fn c hd hfn hc
  have hfn' : some fn = some Try.f10 := hfn.symm.trans Try.func10
  cases hfn'
  have hc' : c = bodyOf Try.f10 := by unfold bodyOf; rw [hc]; rfl
  subst hc'
  rw [impl_DelayTo_ltok_10_dep] at hd
  obtain ⟨n, rfl⟩ := Nat.exists_eq_add_of_le' hd
  apply LTS_of_loops
  rw [impl_DelayTo_ltok_10_ls]
  intro e he st k r h
  simp only [List.mem_cons, List.not_mem_nil, or_false] at he
  subst he
  · obtain ⟨a, ha, hb, x, rfl, h⟩ := altRun_ok h
    simp only [List.mem_cons, List.not_mem_nil, or_false] at ha
    subst ha
    · cases hb; exact ⟨p, (impl_DelayTo_l0_ok p n k _ _ _ _ _ _ p _ _).trans h⟩
theorem impl_DelayTo_E (p : Nat) : EnvS Try.prog (impl_DelayTo_G p) := by
  apply glist_env; intro f ce h
  simp only [List.mem_cons, List.not_mem_nil, or_false, Prod.mk.injEq] at h
  rcases h with ⟨rfl, rfl⟩ | ⟨rfl, rfl⟩ | ⟨rfl, rfl⟩ | ⟨rfl, rfl⟩ | ⟨rfl, rfl⟩ | ⟨rfl, rfl⟩ | ⟨rfl, rfl⟩
  · exact impl_ValidNetwork_s p
  · exact impl_Network_hasNode_s p
  · exact impl_flowsCode_s p
  · exact impl_Network_ways_s p
  · exact impl_way_along_s p
  · exact impl_Pipe_delay_s p
  · exact impl_orNotFound_s p
theorem impl_DelayTo_I (p : Nat) : ∀ f lt, impl_DelayTo_G p f = some (.inl lt) → LTok Try.prog (impl_DelayTo_G p) 5 f lt := by
  apply glist_inl; intro f lt h
  simp only [List.mem_cons, List.not_mem_nil, or_false, Prod.mk.injEq, CE.inl.injEq, and_false, or_false, false_or, reduceCtorEq] at h
  
noncomputable def impl_DelayTo_p (p : Nat) (a0 : (Ty.T TNetwork)) (a1 : Int) (a2 : (List Int)) (a3 : Int) : Option (Int × Int × Unit) :=
  ((impl_ValidNetwork_p p a0).bind fun r1 => (bif (!r1.1) then some ((0 : Int), (1 : Int), ())
 else ((impl_Network_hasNode_p p a0 a3).bind fun r2 => (bif (!r2.1) then some ((0 : Int), (2 : Int), ())
 else ((impl_flowsCode_p p a0 a1 a2 (0 : Int)).bind fun r3 => (bif (r3.1 != (0 : Int)) then some ((0 : Int), r3.1, ())
 else (if 0 ≤ (a0.1.length : Int) ∧ (a0.1.length : Int) ≤ (a0.1.length : Int) ∧ (a0.1.length : Int) * (8 : Int) ≤ 140737488355328 ∧ (a0.1.length : Int) ≤ 140737488355328 then ((impl_Network_ways_p p a0 a1).bind fun r4 => (impl_DelayTo_l0_go p a2 (r4.1.length : Int) a0.1 a0.2 r4.1 p (0 : Int) (List.replicate (a0.1.length : Int).toNat (Ty.zero (.int .i64))) (fun o8 => (if 0 ≤ a3 ∧ a3 < (o8.length : Int) then (if 0 ≤ a3 ∧ a3 < (o8.length : Int) then ((impl_orNotFound_p p (o8.getD a3.toNat (Ty.zero (.int .i64))) (decide ((o8.getD a3.toNat (Ty.zero (.int .i64))) ≥ (0 : Int)))).bind fun r9 => some (r9.1, r9.2.1, ())) else none) else none)))) else none)))))))
theorem impl_DelayTo_run (p : Nat) (x : (parsT [.val TNetwork, .val (.int .i64), .val (.slice (.int .i64)), .val (.int .i64)]).T) : acall Try.prog (impl_DelayTo_G p) 5 1 10 (impl_DelayTo_lt p) (argAVs [.val TNetwork, .val (.int .i64), .val (.slice (.int .i64)), .val (.int .i64)] x) ⟨[], 0, []⟩ (outR [(.int .i64), (.int .i64)]) = impl_DelayTo_p p x.1 x.2.1 x.2.2.1 x.2.2.2.1 := by kernel_rfl
noncomputable def impl_DelayTo_c (p : Nat) : PC := PC.fn true [.val TNetwork, .val (.int .i64), .val (.slice (.int .i64)), .val (.int .i64)] [(.int .i64), (.int .i64)] fun x => impl_DelayTo_p p x.1 x.2.1 x.2.2.1 x.2.2.2.1
theorem impl_DelayTo_s (p : Nat) : PSound Try.prog 10 (impl_DelayTo_c p) := pure_sound (impl_DelayTo_E p) Try.checked.mixed (impl_DelayTo_I p) (impl_DelayTo_ltok_10 p) (fun _ => rfl) fun x y h => (impl_DelayTo_run p x).trans h
/-! laws.eqInt64S -/
noncomputable def laws_eqInt64S_l0_r {α : Type} (p : Nat) (v0 : List Int) (v1 : List Int) (rec : (Int) → Option α) (v2 : Int) (k0 : (Bool) → Option α) (k1 : Unit → Option α) : Option α :=
  (bif (decide (v2 < (v0.length : Int))) then (if 0 ≤ v2 then (v0[v2.toNat]?).bind fun y1 => (if 0 ≤ v2 then (v1[v2.toNat]?).bind fun y2 => (bif (y1 != y2) then (k0 false)
 else (rec (IntKind.wrap .i64 (v2 + (1 : Int))))) else none) else none)
 else (k1 ()))
noncomputable def laws_eqInt64S_l0_go {α : Type} (p : Nat) (v0 : List Int) (v1 : List Int) : Nat → (Int) → ((Bool) → Option α) → (Unit → Option α) → Option α
  | 0, _, _, _ => none
  | q + 1, v2, k0, k1 => laws_eqInt64S_l0_r p v0 v1 (fun v2 => laws_eqInt64S_l0_go p v0 v1 q v2 k0 k1) v2 k0 k1
def laws_eqInt64S_l0_sh : Sh := ⟨[⟨0, false, [.sl (.int .i64)]⟩, ⟨1, false, [.sl (.int .i64)]⟩, ⟨5, false, [.int .i64]⟩], 0, []⟩
noncomputable def laws_eqInt64S_lc0 (p : Nat) : LC := LC.alts 0 [⟨0, laws_eqInt64S_l0_sh, fun x {α} k => laws_eqInt64S_l0_go p x.1.1.1 x.1.2.1.1 p x.1.2.2.1.1 (fun o0 => k .ret ⟨[(4, .one ⟨false, [.bool o0]⟩)], 0, []⟩) (fun _ => k (.exit 0) ⟨[], 0, []⟩)⟩]
noncomputable def laws_eqInt64S_lt (p : Nat) : LT := (.node .leaf (.node .leaf (.node (.node .leaf (.loop [0, 1, 5] [4] (some (laws_eqInt64S_lc0 p)) .leaf)) .leaf)))
noncomputable def laws_eqInt64S_G (p : Nat) : FuncId → Option CE := glist []
noncomputable def laws_eqInt64S_c0 : Code := codeAt [1, 1, 0, 1, 0, 0] (bodyOf Try.f12)
noncomputable def laws_eqInt64S_it0 {α : Type} (p n b : Nat) (k : Ex → St → Option α) (q : Nat) (st : St) : Option α :=
  iter (fun s q => aexec Try.prog (laws_eqInt64S_G p) (fun g lt args st (k : D → St → Option α) => acall Try.prog (laws_eqInt64S_G p) 5 (n + 0) g lt args st k) 5 b 26 laws_eqInt64S_c0 .leaf s q) (canon b [0, 1, 5]) q st (fun e s => k e (canon b [4] s))
theorem laws_eqInt64S_l0_step {α : Type} (p n : Nat) (k : Ex → St → Option α) (v0 : List Int) (v1 : List Int) (q : Nat) (v2 : Int) : laws_eqInt64S_it0 p n 0 k (q + 1) (laws_eqInt64S_l0_sh.mk' (((v0, ()), (v1, ()), (v2, ()), ()), (()))) =
  laws_eqInt64S_l0_r p v0 v1 (fun v2 => laws_eqInt64S_it0 p n 0 k q (laws_eqInt64S_l0_sh.mk' (((v0, ()), (v1, ()), (v2, ()), ()), (())))) v2 (fun o0 => k .ret ⟨[(4, .one ⟨false, [.bool o0]⟩)], 0, []⟩) (fun _ => k (.exit 0) ⟨[], 0, []⟩) := by kernel_rfl
theorem laws_eqInt64S_l0_ok {α : Type} (p n : Nat) (k : Ex → St → Option α) (v0 : List Int) (v1 : List Int) : ∀ (q : Nat) (v2 : Int), laws_eqInt64S_it0 p n 0 k q (laws_eqInt64S_l0_sh.mk' (((v0, ()), (v1, ()), (v2, ()), ()), (()))) =
  laws_eqInt64S_l0_go p v0 v1 q v2 (fun o0 => k .ret ⟨[(4, .one ⟨false, [.bool o0]⟩)], 0, []⟩) (fun _ => k (.exit 0) ⟨[], 0, []⟩) := by
  intro q
  induction q with
  | zero => intros; rfl
  | succ q ih => intro v2; rw [laws_eqInt64S_l0_step]; simp only [ih]; rfl
theorem laws_eqInt64S_ltok_12_ls (p : Nat) : loopsOf (bodyOf Try.f12) (laws_eqInt64S_lt p) = [⟨laws_eqInt64S_c0, [0, 1, 5], [4], laws_eqInt64S_lc0 p, .leaf⟩] := by kernel_rfl
theorem laws_eqInt64S_ltok_12_dep (p : Nat) : LT.dep (laws_eqInt64S_lt p) = 0 := by kernel_rfl
theorem laws_eqInt64S_ltok_12 (p : Nat) : LTok Try.prog (laws_eqInt64S_G p) 5 12 (laws_eqInt64S_lt p) := by
  intro α n base fn c hd hfn hc
  have hfn' : some fn = some Try.f12 := hfn.symm.trans Try.func12
  cases hfn'
  have hc' : c = bodyOf Try.f12 := by unfold bodyOf; rw [hc]; rfl
  subst hc'
  rw [laws_eqInt64S_ltok_12_dep] at hd
  obtain ⟨n, rfl⟩ := Nat.exists_eq_add_of_le' hd
  apply LTS_of_loops
  rw [laws_eqInt64S_ltok_12_ls]
  intro e he st k r h
  simp only [List.mem_cons, List.not_mem_nil, or_false] at he
  subst he
  · obtain ⟨a, ha, hb, x, rfl, h⟩ := altRun_ok h
    simp only [List.mem_cons, List.not_mem_nil, or_false] at ha
    subst ha
    · cases hb; exact ⟨p, (laws_eqInt64S_l0_ok p n k _ _ p _).trans h⟩
theorem laws_eqInt64S_E (p : Nat) : EnvS Try.prog (laws_eqInt64S_G p) := by
  apply glist_env; intro f ce h
  simp only [List.mem_cons, List.not_mem_nil, or_false, Prod.mk.injEq] at h
  
theorem laws_eqInt64S_I (p : Nat) : ∀ f lt, laws_eqInt64S_G p f = some (.inl lt) → LTok Try.prog (laws_eqInt64S_G p) 5 f lt := by
  apply glist_inl; intro f lt h
  simp only [List.mem_cons, List.not_mem_nil, or_false, Prod.mk.injEq, CE.inl.injEq, and_false, or_false, false_or, reduceCtorEq] at h
  
noncomputable def laws_eqInt64S_p (p : Nat) (a0 : (List Int)) (a1 : (List Int)) : Option (Bool × Unit) :=
  (bif ((a0.length : Int) != (a1.length : Int)) then some (false, ())
 else (laws_eqInt64S_l0_go p a0 a1 p (0 : Int) (fun o3 => some (o3, ())) (fun _ => some (true, ()))))
theorem laws_eqInt64S_run (p : Nat) (x : (parsT [.val (.slice (.int .i64)), .val (.slice (.int .i64))]).T) : acall Try.prog (laws_eqInt64S_G p) 5 1 12 (laws_eqInt64S_lt p) (argAVs [.val (.slice (.int .i64)), .val (.slice (.int .i64))] x) ⟨[], 0, []⟩ (outR [.bool]) = laws_eqInt64S_p p x.1 x.2.1 := by kernel_rfl
noncomputable def laws_eqInt64S_c (p : Nat) : PC := PC.fn true [.val (.slice (.int .i64)), .val (.slice (.int .i64))] [.bool] fun x => laws_eqInt64S_p p x.1 x.2.1
theorem laws_eqInt64S_s (p : Nat) : PSound Try.prog 12 (laws_eqInt64S_c p) := pure_sound (laws_eqInt64S_E p) Try.checked.mixed (laws_eqInt64S_I p) (laws_eqInt64S_ltok_12 p) (fun _ => rfl) fun x y h => (laws_eqInt64S_run p x).trans h
/-! laws.eqPipe -/
noncomputable def laws_eqPipe_G (p : Nat) : FuncId → Option CE := glist []
theorem laws_eqPipe_E (p : Nat) : EnvS Try.prog (laws_eqPipe_G p) := by
  apply glist_env; intro f ce h
  simp only [List.mem_cons, List.not_mem_nil, or_false, Prod.mk.injEq] at h
  
theorem laws_eqPipe_I (p : Nat) : ∀ f lt, laws_eqPipe_G p f = some (.inl lt) → LTok Try.prog (laws_eqPipe_G p) 5 f lt := by
  apply glist_inl; intro f lt h
  simp only [List.mem_cons, List.not_mem_nil, or_false, Prod.mk.injEq, CE.inl.injEq, and_false, or_false, false_or, reduceCtorEq] at h
  
noncomputable def laws_eqPipe_p (p : Nat) (a0 : (Ty.T TPipe)) (a1 : (Ty.T TPipe)) : Option (Bool × Unit) :=
  (bif (!(a0.1.toList == a1.1.toList)) then some (false, ())
 else (bif (a0.2.1 != a1.2.1) then some (false, ())
 else (bif (a0.2.2.1 != a1.2.2.1) then some (false, ())
 else (bif (a0.2.2.2.1 != a1.2.2.2.1) then some (false, ())
 else (bif (a0.2.2.2.2.1 != a1.2.2.2.2.1) then some (false, ())
 else (bif (a0.2.2.2.2.2 != a1.2.2.2.2.2) then some (false, ())
 else some (true, ())))))))
theorem laws_eqPipe_run (p : Nat) (x : (parsT [.val TPipe, .val TPipe]).T) : acall Try.prog (laws_eqPipe_G p) 5 1 72 .leaf (argAVs [.val TPipe, .val TPipe] x) ⟨[], 0, []⟩ (outR [.bool]) = laws_eqPipe_p p x.1 x.2.1 := by kernel_rfl
noncomputable def laws_eqPipe_c (p : Nat) : PC := PC.fn true [.val TPipe, .val TPipe] [.bool] fun x => laws_eqPipe_p p x.1 x.2.1
theorem laws_eqPipe_s (p : Nat) : PSound Try.prog 72 (laws_eqPipe_c p) := pure_sound (laws_eqPipe_E p) Try.checked.mixed (laws_eqPipe_I p) LTok_leaf (fun _ => rfl) fun x y h => (laws_eqPipe_run p x).trans h
/-! laws.eqPipeS -/
noncomputable def laws_eqPipeS_l0_r {α : Type} (p : Nat) (v0 : List (Ty.T TPipe)) (v1 : List (Ty.T TPipe)) (rec : (Int) → Option α) (v2 : Int) (k0 : (Bool) → Option α) (k1 : Unit → Option α) : Option α :=
  (bif (decide (v2 < (v0.length : Int))) then (if 0 ≤ v2 then (v0[v2.toNat]?).bind fun y1 => (if 0 ≤ v2 then (v1[v2.toNat]?).bind fun y2 => ((laws_eqPipe_p p y1 y2).bind fun r3 => (bif (!r3.1) then (k0 false)
 else (rec (IntKind.wrap .i64 (v2 + (1 : Int)))))) else none) else none)
 else (k1 ()))
noncomputable def laws_eqPipeS_l0_go {α : Type} (p : Nat) (v0 : List (Ty.T TPipe)) (v1 : List (Ty.T TPipe)) : Nat → (Int) → ((Bool) → Option α) → (Unit → Option α) → Option α
  | 0, _, _, _ => none
  | q + 1, v2, k0, k1 => laws_eqPipeS_l0_r p v0 v1 (fun v2 => laws_eqPipeS_l0_go p v0 v1 q v2 k0 k1) v2 k0 k1
def laws_eqPipeS_l0_sh : Sh := ⟨[⟨0, false, [.sl TPipe]⟩, ⟨1, false, [.sl TPipe]⟩, ⟨5, false, [.int .i64]⟩], 0, []⟩
noncomputable def laws_eqPipeS_lc0 (p : Nat) : LC := LC.alts 0 [⟨0, laws_eqPipeS_l0_sh, fun x {α} k => laws_eqPipeS_l0_go p x.1.1.1 x.1.2.1.1 p x.1.2.2.1.1 (fun o0 => k .ret ⟨[(4, .one ⟨false, [.bool o0]⟩)], 0, []⟩) (fun _ => k (.exit 0) ⟨[], 0, []⟩)⟩]
noncomputable def laws_eqPipeS_lt (p : Nat) : LT := (.node .leaf (.node .leaf (.node (.node .leaf (.loop [0, 1, 5] [4] (some (laws_eqPipeS_lc0 p)) .leaf)) .leaf)))
noncomputable def laws_eqPipeS_G (p : Nat) : FuncId → Option CE := glist [(72, .pure (laws_eqPipe_c p))]
noncomputable def laws_eqPipeS_c0 : Code := codeAt [1, 1, 0, 1, 0, 0] (bodyOf Try.f38)
noncomputable def laws_eqPipeS_it0 {α : Type} (p n b : Nat) (k : Ex → St → Option α) (q : Nat) (st : St) : Option α :=
  iter (fun s q => aexec Try.prog (laws_eqPipeS_G p) (fun g lt args st (k : D → St → Option α) => acall Try.prog (laws_eqPipeS_G p) 5 (n + 0) g lt args st k) 5 b 27 laws_eqPipeS_c0 .leaf s q) (canon b [0, 1, 5]) q st (fun e s => k e (canon b [4] s))
theorem laws_eqPipeS_l0_step {α : Type} (p n : Nat) (k : Ex → St → Option α) (v0 : List (Ty.T TPipe)) (v1 : List (Ty.T TPipe)) (q : Nat) (v2 : Int) : laws_eqPipeS_it0 p n 0 k (q + 1) (laws_eqPipeS_l0_sh.mk' (((v0, ()), (v1, ()), (v2, ()), ()), (()))) =
  laws_eqPipeS_l0_r p v0 v1 (fun v2 => laws_eqPipeS_it0 p n 0 k q (laws_eqPipeS_l0_sh.mk' (((v0, ()), (v1, ()), (v2, ()), ()), (())))) v2 (fun o0 => k .ret ⟨[(4, .one ⟨false, [.bool o0]⟩)], 0, []⟩) (fun _ => k (.exit 0) ⟨[], 0, []⟩) := by kernel_rfl
theorem laws_eqPipeS_l0_ok {α : Type} (p n : Nat) (k : Ex → St → Option α) (v0 : List (Ty.T TPipe)) (v1 : List (Ty.T TPipe)) : ∀ (q : Nat) (v2 : Int), laws_eqPipeS_it0 p n 0 k q (laws_eqPipeS_l0_sh.mk' (((v0, ()), (v1, ()), (v2, ()), ()), (()))) =
  laws_eqPipeS_l0_go p v0 v1 q v2 (fun o0 => k .ret ⟨[(4, .one ⟨false, [.bool o0]⟩)], 0, []⟩) (fun _ => k (.exit 0) ⟨[], 0, []⟩) := by
  intro q
  induction q with
  | zero => intros; rfl
  | succ q ih => intro v2; rw [laws_eqPipeS_l0_step]; simp only [ih]; rfl
theorem laws_eqPipeS_ltok_38_ls (p : Nat) : loopsOf (bodyOf Try.f38) (laws_eqPipeS_lt p) = [⟨laws_eqPipeS_c0, [0, 1, 5], [4], laws_eqPipeS_lc0 p, .leaf⟩] := by kernel_rfl
theorem laws_eqPipeS_ltok_38_dep (p : Nat) : LT.dep (laws_eqPipeS_lt p) = 0 := by kernel_rfl
theorem laws_eqPipeS_ltok_38 (p : Nat) : LTok Try.prog (laws_eqPipeS_G p) 5 38 (laws_eqPipeS_lt p) := by
  intro α n base fn c hd hfn hc
  have hfn' : some fn = some Try.f38 := hfn.symm.trans Try.func38
  cases hfn'
  have hc' : c = bodyOf Try.f38 := by unfold bodyOf; rw [hc]; rfl
  subst hc'
  rw [laws_eqPipeS_ltok_38_dep] at hd
  obtain ⟨n, rfl⟩ := Nat.exists_eq_add_of_le' hd
  apply LTS_of_loops
  rw [laws_eqPipeS_ltok_38_ls]
  intro e he st k r h
  simp only [List.mem_cons, List.not_mem_nil, or_false] at he
  subst he
  · obtain ⟨a, ha, hb, x, rfl, h⟩ := altRun_ok h
    simp only [List.mem_cons, List.not_mem_nil, or_false] at ha
    subst ha
    · cases hb; exact ⟨p, (laws_eqPipeS_l0_ok p n k _ _ p _).trans h⟩
theorem laws_eqPipeS_E (p : Nat) : EnvS Try.prog (laws_eqPipeS_G p) := by
  apply glist_env; intro f ce h
  simp only [List.mem_cons, List.not_mem_nil, or_false, Prod.mk.injEq] at h
  rcases h with ⟨rfl, rfl⟩
  · exact laws_eqPipe_s p
theorem laws_eqPipeS_I (p : Nat) : ∀ f lt, laws_eqPipeS_G p f = some (.inl lt) → LTok Try.prog (laws_eqPipeS_G p) 5 f lt := by
  apply glist_inl; intro f lt h
  simp only [List.mem_cons, List.not_mem_nil, or_false, Prod.mk.injEq, CE.inl.injEq, and_false, or_false, false_or, reduceCtorEq] at h
  
noncomputable def laws_eqPipeS_p (p : Nat) (a0 : (List (Ty.T TPipe))) (a1 : (List (Ty.T TPipe))) : Option (Bool × Unit) :=
  (bif ((a0.length : Int) != (a1.length : Int)) then some (false, ())
 else (laws_eqPipeS_l0_go p a0 a1 p (0 : Int) (fun o4 => some (o4, ())) (fun _ => some (true, ()))))
theorem laws_eqPipeS_run (p : Nat) (x : (parsT [.val (.slice TPipe), .val (.slice TPipe)]).T) : acall Try.prog (laws_eqPipeS_G p) 5 1 38 (laws_eqPipeS_lt p) (argAVs [.val (.slice TPipe), .val (.slice TPipe)] x) ⟨[], 0, []⟩ (outR [.bool]) = laws_eqPipeS_p p x.1 x.2.1 := by kernel_rfl
noncomputable def laws_eqPipeS_c (p : Nat) : PC := PC.fn true [.val (.slice TPipe), .val (.slice TPipe)] [.bool] fun x => laws_eqPipeS_p p x.1 x.2.1
theorem laws_eqPipeS_s (p : Nat) : PSound Try.prog 38 (laws_eqPipeS_c p) := pure_sound (laws_eqPipeS_E p) Try.checked.mixed (laws_eqPipeS_I p) (laws_eqPipeS_ltok_38 p) (fun _ => rfl) fun x y h => (laws_eqPipeS_run p x).trans h
/-! laws.eqNetwork -/
noncomputable def laws_eqNetwork_G (p : Nat) : FuncId → Option CE := glist [(12, .pure (laws_eqInt64S_c p)), (38, .pure (laws_eqPipeS_c p))]
theorem laws_eqNetwork_E (p : Nat) : EnvS Try.prog (laws_eqNetwork_G p) := by
  apply glist_env; intro f ce h
  simp only [List.mem_cons, List.not_mem_nil, or_false, Prod.mk.injEq] at h
  rcases h with ⟨rfl, rfl⟩ | ⟨rfl, rfl⟩
  · exact laws_eqInt64S_s p
  · exact laws_eqPipeS_s p
theorem laws_eqNetwork_I (p : Nat) : ∀ f lt, laws_eqNetwork_G p f = some (.inl lt) → LTok Try.prog (laws_eqNetwork_G p) 5 f lt := by
  apply glist_inl; intro f lt h
  simp only [List.mem_cons, List.not_mem_nil, or_false, Prod.mk.injEq, CE.inl.injEq, and_false, or_false, false_or, reduceCtorEq] at h
  
noncomputable def laws_eqNetwork_p (p : Nat) (a0 : (Ty.T TNetwork)) (a1 : (Ty.T TNetwork)) : Option (Bool × Unit) :=
  ((laws_eqInt64S_p p a0.1 a1.1).bind fun r1 => (bif (!r1.1) then some (false, ())
 else ((laws_eqPipeS_p p a0.2 a1.2).bind fun r2 => (bif (!r2.1) then some (false, ())
 else some (true, ())))))
theorem laws_eqNetwork_run (p : Nat) (x : (parsT [.val TNetwork, .val TNetwork]).T) : acall Try.prog (laws_eqNetwork_G p) 5 1 11 .leaf (argAVs [.val TNetwork, .val TNetwork] x) ⟨[], 0, []⟩ (outR [.bool]) = laws_eqNetwork_p p x.1 x.2.1 := by kernel_rfl
noncomputable def laws_eqNetwork_c (p : Nat) : PC := PC.fn true [.val TNetwork, .val TNetwork] [.bool] fun x => laws_eqNetwork_p p x.1 x.2.1
theorem laws_eqNetwork_s (p : Nat) : PSound Try.prog 11 (laws_eqNetwork_c p) := pure_sound (laws_eqNetwork_E p) Try.checked.mixed (laws_eqNetwork_I p) LTok_leaf (fun _ => rfl) fun x y h => (laws_eqNetwork_run p x).trans h
/-! laws.FnExactDelayTo -/
noncomputable def laws_FnExactDelayTo_G (p : Nat) : FuncId → Option CE := glist [(6, .pure (laws_szNetwork_c p)), (7, .pure (spec_DelayTo_c p)), (8, .pure (laws_toNetwork_c p)), (9, .pure (laws_toInt64S_c p)), (10, .pure (impl_DelayTo_c p)), (11, .pure (laws_eqNetwork_c p)), (12, .pure (laws_eqInt64S_c p))]
theorem laws_FnExactDelayTo_E (p : Nat) : EnvS Try.prog (laws_FnExactDelayTo_G p) := by
  apply glist_env; intro f ce h
  simp only [List.mem_cons, List.not_mem_nil, or_false, Prod.mk.injEq] at h
  rcases h with ⟨rfl, rfl⟩ | ⟨rfl, rfl⟩ | ⟨rfl, rfl⟩ | ⟨rfl, rfl⟩ | ⟨rfl, rfl⟩ | ⟨rfl, rfl⟩ | ⟨rfl, rfl⟩
  · exact laws_szNetwork_s p
  · exact spec_DelayTo_s p
  · exact laws_toNetwork_s p
  · exact laws_toInt64S_s p
  · exact impl_DelayTo_s p
  · exact laws_eqNetwork_s p
  · exact laws_eqInt64S_s p
theorem laws_FnExactDelayTo_I (p : Nat) : ∀ f lt, laws_FnExactDelayTo_G p f = some (.inl lt) → LTok Try.prog (laws_FnExactDelayTo_G p) 5 f lt := by
  apply glist_inl; intro f lt h
  simp only [List.mem_cons, List.not_mem_nil, or_false, Prod.mk.injEq, CE.inl.injEq, and_false, or_false, false_or, reduceCtorEq] at h
  
noncomputable def laws_FnExactDelayTo_p (p : Nat) (a0 : (Ty.T TNetwork)) (a1 : Int) (a2 : (List Int)) (a3 : Int) : Option Bool :=
  (bif (decide ((a2.length : Int) > (1048576 : Int))) then some true
 else ((laws_szNetwork_p p a0 (1048576 : Int)).bind fun r1 => (bif (decide (r1.1 < (0 : Int))) then some true
 else ((laws_toNetwork_p p a0).bind fun r2 => ((laws_toInt64S_p p a2).bind fun r3 => ((spec_DelayTo_p p r2.1 a1 r3.1 a3).bind fun r4 => ((laws_toNetwork_p p a0).bind fun r5 => ((laws_toInt64S_p p a2).bind fun r6 => ((impl_DelayTo_p p r5.1 a1 r6.1 a3).bind fun r7 => (bif (r7.1 != r4.1) then some false
 else (bif (r7.2.1 != r4.2.1) then some false
 else ((laws_toNetwork_p p a0).bind fun r8 => ((laws_eqNetwork_p p r5.1 r8.1).bind fun r9 => (bif (!r9.1) then some false
 else ((laws_toInt64S_p p a2).bind fun r10 => ((laws_eqInt64S_p p r6.1 r10.1).bind fun r11 => (bif (!r11.1) then some false
 else some true)))))))))))))))))
theorem laws_FnExactDelayTo_run (p : Nat) (a0 : (Ty.T TNetwork)) (a1 : Int) (a2 : (List Int)) (a3 : Int) : acall Try.prog (laws_FnExactDelayTo_G p) 5 1 3 .leaf (avs [TNetwork, (.int .i64), (.slice (.int .i64)), (.int .i64)] (a0, a1, a2, a3, ())) ⟨[], 0, []⟩ outB = laws_FnExactDelayTo_p p a0 a1 a2 a3 := by kernel_rfl
theorem laws_FnExactDelayTo_tok (p : Nat) : LTok Try.prog (laws_FnExactDelayTo_G p) 5 3 .leaf := LTok_leaf
theorem laws_FnExactDelayTo_calls {p : Nat} (a0 : (Ty.T TNetwork)) (a1 : Int) (a2 : (List Int)) (a3 : Int) {us : List Value} {w : World} (hv : VsRel (Cx.old w) (avs [TNetwork, (.int .i64), (.slice (.int .i64)), (.int .i64)] (a0, a1, a2, a3, ())) us) (h : laws_FnExactDelayTo_p p a0 a1 a2 a3 = some true) :
    Calls Try.prog 3 us.toArray w fun e w' => e = .returned (.bool true) ∧ Below w.heap.size w w' :=
  law_calls (laws_FnExactDelayTo_E p) Try.checked.mixed (laws_FnExactDelayTo_I p) (laws_FnExactDelayTo_tok p) hv ((laws_FnExactDelayTo_run p a0 a1 a2 a3).trans h)
end Go.Proofs.Ytgmcefnlcalagaa.W
