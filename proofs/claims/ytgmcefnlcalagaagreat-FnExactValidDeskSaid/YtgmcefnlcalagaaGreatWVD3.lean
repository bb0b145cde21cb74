/- The walk of functions of the program: typed texts, loops, runs, contracts; printed by walk.py. No condition. -/
import Derived.Test.YtgmcefnlcalagaaGreatAm31
import Derived.Test.YtgmcefnlcalagaaGreatProg
import Derived.Test.YtgmcefnlcalagaaGreatChecked
import Derived.Test.YtgmcefnlcalagaaGreatWVD2
namespace Go.Proofs.YtgmcefnlcalagaaGreat.W
open Go Go.RowKit Go.Proofs.YtgmcefnlcalagaaGreat.AM
set_option maxRecDepth 100000
set_option linter.unusedVariables false
set_option linter.unusedSimpArgs false
/-! laws.eqValveS -/
noncomputable def laws_eqValveS_l0_r {α : Type} (p : Nat) (v0 : List (Ty.T TValve)) (v1 : List (Ty.T TValve)) (rec : (Int) → Option α) (v2 : Int) (k0 : (Bool) → Option α) (k1 : Unit → Option α) : Option α :=
  (bif (decide (v2 < (v0.length : Int))) then (if 0 ≤ v2 then (v0[v2.toNat]?).bind fun y1 => (if 0 ≤ v2 then (v1[v2.toNat]?).bind fun y2 => ((laws_eqValve_p p y1 y2).bind fun r3 => (bif (!r3.1) then (k0 false)
 else (rec (IntKind.wrap .i64 (v2 + (1 : Int)))))) else none) else none)
 else (k1 ()))
noncomputable def laws_eqValveS_l0_go {α : Type} (p : Nat) (v0 : List (Ty.T TValve)) (v1 : List (Ty.T TValve)) : Nat → (Int) → ((Bool) → Option α) → (Unit → Option α) → Option α
  | 0, _, _, _ => none
  | q + 1, v2, k0, k1 => laws_eqValveS_l0_r p v0 v1 (fun v2 => laws_eqValveS_l0_go p v0 v1 q v2 k0 k1) v2 k0 k1
def laws_eqValveS_l0_sh : Sh := ⟨[⟨0, false, [.sl TValve]⟩, ⟨1, false, [.sl TValve]⟩, ⟨5, false, [.int .i64]⟩], 0, []⟩
noncomputable def laws_eqValveS_lc0 (p : Nat) : LC := LC.alts 0 [⟨0, laws_eqValveS_l0_sh, fun x {α} k => laws_eqValveS_l0_go p x.1.1.1 x.1.2.1.1 p x.1.2.2.1.1 (fun o0 => k .ret ⟨[(4, .one ⟨false, [.bool o0]⟩)], 0, []⟩) (fun _ => k (.exit 0) ⟨[], 0, []⟩)⟩]
noncomputable def laws_eqValveS_lt (p : Nat) : LT := (.node .leaf (.node .leaf (.node (.node .leaf (.loop [0, 1, 5] [4] (some (laws_eqValveS_lc0 p)) .leaf)) .leaf)))
noncomputable def laws_eqValveS_G (p : Nat) : FuncId → Option CE := glist [(91, .pure (laws_eqValve_c p))]
noncomputable def laws_eqValveS_c0 : Code := codeAt [1, 1, 0, 1, 0, 0] (bodyOf Tryz.f41)
noncomputable def laws_eqValveS_it0 {α : Type} (p n b : Nat) (k : Ex → St → Option α) (q : Nat) (st : St) : Option α :=
  iter (fun s q => aexec Tryz.prog (laws_eqValveS_G p) (fun g lt args st (k : D → St → Option α) => acall Tryz.prog (laws_eqValveS_G p) 5 (n + 0) g lt args st k) 5 b 27 laws_eqValveS_c0 .leaf s q) (canon b [0, 1, 5]) q st (fun e s => k e (canon b [4] s))
theorem laws_eqValveS_l0_step {α : Type} (p n : Nat) (k : Ex → St → Option α) (v0 : List (Ty.T TValve)) (v1 : List (Ty.T TValve)) (q : Nat) (v2 : Int) : laws_eqValveS_it0 p n 0 k (q + 1) (laws_eqValveS_l0_sh.mk' (((v0, ()), (v1, ()), (v2, ()), ()), (()))) =
  laws_eqValveS_l0_r p v0 v1 (fun v2 => laws_eqValveS_it0 p n 0 k q (laws_eqValveS_l0_sh.mk' (((v0, ()), (v1, ()), (v2, ()), ()), (())))) v2 (fun o0 => k .ret ⟨[(4, .one ⟨false, [.bool o0]⟩)], 0, []⟩) (fun _ => k (.exit 0) ⟨[], 0, []⟩) := by kernel_rfl
theorem laws_eqValveS_l0_ok {α : Type} (p n : Nat) (k : Ex → St → Option α) (v0 : List (Ty.T TValve)) (v1 : List (Ty.T TValve)) : ∀ (q : Nat) (v2 : Int), laws_eqValveS_it0 p n 0 k q (laws_eqValveS_l0_sh.mk' (((v0, ()), (v1, ()), (v2, ()), ()), (()))) =
  laws_eqValveS_l0_go p v0 v1 q v2 (fun o0 => k .ret ⟨[(4, .one ⟨false, [.bool o0]⟩)], 0, []⟩) (fun _ => k (.exit 0) ⟨[], 0, []⟩) := by
  intro q
  induction q with
  | zero => intros; rfl
  | succ q ih => intro v2; rw [laws_eqValveS_l0_step]; simp only [ih]; rfl
theorem laws_eqValveS_ltok_41_ls (p : Nat) : loopsOf (bodyOf Tryz.f41) (laws_eqValveS_lt p) = [⟨laws_eqValveS_c0, [0, 1, 5], [4], laws_eqValveS_lc0 p, .leaf⟩] := by kernel_rfl
theorem laws_eqValveS_ltok_41_dep (p : Nat) : LT.dep (laws_eqValveS_lt p) = 0 := by kernel_rfl
theorem laws_eqValveS_ltok_41 (p : Nat) : LTok Tryz.prog (laws_eqValveS_G p) 5 41 (laws_eqValveS_lt p) := by
  intro α n base fn c hd hfn hc
  have hfn' : some fn = some Tryz.f41 := hfn.symm.trans Tryz.func41
  cases hfn'
  have hc' : c = bodyOf Tryz.f41 := by unfold bodyOf; rw [hc]; rfl
  subst hc'
  rw [laws_eqValveS_ltok_41_dep] at hd
  obtain ⟨n, rfl⟩ := Nat.exists_eq_add_of_le' hd
  apply LTS_of_loops
  rw [laws_eqValveS_ltok_41_ls]
  intro e he st k r h
  simp only [List.mem_cons, List.not_mem_nil, or_false] at he
  subst he
  · obtain ⟨a, ha, hb, x, rfl, h⟩ := altRun_ok h
    simp only [List.mem_cons, List.not_mem_nil, or_false] at ha
    subst ha
    · cases hb; exact ⟨p, (laws_eqValveS_l0_ok p n k _ _ p _).trans h⟩
theorem laws_eqValveS_E (p : Nat) : EnvS Tryz.prog (laws_eqValveS_G p) := by
  apply glist_env; intro f ce h
  simp only [List.mem_cons, List.not_mem_nil, or_false, Prod.mk.injEq] at h
  rcases h with ⟨rfl, rfl⟩
  · exact laws_eqValve_s p
theorem laws_eqValveS_I (p : Nat) : ∀ f lt, laws_eqValveS_G p f = some (.inl lt) → LTok Tryz.prog (laws_eqValveS_G p) 5 f lt := by
  apply glist_inl; intro f lt h
  simp only [List.mem_cons, List.not_mem_nil, or_false, Prod.mk.injEq, CE.inl.injEq, and_false, or_false, false_or, reduceCtorEq] at h
  
noncomputable def laws_eqValveS_p (p : Nat) (a0 : (List (Ty.T TValve))) (a1 : (List (Ty.T TValve))) : Option (Bool × Unit) :=
  (bif ((a0.length : Int) != (a1.length : Int)) then some (false, ())
 else (laws_eqValveS_l0_go p a0 a1 p (0 : Int) (fun o4 => some (o4, ())) (fun _ => some (true, ()))))
theorem laws_eqValveS_run (p : Nat) (x : (parsT [.val (.slice TValve), .val (.slice TValve)]).T) : acall Tryz.prog (laws_eqValveS_G p) 5 1 41 (laws_eqValveS_lt p) (argAVs [.val (.slice TValve), .val (.slice TValve)] x) ⟨[], 0, []⟩ (outR [.bool]) = laws_eqValveS_p p x.1 x.2.1 := by kernel_rfl
noncomputable def laws_eqValveS_c (p : Nat) : PC := PC.fn true [.val (.slice TValve), .val (.slice TValve)] [.bool] fun x => laws_eqValveS_p p x.1 x.2.1
theorem laws_eqValveS_s (p : Nat) : PSound Tryz.prog 41 (laws_eqValveS_c p) := pure_sound (laws_eqValveS_E p) Tryz.checked.mixed (laws_eqValveS_I p) (laws_eqValveS_ltok_41 p) (fun _ => rfl) fun x y h => (laws_eqValveS_run p x).trans h
/-! laws.eqInt64SS -/
noncomputable def laws_eqInt64SS_l0_r {α : Type} (p : Nat) (v0 : List (List Int)) (v1 : List (List Int)) (rec : (Int) → Option α) (v2 : Int) (k0 : (Bool) → Option α) (k1 : Unit → Option α) : Option α :=
  (bif (decide (v2 < (v0.length : Int))) then (if 0 ≤ v2 then (v0[v2.toNat]?).bind fun y1 => (if 0 ≤ v2 then (v1[v2.toNat]?).bind fun y2 => ((laws_eqInt64S_p p y1 y2).bind fun r3 => (bif (!r3.1) then (k0 false)
 else (rec (IntKind.wrap .i64 (v2 + (1 : Int)))))) else none) else none)
 else (k1 ()))
noncomputable def laws_eqInt64SS_l0_go {α : Type} (p : Nat) (v0 : List (List Int)) (v1 : List (List Int)) : Nat → (Int) → ((Bool) → Option α) → (Unit → Option α) → Option α
  | 0, _, _, _ => none
  | q + 1, v2, k0, k1 => laws_eqInt64SS_l0_r p v0 v1 (fun v2 => laws_eqInt64SS_l0_go p v0 v1 q v2 k0 k1) v2 k0 k1
def laws_eqInt64SS_l0_sh : Sh := ⟨[⟨0, false, [.sl (.slice (.int .i64))]⟩, ⟨1, false, [.sl (.slice (.int .i64))]⟩, ⟨5, false, [.int .i64]⟩], 0, []⟩
noncomputable def laws_eqInt64SS_lc0 (p : Nat) : LC := LC.alts 0 [⟨0, laws_eqInt64SS_l0_sh, fun x {α} k => laws_eqInt64SS_l0_go p x.1.1.1 x.1.2.1.1 p x.1.2.2.1.1 (fun o0 => k .ret ⟨[(4, .one ⟨false, [.bool o0]⟩)], 0, []⟩) (fun _ => k (.exit 0) ⟨[], 0, []⟩)⟩]
noncomputable def laws_eqInt64SS_lt (p : Nat) : LT := (.node .leaf (.node .leaf (.node (.node .leaf (.loop [0, 1, 5] [4] (some (laws_eqInt64SS_lc0 p)) .leaf)) .leaf)))
noncomputable def laws_eqInt64SS_G (p : Nat) : FuncId → Option CE := glist [(40, .pure (laws_eqInt64S_c p))]
noncomputable def laws_eqInt64SS_c0 : Code := codeAt [1, 1, 0, 1, 0, 0] (bodyOf Tryz.f127)
noncomputable def laws_eqInt64SS_it0 {α : Type} (p n b : Nat) (k : Ex → St → Option α) (q : Nat) (st : St) : Option α :=
  iter (fun s q => aexec Tryz.prog (laws_eqInt64SS_G p) (fun g lt args st (k : D → St → Option α) => acall Tryz.prog (laws_eqInt64SS_G p) 5 (n + 0) g lt args st k) 5 b 27 laws_eqInt64SS_c0 .leaf s q) (canon b [0, 1, 5]) q st (fun e s => k e (canon b [4] s))
theorem laws_eqInt64SS_l0_step {α : Type} (p n : Nat) (k : Ex → St → Option α) (v0 : List (List Int)) (v1 : List (List Int)) (q : Nat) (v2 : Int) : laws_eqInt64SS_it0 p n 0 k (q + 1) (laws_eqInt64SS_l0_sh.mk' (((v0, ()), (v1, ()), (v2, ()), ()), (()))) =
  laws_eqInt64SS_l0_r p v0 v1 (fun v2 => laws_eqInt64SS_it0 p n 0 k q (laws_eqInt64SS_l0_sh.mk' (((v0, ()), (v1, ()), (v2, ()), ()), (())))) v2 (fun o0 => k .ret ⟨[(4, .one ⟨false, [.bool o0]⟩)], 0, []⟩) (fun _ => k (.exit 0) ⟨[], 0, []⟩) := by kernel_rfl
theorem laws_eqInt64SS_l0_ok {α : Type} (p n : Nat) (k : Ex → St → Option α) (v0 : List (List Int)) (v1 : List (List Int)) : ∀ (q : Nat) (v2 : Int), laws_eqInt64SS_it0 p n 0 k q (laws_eqInt64SS_l0_sh.mk' (((v0, ()), (v1, ()), (v2, ()), ()), (()))) =
  laws_eqInt64SS_l0_go p v0 v1 q v2 (fun o0 => k .ret ⟨[(4, .one ⟨false, [.bool o0]⟩)], 0, []⟩) (fun _ => k (.exit 0) ⟨[], 0, []⟩) := by
  intro q
  induction q with
  | zero => intros; rfl
  | succ q ih => intro v2; rw [laws_eqInt64SS_l0_step]; simp only [ih]; rfl
theorem laws_eqInt64SS_ltok_127_ls (p : Nat) : loopsOf (bodyOf Tryz.f127) (laws_eqInt64SS_lt p) = [⟨laws_eqInt64SS_c0, [0, 1, 5], [4], laws_eqInt64SS_lc0 p, .leaf⟩] := by kernel_rfl
theorem laws_eqInt64SS_ltok_127_dep (p : Nat) : LT.dep (laws_eqInt64SS_lt p) = 0 := by kernel_rfl
theorem laws_eqInt64SS_ltok_127 (p : Nat) : LTok Tryz.prog (laws_eqInt64SS_G p) 5 127 (laws_eqInt64SS_lt p) := by
  intro α n base fn c hd hfn hc
  have hfn' : some fn = some Tryz.f127 := hfn.symm.trans Tryz.func127
  cases hfn'
  have hc' : c = bodyOf Tryz.f127 := by unfold bodyOf; rw [hc]; rfl
  subst hc'
  rw [laws_eqInt64SS_ltok_127_dep] at hd
  obtain ⟨n, rfl⟩ := Nat.exists_eq_add_of_le' hd
  apply LTS_of_loops
  rw [laws_eqInt64SS_ltok_127_ls]
  intro e he st k r h
  simp only [List.mem_cons, List.not_mem_nil, or_false] at he
  subst he
  · obtain ⟨a, ha, hb, x, rfl, h⟩ := altRun_ok h
    simp only [List.mem_cons, List.not_mem_nil, or_false] at ha
    subst ha
    · cases hb; exact ⟨p, (laws_eqInt64SS_l0_ok p n k _ _ p _).trans h⟩
theorem laws_eqInt64SS_E (p : Nat) : EnvS Tryz.prog (laws_eqInt64SS_G p) := by
  apply glist_env; intro f ce h
  simp only [List.mem_cons, List.not_mem_nil, or_false, Prod.mk.injEq] at h
  rcases h with ⟨rfl, rfl⟩
  · exact laws_eqInt64S_s p
theorem laws_eqInt64SS_I (p : Nat) : ∀ f lt, laws_eqInt64SS_G p f = some (.inl lt) → LTok Tryz.prog (laws_eqInt64SS_G p) 5 f lt := by
  apply glist_inl; intro f lt h
  simp only [List.mem_cons, List.not_mem_nil, or_false, Prod.mk.injEq, CE.inl.injEq, and_false, or_false, false_or, reduceCtorEq] at h
  
noncomputable def laws_eqInt64SS_p (p : Nat) (a0 : (List (List Int))) (a1 : (List (List Int))) : Option (Bool × Unit) :=
  (bif ((a0.length : Int) != (a1.length : Int)) then some (false, ())
 else (laws_eqInt64SS_l0_go p a0 a1 p (0 : Int) (fun o4 => some (o4, ())) (fun _ => some (true, ()))))
theorem laws_eqInt64SS_run (p : Nat) (x : (parsT [.val (.slice (.slice (.int .i64))), .val (.slice (.slice (.int .i64)))]).T) : acall Tryz.prog (laws_eqInt64SS_G p) 5 1 127 (laws_eqInt64SS_lt p) (argAVs [.val (.slice (.slice (.int .i64))), .val (.slice (.slice (.int .i64)))] x) ⟨[], 0, []⟩ (outR [.bool]) = laws_eqInt64SS_p p x.1 x.2.1 := by kernel_rfl
noncomputable def laws_eqInt64SS_c (p : Nat) : PC := PC.fn true [.val (.slice (.slice (.int .i64))), .val (.slice (.slice (.int .i64)))] [.bool] fun x => laws_eqInt64SS_p p x.1 x.2.1
theorem laws_eqInt64SS_s (p : Nat) : PSound Tryz.prog 127 (laws_eqInt64SS_c p) := pure_sound (laws_eqInt64SS_E p) Tryz.checked.mixed (laws_eqInt64SS_I p) (laws_eqInt64SS_ltok_127 p) (fun _ => rfl) fun x y h => (laws_eqInt64SS_run p x).trans h
/-! laws.eqPump -/
noncomputable def laws_eqPump_G (p : Nat) : FuncId → Option CE := glist [(127, .pure (laws_eqInt64SS_c p))]
theorem laws_eqPump_E (p : Nat) : EnvS Tryz.prog (laws_eqPump_G p) := by
  apply glist_env; intro f ce h
  simp only [List.mem_cons, List.not_mem_nil, or_false, Prod.mk.injEq] at h
  rcases h with ⟨rfl, rfl⟩
  · exact laws_eqInt64SS_s p
theorem laws_eqPump_I (p : Nat) : ∀ f lt, laws_eqPump_G p f = some (.inl lt) → LTok Tryz.prog (laws_eqPump_G p) 5 f lt := by
  apply glist_inl; intro f lt h
  simp only [List.mem_cons, List.not_mem_nil, or_false, Prod.mk.injEq, CE.inl.injEq, and_false, or_false, false_or, reduceCtorEq] at h
  
noncomputable def laws_eqPump_p (p : Nat) (a0 : (Ty.T TPump)) (a1 : (Ty.T TPump)) : Option (Bool × Unit) :=
  (bif (!(a0.1.toList == a1.1.toList)) then some (false, ())
 else ((laws_eqInt64SS_p p a0.2 a1.2).bind fun r1 => (bif (!r1.1) then some (false, ())
 else some (true, ()))))
theorem laws_eqPump_run (p : Nat) (x : (parsT [.val TPump, .val TPump]).T) : acall Tryz.prog (laws_eqPump_G p) 5 1 92 .leaf (argAVs [.val TPump, .val TPump] x) ⟨[], 0, []⟩ (outR [.bool]) = laws_eqPump_p p x.1 x.2.1 := by kernel_rfl
noncomputable def laws_eqPump_c (p : Nat) : PC := PC.fn true [.val TPump, .val TPump] [.bool] fun x => laws_eqPump_p p x.1 x.2.1
theorem laws_eqPump_s (p : Nat) : PSound Tryz.prog 92 (laws_eqPump_c p) := pure_sound (laws_eqPump_E p) Tryz.checked.mixed (laws_eqPump_I p) LTok_leaf (fun _ => rfl) fun x y h => (laws_eqPump_run p x).trans h
/-! laws.eqPumpS -/
noncomputable def laws_eqPumpS_l0_r {α : Type} (p : Nat) (v0 : List (Ty.T TPump)) (v1 : List (Ty.T TPump)) (rec : (Int) → Option α) (v2 : Int) (k0 : (Bool) → Option α) (k1 : Unit → Option α) : Option α :=
  (bif (decide (v2 < (v0.length : Int))) then (if 0 ≤ v2 then (v0[v2.toNat]?).bind fun y1 => (if 0 ≤ v2 then (v1[v2.toNat]?).bind fun y2 => ((laws_eqPump_p p y1 y2).bind fun r3 => (bif (!r3.1) then (k0 false)
 else (rec (IntKind.wrap .i64 (v2 + (1 : Int)))))) else none) else none)
 else (k1 ()))
noncomputable def laws_eqPumpS_l0_go {α : Type} (p : Nat) (v0 : List (Ty.T TPump)) (v1 : List (Ty.T TPump)) : Nat → (Int) → ((Bool) → Option α) → (Unit → Option α) → Option α
  | 0, _, _, _ => none
  | q + 1, v2, k0, k1 => laws_eqPumpS_l0_r p v0 v1 (fun v2 => laws_eqPumpS_l0_go p v0 v1 q v2 k0 k1) v2 k0 k1
def laws_eqPumpS_l0_sh : Sh := ⟨[⟨0, false, [.sl TPump]⟩, ⟨1, false, [.sl TPump]⟩, ⟨5, false, [.int .i64]⟩], 0, []⟩
noncomputable def laws_eqPumpS_lc0 (p : Nat) : LC := LC.alts 0 [⟨0, laws_eqPumpS_l0_sh, fun x {α} k => laws_eqPumpS_l0_go p x.1.1.1 x.1.2.1.1 p x.1.2.2.1.1 (fun o0 => k .ret ⟨[(4, .one ⟨false, [.bool o0]⟩)], 0, []⟩) (fun _ => k (.exit 0) ⟨[], 0, []⟩)⟩]
noncomputable def laws_eqPumpS_lt (p : Nat) : LT := (.node .leaf (.node .leaf (.node (.node .leaf (.loop [0, 1, 5] [4] (some (laws_eqPumpS_lc0 p)) .leaf)) .leaf)))
noncomputable def laws_eqPumpS_G (p : Nat) : FuncId → Option CE := glist [(92, .pure (laws_eqPump_c p))]
noncomputable def laws_eqPumpS_c0 : Code := codeAt [1, 1, 0, 1, 0, 0] (bodyOf Tryz.f42)
noncomputable def laws_eqPumpS_it0 {α : Type} (p n b : Nat) (k : Ex → St → Option α) (q : Nat) (st : St) : Option α :=
  iter (fun s q => aexec Tryz.prog (laws_eqPumpS_G p) (fun g lt args st (k : D → St → Option α) => acall Tryz.prog (laws_eqPumpS_G p) 5 (n + 0) g lt args st k) 5 b 27 laws_eqPumpS_c0 .leaf s q) (canon b [0, 1, 5]) q st (fun e s => k e (canon b [4] s))
theorem laws_eqPumpS_l0_step {α : Type} (p n : Nat) (k : Ex → St → Option α) (v0 : List (Ty.T TPump)) (v1 : List (Ty.T TPump)) (q : Nat) (v2 : Int) : laws_eqPumpS_it0 p n 0 k (q + 1) (laws_eqPumpS_l0_sh.mk' (((v0, ()), (v1, ()), (v2, ()), ()), (()))) =
  laws_eqPumpS_l0_r p v0 v1 (fun v2 => laws_eqPumpS_it0 p n 0 k q (laws_eqPumpS_l0_sh.mk' (((v0, ()), (v1, ()), (v2, ()), ()), (())))) v2 (fun o0 => k .ret ⟨[(4, .one ⟨false, [.bool o0]⟩)], 0, []⟩) (fun _ => k (.exit 0) ⟨[], 0, []⟩) := by kernel_rfl
theorem laws_eqPumpS_l0_ok {α : Type} (p n : Nat) (k : Ex → St → Option α) (v0 : List (Ty.T TPump)) (v1 : List (Ty.T TPump)) : ∀ (q : Nat) (v2 : Int), laws_eqPumpS_it0 p n 0 k q (laws_eqPumpS_l0_sh.mk' (((v0, ()), (v1, ()), (v2, ()), ()), (()))) =
  laws_eqPumpS_l0_go p v0 v1 q v2 (fun o0 => k .ret ⟨[(4, .one ⟨false, [.bool o0]⟩)], 0, []⟩) (fun _ => k (.exit 0) ⟨[], 0, []⟩) := by
  intro q
  induction q with
  | zero => intros; rfl
  | succ q ih => intro v2; rw [laws_eqPumpS_l0_step]; simp only [ih]; rfl
theorem laws_eqPumpS_ltok_42_ls (p : Nat) : loopsOf (bodyOf Tryz.f42) (laws_eqPumpS_lt p) = [⟨laws_eqPumpS_c0, [0, 1, 5], [4], laws_eqPumpS_lc0 p, .leaf⟩] := by kernel_rfl
theorem laws_eqPumpS_ltok_42_dep (p : Nat) : LT.dep (laws_eqPumpS_lt p) = 0 := by kernel_rfl
theorem laws_eqPumpS_ltok_42 (p : Nat) : LTok Tryz.prog (laws_eqPumpS_G p) 5 42 (laws_eqPumpS_lt p) := by
  intro α n base fn c hd hfn hc
  have hfn' : some fn = some Tryz.f42 := hfn.symm.trans Tryz.func42
  cases hfn'
  have hc' : c = bodyOf Tryz.f42 := by unfold bodyOf; rw [hc]; rfl
  subst hc'
  rw [laws_eqPumpS_ltok_42_dep] at hd
  obtain ⟨n, rfl⟩ := Nat.exists_eq_add_of_le' hd
  apply LTS_of_loops
  rw [laws_eqPumpS_ltok_42_ls]
  intro e he st k r h
  simp only [List.mem_cons, List.not_mem_nil, or_false] at he
  subst he
  · obtain ⟨a, ha, hb, x, rfl, h⟩ := altRun_ok h
    simp only [List.mem_cons, List.not_mem_nil, or_false] at ha
    subst ha
    · cases hb; exact ⟨p, (laws_eqPumpS_l0_ok p n k _ _ p _).trans h⟩
theorem laws_eqPumpS_E (p : Nat) : EnvS Tryz.prog (laws_eqPumpS_G p) := by
  apply glist_env; intro f ce h
  simp only [List.mem_cons, List.not_mem_nil, or_false, Prod.mk.injEq] at h
  rcases h with ⟨rfl, rfl⟩
  · exact laws_eqPump_s p
theorem laws_eqPumpS_I (p : Nat) : ∀ f lt, laws_eqPumpS_G p f = some (.inl lt) → LTok Tryz.prog (laws_eqPumpS_G p) 5 f lt := by
  apply glist_inl; intro f lt h
  simp only [List.mem_cons, List.not_mem_nil, or_false, Prod.mk.injEq, CE.inl.injEq, and_false, or_false, false_or, reduceCtorEq] at h
  
noncomputable def laws_eqPumpS_p (p : Nat) (a0 : (List (Ty.T TPump))) (a1 : (List (Ty.T TPump))) : Option (Bool × Unit) :=
  (bif ((a0.length : Int) != (a1.length : Int)) then some (false, ())
 else (laws_eqPumpS_l0_go p a0 a1 p (0 : Int) (fun o4 => some (o4, ())) (fun _ => some (true, ()))))
theorem laws_eqPumpS_run (p : Nat) (x : (parsT [.val (.slice TPump), .val (.slice TPump)]).T) : acall Tryz.prog (laws_eqPumpS_G p) 5 1 42 (laws_eqPumpS_lt p) (argAVs [.val (.slice TPump), .val (.slice TPump)] x) ⟨[], 0, []⟩ (outR [.bool]) = laws_eqPumpS_p p x.1 x.2.1 := by kernel_rfl
noncomputable def laws_eqPumpS_c (p : Nat) : PC := PC.fn true [.val (.slice TPump), .val (.slice TPump)] [.bool] fun x => laws_eqPumpS_p p x.1 x.2.1
theorem laws_eqPumpS_s (p : Nat) : PSound Tryz.prog 42 (laws_eqPumpS_c p) := pure_sound (laws_eqPumpS_E p) Tryz.checked.mixed (laws_eqPumpS_I p) (laws_eqPumpS_ltok_42 p) (fun _ => rfl) fun x y h => (laws_eqPumpS_run p x).trans h
/-! laws.eqSubstation -/
noncomputable def laws_eqSubstation_G (p : Nat) : FuncId → Option CE := glist []
theorem laws_eqSubstation_E (p : Nat) : EnvS Tryz.prog (laws_eqSubstation_G p) := by
  apply glist_env; intro f ce h
  simp only [List.mem_cons, List.not_mem_nil, or_false, Prod.mk.injEq] at h
  
theorem laws_eqSubstation_I (p : Nat) : ∀ f lt, laws_eqSubstation_G p f = some (.inl lt) → LTok Tryz.prog (laws_eqSubstation_G p) 5 f lt := by
  apply glist_inl; intro f lt h
  simp only [List.mem_cons, List.not_mem_nil, or_false, Prod.mk.injEq, CE.inl.injEq, and_false, or_false, false_or, reduceCtorEq] at h
  
noncomputable def laws_eqSubstation_p (p : Nat) (a0 : (Ty.T TSubstation)) (a1 : (Ty.T TSubstation)) : Option (Bool × Unit) :=
  (bif (!(a0.1.toList == a1.1.toList)) then some (false, ())
 else (bif (a0.2.1 != a1.2.1) then some (false, ())
 else (bif (a0.2.2.1 != a1.2.2.1) then some (false, ())
 else (bif (a0.2.2.2.1 != a1.2.2.2.1) then some (false, ())
 else (bif (a0.2.2.2.2 != a1.2.2.2.2) then some (false, ())
 else some (true, ()))))))
theorem laws_eqSubstation_run (p : Nat) (x : (parsT [.val TSubstation, .val TSubstation]).T) : acall Tryz.prog (laws_eqSubstation_G p) 5 1 93 .leaf (argAVs [.val TSubstation, .val TSubstation] x) ⟨[], 0, []⟩ (outR [.bool]) = laws_eqSubstation_p p x.1 x.2.1 := by kernel_rfl
noncomputable def laws_eqSubstation_c (p : Nat) : PC := PC.fn true [.val TSubstation, .val TSubstation] [.bool] fun x => laws_eqSubstation_p p x.1 x.2.1
theorem laws_eqSubstation_s (p : Nat) : PSound Tryz.prog 93 (laws_eqSubstation_c p) := pure_sound (laws_eqSubstation_E p) Tryz.checked.mixed (laws_eqSubstation_I p) LTok_leaf (fun _ => rfl) fun x y h => (laws_eqSubstation_run p x).trans h
/-! laws.eqSubstationS -/
noncomputable def laws_eqSubstationS_l0_r {α : Type} (p : Nat) (v0 : List (Ty.T TSubstation)) (v1 : List (Ty.T TSubstation)) (rec : (Int) → Option α) (v2 : Int) (k0 : (Bool) → Option α) (k1 : Unit → Option α) : Option α :=
  (bif (decide (v2 < (v0.length : Int))) then (if 0 ≤ v2 then (v0[v2.toNat]?).bind fun y1 => (if 0 ≤ v2 then (v1[v2.toNat]?).bind fun y2 => ((laws_eqSubstation_p p y1 y2).bind fun r3 => (bif (!r3.1) then (k0 false)
 else (rec (IntKind.wrap .i64 (v2 + (1 : Int)))))) else none) else none)
 else (k1 ()))
noncomputable def laws_eqSubstationS_l0_go {α : Type} (p : Nat) (v0 : List (Ty.T TSubstation)) (v1 : List (Ty.T TSubstation)) : Nat → (Int) → ((Bool) → Option α) → (Unit → Option α) → Option α
  | 0, _, _, _ => none
  | q + 1, v2, k0, k1 => laws_eqSubstationS_l0_r p v0 v1 (fun v2 => laws_eqSubstationS_l0_go p v0 v1 q v2 k0 k1) v2 k0 k1
def laws_eqSubstationS_l0_sh : Sh := ⟨[⟨0, false, [.sl TSubstation]⟩, ⟨1, false, [.sl TSubstation]⟩, ⟨5, false, [.int .i64]⟩], 0, []⟩
noncomputable def laws_eqSubstationS_lc0 (p : Nat) : LC := LC.alts 0 [⟨0, laws_eqSubstationS_l0_sh, fun x {α} k => laws_eqSubstationS_l0_go p x.1.1.1 x.1.2.1.1 p x.1.2.2.1.1 (fun o0 => k .ret ⟨[(4, .one ⟨false, [.bool o0]⟩)], 0, []⟩) (fun _ => k (.exit 0) ⟨[], 0, []⟩)⟩]
noncomputable def laws_eqSubstationS_lt (p : Nat) : LT := (.node .leaf (.node .leaf (.node (.node .leaf (.loop [0, 1, 5] [4] (some (laws_eqSubstationS_lc0 p)) .leaf)) .leaf)))
noncomputable def laws_eqSubstationS_G (p : Nat) : FuncId → Option CE := glist [(93, .pure (laws_eqSubstation_c p))]
noncomputable def laws_eqSubstationS_c0 : Code := codeAt [1, 1, 0, 1, 0, 0] (bodyOf Tryz.f43)
noncomputable def laws_eqSubstationS_it0 {α : Type} (p n b : Nat) (k : Ex → St → Option α) (q : Nat) (st : St) : Option α :=
  iter (fun s q => aexec Tryz.prog (laws_eqSubstationS_G p) (fun g lt args st (k : D → St → Option α) => acall Tryz.prog (laws_eqSubstationS_G p) 5 (n + 0) g lt args st k) 5 b 27 laws_eqSubstationS_c0 .leaf s q) (canon b [0, 1, 5]) q st (fun e s => k e (canon b [4] s))
theorem laws_eqSubstationS_l0_step {α : Type} (p n : Nat) (k : Ex → St → Option α) (v0 : List (Ty.T TSubstation)) (v1 : List (Ty.T TSubstation)) (q : Nat) (v2 : Int) : laws_eqSubstationS_it0 p n 0 k (q + 1) (laws_eqSubstationS_l0_sh.mk' (((v0, ()), (v1, ()), (v2, ()), ()), (()))) =
  laws_eqSubstationS_l0_r p v0 v1 (fun v2 => laws_eqSubstationS_it0 p n 0 k q (laws_eqSubstationS_l0_sh.mk' (((v0, ()), (v1, ()), (v2, ()), ()), (())))) v2 (fun o0 => k .ret ⟨[(4, .one ⟨false, [.bool o0]⟩)], 0, []⟩) (fun _ => k (.exit 0) ⟨[], 0, []⟩) := by kernel_rfl
theorem laws_eqSubstationS_l0_ok {α : Type} (p n : Nat) (k : Ex → St → Option α) (v0 : List (Ty.T TSubstation)) (v1 : List (Ty.T TSubstation)) : ∀ (q : Nat) (v2 : Int), laws_eqSubstationS_it0 p n 0 k q (laws_eqSubstationS_l0_sh.mk' (((v0, ()), (v1, ()), (v2, ()), ()), (()))) =
  laws_eqSubstationS_l0_go p v0 v1 q v2 (fun o0 => k .ret ⟨[(4, .one ⟨false, [.bool o0]⟩)], 0, []⟩) (fun _ => k (.exit 0) ⟨[], 0, []⟩) := by
  intro q
  induction q with
  | zero => intros; rfl
  | succ q ih => intro v2; rw [laws_eqSubstationS_l0_step]; simp only [ih]; rfl
theorem laws_eqSubstationS_ltok_43_ls (p : Nat) : loopsOf (bodyOf Tryz.f43) (laws_eqSubstationS_lt p) = [⟨laws_eqSubstationS_c0, [0, 1, 5], [4], laws_eqSubstationS_lc0 p, .leaf⟩] := by kernel_rfl
theorem laws_eqSubstationS_ltok_43_dep (p : Nat) : LT.dep (laws_eqSubstationS_lt p) = 0 := by kernel_rfl
theorem laws_eqSubstationS_ltok_43 (p : Nat) : LTok Tryz.prog (laws_eqSubstationS_G p) 5 43 (laws_eqSubstationS_lt p) := by
  intro α n base fn c hd hfn hc
  have hfn' : some fn = some Tryz.f43 := hfn.symm.trans Tryz.func43
  cases hfn'
  have hc' : c = bodyOf Tryz.f43 := by unfold bodyOf; rw [hc]; rfl
  subst hc'
  rw [laws_eqSubstationS_ltok_43_dep] at hd
  obtain ⟨n, rfl⟩ := Nat.exists_eq_add_of_le' hd
  apply LTS_of_loops
  rw [laws_eqSubstationS_ltok_43_ls]
  intro e he st k r h
  simp only [List.mem_cons, List.not_mem_nil, or_false] at he
  subst he
  · obtain ⟨a, ha, hb, x, rfl, h⟩ := altRun_ok h
    simp only [List.mem_cons, List.not_mem_nil, or_false] at ha
    subst ha
    · cases hb; exact ⟨p, (laws_eqSubstationS_l0_ok p n k _ _ p _).trans h⟩
theorem laws_eqSubstationS_E (p : Nat) : EnvS Tryz.prog (laws_eqSubstationS_G p) := by
  apply glist_env; intro f ce h
  simp only [List.mem_cons, List.not_mem_nil, or_false, Prod.mk.injEq] at h
  rcases h with ⟨rfl, rfl⟩
  · exact laws_eqSubstation_s p
theorem laws_eqSubstationS_I (p : Nat) : ∀ f lt, laws_eqSubstationS_G p f = some (.inl lt) → LTok Tryz.prog (laws_eqSubstationS_G p) 5 f lt := by
  apply glist_inl; intro f lt h
  simp only [List.mem_cons, List.not_mem_nil, or_false, Prod.mk.injEq, CE.inl.injEq, and_false, or_false, false_or, reduceCtorEq] at h
  
noncomputable def laws_eqSubstationS_p (p : Nat) (a0 : (List (Ty.T TSubstation))) (a1 : (List (Ty.T TSubstation))) : Option (Bool × Unit) :=
  (bif ((a0.length : Int) != (a1.length : Int)) then some (false, ())
 else (laws_eqSubstationS_l0_go p a0 a1 p (0 : Int) (fun o4 => some (o4, ())) (fun _ => some (true, ()))))
theorem laws_eqSubstationS_run (p : Nat) (x : (parsT [.val (.slice TSubstation), .val (.slice TSubstation)]).T) : acall Tryz.prog (laws_eqSubstationS_G p) 5 1 43 (laws_eqSubstationS_lt p) (argAVs [.val (.slice TSubstation), .val (.slice TSubstation)] x) ⟨[], 0, []⟩ (outR [.bool]) = laws_eqSubstationS_p p x.1 x.2.1 := by kernel_rfl
noncomputable def laws_eqSubstationS_c (p : Nat) : PC := PC.fn true [.val (.slice TSubstation), .val (.slice TSubstation)] [.bool] fun x => laws_eqSubstationS_p p x.1 x.2.1
theorem laws_eqSubstationS_s (p : Nat) : PSound Tryz.prog 43 (laws_eqSubstationS_c p) := pure_sound (laws_eqSubstationS_E p) Tryz.checked.mixed (laws_eqSubstationS_I p) (laws_eqSubstationS_ltok_43 p) (fun _ => rfl) fun x y h => (laws_eqSubstationS_run p x).trans h
/-! laws.eqTank -/
noncomputable def laws_eqTank_G (p : Nat) : FuncId → Option CE := glist []
theorem laws_eqTank_E (p : Nat) : EnvS Tryz.prog (laws_eqTank_G p) := by
  apply glist_env; intro f ce h
  simp only [List.mem_cons, List.not_mem_nil, or_false, Prod.mk.injEq] at h
  
theorem laws_eqTank_I (p : Nat) : ∀ f lt, laws_eqTank_G p f = some (.inl lt) → LTok Tryz.prog (laws_eqTank_G p) 5 f lt := by
  apply glist_inl; intro f lt h
  simp only [List.mem_cons, List.not_mem_nil, or_false, Prod.mk.injEq, CE.inl.injEq, and_false, or_false, false_or, reduceCtorEq] at h
  
noncomputable def laws_eqTank_p (p : Nat) (a0 : (Ty.T TTank)) (a1 : (Ty.T TTank)) : Option (Bool × Unit) :=
  (bif (a0.1 != a1.1) then some (false, ())
 else (bif (a0.2.1 != a1.2.1) then some (false, ())
 else (bif (a0.2.2 != a1.2.2) then some (false, ())
 else some (true, ()))))
theorem laws_eqTank_run (p : Nat) (x : (parsT [.val TTank, .val TTank]).T) : acall Tryz.prog (laws_eqTank_G p) 5 1 44 .leaf (argAVs [.val TTank, .val TTank] x) ⟨[], 0, []⟩ (outR [.bool]) = laws_eqTank_p p x.1 x.2.1 := by kernel_rfl
noncomputable def laws_eqTank_c (p : Nat) : PC := PC.fn true [.val TTank, .val TTank] [.bool] fun x => laws_eqTank_p p x.1 x.2.1
theorem laws_eqTank_s (p : Nat) : PSound Tryz.prog 44 (laws_eqTank_c p) := pure_sound (laws_eqTank_E p) Tryz.checked.mixed (laws_eqTank_I p) LTok_leaf (fun _ => rfl) fun x y h => (laws_eqTank_run p x).trans h
/-! laws.eqFuel -/
noncomputable def laws_eqFuel_G (p : Nat) : FuncId → Option CE := glist []
theorem laws_eqFuel_E (p : Nat) : EnvS Tryz.prog (laws_eqFuel_G p) := by
  apply glist_env; intro f ce h
  simp only [List.mem_cons, List.not_mem_nil, or_false, Prod.mk.injEq] at h
  
theorem laws_eqFuel_I (p : Nat) : ∀ f lt, laws_eqFuel_G p f = some (.inl lt) → LTok Tryz.prog (laws_eqFuel_G p) 5 f lt := by
  apply glist_inl; intro f lt h
  simp only [List.mem_cons, List.not_mem_nil, or_false, Prod.mk.injEq, CE.inl.injEq, and_false, or_false, false_or, reduceCtorEq] at h
  
noncomputable def laws_eqFuel_p (p : Nat) (a0 : (Ty.T TFuel)) (a1 : (Ty.T TFuel)) : Option (Bool × Unit) :=
  (bif (!(a0.1.toList == a1.1.toList)) then some (false, ())
 else (bif (a0.2.1 != a1.2.1) then some (false, ())
 else (bif (a0.2.2.1 != a1.2.2.1) then some (false, ())
 else (bif (a0.2.2.2 != a1.2.2.2) then some (false, ())
 else some (true, ())))))
theorem laws_eqFuel_run (p : Nat) (x : (parsT [.val TFuel, .val TFuel]).T) : acall Tryz.prog (laws_eqFuel_G p) 5 1 94 .leaf (argAVs [.val TFuel, .val TFuel] x) ⟨[], 0, []⟩ (outR [.bool]) = laws_eqFuel_p p x.1 x.2.1 := by kernel_rfl
noncomputable def laws_eqFuel_c (p : Nat) : PC := PC.fn true [.val TFuel, .val TFuel] [.bool] fun x => laws_eqFuel_p p x.1 x.2.1
theorem laws_eqFuel_s (p : Nat) : PSound Tryz.prog 94 (laws_eqFuel_c p) := pure_sound (laws_eqFuel_E p) Tryz.checked.mixed (laws_eqFuel_I p) LTok_leaf (fun _ => rfl) fun x y h => (laws_eqFuel_run p x).trans h
/-! laws.eqFuelS -/
noncomputable def laws_eqFuelS_l0_r {α : Type} (p : Nat) (v0 : List (Ty.T TFuel)) (v1 : List (Ty.T TFuel)) (rec : (Int) → Option α) (v2 : Int) (k0 : (Bool) → Option α) (k1 : Unit → Option α) : Option α :=
  (bif (decide (v2 < (v0.length : Int))) then (if 0 ≤ v2 then (v0[v2.toNat]?).bind fun y1 => (if 0 ≤ v2 then (v1[v2.toNat]?).bind fun y2 => ((laws_eqFuel_p p y1 y2).bind fun r3 => (bif (!r3.1) then (k0 false)
 else (rec (IntKind.wrap .i64 (v2 + (1 : Int)))))) else none) else none)
 else (k1 ()))
noncomputable def laws_eqFuelS_l0_go {α : Type} (p : Nat) (v0 : List (Ty.T TFuel)) (v1 : List (Ty.T TFuel)) : Nat → (Int) → ((Bool) → Option α) → (Unit → Option α) → Option α
  | 0, _, _, _ => none
  | q + 1, v2, k0, k1 => laws_eqFuelS_l0_r p v0 v1 (fun v2 => laws_eqFuelS_l0_go p v0 v1 q v2 k0 k1) v2 k0 k1
def laws_eqFuelS_l0_sh : Sh := ⟨[⟨0, false, [.sl TFuel]⟩, ⟨1, false, [.sl TFuel]⟩, ⟨5, false, [.int .i64]⟩], 0, []⟩
noncomputable def laws_eqFuelS_lc0 (p : Nat) : LC := LC.alts 0 [⟨0, laws_eqFuelS_l0_sh, fun x {α} k => laws_eqFuelS_l0_go p x.1.1.1 x.1.2.1.1 p x.1.2.2.1.1 (fun o0 => k .ret ⟨[(4, .one ⟨false, [.bool o0]⟩)], 0, []⟩) (fun _ => k (.exit 0) ⟨[], 0, []⟩)⟩]
noncomputable def laws_eqFuelS_lt (p : Nat) : LT := (.node .leaf (.node .leaf (.node (.node .leaf (.loop [0, 1, 5] [4] (some (laws_eqFuelS_lc0 p)) .leaf)) .leaf)))
noncomputable def laws_eqFuelS_G (p : Nat) : FuncId → Option CE := glist [(94, .pure (laws_eqFuel_c p))]
noncomputable def laws_eqFuelS_c0 : Code := codeAt [1, 1, 0, 1, 0, 0] (bodyOf Tryz.f45)
noncomputable def laws_eqFuelS_it0 {α : Type} (p n b : Nat) (k : Ex → St → Option α) (q : Nat) (st : St) : Option α :=
  iter (fun s q => aexec Tryz.prog (laws_eqFuelS_G p) (fun g lt args st (k : D → St → Option α) => acall Tryz.prog (laws_eqFuelS_G p) 5 (n + 0) g lt args st k) 5 b 27 laws_eqFuelS_c0 .leaf s q) (canon b [0, 1, 5]) q st (fun e s => k e (canon b [4] s))
theorem laws_eqFuelS_l0_step {α : Type} (p n : Nat) (k : Ex → St → Option α) (v0 : List (Ty.T TFuel)) (v1 : List (Ty.T TFuel)) (q : Nat) (v2 : Int) : laws_eqFuelS_it0 p n 0 k (q + 1) (laws_eqFuelS_l0_sh.mk' (((v0, ()), (v1, ()), (v2, ()), ()), (()))) =
  laws_eqFuelS_l0_r p v0 v1 (fun v2 => laws_eqFuelS_it0 p n 0 k q (laws_eqFuelS_l0_sh.mk' (((v0, ()), (v1, ()), (v2, ()), ()), (())))) v2 (fun o0 => k .ret ⟨[(4, .one ⟨false, [.bool o0]⟩)], 0, []⟩) (fun _ => k (.exit 0) ⟨[], 0, []⟩) := by kernel_rfl
theorem laws_eqFuelS_l0_ok {α : Type} (p n : Nat) (k : Ex → St → Option α) (v0 : List (Ty.T TFuel)) (v1 : List (Ty.T TFuel)) : ∀ (q : Nat) (v2 : Int), laws_eqFuelS_it0 p n 0 k q (laws_eqFuelS_l0_sh.mk' (((v0, ()), (v1, ()), (v2, ()), ()), (()))) =
  laws_eqFuelS_l0_go p v0 v1 q v2 (fun o0 => k .ret ⟨[(4, .one ⟨false, [.bool o0]⟩)], 0, []⟩) (fun _ => k (.exit 0) ⟨[], 0, []⟩) := by
  intro q
  induction q with
  | zero => intros; rfl
  | succ q ih => intro v2; rw [laws_eqFuelS_l0_step]; simp only [ih]; rfl
theorem laws_eqFuelS_ltok_45_ls (p : Nat) : loopsOf (bodyOf Tryz.f45) (laws_eqFuelS_lt p) = [⟨laws_eqFuelS_c0, [0, 1, 5], [4], laws_eqFuelS_lc0 p, .leaf⟩] := by kernel_rfl
theorem laws_eqFuelS_ltok_45_dep (p : Nat) : LT.dep (laws_eqFuelS_lt p) = 0 := by kernel_rfl
theorem laws_eqFuelS_ltok_45 (p : Nat) : LTok Tryz.prog (laws_eqFuelS_G p) 5 45 (laws_eqFuelS_lt p) := by
  intro α n base fn c hd hfn hc
  have hfn' : some fn = some Tryz.f45 := hfn.symm.trans Tryz.func45
  cases hfn'
  have hc' : c = bodyOf Tryz.f45 := by unfold bodyOf; rw [hc]; rfl
  subst hc'
  rw [laws_eqFuelS_ltok_45_dep] at hd
  obtain ⟨n, rfl⟩ := Nat.exists_eq_add_of_le' hd
  apply LTS_of_loops
  rw [laws_eqFuelS_ltok_45_ls]
  intro e he st k r h
  simp only [List.mem_cons, List.not_mem_nil, or_false] at he
  subst he
  · obtain ⟨a, ha, hb, x, rfl, h⟩ := altRun_ok h
    simp only [List.mem_cons, List.not_mem_nil, or_false] at ha
    subst ha
    · cases hb; exact ⟨p, (laws_eqFuelS_l0_ok p n k _ _ p _).trans h⟩
theorem laws_eqFuelS_E (p : Nat) : EnvS Tryz.prog (laws_eqFuelS_G p) := by
  apply glist_env; intro f ce h
  simp only [List.mem_cons, List.not_mem_nil, or_false, Prod.mk.injEq] at h
  rcases h with ⟨rfl, rfl⟩
  · exact laws_eqFuel_s p
theorem laws_eqFuelS_I (p : Nat) : ∀ f lt, laws_eqFuelS_G p f = some (.inl lt) → LTok Tryz.prog (laws_eqFuelS_G p) 5 f lt := by
  apply glist_inl; intro f lt h
  simp only [List.mem_cons, List.not_mem_nil, or_false, Prod.mk.injEq, CE.inl.injEq, and_false, or_false, false_or, reduceCtorEq] at h
  
noncomputable def laws_eqFuelS_p (p : Nat) (a0 : (List (Ty.T TFuel))) (a1 : (List (Ty.T TFuel))) : Option (Bool × Unit) :=
  (bif ((a0.length : Int) != (a1.length : Int)) then some (false, ())
 else (laws_eqFuelS_l0_go p a0 a1 p (0 : Int) (fun o4 => some (o4, ())) (fun _ => some (true, ()))))
theorem laws_eqFuelS_run (p : Nat) (x : (parsT [.val (.slice TFuel), .val (.slice TFuel)]).T) : acall Tryz.prog (laws_eqFuelS_G p) 5 1 45 (laws_eqFuelS_lt p) (argAVs [.val (.slice TFuel), .val (.slice TFuel)] x) ⟨[], 0, []⟩ (outR [.bool]) = laws_eqFuelS_p p x.1 x.2.1 := by kernel_rfl
noncomputable def laws_eqFuelS_c (p : Nat) : PC := PC.fn true [.val (.slice TFuel), .val (.slice TFuel)] [.bool] fun x => laws_eqFuelS_p p x.1 x.2.1
theorem laws_eqFuelS_s (p : Nat) : PSound Tryz.prog 45 (laws_eqFuelS_c p) := pure_sound (laws_eqFuelS_E p) Tryz.checked.mixed (laws_eqFuelS_I p) (laws_eqFuelS_ltok_45 p) (fun _ => rfl) fun x y h => (laws_eqFuelS_run p x).trans h
/-! laws.eqRepair -/
noncomputable def laws_eqRepair_G (p : Nat) : FuncId → Option CE := glist []
theorem laws_eqRepair_E (p : Nat) : EnvS Tryz.prog (laws_eqRepair_G p) := by
  apply glist_env; intro f ce h
  simp only [List.mem_cons, List.not_mem_nil, or_false, Prod.mk.injEq] at h
  
theorem laws_eqRepair_I (p : Nat) : ∀ f lt, laws_eqRepair_G p f = some (.inl lt) → LTok Tryz.prog (laws_eqRepair_G p) 5 f lt := by
  apply glist_inl; intro f lt h
  simp only [List.mem_cons, List.not_mem_nil, or_false, Prod.mk.injEq, CE.inl.injEq, and_false, or_false, false_or, reduceCtorEq] at h
  
noncomputable def laws_eqRepair_p (p : Nat) (a0 : (Ty.T TFuel)) (a1 : (Ty.T TFuel)) : Option (Bool × Unit) :=
  (bif (!(a0.1.toList == a1.1.toList)) then some (false, ())
 else (bif (a0.2.1 != a1.2.1) then some (false, ())
 else (bif (a0.2.2.1 != a1.2.2.1) then some (false, ())
 else (bif (a0.2.2.2 != a1.2.2.2) then some (false, ())
 else some (true, ())))))
theorem laws_eqRepair_run (p : Nat) (x : (parsT [.val TFuel, .val TFuel]).T) : acall Tryz.prog (laws_eqRepair_G p) 5 1 95 .leaf (argAVs [.val TFuel, .val TFuel] x) ⟨[], 0, []⟩ (outR [.bool]) = laws_eqRepair_p p x.1 x.2.1 := by kernel_rfl
noncomputable def laws_eqRepair_c (p : Nat) : PC := PC.fn true [.val TFuel, .val TFuel] [.bool] fun x => laws_eqRepair_p p x.1 x.2.1
theorem laws_eqRepair_s (p : Nat) : PSound Tryz.prog 95 (laws_eqRepair_c p) := pure_sound (laws_eqRepair_E p) Tryz.checked.mixed (laws_eqRepair_I p) LTok_leaf (fun _ => rfl) fun x y h => (laws_eqRepair_run p x).trans h
/-! laws.eqRepairS -/
noncomputable def laws_eqRepairS_l0_r {α : Type} (p : Nat) (v0 : List (Ty.T TFuel)) (v1 : List (Ty.T TFuel)) (rec : (Int) → Option α) (v2 : Int) (k0 : (Bool) → Option α) (k1 : Unit → Option α) : Option α :=
  (bif (decide (v2 < (v0.length : Int))) then (if 0 ≤ v2 then (v0[v2.toNat]?).bind fun y1 => (if 0 ≤ v2 then (v1[v2.toNat]?).bind fun y2 => ((laws_eqRepair_p p y1 y2).bind fun r3 => (bif (!r3.1) then (k0 false)
 else (rec (IntKind.wrap .i64 (v2 + (1 : Int)))))) else none) else none)
 else (k1 ()))
noncomputable def laws_eqRepairS_l0_go {α : Type} (p : Nat) (v0 : List (Ty.T TFuel)) (v1 : List (Ty.T TFuel)) : Nat → (Int) → ((Bool) → Option α) → (Unit → Option α) → Option α
  | 0, _, _, _ => none
  | q + 1, v2, k0, k1 => laws_eqRepairS_l0_r p v0 v1 (fun v2 => laws_eqRepairS_l0_go p v0 v1 q v2 k0 k1) v2 k0 k1
def laws_eqRepairS_l0_sh : Sh := ⟨[⟨0, false, [.sl TFuel]⟩, ⟨1, false, [.sl TFuel]⟩, ⟨5, false, [.int .i64]⟩], 0, []⟩
noncomputable def laws_eqRepairS_lc0 (p : Nat) : LC := LC.alts 0 [⟨0, laws_eqRepairS_l0_sh, fun x {α} k => laws_eqRepairS_l0_go p x.1.1.1 x.1.2.1.1 p x.1.2.2.1.1 (fun o0 => k .ret ⟨[(4, .one ⟨false, [.bool o0]⟩)], 0, []⟩) (fun _ => k (.exit 0) ⟨[], 0, []⟩)⟩]
noncomputable def laws_eqRepairS_lt (p : Nat) : LT := (.node .leaf (.node .leaf (.node (.node .leaf (.loop [0, 1, 5] [4] (some (laws_eqRepairS_lc0 p)) .leaf)) .leaf)))
noncomputable def laws_eqRepairS_G (p : Nat) : FuncId → Option CE := glist [(95, .pure (laws_eqRepair_c p))]
noncomputable def laws_eqRepairS_c0 : Code := codeAt [1, 1, 0, 1, 0, 0] (bodyOf Tryz.f46)
noncomputable def laws_eqRepairS_it0 {α : Type} (p n b : Nat) (k : Ex → St → Option α) (q : Nat) (st : St) : Option α :=
  iter (fun s q => aexec Tryz.prog (laws_eqRepairS_G p) (fun g lt args st (k : D → St → Option α) => acall Tryz.prog (laws_eqRepairS_G p) 5 (n + 0) g lt args st k) 5 b 27 laws_eqRepairS_c0 .leaf s q) (canon b [0, 1, 5]) q st (fun e s => k e (canon b [4] s))
theorem laws_eqRepairS_l0_step {α : Type} (p n : Nat) (k : Ex → St → Option α) (v0 : List (Ty.T TFuel)) (v1 : List (Ty.T TFuel)) (q : Nat) (v2 : Int) : laws_eqRepairS_it0 p n 0 k (q + 1) (laws_eqRepairS_l0_sh.mk' (((v0, ()), (v1, ()), (v2, ()), ()), (()))) =
  laws_eqRepairS_l0_r p v0 v1 (fun v2 => laws_eqRepairS_it0 p n 0 k q (laws_eqRepairS_l0_sh.mk' (((v0, ()), (v1, ()), (v2, ()), ()), (())))) v2 (fun o0 => k .ret ⟨[(4, .one ⟨false, [.bool o0]⟩)], 0, []⟩) (fun _ => k (.exit 0) ⟨[], 0, []⟩) := by kernel_rfl
theorem laws_eqRepairS_l0_ok {α : Type} (p n : Nat) (k : Ex → St → Option α) (v0 : List (Ty.T TFuel)) (v1 : List (Ty.T TFuel)) : ∀ (q : Nat) (v2 : Int), laws_eqRepairS_it0 p n 0 k q (laws_eqRepairS_l0_sh.mk' (((v0, ()), (v1, ()), (v2, ()), ()), (()))) =
  laws_eqRepairS_l0_go p v0 v1 q v2 (fun o0 => k .ret ⟨[(4, .one ⟨false, [.bool o0]⟩)], 0, []⟩) (fun _ => k (.exit 0) ⟨[], 0, []⟩) := by
  intro q
  induction q with
  | zero => intros; rfl
  | succ q ih => intro v2; rw [laws_eqRepairS_l0_step]; simp only [ih]; rfl
theorem laws_eqRepairS_ltok_46_ls (p : Nat) : loopsOf (bodyOf Tryz.f46) (laws_eqRepairS_lt p) = [⟨laws_eqRepairS_c0, [0, 1, 5], [4], laws_eqRepairS_lc0 p, .leaf⟩] := by kernel_rfl
theorem laws_eqRepairS_ltok_46_dep (p : Nat) : LT.dep (laws_eqRepairS_lt p) = 0 := by kernel_rfl
theorem laws_eqRepairS_ltok_46 (p : Nat) : LTok Tryz.prog (laws_eqRepairS_G p) 5 46 (laws_eqRepairS_lt p) := by
  intro α n base fn c hd hfn hc
  have hfn' : some fn = some Tryz.f46 := hfn.symm.trans Tryz.func46
  cases hfn'
  have hc' : c = bodyOf Tryz.f46 := by unfold bodyOf; rw [hc]; rfl
  subst hc'
  rw [laws_eqRepairS_ltok_46_dep] at hd
  obtain ⟨n, rfl⟩ := Nat.exists_eq_add_of_le' hd
  apply LTS_of_loops
  rw [laws_eqRepairS_ltok_46_ls]
  intro e he st k r h
  simp only [List.mem_cons, List.not_mem_nil, or_false] at he
  subst he
  · obtain ⟨a, ha, hb, x, rfl, h⟩ := altRun_ok h
    simp only [List.mem_cons, List.not_mem_nil, or_false] at ha
    subst ha
    · cases hb; exact ⟨p, (laws_eqRepairS_l0_ok p n k _ _ p _).trans h⟩
theorem laws_eqRepairS_E (p : Nat) : EnvS Tryz.prog (laws_eqRepairS_G p) := by
  apply glist_env; intro f ce h
  simp only [List.mem_cons, List.not_mem_nil, or_false, Prod.mk.injEq] at h
  rcases h with ⟨rfl, rfl⟩
  · exact laws_eqRepair_s p
theorem laws_eqRepairS_I (p : Nat) : ∀ f lt, laws_eqRepairS_G p f = some (.inl lt) → LTok Tryz.prog (laws_eqRepairS_G p) 5 f lt := by
  apply glist_inl; intro f lt h
  simp only [List.mem_cons, List.not_mem_nil, or_false, Prod.mk.injEq, CE.inl.injEq, and_false, or_false, false_or, reduceCtorEq] at h
  
noncomputable def laws_eqRepairS_p (p : Nat) (a0 : (List (Ty.T TFuel))) (a1 : (List (Ty.T TFuel))) : Option (Bool × Unit) :=
  (bif ((a0.length : Int) != (a1.length : Int)) then some (false, ())
 else (laws_eqRepairS_l0_go p a0 a1 p (0 : Int) (fun o4 => some (o4, ())) (fun _ => some (true, ()))))
theorem laws_eqRepairS_run (p : Nat) (x : (parsT [.val (.slice TFuel), .val (.slice TFuel)]).T) : acall Tryz.prog (laws_eqRepairS_G p) 5 1 46 (laws_eqRepairS_lt p) (argAVs [.val (.slice TFuel), .val (.slice TFuel)] x) ⟨[], 0, []⟩ (outR [.bool]) = laws_eqRepairS_p p x.1 x.2.1 := by kernel_rfl
noncomputable def laws_eqRepairS_c (p : Nat) : PC := PC.fn true [.val (.slice TFuel), .val (.slice TFuel)] [.bool] fun x => laws_eqRepairS_p p x.1 x.2.1
theorem laws_eqRepairS_s (p : Nat) : PSound Tryz.prog 46 (laws_eqRepairS_c p) := pure_sound (laws_eqRepairS_E p) Tryz.checked.mixed (laws_eqRepairS_I p) (laws_eqRepairS_ltok_46 p) (fun _ => rfl) fun x y h => (laws_eqRepairS_run p x).trans h
/-! laws.eqTenant -/
noncomputable def laws_eqTenant_G (p : Nat) : FuncId → Option CE := glist []
theorem laws_eqTenant_E (p : Nat) : EnvS Tryz.prog (laws_eqTenant_G p) := by
  apply glist_env; intro f ce h
  simp only [List.mem_cons, List.not_mem_nil, or_false, Prod.mk.injEq] at h
  
theorem laws_eqTenant_I (p : Nat) : ∀ f lt, laws_eqTenant_G p f = some (.inl lt) → LTok Tryz.prog (laws_eqTenant_G p) 5 f lt := by
  apply glist_inl; intro f lt h
  simp only [List.mem_cons, List.not_mem_nil, or_false, Prod.mk.injEq, CE.inl.injEq, and_false, or_false, false_or, reduceCtorEq] at h
  
noncomputable def laws_eqTenant_p (p : Nat) (a0 : (Ty.T TTenant)) (a1 : (Ty.T TTenant)) : Option (Bool × Unit) :=
  (bif (!(a0.1.toList == a1.1.toList)) then some (false, ())
 else (bif (a0.2.1 != a1.2.1) then some (false, ())
 else (bif (a0.2.2 != a1.2.2) then some (false, ())
 else some (true, ()))))
theorem laws_eqTenant_run (p : Nat) (x : (parsT [.val TTenant, .val TTenant]).T) : acall Tryz.prog (laws_eqTenant_G p) 5 1 96 .leaf (argAVs [.val TTenant, .val TTenant] x) ⟨[], 0, []⟩ (outR [.bool]) = laws_eqTenant_p p x.1 x.2.1 := by kernel_rfl
noncomputable def laws_eqTenant_c (p : Nat) : PC := PC.fn true [.val TTenant, .val TTenant] [.bool] fun x => laws_eqTenant_p p x.1 x.2.1
theorem laws_eqTenant_s (p : Nat) : PSound Tryz.prog 96 (laws_eqTenant_c p) := pure_sound (laws_eqTenant_E p) Tryz.checked.mixed (laws_eqTenant_I p) LTok_leaf (fun _ => rfl) fun x y h => (laws_eqTenant_run p x).trans h
/-! laws.eqTenantS -/
noncomputable def laws_eqTenantS_l0_r {α : Type} (p : Nat) (v0 : List (Ty.T TTenant)) (v1 : List (Ty.T TTenant)) (rec : (Int) → Option α) (v2 : Int) (k0 : (Bool) → Option α) (k1 : Unit → Option α) : Option α :=
  (bif (decide (v2 < (v0.length : Int))) then (if 0 ≤ v2 then (v0[v2.toNat]?).bind fun y1 => (if 0 ≤ v2 then (v1[v2.toNat]?).bind fun y2 => ((laws_eqTenant_p p y1 y2).bind fun r3 => (bif (!r3.1) then (k0 false)
 else (rec (IntKind.wrap .i64 (v2 + (1 : Int)))))) else none) else none)
 else (k1 ()))
noncomputable def laws_eqTenantS_l0_go {α : Type} (p : Nat) (v0 : List (Ty.T TTenant)) (v1 : List (Ty.T TTenant)) : Nat → (Int) → ((Bool) → Option α) → (Unit → Option α) → Option α
  | 0, _, _, _ => none
  | q + 1, v2, k0, k1 => laws_eqTenantS_l0_r p v0 v1 (fun v2 => laws_eqTenantS_l0_go p v0 v1 q v2 k0 k1) v2 k0 k1
def laws_eqTenantS_l0_sh : Sh := ⟨[⟨0, false, [.sl TTenant]⟩, ⟨1, false, [.sl TTenant]⟩, ⟨5, false, [.int .i64]⟩], 0, []⟩
noncomputable def laws_eqTenantS_lc0 (p : Nat) : LC := LC.alts 0 [⟨0, laws_eqTenantS_l0_sh, fun x {α} k => laws_eqTenantS_l0_go p x.1.1.1 x.1.2.1.1 p x.1.2.2.1.1 (fun o0 => k .ret ⟨[(4, .one ⟨false, [.bool o0]⟩)], 0, []⟩) (fun _ => k (.exit 0) ⟨[], 0, []⟩)⟩]
noncomputable def laws_eqTenantS_lt (p : Nat) : LT := (.node .leaf (.node .leaf (.node (.node .leaf (.loop [0, 1, 5] [4] (some (laws_eqTenantS_lc0 p)) .leaf)) .leaf)))
noncomputable def laws_eqTenantS_G (p : Nat) : FuncId → Option CE := glist [(96, .pure (laws_eqTenant_c p))]
noncomputable def laws_eqTenantS_c0 : Code := codeAt [1, 1, 0, 1, 0, 0] (bodyOf Tryz.f47)
noncomputable def laws_eqTenantS_it0 {α : Type} (p n b : Nat) (k : Ex → St → Option α) (q : Nat) (st : St) : Option α :=
  iter (fun s q => aexec Tryz.prog (laws_eqTenantS_G p) (fun g lt args st (k : D → St → Option α) => acall Tryz.prog (laws_eqTenantS_G p) 5 (n + 0) g lt args st k) 5 b 27 laws_eqTenantS_c0 .leaf s q) (canon b [0, 1, 5]) q st (fun e s => k e (canon b [4] s))
theorem laws_eqTenantS_l0_step {α : Type} (p n : Nat) (k : Ex → St → Option α) (v0 : List (Ty.T TTenant)) (v1 : List (Ty.T TTenant)) (q : Nat) (v2 : Int) : laws_eqTenantS_it0 p n 0 k (q + 1) (laws_eqTenantS_l0_sh.mk' (((v0, ()), (v1, ()), (v2, ()), ()), (()))) =
  laws_eqTenantS_l0_r p v0 v1 (fun v2 => laws_eqTenantS_it0 p n 0 k q (laws_eqTenantS_l0_sh.mk' (((v0, ()), (v1, ()), (v2, ()), ()), (())))) v2 (fun o0 => k .ret ⟨[(4, .one ⟨false, [.bool o0]⟩)], 0, []⟩) (fun _ => k (.exit 0) ⟨[], 0, []⟩) := by kernel_rfl
theorem laws_eqTenantS_l0_ok {α : Type} (p n : Nat) (k : Ex → St → Option α) (v0 : List (Ty.T TTenant)) (v1 : List (Ty.T TTenant)) : ∀ (q : Nat) (v2 : Int), laws_eqTenantS_it0 p n 0 k q (laws_eqTenantS_l0_sh.mk' (((v0, ()), (v1, ()), (v2, ()), ()), (()))) =
  laws_eqTenantS_l0_go p v0 v1 q v2 (fun o0 => k .ret ⟨[(4, .one ⟨false, [.bool o0]⟩)], 0, []⟩) (fun _ => k (.exit 0) ⟨[], 0, []⟩) := by
  intro q
  induction q with
  | zero => intros; rfl
  | succ q ih => intro v2; rw [laws_eqTenantS_l0_step]; simp only [ih]; rfl
theorem laws_eqTenantS_ltok_47_ls (p : Nat) : loopsOf (bodyOf Tryz.f47) (laws_eqTenantS_lt p) = [⟨laws_eqTenantS_c0, [0, 1, 5], [4], laws_eqTenantS_lc0 p, .leaf⟩] := by kernel_rfl
theorem laws_eqTenantS_ltok_47_dep (p : Nat) : LT.dep (laws_eqTenantS_lt p) = 0 := by kernel_rfl
theorem laws_eqTenantS_ltok_47 (p : Nat) : LTok Tryz.prog (laws_eqTenantS_G p) 5 47 (laws_eqTenantS_lt p) := by
  intro α n base fn c hd hfn hc
  have hfn' : some fn = some Tryz.f47 := hfn.symm.trans Tryz.func47
  cases hfn'
  have hc' : c = bodyOf Tryz.f47 := by unfold bodyOf; rw [hc]; rfl
  subst hc'
  rw [laws_eqTenantS_ltok_47_dep] at hd
  obtain ⟨n, rfl⟩ := Nat.exists_eq_add_of_le' hd
  apply LTS_of_loops
  rw [laws_eqTenantS_ltok_47_ls]
  intro e he st k r h
  simp only [List.mem_cons, List.not_mem_nil, or_false] at he
  subst he
  · obtain ⟨a, ha, hb, x, rfl, h⟩ := altRun_ok h
    simp only [List.mem_cons, List.not_mem_nil, or_false] at ha
    subst ha
    · cases hb; exact ⟨p, (laws_eqTenantS_l0_ok p n k _ _ p _).trans h⟩
theorem laws_eqTenantS_E (p : Nat) : EnvS Tryz.prog (laws_eqTenantS_G p) := by
  apply glist_env; intro f ce h
  simp only [List.mem_cons, List.not_mem_nil, or_false, Prod.mk.injEq] at h
  rcases h with ⟨rfl, rfl⟩
  · exact laws_eqTenant_s p
theorem laws_eqTenantS_I (p : Nat) : ∀ f lt, laws_eqTenantS_G p f = some (.inl lt) → LTok Tryz.prog (laws_eqTenantS_G p) 5 f lt := by
  apply glist_inl; intro f lt h
  simp only [List.mem_cons, List.not_mem_nil, or_false, Prod.mk.injEq, CE.inl.injEq, and_false, or_false, false_or, reduceCtorEq] at h
  
noncomputable def laws_eqTenantS_p (p : Nat) (a0 : (List (Ty.T TTenant))) (a1 : (List (Ty.T TTenant))) : Option (Bool × Unit) :=
  (bif ((a0.length : Int) != (a1.length : Int)) then some (false, ())
 else (laws_eqTenantS_l0_go p a0 a1 p (0 : Int) (fun o4 => some (o4, ())) (fun _ => some (true, ()))))
theorem laws_eqTenantS_run (p : Nat) (x : (parsT [.val (.slice TTenant), .val (.slice TTenant)]).T) : acall Tryz.prog (laws_eqTenantS_G p) 5 1 47 (laws_eqTenantS_lt p) (argAVs [.val (.slice TTenant), .val (.slice TTenant)] x) ⟨[], 0, []⟩ (outR [.bool]) = laws_eqTenantS_p p x.1 x.2.1 := by kernel_rfl
noncomputable def laws_eqTenantS_c (p : Nat) : PC := PC.fn true [.val (.slice TTenant), .val (.slice TTenant)] [.bool] fun x => laws_eqTenantS_p p x.1 x.2.1
theorem laws_eqTenantS_s (p : Nat) : PSound Tryz.prog 47 (laws_eqTenantS_c p) := pure_sound (laws_eqTenantS_E p) Tryz.checked.mixed (laws_eqTenantS_I p) (laws_eqTenantS_ltok_47 p) (fun _ => rfl) fun x y h => (laws_eqTenantS_run p x).trans h
/-! laws.eqDuty -/
noncomputable def laws_eqDuty_G (p : Nat) : FuncId → Option CE := glist []
theorem laws_eqDuty_E (p : Nat) : EnvS Tryz.prog (laws_eqDuty_G p) := by
  apply glist_env; intro f ce h
  simp only [List.mem_cons, List.not_mem_nil, or_false, Prod.mk.injEq] at h
  
theorem laws_eqDuty_I (p : Nat) : ∀ f lt, laws_eqDuty_G p f = some (.inl lt) → LTok Tryz.prog (laws_eqDuty_G p) 5 f lt := by
  apply glist_inl; intro f lt h
  simp only [List.mem_cons, List.not_mem_nil, or_false, Prod.mk.injEq, CE.inl.injEq, and_false, or_false, false_or, reduceCtorEq] at h
  
noncomputable def laws_eqDuty_p (p : Nat) (a0 : (Ty.T TDuty)) (a1 : (Ty.T TDuty)) : Option (Bool × Unit) :=
  (bif (!(a0.1.toList == a1.1.toList)) then some (false, ())
 else (bif (a0.2.1 != a1.2.1) then some (false, ())
 else (bif (a0.2.2.1 != a1.2.2.1) then some (false, ())
 else (bif (!(a0.2.2.2 == a1.2.2.2)) then some (false, ())
 else some (true, ())))))
theorem laws_eqDuty_run (p : Nat) (x : (parsT [.val TDuty, .val TDuty]).T) : acall Tryz.prog (laws_eqDuty_G p) 5 1 97 .leaf (argAVs [.val TDuty, .val TDuty] x) ⟨[], 0, []⟩ (outR [.bool]) = laws_eqDuty_p p x.1 x.2.1 := by kernel_rfl
noncomputable def laws_eqDuty_c (p : Nat) : PC := PC.fn true [.val TDuty, .val TDuty] [.bool] fun x => laws_eqDuty_p p x.1 x.2.1
theorem laws_eqDuty_s (p : Nat) : PSound Tryz.prog 97 (laws_eqDuty_c p) := pure_sound (laws_eqDuty_E p) Tryz.checked.mixed (laws_eqDuty_I p) LTok_leaf (fun _ => rfl) fun x y h => (laws_eqDuty_run p x).trans h
/-! laws.eqDutyS -/
noncomputable def laws_eqDutyS_l0_r {α : Type} (p : Nat) (v0 : List (Ty.T TDuty)) (v1 : List (Ty.T TDuty)) (rec : (Int) → Option α) (v2 : Int) (k0 : (Bool) → Option α) (k1 : Unit → Option α) : Option α :=
  (bif (decide (v2 < (v0.length : Int))) then (if 0 ≤ v2 then (v0[v2.toNat]?).bind fun y1 => (if 0 ≤ v2 then (v1[v2.toNat]?).bind fun y2 => ((laws_eqDuty_p p y1 y2).bind fun r3 => (bif (!r3.1) then (k0 false)
 else (rec (IntKind.wrap .i64 (v2 + (1 : Int)))))) else none) else none)
 else (k1 ()))
noncomputable def laws_eqDutyS_l0_go {α : Type} (p : Nat) (v0 : List (Ty.T TDuty)) (v1 : List (Ty.T TDuty)) : Nat → (Int) → ((Bool) → Option α) → (Unit → Option α) → Option α
  | 0, _, _, _ => none
  | q + 1, v2, k0, k1 => laws_eqDutyS_l0_r p v0 v1 (fun v2 => laws_eqDutyS_l0_go p v0 v1 q v2 k0 k1) v2 k0 k1
def laws_eqDutyS_l0_sh : Sh := ⟨[⟨0, false, [.sl TDuty]⟩, ⟨1, false, [.sl TDuty]⟩, ⟨5, false, [.int .i64]⟩], 0, []⟩
noncomputable def laws_eqDutyS_lc0 (p : Nat) : LC := LC.alts 0 [⟨0, laws_eqDutyS_l0_sh, fun x {α} k => laws_eqDutyS_l0_go p x.1.1.1 x.1.2.1.1 p x.1.2.2.1.1 (fun o0 => k .ret ⟨[(4, .one ⟨false, [.bool o0]⟩)], 0, []⟩) (fun _ => k (.exit 0) ⟨[], 0, []⟩)⟩]
noncomputable def laws_eqDutyS_lt (p : Nat) : LT := (.node .leaf (.node .leaf (.node (.node .leaf (.loop [0, 1, 5] [4] (some (laws_eqDutyS_lc0 p)) .leaf)) .leaf)))
noncomputable def laws_eqDutyS_G (p : Nat) : FuncId → Option CE := glist [(97, .pure (laws_eqDuty_c p))]
noncomputable def laws_eqDutyS_c0 : Code := codeAt [1, 1, 0, 1, 0, 0] (bodyOf Tryz.f48)
noncomputable def laws_eqDutyS_it0 {α : Type} (p n b : Nat) (k : Ex → St → Option α) (q : Nat) (st : St) : Option α :=
  iter (fun s q => aexec Tryz.prog (laws_eqDutyS_G p) (fun g lt args st (k : D → St → Option α) => acall Tryz.prog (laws_eqDutyS_G p) 5 (n + 0) g lt args st k) 5 b 27 laws_eqDutyS_c0 .leaf s q) (canon b [0, 1, 5]) q st (fun e s => k e (canon b [4] s))
theorem laws_eqDutyS_l0_step {α : Type} (p n : Nat) (k : Ex → St → Option α) (v0 : List (Ty.T TDuty)) (v1 : List (Ty.T TDuty)) (q : Nat) (v2 : Int) : laws_eqDutyS_it0 p n 0 k (q + 1) (laws_eqDutyS_l0_sh.mk' (((v0, ()), (v1, ()), (v2, ()), ()), (()))) =
  laws_eqDutyS_l0_r p v0 v1 (fun v2 => laws_eqDutyS_it0 p n 0 k q (laws_eqDutyS_l0_sh.mk' (((v0, ()), (v1, ()), (v2, ()), ()), (())))) v2 (fun o0 => k .ret ⟨[(4, .one ⟨false, [.bool o0]⟩)], 0, []⟩) (fun _ => k (.exit 0) ⟨[], 0, []⟩) := by kernel_rfl
theorem laws_eqDutyS_l0_ok {α : Type} (p n : Nat) (k : Ex → St → Option α) (v0 : List (Ty.T TDuty)) (v1 : List (Ty.T TDuty)) : ∀ (q : Nat) (v2 : Int), laws_eqDutyS_it0 p n 0 k q (laws_eqDutyS_l0_sh.mk' (((v0, ()), (v1, ()), (v2, ()), ()), (()))) =
  laws_eqDutyS_l0_go p v0 v1 q v2 (fun o0 => k .ret ⟨[(4, .one ⟨false, [.bool o0]⟩)], 0, []⟩) (fun _ => k (.exit 0) ⟨[], 0, []⟩) := by
  intro q
  induction q with
  | zero => intros; rfl
  | succ q ih => intro v2; rw [laws_eqDutyS_l0_step]; simp only [ih]; rfl
theorem laws_eqDutyS_ltok_48_ls (p : Nat) : loopsOf (bodyOf Tryz.f48) (laws_eqDutyS_lt p) = [⟨laws_eqDutyS_c0, [0, 1, 5], [4], laws_eqDutyS_lc0 p, .leaf⟩] := by kernel_rfl
theorem laws_eqDutyS_ltok_48_dep (p : Nat) : LT.dep (laws_eqDutyS_lt p) = 0 := by kernel_rfl
theorem laws_eqDutyS_ltok_48 (p : Nat) : LTok Tryz.prog (laws_eqDutyS_G p) 5 48 (laws_eqDutyS_lt p) := by
  intro α n base fn c hd hfn hc
  have hfn' : some fn = some Tryz.f48 := hfn.symm.trans Tryz.func48
  cases hfn'
  have hc' : c = bodyOf Tryz.f48 := by unfold bodyOf; rw [hc]; rfl
  subst hc'
  rw [laws_eqDutyS_ltok_48_dep] at hd
  obtain ⟨n, rfl⟩ := Nat.exists_eq_add_of_le' hd
  apply LTS_of_loops
  rw [laws_eqDutyS_ltok_48_ls]
  intro e he st k r h
  simp only [List.mem_cons, List.not_mem_nil, or_false] at he
  subst he
  · obtain ⟨a, ha, hb, x, rfl, h⟩ := altRun_ok h
    simp only [List.mem_cons, List.not_mem_nil, or_false] at ha
    subst ha
    · cases hb; exact ⟨p, (laws_eqDutyS_l0_ok p n k _ _ p _).trans h⟩
theorem laws_eqDutyS_E (p : Nat) : EnvS Tryz.prog (laws_eqDutyS_G p) := by
  apply glist_env; intro f ce h
  simp only [List.mem_cons, List.not_mem_nil, or_false, Prod.mk.injEq] at h
  rcases h with ⟨rfl, rfl⟩
  · exact laws_eqDuty_s p
theorem laws_eqDutyS_I (p : Nat) : ∀ f lt, laws_eqDutyS_G p f = some (.inl lt) → LTok Tryz.prog (laws_eqDutyS_G p) 5 f lt := by
  apply glist_inl; intro f lt h
  simp only [List.mem_cons, List.not_mem_nil, or_false, Prod.mk.injEq, CE.inl.injEq, and_false, or_false, false_or, reduceCtorEq] at h
  
noncomputable def laws_eqDutyS_p (p : Nat) (a0 : (List (Ty.T TDuty))) (a1 : (List (Ty.T TDuty))) : Option (Bool × Unit) :=
  (bif ((a0.length : Int) != (a1.length : Int)) then some (false, ())
 else (laws_eqDutyS_l0_go p a0 a1 p (0 : Int) (fun o4 => some (o4, ())) (fun _ => some (true, ()))))
theorem laws_eqDutyS_run (p : Nat) (x : (parsT [.val (.slice TDuty), .val (.slice TDuty)]).T) : acall Tryz.prog (laws_eqDutyS_G p) 5 1 48 (laws_eqDutyS_lt p) (argAVs [.val (.slice TDuty), .val (.slice TDuty)] x) ⟨[], 0, []⟩ (outR [.bool]) = laws_eqDutyS_p p x.1 x.2.1 := by kernel_rfl
noncomputable def laws_eqDutyS_c (p : Nat) : PC := PC.fn true [.val (.slice TDuty), .val (.slice TDuty)] [.bool] fun x => laws_eqDutyS_p p x.1 x.2.1
theorem laws_eqDutyS_s (p : Nat) : PSound Tryz.prog 48 (laws_eqDutyS_c p) := pure_sound (laws_eqDutyS_E p) Tryz.checked.mixed (laws_eqDutyS_I p) (laws_eqDutyS_ltok_48 p) (fun _ => rfl) fun x y h => (laws_eqDutyS_run p x).trans h
/-! laws.eqDesk -/
noncomputable def laws_eqDesk_G (p : Nat) : FuncId → Option CE := glist [(39, .pure (laws_eqNetwork_c p)), (40, .pure (laws_eqInt64S_c p)), (41, .pure (laws_eqValveS_c p)), (42, .pure (laws_eqPumpS_c p)), (43, .pure (laws_eqSubstationS_c p)), (44, .pure (laws_eqTank_c p)), (45, .pure (laws_eqFuelS_c p)), (46, .pure (laws_eqRepairS_c p)), (47, .pure (laws_eqTenantS_c p)), (48, .pure (laws_eqDutyS_c p))]
theorem laws_eqDesk_E (p : Nat) : EnvS Tryz.prog (laws_eqDesk_G p) := by
  apply glist_env; intro f ce h
  simp only [List.mem_cons, List.not_mem_nil, or_false, Prod.mk.injEq] at h
  rcases h with ⟨rfl, rfl⟩ | ⟨rfl, rfl⟩ | ⟨rfl, rfl⟩ | ⟨rfl, rfl⟩ | ⟨rfl, rfl⟩ | ⟨rfl, rfl⟩ | ⟨rfl, rfl⟩ | ⟨rfl, rfl⟩ | ⟨rfl, rfl⟩ | ⟨rfl, rfl⟩
  · exact laws_eqNetwork_s p
  · exact laws_eqInt64S_s p
  · exact laws_eqValveS_s p
  · exact laws_eqPumpS_s p
  · exact laws_eqSubstationS_s p
  · exact laws_eqTank_s p
  · exact laws_eqFuelS_s p
  · exact laws_eqRepairS_s p
  · exact laws_eqTenantS_s p
  · exact laws_eqDutyS_s p
theorem laws_eqDesk_I (p : Nat) : ∀ f lt, laws_eqDesk_G p f = some (.inl lt) → LTok Tryz.prog (laws_eqDesk_G p) 5 f lt := by
  apply glist_inl; intro f lt h
  simp only [List.mem_cons, List.not_mem_nil, or_false, Prod.mk.injEq, CE.inl.injEq, and_false, or_false, false_or, reduceCtorEq] at h
  
noncomputable def laws_eqDesk_p (p : Nat) (a0 : (Ty.T TDesk)) (a1 : (Ty.T TDesk)) : Option (Bool × Unit) :=
  ((laws_eqNetwork_p p a0.1 a1.1).bind fun r1 => (bif (!r1.1) then some (false, ())
 else ((laws_eqInt64S_p p a0.2.1 a1.2.1).bind fun r2 => (bif (!r2.1) then some (false, ())
 else ((laws_eqValveS_p p a0.2.2.1 a1.2.2.1).bind fun r3 => (bif (!r3.1) then some (false, ())
 else ((laws_eqPumpS_p p a0.2.2.2.1 a1.2.2.2.1).bind fun r4 => (bif (!r4.1) then some (false, ())
 else ((laws_eqSubstationS_p p a0.2.2.2.2.1 a1.2.2.2.2.1).bind fun r5 => (bif (!r5.1) then some (false, ())
 else ((laws_eqTank_p p a0.2.2.2.2.2.1 a1.2.2.2.2.2.1).bind fun r6 => (bif (!r6.1) then some (false, ())
 else ((laws_eqFuelS_p p a0.2.2.2.2.2.2.1 a1.2.2.2.2.2.2.1).bind fun r7 => (bif (!r7.1) then some (false, ())
 else ((laws_eqRepairS_p p a0.2.2.2.2.2.2.2.1 a1.2.2.2.2.2.2.2.1).bind fun r8 => (bif (!r8.1) then some (false, ())
 else ((laws_eqTenantS_p p a0.2.2.2.2.2.2.2.2.1 a1.2.2.2.2.2.2.2.2.1).bind fun r9 => (bif (!r9.1) then some (false, ())
 else ((laws_eqDutyS_p p a0.2.2.2.2.2.2.2.2.2 a1.2.2.2.2.2.2.2.2.2).bind fun r10 => (bif (!r10.1) then some (false, ())
 else some (true, ())))))))))))))))))))))
theorem laws_eqDesk_run (p : Nat) (x : (parsT [.val TDesk, .val TDesk]).T) : acall Tryz.prog (laws_eqDesk_G p) 5 1 8 .leaf (argAVs [.val TDesk, .val TDesk] x) ⟨[], 0, []⟩ (outR [.bool]) = laws_eqDesk_p p x.1 x.2.1 := by kernel_rfl
noncomputable def laws_eqDesk_c (p : Nat) : PC := PC.fn true [.val TDesk, .val TDesk] [.bool] fun x => laws_eqDesk_p p x.1 x.2.1
theorem laws_eqDesk_s (p : Nat) : PSound Tryz.prog 8 (laws_eqDesk_c p) := pure_sound (laws_eqDesk_E p) Tryz.checked.mixed (laws_eqDesk_I p) LTok_leaf (fun _ => rfl) fun x y h => (laws_eqDesk_run p x).trans h
/-! laws.FnExactValidDesk -/
noncomputable def laws_FnExactValidDesk_G (p : Nat) : FuncId → Option CE := glist [(4, .pure (laws_szDesk_c p)), (5, .pure (spec_ValidDesk_c p)), (6, .pure (laws_toDesk_c p)), (7, .pure (impl_ValidDesk_c p)), (8, .pure (laws_eqDesk_c p))]
theorem laws_FnExactValidDesk_E (p : Nat) : EnvS Tryz.prog (laws_FnExactValidDesk_G p) := by
  apply glist_env; intro f ce h
  simp only [List.mem_cons, List.not_mem_nil, or_false, Prod.mk.injEq] at h
  rcases h with ⟨rfl, rfl⟩ | ⟨rfl, rfl⟩ | ⟨rfl, rfl⟩ | ⟨rfl, rfl⟩ | ⟨rfl, rfl⟩
  · exact laws_szDesk_s p
  · exact spec_ValidDesk_s p
  · exact laws_toDesk_s p
  · exact impl_ValidDesk_s p
  · exact laws_eqDesk_s p
theorem laws_FnExactValidDesk_I (p : Nat) : ∀ f lt, laws_FnExactValidDesk_G p f = some (.inl lt) → LTok Tryz.prog (laws_FnExactValidDesk_G p) 5 f lt := by
  apply glist_inl; intro f lt h
  simp only [List.mem_cons, List.not_mem_nil, or_false, Prod.mk.injEq, CE.inl.injEq, and_false, or_false, false_or, reduceCtorEq] at h
  
noncomputable def laws_FnExactValidDesk_p (p : Nat) (a0 : (Ty.T TDesk)) : Option Bool :=
  ((laws_szDesk_p p a0 (1048576 : Int)).bind fun r1 => (bif (decide (r1.1 < (0 : Int))) then some true
 else ((laws_toDesk_p p a0).bind fun r2 => ((spec_ValidDesk_p p r2.1).bind fun r3 => ((laws_toDesk_p p a0).bind fun r4 => ((impl_ValidDesk_p p r4.1).bind fun r5 => (bif (!(r5.1 == r3.1)) then some false
 else ((laws_toDesk_p p a0).bind fun r6 => ((laws_eqDesk_p p r4.1 r6.1).bind fun r7 => (bif (!r7.1) then some false
 else some true))))))))))
theorem laws_FnExactValidDesk_run (p : Nat) (a0 : (Ty.T TDesk)) : acall Tryz.prog (laws_FnExactValidDesk_G p) 5 1 3 .leaf (avs [TDesk] (a0, ())) ⟨[], 0, []⟩ outB = laws_FnExactValidDesk_p p a0 := by kernel_rfl
theorem laws_FnExactValidDesk_tok (p : Nat) : LTok Tryz.prog (laws_FnExactValidDesk_G p) 5 3 .leaf := LTok_leaf
theorem laws_FnExactValidDesk_calls {p : Nat} (a0 : (Ty.T TDesk)) {us : List Value} {w : World} (hv : VsRel (Cx.old w) (avs [TDesk] (a0, ())) us) (h : laws_FnExactValidDesk_p p a0 = some true) :
    Calls Tryz.prog 3 us.toArray w fun e w' => e = .returned (.bool true) ∧ Below w.heap.size w w' :=
  law_calls (laws_FnExactValidDesk_E p) Tryz.checked.mixed (laws_FnExactValidDesk_I p) (laws_FnExactValidDesk_tok p) hv ((laws_FnExactValidDesk_run p a0).trans h)
end Go.Proofs.YtgmcefnlcalagaaGreat.W
