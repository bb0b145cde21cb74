/- The walk of functions of the program: typed texts, loops, runs, contracts; printed by walk.py. No condition. -/
import Derived.Test.YtekplllopcmooaaAm31
import Derived.Test.YtekplllopcmooaaProg
import Derived.Test.YtekplllopcmooaaChecked
import Derived.Test.YtekplllopcmooaaWSame2
namespace Go.Proofs.Ytekplllopcmooaa.W
open Go Go.RowKit Go.Proofs.Ytekplllopcmooaa.AM
set_option maxRecDepth 100000
set_option linter.unusedVariables false
set_option linter.unusedSimpArgs false
/-! laws.eqRepairS -/
noncomputable def laws_eqRepairS_l0_r {α : Type} (p : Nat) (v0 : List (Ty.T TFuel)) (v1 : List (Ty.T TFuel)) (rec : (Int) → Option α) (v2 : Int) (k0 : (Bool) → Option α) (k1 : Unit → Option α) : Option α :=
  (bif (decide (v2 < (v0.length : Int))) then (if 0 ≤ v2 then (v0[v2.toNat]?).bind fun y1 => (if 0 ≤ v2 then (v1[v2.toNat]?).bind fun y2 => ((laws_eqRepair_p p y1 y2).bind fun r3 => (bif (!r3.1) then (k0 false)
 else (rec (IntKind.wrap .i64 (v2 + (1 : Int)))))) else none) else none)
 else (k1 ()))
noncomputable def laws_eqRepairS_l0_go {α : Type} (p : Nat) (v0 : List (Ty.T TFuel)) (v1 : List (Ty.T TFuel)) : Nat → (Int) → ((Bool) → Option α) → (Unit → Option α) → Option α
  | 0, _, _, _ => none
  | q + 1, v2, k0, k1 => laws_eqRepairS_l0_r p v0 v1 (fun v2 => laws_eqRepairS_l0_go p v0 v1 q v2 k0 k1) v2 k0 k1
def laws_eqRepairS_l0_sh : Sh := ⟨[⟨0, false, [.sl TFuel]⟩, ⟨1, false, [.sl TFuel]⟩, ⟨5, false, [.int .i64]⟩], 0, []⟩
noncomputable def laws_eqRepairS_lc0 (p : Nat) : LC := LC.alts 0 [⟨0, laws_eqRepairS_l0_sh, fun x {α} k => laws_eqRepairS_l0_go p x.1.1.1 x.1.2.1.1 p x.1.2.2.1.1 (fun o0 => k .ret ⟨[(4, .one ⟨false, [.bool o0]⟩)], 0, []⟩) (fun _ => k (.exit 0) ⟨[], 0, []⟩)⟩]
noncomputable def laws_eqRepairS_lt (p : Nat) : LT := (.node .leaf (.node .leaf (.node (.node .leaf (.loop [0, 1, 5] [4] (some (laws_eqRepairS_lc0 p)) .leaf)) .leaf)))
noncomputable def laws_eqRepairS_G (p : Nat) : FuncId → Option CE := glist [(80, .pure (laws_eqRepair_c p))]
noncomputable def laws_eqRepairS_c0 : Code := codeAt [1, 1, 0, 1, 0, 0] (bodyOf Try.f22)
noncomputable def laws_eqRepairS_it0 {α : Type} (p n b : Nat) (k : Ex → St → Option α) (q : Nat) (st : St) : Option α :=
  iter (fun s q => aexec Try.prog (laws_eqRepairS_G p) (fun g lt args st (k : D → St → Option α) => acall Try.prog (laws_eqRepairS_G p) 5 (n + 0) g lt args st k) 5 b 27 laws_eqRepairS_c0 .leaf s q) (canon b [0, 1, 5]) q st (fun e s => k e (canon b [4] s))
theorem laws_eqRepairS_l0_step {α : Type} (p n : Nat) (k : Ex → St → Option α) (v0 : List (Ty.T TFuel)) (v1 : List (Ty.T TFuel)) (q : Nat) (v2 : Int) : laws_eqRepairS_it0 p n 0 k (q + 1) (laws_eqRepairS_l0_sh.mk' (((v0, ()), (v1, ()), (v2, ()), ()), (()))) =
  laws_eqRepairS_l0_r p v0 v1 (fun v2 => laws_eqRepairS_it0 p n 0 k q (laws_eqRepairS_l0_sh.mk' (((v0, ()), (v1, ()), (v2, ()), ()), (())))) v2 (fun o0 => k .ret ⟨[(4, .one ⟨false, [.bool o0]⟩)], 0, []⟩) (fun _ => k (.exit 0) ⟨[], 0, []⟩) := by kernel_rfl
theorem laws_eqRepairS_l0_ok {α : Type} (p n : Nat) (k : Ex → St → Option α) (v0 : List (Ty.T TFuel)) (v1 : List (Ty.T TFuel)) : ∀ (q : Nat) (v2 : Int), laws_eqRepairS_it0 p n 0 k q (laws_eqRepairS_l0_sh.mk' (((v0, ()), (v1, ()), (v2, ()), ()), (()))) =
  laws_eqRepairS_l0_go p v0 v1 q v2 (fun o0 => k .ret ⟨[(4, .one ⟨false, [.bool o0]⟩)], 0, []⟩) (fun _ => k (.exit 0) ⟨[], 0, []⟩) := by
  intro q
  induction q with
  | zero => intros; rfl
  | succ q ih => intro v2; rw [laws_eqRepairS_l0_step]; simp only [ih]; rfl
theorem laws_eqRepairS_ltok_22_ls (p : Nat) : loopsOf (bodyOf Try.f22) (laws_eqRepairS_lt p) = [⟨laws_eqRepairS_c0, [0, 1, 5], [4], laws_eqRepairS_lc0 p, .leaf⟩] := by kernel_rfl
theorem laws_eqRepairS_ltok_22_dep (p : Nat) : LT.dep (laws_eqRepairS_lt p) = 0 := by kernel_rfl
theorem laws_eqRepairS_ltok_22 (p : Nat) : LTok Try.prog (laws_eqRepairS_G p) 5 22 (laws_eqRepairS_lt p) := by
  intro α n base fn c hd hfn hc
  have hfn' : some fn = some Try.f22 := hfn.symm.trans Try.func22
  cases hfn'
  have hc' : c = bodyOf Try.f22 := by unfold bodyOf; rw [hc]; rfl
  subst hc'
  rw [laws_eqRepairS_ltok_22_dep] at hd
  obtain ⟨n, rfl⟩ := Nat.exists_eq_add_of_le' hd
  apply LTS_of_loops
  rw [laws_eqRepairS_ltok_22_ls]
  intro e he st k r h
  simp only [List.mem_cons, List.not_mem_nil, or_false] at he
  subst he
  · obtain ⟨a, ha, hb, x, rfl, h⟩ := altRun_ok h
    simp only [List.mem_cons, List.not_mem_nil, or_false] at ha
    subst ha
    · cases hb; exact ⟨p, (laws_eqRepairS_l0_ok p n k _ _ p _).trans h⟩
theorem laws_eqRepairS_E (p : Nat) : EnvS Try.prog (laws_eqRepairS_G p) := by
  apply glist_env; intro f ce h
  simp only [List.mem_cons, List.not_mem_nil, or_false, Prod.mk.injEq] at h
  rcases h with ⟨rfl, rfl⟩
  · exact laws_eqRepair_s p
theorem laws_eqRepairS_I (p : Nat) : ∀ f lt, laws_eqRepairS_G p f = some (.inl lt) → LTok Try.prog (laws_eqRepairS_G p) 5 f lt := by
  apply glist_inl; intro f lt h
  simp only [List.mem_cons, List.not_mem_nil, or_false, Prod.mk.injEq, CE.inl.injEq, and_false, or_false, false_or, reduceCtorEq] at h
  
noncomputable def laws_eqRepairS_p (p : Nat) (a0 : (List (Ty.T TFuel))) (a1 : (List (Ty.T TFuel))) : Option (Bool × Unit) :=
  (bif ((a0.length : Int) != (a1.length : Int)) then some (false, ())
 else (laws_eqRepairS_l0_go p a0 a1 p (0 : Int) (fun o4 => some (o4, ())) (fun _ => some (true, ()))))
theorem laws_eqRepairS_run (p : Nat) (x : (parsT [.val (.slice TFuel), .val (.slice TFuel)]).T) : acall Try.prog (laws_eqRepairS_G p) 5 1 22 (laws_eqRepairS_lt p) (argAVs [.val (.slice TFuel), .val (.slice TFuel)] x) ⟨[], 0, []⟩ (outR [.bool]) = laws_eqRepairS_p p x.1 x.2.1 := by kernel_rfl
noncomputable def laws_eqRepairS_c (p : Nat) : PC := PC.fn true [.val (.slice TFuel), .val (.slice TFuel)] [.bool] fun x => laws_eqRepairS_p p x.1 x.2.1
theorem laws_eqRepairS_s (p : Nat) : PSound Try.prog 22 (laws_eqRepairS_c p) := pure_sound (laws_eqRepairS_E p) Try.checked.mixed (laws_eqRepairS_I p) (laws_eqRepairS_ltok_22 p) (fun _ => rfl) fun x y h => (laws_eqRepairS_run p x).trans h
/-! laws.eqTenant -/
noncomputable def laws_eqTenant_G (p : Nat) : FuncId → Option CE := glist []
theorem laws_eqTenant_E (p : Nat) : EnvS Try.prog (laws_eqTenant_G p) := by
  apply glist_env; intro f ce h
  simp only [List.mem_cons, List.not_mem_nil, or_false, Prod.mk.injEq] at h
  
theorem laws_eqTenant_I (p : Nat) : ∀ f lt, laws_eqTenant_G p f = some (.inl lt) → LTok Try.prog (laws_eqTenant_G p) 5 f lt := by
  apply glist_inl; intro f lt h
  simp only [List.mem_cons, List.not_mem_nil, or_false, Prod.mk.injEq, CE.inl.injEq, and_false, or_false, false_or, reduceCtorEq] at h
  
noncomputable def laws_eqTenant_p (p : Nat) (a0 : (Ty.T TTenant)) (a1 : (Ty.T TTenant)) : Option (Bool × Unit) :=
  (bif (!(a0.1.toList == a1.1.toList)) then some (false, ())
 else (bif (a0.2.1 != a1.2.1) then some (false, ())
 else (bif (a0.2.2 != a1.2.2) then some (false, ())
 else some (true, ()))))
theorem laws_eqTenant_run (p : Nat) (x : (parsT [.val TTenant, .val TTenant]).T) : acall Try.prog (laws_eqTenant_G p) 5 1 81 .leaf (argAVs [.val TTenant, .val TTenant] x) ⟨[], 0, []⟩ (outR [.bool]) = laws_eqTenant_p p x.1 x.2.1 := by kernel_rfl
noncomputable def laws_eqTenant_c (p : Nat) : PC := PC.fn true [.val TTenant, .val TTenant] [.bool] fun x => laws_eqTenant_p p x.1 x.2.1
theorem laws_eqTenant_s (p : Nat) : PSound Try.prog 81 (laws_eqTenant_c p) := pure_sound (laws_eqTenant_E p) Try.checked.mixed (laws_eqTenant_I p) LTok_leaf (fun _ => rfl) fun x y h => (laws_eqTenant_run p x).trans h
/-! laws.eqTenantS -/
noncomputable def laws_eqTenantS_l0_r {α : Type} (p : Nat) (v0 : List (Ty.T TTenant)) (v1 : List (Ty.T TTenant)) (rec : (Int) → Option α) (v2 : Int) (k0 : (Bool) → Option α) (k1 : Unit → Option α) : Option α :=
  (bif (decide (v2 < (v0.length : Int))) then (if 0 ≤ v2 then (v0[v2.toNat]?).bind fun y1 => (if 0 ≤ v2 then (v1[v2.toNat]?).bind fun y2 => ((laws_eqTenant_p p y1 y2).bind fun r3 => (bif (!r3.1) then (k0 false)
 else (rec (IntKind.wrap .i64 (v2 + (1 : Int)))))) else none) else none)
 else (k1 ()))
noncomputable def laws_eqTenantS_l0_go {α : Type} (p : Nat) (v0 : List (Ty.T TTenant)) (v1 : List (Ty.T TTenant)) : Nat → (Int) → ((Bool) → Option α) → (Unit → Option α) → Option α
  | 0, _, _, _ => none
  | q + 1, v2, k0, k1 => laws_eqTenantS_l0_r p v0 v1 (fun v2 => laws_eqTenantS_l0_go p v0 v1 q v2 k0 k1) v2 k0 k1
def laws_eqTenantS_l0_sh : Sh := ⟨[⟨0, false, [.sl TTenant]⟩, ⟨1, false, [.sl TTenant]⟩, ⟨5, false, [.int .i64]⟩], 0, []⟩
noncomputable def laws_eqTenantS_lc0 (p : Nat) : LC := LC.alts 0 [⟨0, laws_eqTenantS_l0_sh, fun x {α} k => laws_eqTenantS_l0_go p x.1.1.1 x.1.2.1.1 p x.1.2.2.1.1 (fun o0 => k .ret ⟨[(4, .one ⟨false, [.bool o0]⟩)], 0, []⟩) (fun _ => k (.exit 0) ⟨[], 0, []⟩)⟩]
noncomputable def laws_eqTenantS_lt (p : Nat) : LT := (.node .leaf (.node .leaf (.node (.node .leaf (.loop [0, 1, 5] [4] (some (laws_eqTenantS_lc0 p)) .leaf)) .leaf)))
noncomputable def laws_eqTenantS_G (p : Nat) : FuncId → Option CE := glist [(81, .pure (laws_eqTenant_c p))]
noncomputable def laws_eqTenantS_c0 : Code := codeAt [1, 1, 0, 1, 0, 0] (bodyOf Try.f23)
noncomputable def laws_eqTenantS_it0 {α : Type} (p n b : Nat) (k : Ex → St → Option α) (q : Nat) (st : St) : Option α :=
  iter (fun s q => aexec Try.prog (laws_eqTenantS_G p) (fun g lt args st (k : D → St → Option α) => acall Try.prog (laws_eqTenantS_G p) 5 (n + 0) g lt args st k) 5 b 27 laws_eqTenantS_c0 .leaf s q) (canon b [0, 1, 5]) q st (fun e s => k e (canon b [4] s))
theorem laws_eqTenantS_l0_step {α : Type} (p n : Nat) (k : Ex → St → Option α) (v0 : List (Ty.T TTenant)) (v1 : List (Ty.T TTenant)) (q : Nat) (v2 : Int) : laws_eqTenantS_it0 p n 0 k (q + 1) (laws_eqTenantS_l0_sh.mk' (((v0, ()), (v1, ()), (v2, ()), ()), (()))) =
  laws_eqTenantS_l0_r p v0 v1 (fun v2 => laws_eqTenantS_it0 p n 0 k q (laws_eqTenantS_l0_sh.mk' (((v0, ()), (v1, ()), (v2, ()), ()), (())))) v2 (fun o0 => k .ret ⟨[(4, .one ⟨false, [.bool o0]⟩)], 0, []⟩) (fun _ => k (.exit 0) ⟨[], 0, []⟩) := by kernel_rfl
theorem laws_eqTenantS_l0_ok {α : Type} (p n : Nat) (k : Ex → St → Option α) (v0 : List (Ty.T TTenant)) (v1 : List (Ty.T TTenant)) : ∀ (q : Nat) (v2 : Int), laws_eqTenantS_it0 p n 0 k q (laws_eqTenantS_l0_sh.mk' (((v0, ()), (v1, ()), (v2, ()), ()), (()))) =
  laws_eqTenantS_l0_go p v0 v1 q v2 (fun o0 => k .ret ⟨[(4, .one ⟨false, [.bool o0]⟩)], 0, []⟩) (fun _ => k (.exit 0) ⟨[], 0, []⟩) := by
  intro q
  induction q with
  | zero => intros; rfl
  | succ q ih => intro v2; rw [laws_eqTenantS_l0_step]; simp only [ih]; rfl
theorem laws_eqTenantS_ltok_23_ls (p : Nat) : loopsOf (bodyOf Try.f23) (laws_eqTenantS_lt p) = [⟨laws_eqTenantS_c0, [0, 1, 5], [4], laws_eqTenantS_lc0 p, .leaf⟩] := by kernel_rfl
theorem laws_eqTenantS_ltok_23_dep (p : Nat) : LT.dep (laws_eqTenantS_lt p) = 0 := by kernel_rfl
theorem laws_eqTenantS_ltok_23 (p : Nat) : LTok Try.prog (laws_eqTenantS_G p) 5 23 (laws_eqTenantS_lt p) := by
  intro α n base fn c hd hfn hc
  have hfn' : some fn = some Try.f23 := hfn.symm.trans Try.func23
  cases hfn'
  have hc' : c = bodyOf Try.f23 := by unfold bodyOf; rw [hc]; rfl
  subst hc'
  rw [laws_eqTenantS_ltok_23_dep] at hd
  obtain ⟨n, rfl⟩ := Nat.exists_eq_add_of_le' hd
  apply LTS_of_loops
  rw [laws_eqTenantS_ltok_23_ls]
  intro e he st k r h
  simp only [List.mem_cons, List.not_mem_nil, or_false] at he
  subst he
  · obtain ⟨a, ha, hb, x, rfl, h⟩ := altRun_ok h
    simp only [List.mem_cons, List.not_mem_nil, or_false] at ha
    subst ha
    · cases hb; exact ⟨p, (laws_eqTenantS_l0_ok p n k _ _ p _).trans h⟩
theorem laws_eqTenantS_E (p : Nat) : EnvS Try.prog (laws_eqTenantS_G p) := by
  apply glist_env; intro f ce h
  simp only [List.mem_cons, List.not_mem_nil, or_false, Prod.mk.injEq] at h
  rcases h with ⟨rfl, rfl⟩
  · exact laws_eqTenant_s p
theorem laws_eqTenantS_I (p : Nat) : ∀ f lt, laws_eqTenantS_G p f = some (.inl lt) → LTok Try.prog (laws_eqTenantS_G p) 5 f lt := by
  apply glist_inl; intro f lt h
  simp only [List.mem_cons, List.not_mem_nil, or_false, Prod.mk.injEq, CE.inl.injEq, and_false, or_false, false_or, reduceCtorEq] at h
  
noncomputable def laws_eqTenantS_p (p : Nat) (a0 : (List (Ty.T TTenant))) (a1 : (List (Ty.T TTenant))) : Option (Bool × Unit) :=
  (bif ((a0.length : Int) != (a1.length : Int)) then some (false, ())
 else (laws_eqTenantS_l0_go p a0 a1 p (0 : Int) (fun o4 => some (o4, ())) (fun _ => some (true, ()))))
theorem laws_eqTenantS_run (p : Nat) (x : (parsT [.val (.slice TTenant), .val (.slice TTenant)]).T) : acall Try.prog (laws_eqTenantS_G p) 5 1 23 (laws_eqTenantS_lt p) (argAVs [.val (.slice TTenant), .val (.slice TTenant)] x) ⟨[], 0, []⟩ (outR [.bool]) = laws_eqTenantS_p p x.1 x.2.1 := by kernel_rfl
noncomputable def laws_eqTenantS_c (p : Nat) : PC := PC.fn true [.val (.slice TTenant), .val (.slice TTenant)] [.bool] fun x => laws_eqTenantS_p p x.1 x.2.1
theorem laws_eqTenantS_s (p : Nat) : PSound Try.prog 23 (laws_eqTenantS_c p) := pure_sound (laws_eqTenantS_E p) Try.checked.mixed (laws_eqTenantS_I p) (laws_eqTenantS_ltok_23 p) (fun _ => rfl) fun x y h => (laws_eqTenantS_run p x).trans h
/-! laws.eqDuty -/
noncomputable def laws_eqDuty_G (p : Nat) : FuncId → Option CE := glist []
theorem laws_eqDuty_E (p : Nat) : EnvS Try.prog (laws_eqDuty_G p) := by
  apply glist_env; intro f ce h
  simp only [List.mem_cons, List.not_mem_nil, or_false, Prod.mk.injEq] at h
  
theorem laws_eqDuty_I (p : Nat) : ∀ f lt, laws_eqDuty_G p f = some (.inl lt) → LTok Try.prog (laws_eqDuty_G p) 5 f lt := by
  apply glist_inl; intro f lt h
  simp only [List.mem_cons, List.not_mem_nil, or_false, Prod.mk.injEq, CE.inl.injEq, and_false, or_false, false_or, reduceCtorEq] at h
  
noncomputable def laws_eqDuty_p (p : Nat) (a0 : (Ty.T TDuty)) (a1 : (Ty.T TDuty)) : Option (Bool × Unit) :=
  (bif (!(a0.1.toList == a1.1.toList)) then some (false, ())
 else (bif (a0.2.1 != a1.2.1) then some (false, ())
 else (bif (a0.2.2.1 != a1.2.2.1) then some (false, ())
 else (bif (!(a0.2.2.2 == a1.2.2.2)) then some (false, ())
 else some (true, ())))))
theorem laws_eqDuty_run (p : Nat) (x : (parsT [.val TDuty, .val TDuty]).T) : acall Try.prog (laws_eqDuty_G p) 5 1 82 .leaf (argAVs [.val TDuty, .val TDuty] x) ⟨[], 0, []⟩ (outR [.bool]) = laws_eqDuty_p p x.1 x.2.1 := by kernel_rfl
noncomputable def laws_eqDuty_c (p : Nat) : PC := PC.fn true [.val TDuty, .val TDuty] [.bool] fun x => laws_eqDuty_p p x.1 x.2.1
theorem laws_eqDuty_s (p : Nat) : PSound Try.prog 82 (laws_eqDuty_c p) := pure_sound (laws_eqDuty_E p) Try.checked.mixed (laws_eqDuty_I p) LTok_leaf (fun _ => rfl) fun x y h => (laws_eqDuty_run p x).trans h
/-! laws.eqDutyS -/
noncomputable def laws_eqDutyS_l0_r {α : Type} (p : Nat) (v0 : List (Ty.T TDuty)) (v1 : List (Ty.T TDuty)) (rec : (Int) → Option α) (v2 : Int) (k0 : (Bool) → Option α) (k1 : Unit → Option α) : Option α :=
  (bif (decide (v2 < (v0.length : Int))) then (if 0 ≤ v2 then (v0[v2.toNat]?).bind fun y1 => (if 0 ≤ v2 then (v1[v2.toNat]?).bind fun y2 => ((laws_eqDuty_p p y1 y2).bind fun r3 => (bif (!r3.1) then (k0 false)
 else (rec (IntKind.wrap .i64 (v2 + (1 : Int)))))) else none) else none)
 else (k1 ()))
noncomputable def laws_eqDutyS_l0_go {α : Type} (p : Nat) (v0 : List (Ty.T TDuty)) (v1 : List (Ty.T TDuty)) : Nat → (Int) → ((Bool) → Option α) → (Unit → Option α) → Option α
  | 0, _, _, _ => none
  | q + 1, v2, k0, k1 => laws_eqDutyS_l0_r p v0 v1 (fun v2 => laws_eqDutyS_l0_go p v0 v1 q v2 k0 k1) v2 k0 k1
def laws_eqDutyS_l0_sh : Sh := ⟨[⟨0, false, [.sl TDuty]⟩, ⟨1, false, [.sl TDuty]⟩, ⟨5, false, [.int .i64]⟩], 0, []⟩
noncomputable def laws_eqDutyS_lc0 (p : Nat) : LC := LC.alts 0 [⟨0, laws_eqDutyS_l0_sh, fun x {α} k => laws_eqDutyS_l0_go p x.1.1.1 x.1.2.1.1 p x.1.2.2.1.1 (fun o0 => k .ret ⟨[(4, .one ⟨false, [.bool o0]⟩)], 0, []⟩) (fun _ => k (.exit 0) ⟨[], 0, []⟩)⟩]
noncomputable def laws_eqDutyS_lt (p : Nat) : LT := (.node .leaf (.node .leaf (.node (.node .leaf (.loop [0, 1, 5] [4] (some (laws_eqDutyS_lc0 p)) .leaf)) .leaf)))
noncomputable def laws_eqDutyS_G (p : Nat) : FuncId → Option CE := glist [(82, .pure (laws_eqDuty_c p))]
noncomputable def laws_eqDutyS_c0 : Code := codeAt [1, 1, 0, 1, 0, 0] (bodyOf Try.f24)
noncomputable def laws_eqDutyS_it0 {α : Type} (p n b : Nat) (k : Ex → St → Option α) (q : Nat) (st : St) : Option α :=
  iter (fun s q => aexec Try.prog (laws_eqDutyS_G p) (fun g lt args st (k : D → St → Option α) => acall Try.prog (laws_eqDutyS_G p) 5 (n + 0) g lt args st k) 5 b 27 laws_eqDutyS_c0 .leaf s q) (canon b [0, 1, 5]) q st (fun e s => k e (canon b [4] s))
theorem laws_eqDutyS_l0_step {α : Type} (p n : Nat) (k : Ex → St → Option α) (v0 : List (Ty.T TDuty)) (v1 : List (Ty.T TDuty)) (q : Nat) (v2 : Int) : laws_eqDutyS_it0 p n 0 k (q + 1) (laws_eqDutyS_l0_sh.mk' (((v0, ()), (v1, ()), (v2, ()), ()), (()))) =
  laws_eqDutyS_l0_r p v0 v1 (fun v2 => laws_eqDutyS_it0 p n 0 k q (laws_eqDutyS_l0_sh.mk' (((v0, ()), (v1, ()), (v2, ()), ()), (())))) v2 (fun o0 => k .ret ⟨[(4, .one ⟨false, [.bool o0]⟩)], 0, []⟩) (fun _ => k (.exit 0) ⟨[], 0, []⟩) := by kernel_rfl
theorem laws_eqDutyS_l0_ok {α : Type} (p n : Nat) (k : Ex → St → Option α) (v0 : List (Ty.T TDuty)) (v1 : List (Ty.T TDuty)) : ∀ (q : Nat) (v2 : Int), laws_eqDutyS_it0 p n 0 k q (laws_eqDutyS_l0_sh.mk' (((v0, ()), (v1, ()), (v2, ()), ()), (()))) =
  laws_eqDutyS_l0_go p v0 v1 q v2 (fun o0 => k .ret ⟨[(4, .one ⟨false, [.bool o0]⟩)], 0, []⟩) (fun _ => k (.exit 0) ⟨[], 0, []⟩) := by
  intro q
  induction q with
  | zero => intros; rfl
  | succ q ih => intro v2; rw [laws_eqDutyS_l0_step]; simp only [ih]; rfl
theorem laws_eqDutyS_ltok_24_ls (p : Nat) : loopsOf (bodyOf Try.f24) (laws_eqDutyS_lt p) = [⟨laws_eqDutyS_c0, [0, 1, 5], [4], laws_eqDutyS_lc0 p, .leaf⟩] := by kernel_rfl
theorem laws_eqDutyS_ltok_24_dep (p : Nat) : LT.dep (laws_eqDutyS_lt p) = 0 := by kernel_rfl
theorem laws_eqDutyS_ltok_24 (p : Nat) : LTok Try.prog (laws_eqDutyS_G p) 5 24 (laws_eqDutyS_lt p) := by
  intro α n base fn c hd hfn hc
  have hfn' : some fn = some Try.f24 := hfn.symm.trans Try.func24
  cases hfn'
  have hc' : c = bodyOf Try.f24 := by unfold bodyOf; rw [hc]; rfl
  subst hc'
  rw [laws_eqDutyS_ltok_24_dep] at hd
  obtain ⟨n, rfl⟩ := Nat.exists_eq_add_of_le' hd
  apply LTS_of_loops
  rw [laws_eqDutyS_ltok_24_ls]
  intro e he st k r h
  simp only [List.mem_cons, List.not_mem_nil, or_false] at he
  subst he
  · obtain ⟨a, ha, hb, x, rfl, h⟩ := altRun_ok h
    simp only [List.mem_cons, List.not_mem_nil, or_false] at ha
    subst ha
    · cases hb; exact ⟨p, (laws_eqDutyS_l0_ok p n k _ _ p _).trans h⟩
theorem laws_eqDutyS_E (p : Nat) : EnvS Try.prog (laws_eqDutyS_G p) := by
  apply glist_env; intro f ce h
  simp only [List.mem_cons, List.not_mem_nil, or_false, Prod.mk.injEq] at h
  rcases h with ⟨rfl, rfl⟩
  · exact laws_eqDuty_s p
theorem laws_eqDutyS_I (p : Nat) : ∀ f lt, laws_eqDutyS_G p f = some (.inl lt) → LTok Try.prog (laws_eqDutyS_G p) 5 f lt := by
  apply glist_inl; intro f lt h
  simp only [List.mem_cons, List.not_mem_nil, or_false, Prod.mk.injEq, CE.inl.injEq, and_false, or_false, false_or, reduceCtorEq] at h
  
noncomputable def laws_eqDutyS_p (p : Nat) (a0 : (List (Ty.T TDuty))) (a1 : (List (Ty.T TDuty))) : Option (Bool × Unit) :=
  (bif ((a0.length : Int) != (a1.length : Int)) then some (false, ())
 else (laws_eqDutyS_l0_go p a0 a1 p (0 : Int) (fun o4 => some (o4, ())) (fun _ => some (true, ()))))
theorem laws_eqDutyS_run (p : Nat) (x : (parsT [.val (.slice TDuty), .val (.slice TDuty)]).T) : acall Try.prog (laws_eqDutyS_G p) 5 1 24 (laws_eqDutyS_lt p) (argAVs [.val (.slice TDuty), .val (.slice TDuty)] x) ⟨[], 0, []⟩ (outR [.bool]) = laws_eqDutyS_p p x.1 x.2.1 := by kernel_rfl
noncomputable def laws_eqDutyS_c (p : Nat) : PC := PC.fn true [.val (.slice TDuty), .val (.slice TDuty)] [.bool] fun x => laws_eqDutyS_p p x.1 x.2.1
theorem laws_eqDutyS_s (p : Nat) : PSound Try.prog 24 (laws_eqDutyS_c p) := pure_sound (laws_eqDutyS_E p) Try.checked.mixed (laws_eqDutyS_I p) (laws_eqDutyS_ltok_24 p) (fun _ => rfl) fun x y h => (laws_eqDutyS_run p x).trans h
/-! laws.eqDesk -/
noncomputable def laws_eqDesk_G (p : Nat) : FuncId → Option CE := glist [(15, .pure (laws_eqNetwork_c p)), (16, .pure (laws_eqInt64S_c p)), (17, .pure (laws_eqValveS_c p)), (18, .pure (laws_eqPumpS_c p)), (19, .pure (laws_eqSubstationS_c p)), (20, .pure (laws_eqTank_c p)), (21, .pure (laws_eqFuelS_c p)), (22, .pure (laws_eqRepairS_c p)), (23, .pure (laws_eqTenantS_c p)), (24, .pure (laws_eqDutyS_c p))]
theorem laws_eqDesk_E (p : Nat) : EnvS Try.prog (laws_eqDesk_G p) := by
  apply glist_env; intro f ce h
  simp only [List.mem_cons, List.not_mem_nil, or_false, Prod.mk.injEq] at h
  rcases h with ⟨rfl, rfl⟩ | ⟨rfl, rfl⟩ | ⟨rfl, rfl⟩ | ⟨rfl, rfl⟩ | ⟨rfl, rfl⟩ | ⟨rfl, rfl⟩ | ⟨rfl, rfl⟩ | ⟨rfl, rfl⟩ | ⟨rfl, rfl⟩ | ⟨rfl, rfl⟩
  · exact laws_eqNetwork_s p
  · exact laws_eqInt64S_s p
  · exact laws_eqValveS_s p
  · exact laws_eqPumpS_s p
  · exact laws_eqSubstationS_s p
  · exact laws_eqTank_s p
  · exact laws_eqFuelS_s p
  · exact laws_eqRepairS_s p
  · exact laws_eqTenantS_s p
  · exact laws_eqDutyS_s p
theorem laws_eqDesk_I (p : Nat) : ∀ f lt, laws_eqDesk_G p f = some (.inl lt) → LTok Try.prog (laws_eqDesk_G p) 5 f lt := by
  apply glist_inl; intro f lt h
  simp only [List.mem_cons, List.not_mem_nil, or_false, Prod.mk.injEq, CE.inl.injEq, and_false, or_false, false_or, reduceCtorEq] at h
  
noncomputable def laws_eqDesk_p (p : Nat) (a0 : (Ty.T TDesk)) (a1 : (Ty.T TDesk)) : Option (Bool × Unit) :=
  ((laws_eqNetwork_p p a0.1 a1.1).bind fun r1 => (bif (!r1.1) then some (false, ())
 else ((laws_eqInt64S_p p a0.2.1 a1.2.1).bind fun r2 => (bif (!r2.1) then some (false, ())
 else ((laws_eqValveS_p p a0.2.2.1 a1.2.2.1).bind fun r3 => (bif (!r3.1) then some (false, ())
 else ((laws_eqPumpS_p p a0.2.2.2.1 a1.2.2.2.1).bind fun r4 => (bif (!r4.1) then some (false, ())
 else ((laws_eqSubstationS_p p a0.2.2.2.2.1 a1.2.2.2.2.1).bind fun r5 => (bif (!r5.1) then some (false, ())
 else ((laws_eqTank_p p a0.2.2.2.2.2.1 a1.2.2.2.2.2.1).bind fun r6 => (bif (!r6.1) then some (false, ())
 else ((laws_eqFuelS_p p a0.2.2.2.2.2.2.1 a1.2.2.2.2.2.2.1).bind fun r7 => (bif (!r7.1) then some (false, ())
 else ((laws_eqRepairS_p p a0.2.2.2.2.2.2.2.1 a1.2.2.2.2.2.2.2.1).bind fun r8 => (bif (!r8.1) then some (false, ())
 else ((laws_eqTenantS_p p a0.2.2.2.2.2.2.2.2.1 a1.2.2.2.2.2.2.2.2.1).bind fun r9 => (bif (!r9.1) then some (false, ())
 else ((laws_eqDutyS_p p a0.2.2.2.2.2.2.2.2.2 a1.2.2.2.2.2.2.2.2.2).bind fun r10 => (bif (!r10.1) then some (false, ())
 else some (true, ())))))))))))))))))))))
theorem laws_eqDesk_run (p : Nat) (x : (parsT [.val TDesk, .val TDesk]).T) : acall Try.prog (laws_eqDesk_G p) 5 1 7 .leaf (argAVs [.val TDesk, .val TDesk] x) ⟨[], 0, []⟩ (outR [.bool]) = laws_eqDesk_p p x.1 x.2.1 := by kernel_rfl
noncomputable def laws_eqDesk_c (p : Nat) : PC := PC.fn true [.val TDesk, .val TDesk] [.bool] fun x => laws_eqDesk_p p x.1 x.2.1
theorem laws_eqDesk_s (p : Nat) : PSound Try.prog 7 (laws_eqDesk_c p) := pure_sound (laws_eqDesk_E p) Try.checked.mixed (laws_eqDesk_I p) LTok_leaf (fun _ => rfl) fun x y h => (laws_eqDesk_run p x).trans h
/-! laws.FnExactSameDesk -/
noncomputable def laws_FnExactSameDesk_G (p : Nat) : FuncId → Option CE := glist [(7, .pure (laws_eqDesk_c p)), (10, .pure (laws_szDesk_c p)), (11, .pure (spec_SameDesk_c p)), (12, .pure (laws_toDesk_c p)), (13, .pure (impl_SameDesk_c p))]
theorem laws_FnExactSameDesk_E (p : Nat) : EnvS Try.prog (laws_FnExactSameDesk_G p) := by
  apply glist_env; intro f ce h
  simp only [List.mem_cons, List.not_mem_nil, or_false, Prod.mk.injEq] at h
  rcases h with ⟨rfl, rfl⟩ | ⟨rfl, rfl⟩ | ⟨rfl, rfl⟩ | ⟨rfl, rfl⟩ | ⟨rfl, rfl⟩
  · exact laws_eqDesk_s p
  · exact laws_szDesk_s p
  · exact spec_SameDesk_s p
  · exact laws_toDesk_s p
  · exact impl_SameDesk_s p
theorem laws_FnExactSameDesk_I (p : Nat) : ∀ f lt, laws_FnExactSameDesk_G p f = some (.inl lt) → LTok Try.prog (laws_FnExactSameDesk_G p) 5 f lt := by
  apply glist_inl; intro f lt h
  simp only [List.mem_cons, List.not_mem_nil, or_false, Prod.mk.injEq, CE.inl.injEq, and_false, or_false, false_or, reduceCtorEq] at h
  
noncomputable def laws_FnExactSameDesk_p (p : Nat) (a0 : (Ty.T TDesk)) (a1 : (Ty.T TDesk)) : Option Bool :=
  ((laws_szDesk_p p a0 (1048576 : Int)).bind fun r1 => (bif (decide (r1.1 < (0 : Int))) then some true
 else ((laws_szDesk_p p a1 r1.1).bind fun r2 => (bif (decide (r2.1 < (0 : Int))) then some true
 else ((laws_toDesk_p p a0).bind fun r3 => ((laws_toDesk_p p a1).bind fun r4 => ((spec_SameDesk_p p r3.1 r4.1).bind fun r5 => ((laws_toDesk_p p a0).bind fun r6 => ((laws_toDesk_p p a1).bind fun r7 => ((impl_SameDesk_p p r6.1 r7.1).bind fun r8 => (bif (!(r8.1 == r5.1)) then some false
 else ((laws_toDesk_p p a0).bind fun r9 => ((laws_eqDesk_p p r6.1 r9.1).bind fun r10 => (bif (!r10.1) then some false
 else ((laws_toDesk_p p a1).bind fun r11 => ((laws_eqDesk_p p r7.1 r11.1).bind fun r12 => (bif (!r12.1) then some false
 else some true)))))))))))))))))
theorem laws_FnExactSameDesk_run (p : Nat) (a0 : (Ty.T TDesk)) (a1 : (Ty.T TDesk)) : acall Try.prog (laws_FnExactSameDesk_G p) 5 1 4 .leaf (avs [TDesk, TDesk] (a0, a1, ())) ⟨[], 0, []⟩ outB = laws_FnExactSameDesk_p p a0 a1 := by kernel_rfl
theorem laws_FnExactSameDesk_tok (p : Nat) : LTok Try.prog (laws_FnExactSameDesk_G p) 5 4 .leaf := LTok_leaf
theorem laws_FnExactSameDesk_calls {p : Nat} (a0 : (Ty.T TDesk)) (a1 : (Ty.T TDesk)) {us : List Value} {w : World} (hv : VsRel (Cx.old w) (avs [TDesk, TDesk] (a0, a1, ())) us) (h : laws_FnExactSameDesk_p p a0 a1 = some true) :
    Calls Try.prog 4 us.toArray w fun e w' => e = .returned (.bool true) ∧ Below w.heap.size w w' :=
  law_calls (laws_FnExactSameDesk_E p) Try.checked.mixed (laws_FnExactSameDesk_I p) (laws_FnExactSameDesk_tok p) hv ((laws_FnExactSameDesk_run p a0 a1).trans h)
end Go.Proofs.Ytekplllopcmooaa.W
