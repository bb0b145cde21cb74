/- The walk of functions of the program: typed texts, loops, runs, contracts; printed by walk.py. No condition. -/
import Derived.Test.YtgmcefnlcalagaaGreatAm31
import Derived.Test.YtgmcefnlcalagaaGreatProg
import Derived.Test.YtgmcefnlcalagaaGreatChecked
namespace Go.Proofs.YtgmcefnlcalagaaGreat.W
open Go Go.RowKit Go.Proofs.YtgmcefnlcalagaaGreat.AM
set_option maxRecDepth 100000
set_option linter.unusedVariables false
set_option linter.unusedSimpArgs false
abbrev TNetwork : Ty := (.prod (.slice (.int .i64)) (.slice (.prod .str (.prod (.int .i64) (.prod (.int .i64) (.prod (.int .i64) (.prod (.int .i64) (.int .i64))))))))
abbrev TTank : Ty := (.prod (.int .i64) (.prod (.int .i64) (.int .i64)))
abbrev TDesk : Ty := (.prod (.prod (.slice (.int .i64)) (.slice (.prod .str (.prod (.int .i64) (.prod (.int .i64) (.prod (.int .i64) (.prod (.int .i64) (.int .i64)))))))) (.prod (.slice (.int .i64)) (.prod (.slice (.prod .str (.prod .str .bool))) (.prod (.slice (.prod .str (.slice (.slice (.int .i64))))) (.prod (.slice (.prod .str (.prod (.int .i64) (.prod (.int .i64) (.prod (.int .i64) (.int .i64)))))) (.prod (.prod (.int .i64) (.prod (.int .i64) (.int .i64))) (.prod (.slice (.prod .str (.prod (.int .i64) (.prod (.int .i64) (.int .i64))))) (.prod (.slice (.prod .str (.prod (.int .i64) (.prod (.int .i64) (.int .i64))))) (.prod (.slice (.prod .str (.prod (.int .i64) (.int .i64)))) (.slice (.prod .str (.prod (.int .i64) (.prod (.int .i64) .bool)))))))))))))
abbrev TValve : Ty := (.prod .str (.prod .str .bool))
abbrev TPump : Ty := (.prod .str (.slice (.slice (.int .i64))))
abbrev TSubstation : Ty := (.prod .str (.prod (.int .i64) (.prod (.int .i64) (.prod (.int .i64) (.int .i64)))))
abbrev TFuel : Ty := (.prod .str (.prod (.int .i64) (.prod (.int .i64) (.int .i64))))
abbrev TTenant : Ty := (.prod .str (.prod (.int .i64) (.int .i64)))
abbrev TDuty : Ty := (.prod .str (.prod (.int .i64) (.prod (.int .i64) .bool)))
abbrev TPipe : Ty := (.prod .str (.prod (.int .i64) (.prod (.int .i64) (.prod (.int .i64) (.prod (.int .i64) (.int .i64))))))
/-! laws.szInt64S -/
noncomputable def laws_szInt64S_G (p : Nat) : FuncId → Option CE := glist []
theorem laws_szInt64S_E (p : Nat) : EnvS Tryz.prog (laws_szInt64S_G p) := by
  apply glist_env; intro f ce h
  simp only [List.mem_cons, List.not_mem_nil, or_false, Prod.mk.injEq] at h
  
theorem laws_szInt64S_I (p : Nat) : ∀ f lt, laws_szInt64S_G p f = some (.inl lt) → LTok Tryz.prog (laws_szInt64S_G p) 5 f lt := by
  apply glist_inl; intro f lt h
  simp only [List.mem_cons, List.not_mem_nil, or_false, Prod.mk.injEq, CE.inl.injEq, and_false, or_false, false_or, reduceCtorEq] at h
  
noncomputable def laws_szInt64S_p (p : Nat) (a0 : (List Int)) (a1 : Int) : Option (Int × Unit) :=
  (bif (decide ((IntKind.wrap .i64 (a1 - (a0.length : Int))) < (0 : Int))) then some ((-1 : Int), ())
 else some ((IntKind.wrap .i64 (a1 - (a0.length : Int))), ()))
theorem laws_szInt64S_run (p : Nat) (x : (parsT [.val (.slice (.int .i64)), .val (.int .i64)]).T) : acall Tryz.prog (laws_szInt64S_G p) 5 1 10 .leaf (argAVs [.val (.slice (.int .i64)), .val (.int .i64)] x) ⟨[], 0, []⟩ (outR [(.int .i64)]) = laws_szInt64S_p p x.1 x.2.1 := by kernel_rfl
noncomputable def laws_szInt64S_c (p : Nat) : PC := PC.fn true [.val (.slice (.int .i64)), .val (.int .i64)] [(.int .i64)] fun x => laws_szInt64S_p p x.1 x.2.1
theorem laws_szInt64S_s (p : Nat) : PSound Tryz.prog 10 (laws_szInt64S_c p) := pure_sound (laws_szInt64S_E p) Tryz.checked.mixed (laws_szInt64S_I p) LTok_leaf (fun _ => rfl) fun x y h => (laws_szInt64S_run p x).trans h
/-! laws.szPipe -/
noncomputable def laws_szPipe_G (p : Nat) : FuncId → Option CE := glist []
theorem laws_szPipe_E (p : Nat) : EnvS Tryz.prog (laws_szPipe_G p) := by
  apply glist_env; intro f ce h
  simp only [List.mem_cons, List.not_mem_nil, or_false, Prod.mk.injEq] at h
  
theorem laws_szPipe_I (p : Nat) : ∀ f lt, laws_szPipe_G p f = some (.inl lt) → LTok Tryz.prog (laws_szPipe_G p) 5 f lt := by
  apply glist_inl; intro f lt h
  simp only [List.mem_cons, List.not_mem_nil, or_false, Prod.mk.injEq, CE.inl.injEq, and_false, or_false, false_or, reduceCtorEq] at h
  
noncomputable def laws_szPipe_p (p : Nat) (a0 : (Ty.T TPipe)) (a1 : Int) : Option (Int × Unit) :=
  (bif (decide ((IntKind.wrap .i64 (a1 - (a0.1.size : Int))) < (0 : Int))) then some ((-1 : Int), ())
 else some ((IntKind.wrap .i64 (a1 - (a0.1.size : Int))), ()))
theorem laws_szPipe_run (p : Nat) (x : (parsT [.val TPipe, .val (.int .i64)]).T) : acall Tryz.prog (laws_szPipe_G p) 5 1 98 .leaf (argAVs [.val TPipe, .val (.int .i64)] x) ⟨[], 0, []⟩ (outR [(.int .i64)]) = laws_szPipe_p p x.1 x.2.1 := by kernel_rfl
noncomputable def laws_szPipe_c (p : Nat) : PC := PC.fn true [.val TPipe, .val (.int .i64)] [(.int .i64)] fun x => laws_szPipe_p p x.1 x.2.1
theorem laws_szPipe_s (p : Nat) : PSound Tryz.prog 98 (laws_szPipe_c p) := pure_sound (laws_szPipe_E p) Tryz.checked.mixed (laws_szPipe_I p) LTok_leaf (fun _ => rfl) fun x y h => (laws_szPipe_run p x).trans h
/-! laws.szPipeS -/
noncomputable def laws_szPipeS_l0_r {α : Type} (p : Nat) (v0 : List (Ty.T TPipe)) (rec : (Int) → (Int) → Option α) (v1 : Int) (v2 : Int) (k0 : (Int) → (Int) → Option α) (k1 : (Int) → Option α) : Option α :=
  (bif (decide (v2 < (v0.length : Int))) then (if 0 ≤ v2 then (v0[v2.toNat]?).bind fun y1 => ((laws_szPipe_p p y1 v1).bind fun r2 => (bif (decide (r2.1 < (0 : Int))) then (k0 r2.1 (-1 : Int))
 else (rec r2.1 (IntKind.wrap .i64 (v2 + (1 : Int)))))) else none)
 else (k1 v1))
noncomputable def laws_szPipeS_l0_go {α : Type} (p : Nat) (v0 : List (Ty.T TPipe)) : Nat → (Int) → (Int) → ((Int) → (Int) → Option α) → ((Int) → Option α) → Option α
  | 0, _, _, _, _ => none
  | q + 1, v1, v2, k0, k1 => laws_szPipeS_l0_r p v0 (fun v1 v2 => laws_szPipeS_l0_go p v0 q v1 v2 k0 k1) v1 v2 k0 k1
def laws_szPipeS_l0_sh : Sh := ⟨[⟨0, false, [.sl TPipe]⟩, ⟨1, false, [.int .i64]⟩, ⟨5, false, [.int .i64]⟩], 0, []⟩
noncomputable def laws_szPipeS_lc0 (p : Nat) : LC := LC.alts 0 [⟨0, laws_szPipeS_l0_sh, fun x {α} k => laws_szPipeS_l0_go p x.1.1.1 p x.1.2.1.1 x.1.2.2.1.1 (fun o0 o1 => k .ret ⟨[(1, .one ⟨false, [.int .i64 o0]⟩), (4, .one ⟨false, [.int .i64 o1]⟩)], 0, []⟩) (fun o0 => k (.exit 0) ⟨[(1, .one ⟨false, [.int .i64 o0]⟩)], 0, []⟩)⟩]
noncomputable def laws_szPipeS_lt (p : Nat) : LT := (.node .leaf (.node .leaf (.node .leaf (.node (.node .leaf (.loop [0, 1, 5] [1, 4] (some (laws_szPipeS_lc0 p)) .leaf)) .leaf))))
noncomputable def laws_szPipeS_G (p : Nat) : FuncId → Option CE := glist [(98, .pure (laws_szPipe_c p))]
noncomputable def laws_szPipeS_c0 : Code := codeAt [1, 1, 1, 0, 1, 0, 0] (bodyOf Tryz.f49)
noncomputable def laws_szPipeS_it0 {α : Type} (p n b : Nat) (k : Ex → St → Option α) (q : Nat) (st : St) : Option α :=
  iter (fun s q => aexec Tryz.prog (laws_szPipeS_G p) (fun g lt args st (k : D → St → Option α) => acall Tryz.prog (laws_szPipeS_G p) 5 (n + 0) g lt args st k) 5 b 27 laws_szPipeS_c0 .leaf s q) (canon b [0, 1, 5]) q st (fun e s => k e (canon b [1, 4] s))
theorem laws_szPipeS_l0_step {α : Type} (p n : Nat) (k : Ex → St → Option α) (v0 : List (Ty.T TPipe)) (q : Nat) (v1 : Int) (v2 : Int) : laws_szPipeS_it0 p n 0 k (q + 1) (laws_szPipeS_l0_sh.mk' (((v0, ()), (v1, ()), (v2, ()), ()), (()))) =
  laws_szPipeS_l0_r p v0 (fun v1 v2 => laws_szPipeS_it0 p n 0 k q (laws_szPipeS_l0_sh.mk' (((v0, ()), (v1, ()), (v2, ()), ()), (())))) v1 v2 (fun o0 o1 => k .ret ⟨[(1, .one ⟨false, [.int .i64 o0]⟩), (4, .one ⟨false, [.int .i64 o1]⟩)], 0, []⟩) (fun o0 => k (.exit 0) ⟨[(1, .one ⟨false, [.int .i64 o0]⟩)], 0, []⟩) := by kernel_rfl
theorem laws_szPipeS_l0_ok {α : Type} (p n : Nat) (k : Ex → St → Option α) (v0 : List (Ty.T TPipe)) : ∀ (q : Nat) (v1 : Int) (v2 : Int), laws_szPipeS_it0 p n 0 k q (laws_szPipeS_l0_sh.mk' (((v0, ()), (v1, ()), (v2, ()), ()), (()))) =
  laws_szPipeS_l0_go p v0 q v1 v2 (fun o0 o1 => k .ret ⟨[(1, .one ⟨false, [.int .i64 o0]⟩), (4, .one ⟨false, [.int .i64 o1]⟩)], 0, []⟩) (fun o0 => k (.exit 0) ⟨[(1, .one ⟨false, [.int .i64 o0]⟩)], 0, []⟩) := by
  intro q
  induction q with
  | zero => intros; rfl
  | succ q ih => intro v1 v2; rw [laws_szPipeS_l0_step]; simp only [ih]; rfl
theorem laws_szPipeS_ltok_49_ls (p : Nat) : loopsOf (bodyOf Tryz.f49) (laws_szPipeS_lt p) = [⟨laws_szPipeS_c0, [0, 1, 5], [1, 4], laws_szPipeS_lc0 p, .leaf⟩] := by kernel_rfl
theorem laws_szPipeS_ltok_49_dep (p : Nat) : LT.dep (laws_szPipeS_lt p) = 0 := by kernel_rfl
theorem laws_szPipeS_ltok_49 (p : Nat) : LTok Tryz.prog (laws_szPipeS_G p) 5 49 (laws_szPipeS_lt p) := by
  intro α n base fn c hd hfn hc
  have hfn' : some fn = some Tryz.f49 := hfn.symm.trans Tryz.func49
  cases hfn'
  have hc' : c = bodyOf Tryz.f49 := by unfold bodyOf; rw [hc]; rfl
  subst hc'
  rw [laws_szPipeS_ltok_49_dep] at hd
  obtain ⟨n, rfl⟩ := Nat.exists_eq_add_of_le' hd
  apply LTS_of_loops
  rw [laws_szPipeS_ltok_49_ls]
  intro e he st k r h
  simp only [List.mem_cons, List.not_mem_nil, or_false] at he
  subst he
  · obtain ⟨a, ha, hb, x, rfl, h⟩ := altRun_ok h
    simp only [List.mem_cons, List.not_mem_nil, or_false] at ha
    subst ha
    · cases hb; exact ⟨p, (laws_szPipeS_l0_ok p n k _ p _ _).trans h⟩
theorem laws_szPipeS_E (p : Nat) : EnvS Tryz.prog (laws_szPipeS_G p) := by
  apply glist_env; intro f ce h
  simp only [List.mem_cons, List.not_mem_nil, or_false, Prod.mk.injEq] at h
  rcases h with ⟨rfl, rfl⟩
  · exact laws_szPipe_s p
theorem laws_szPipeS_I (p : Nat) : ∀ f lt, laws_szPipeS_G p f = some (.inl lt) → LTok Tryz.prog (laws_szPipeS_G p) 5 f lt := by
  apply glist_inl; intro f lt h
  simp only [List.mem_cons, List.not_mem_nil, or_false, Prod.mk.injEq, CE.inl.injEq, and_false, or_false, false_or, reduceCtorEq] at h
  
noncomputable def laws_szPipeS_p (p : Nat) (a0 : (List (Ty.T TPipe))) (a1 : Int) : Option (Int × Unit) :=
  (bif (decide ((IntKind.wrap .i64 (a1 - (a0.length : Int))) < (0 : Int))) then some ((-1 : Int), ())
 else (laws_szPipeS_l0_go p a0 p (IntKind.wrap .i64 (a1 - (a0.length : Int))) (0 : Int) (fun o3 o4 => some (o4, ())) (fun o5 => some (o5, ()))))
theorem laws_szPipeS_run (p : Nat) (x : (parsT [.val (.slice TPipe), .val (.int .i64)]).T) : acall Tryz.prog (laws_szPipeS_G p) 5 1 49 (laws_szPipeS_lt p) (argAVs [.val (.slice TPipe), .val (.int .i64)] x) ⟨[], 0, []⟩ (outR [(.int .i64)]) = laws_szPipeS_p p x.1 x.2.1 := by kernel_rfl
noncomputable def laws_szPipeS_c (p : Nat) : PC := PC.fn true [.val (.slice TPipe), .val (.int .i64)] [(.int .i64)] fun x => laws_szPipeS_p p x.1 x.2.1
theorem laws_szPipeS_s (p : Nat) : PSound Tryz.prog 49 (laws_szPipeS_c p) := pure_sound (laws_szPipeS_E p) Tryz.checked.mixed (laws_szPipeS_I p) (laws_szPipeS_ltok_49 p) (fun _ => rfl) fun x y h => (laws_szPipeS_run p x).trans h
/-! laws.szNetwork -/
noncomputable def laws_szNetwork_G (p : Nat) : FuncId → Option CE := glist [(10, .pure (laws_szInt64S_c p)), (49, .pure (laws_szPipeS_c p))]
theorem laws_szNetwork_E (p : Nat) : EnvS Tryz.prog (laws_szNetwork_G p) := by
  apply glist_env; intro f ce h
  simp only [List.mem_cons, List.not_mem_nil, or_false, Prod.mk.injEq] at h
  rcases h with ⟨rfl, rfl⟩ | ⟨rfl, rfl⟩
  · exact laws_szInt64S_s p
  · exact laws_szPipeS_s p
theorem laws_szNetwork_I (p : Nat) : ∀ f lt, laws_szNetwork_G p f = some (.inl lt) → LTok Tryz.prog (laws_szNetwork_G p) 5 f lt := by
  apply glist_inl; intro f lt h
  simp only [List.mem_cons, List.not_mem_nil, or_false, Prod.mk.injEq, CE.inl.injEq, and_false, or_false, false_or, reduceCtorEq] at h
  
noncomputable def laws_szNetwork_p (p : Nat) (a0 : (Ty.T TNetwork)) (a1 : Int) : Option (Int × Unit) :=
  ((laws_szInt64S_p p a0.1 a1).bind fun r1 => (bif (decide (r1.1 < (0 : Int))) then some ((-1 : Int), ())
 else ((laws_szPipeS_p p a0.2 r1.1).bind fun r2 => (bif (decide (r2.1 < (0 : Int))) then some ((-1 : Int), ())
 else some (r2.1, ())))))
theorem laws_szNetwork_run (p : Nat) (x : (parsT [.val TNetwork, .val (.int .i64)]).T) : acall Tryz.prog (laws_szNetwork_G p) 5 1 9 .leaf (argAVs [.val TNetwork, .val (.int .i64)] x) ⟨[], 0, []⟩ (outR [(.int .i64)]) = laws_szNetwork_p p x.1 x.2.1 := by kernel_rfl
noncomputable def laws_szNetwork_c (p : Nat) : PC := PC.fn true [.val TNetwork, .val (.int .i64)] [(.int .i64)] fun x => laws_szNetwork_p p x.1 x.2.1
theorem laws_szNetwork_s (p : Nat) : PSound Tryz.prog 9 (laws_szNetwork_c p) := pure_sound (laws_szNetwork_E p) Tryz.checked.mixed (laws_szNetwork_I p) LTok_leaf (fun _ => rfl) fun x y h => (laws_szNetwork_run p x).trans h
/-! laws.szValve -/
noncomputable def laws_szValve_G (p : Nat) : FuncId → Option CE := glist []
theorem laws_szValve_E (p : Nat) : EnvS Tryz.prog (laws_szValve_G p) := by
  apply glist_env; intro f ce h
  simp only [List.mem_cons, List.not_mem_nil, or_false, Prod.mk.injEq] at h
  
theorem laws_szValve_I (p : Nat) : ∀ f lt, laws_szValve_G p f = some (.inl lt) → LTok Tryz.prog (laws_szValve_G p) 5 f lt := by
  apply glist_inl; intro f lt h
  simp only [List.mem_cons, List.not_mem_nil, or_false, Prod.mk.injEq, CE.inl.injEq, and_false, or_false, false_or, reduceCtorEq] at h
  
noncomputable def laws_szValve_p (p : Nat) (a0 : (Ty.T TValve)) (a1 : Int) : Option (Int × Unit) :=
  (bif (decide ((IntKind.wrap .i64 (a1 - (a0.1.size : Int))) < (0 : Int))) then some ((-1 : Int), ())
 else (bif (decide ((IntKind.wrap .i64 ((IntKind.wrap .i64 (a1 - (a0.1.size : Int))) - (a0.2.1.size : Int))) < (0 : Int))) then some ((-1 : Int), ())
 else some ((IntKind.wrap .i64 ((IntKind.wrap .i64 (a1 - (a0.1.size : Int))) - (a0.2.1.size : Int))), ())))
theorem laws_szValve_run (p : Nat) (x : (parsT [.val TValve, .val (.int .i64)]).T) : acall Tryz.prog (laws_szValve_G p) 5 1 50 .leaf (argAVs [.val TValve, .val (.int .i64)] x) ⟨[], 0, []⟩ (outR [(.int .i64)]) = laws_szValve_p p x.1 x.2.1 := by kernel_rfl
noncomputable def laws_szValve_c (p : Nat) : PC := PC.fn true [.val TValve, .val (.int .i64)] [(.int .i64)] fun x => laws_szValve_p p x.1 x.2.1
theorem laws_szValve_s (p : Nat) : PSound Tryz.prog 50 (laws_szValve_c p) := pure_sound (laws_szValve_E p) Tryz.checked.mixed (laws_szValve_I p) LTok_leaf (fun _ => rfl) fun x y h => (laws_szValve_run p x).trans h
/-! laws.szValveS -/
noncomputable def laws_szValveS_l0_r {α : Type} (p : Nat) (v0 : List (Ty.T TValve)) (rec : (Int) → (Int) → Option α) (v1 : Int) (v2 : Int) (k0 : (Int) → (Int) → Option α) (k1 : (Int) → Option α) : Option α :=
  (bif (decide (v2 < (v0.length : Int))) then (if 0 ≤ v2 then (v0[v2.toNat]?).bind fun y1 => ((laws_szValve_p p y1 v1).bind fun r2 => (bif (decide (r2.1 < (0 : Int))) then (k0 r2.1 (-1 : Int))
 else (rec r2.1 (IntKind.wrap .i64 (v2 + (1 : Int)))))) else none)
 else (k1 v1))
noncomputable def laws_szValveS_l0_go {α : Type} (p : Nat) (v0 : List (Ty.T TValve)) : Nat → (Int) → (Int) → ((Int) → (Int) → Option α) → ((Int) → Option α) → Option α
  | 0, _, _, _, _ => none
  | q + 1, v1, v2, k0, k1 => laws_szValveS_l0_r p v0 (fun v1 v2 => laws_szValveS_l0_go p v0 q v1 v2 k0 k1) v1 v2 k0 k1
def laws_szValveS_l0_sh : Sh := ⟨[⟨0, false, [.sl TValve]⟩, ⟨1, false, [.int .i64]⟩, ⟨5, false, [.int .i64]⟩], 0, []⟩
noncomputable def laws_szValveS_lc0 (p : Nat) : LC := LC.alts 0 [⟨0, laws_szValveS_l0_sh, fun x {α} k => laws_szValveS_l0_go p x.1.1.1 p x.1.2.1.1 x.1.2.2.1.1 (fun o0 o1 => k .ret ⟨[(1, .one ⟨false, [.int .i64 o0]⟩), (4, .one ⟨false, [.int .i64 o1]⟩)], 0, []⟩) (fun o0 => k (.exit 0) ⟨[(1, .one ⟨false, [.int .i64 o0]⟩)], 0, []⟩)⟩]
noncomputable def laws_szValveS_lt (p : Nat) : LT := (.node .leaf (.node .leaf (.node .leaf (.node (.node .leaf (.loop [0, 1, 5] [1, 4] (some (laws_szValveS_lc0 p)) .leaf)) .leaf))))
noncomputable def laws_szValveS_G (p : Nat) : FuncId → Option CE := glist [(50, .pure (laws_szValve_c p))]
noncomputable def laws_szValveS_c0 : Code := codeAt [1, 1, 1, 0, 1, 0, 0] (bodyOf Tryz.f11)
noncomputable def laws_szValveS_it0 {α : Type} (p n b : Nat) (k : Ex → St → Option α) (q : Nat) (st : St) : Option α :=
  iter (fun s q => aexec Tryz.prog (laws_szValveS_G p) (fun g lt args st (k : D → St → Option α) => acall Tryz.prog (laws_szValveS_G p) 5 (n + 0) g lt args st k) 5 b 27 laws_szValveS_c0 .leaf s q) (canon b [0, 1, 5]) q st (fun e s => k e (canon b [1, 4] s))
theorem laws_szValveS_l0_step {α : Type} (p n : Nat) (k : Ex → St → Option α) (v0 : List (Ty.T TValve)) (q : Nat) (v1 : Int) (v2 : Int) : laws_szValveS_it0 p n 0 k (q + 1) (laws_szValveS_l0_sh.mk' (((v0, ()), (v1, ()), (v2, ()), ()), (()))) =
  laws_szValveS_l0_r p v0 (fun v1 v2 => laws_szValveS_it0 p n 0 k q (laws_szValveS_l0_sh.mk' (((v0, ()), (v1, ()), (v2, ()), ()), (())))) v1 v2 (fun o0 o1 => k .ret ⟨[(1, .one ⟨false, [.int .i64 o0]⟩), (4, .one ⟨false, [.int .i64 o1]⟩)], 0, []⟩) (fun o0 => k (.exit 0) ⟨[(1, .one ⟨false, [.int .i64 o0]⟩)], 0, []⟩) := by kernel_rfl
theorem laws_szValveS_l0_ok {α : Type} (p n : Nat) (k : Ex → St → Option α) (v0 : List (Ty.T TValve)) : ∀ (q : Nat) (v1 : Int) (v2 : Int), laws_szValveS_it0 p n 0 k q (laws_szValveS_l0_sh.mk' (((v0, ()), (v1, ()), (v2, ()), ()), (()))) =
  laws_szValveS_l0_go p v0 q v1 v2 (fun o0 o1 => k .ret ⟨[(1, .one ⟨false, [.int .i64 o0]⟩), (4, .one ⟨false, [.int .i64 o1]⟩)], 0, []⟩) (fun o0 => k (.exit 0) ⟨[(1, .one ⟨false, [.int .i64 o0]⟩)], 0, []⟩) := by
  intro q
  induction q with
  | zero => intros; rfl
  | succ q ih => intro v1 v2; rw [laws_szValveS_l0_step]; simp only [ih]; rfl
theorem laws_szValveS_ltok_11_ls (p : Nat) : loopsOf (bodyOf Tryz.f11) (laws_szValveS_lt p) = [⟨laws_szValveS_c0, [0, 1, 5], [1, 4], laws_szValveS_lc0 p, .leaf⟩] := by kernel_rfl
theorem laws_szValveS_ltok_11_dep (p : Nat) : LT.dep (laws_szValveS_lt p) = 0 := by kernel_rfl
theorem laws_szValveS_ltok_11 (p : Nat) : LTok Tryz.prog (laws_szValveS_G p) 5 11 (laws_szValveS_lt p) := by
  intro α n base fn c hd hfn hc
  have hfn' : some fn = some Tryz.f11 := hfn.symm.trans Tryz.func11
  cases hfn'
  have hc' : c = bodyOf Tryz.f11 := by unfold bodyOf; rw [hc]; rfl
  subst hc'
  rw [laws_szValveS_ltok_11_dep] at hd
  obtain ⟨n, rfl⟩ := Nat.exists_eq_add_of_le' hd
  apply LTS_of_loops
  rw [laws_szValveS_ltok_11_ls]
  intro e he st k r h
  simp only [List.mem_cons, List.not_mem_nil, or_false] at he
  subst he
  · obtain ⟨a, ha, hb, x, rfl, h⟩ := altRun_ok h
    simp only [List.mem_cons, List.not_mem_nil, or_false] at ha
    subst ha
    · cases hb; exact ⟨p, (laws_szValveS_l0_ok p n k _ p _ _).trans h⟩
theorem laws_szValveS_E (p : Nat) : EnvS Tryz.prog (laws_szValveS_G p) := by
  apply glist_env; intro f ce h
  simp only [List.mem_cons, List.not_mem_nil, or_false, Prod.mk.injEq] at h
  rcases h with ⟨rfl, rfl⟩
  · exact laws_szValve_s p
theorem laws_szValveS_I (p : Nat) : ∀ f lt, laws_szValveS_G p f = some (.inl lt) → LTok Tryz.prog (laws_szValveS_G p) 5 f lt := by
  apply glist_inl; intro f lt h
  simp only [List.mem_cons, List.not_mem_nil, or_false, Prod.mk.injEq, CE.inl.injEq, and_false, or_false, false_or, reduceCtorEq] at h
  
noncomputable def laws_szValveS_p (p : Nat) (a0 : (List (Ty.T TValve))) (a1 : Int) : Option (Int × Unit) :=
  (bif (decide ((IntKind.wrap .i64 (a1 - (a0.length : Int))) < (0 : Int))) then some ((-1 : Int), ())
 else (laws_szValveS_l0_go p a0 p (IntKind.wrap .i64 (a1 - (a0.length : Int))) (0 : Int) (fun o3 o4 => some (o4, ())) (fun o5 => some (o5, ()))))
theorem laws_szValveS_run (p : Nat) (x : (parsT [.val (.slice TValve), .val (.int .i64)]).T) : acall Tryz.prog (laws_szValveS_G p) 5 1 11 (laws_szValveS_lt p) (argAVs [.val (.slice TValve), .val (.int .i64)] x) ⟨[], 0, []⟩ (outR [(.int .i64)]) = laws_szValveS_p p x.1 x.2.1 := by kernel_rfl
noncomputable def laws_szValveS_c (p : Nat) : PC := PC.fn true [.val (.slice TValve), .val (.int .i64)] [(.int .i64)] fun x => laws_szValveS_p p x.1 x.2.1
theorem laws_szValveS_s (p : Nat) : PSound Tryz.prog 11 (laws_szValveS_c p) := pure_sound (laws_szValveS_E p) Tryz.checked.mixed (laws_szValveS_I p) (laws_szValveS_ltok_11 p) (fun _ => rfl) fun x y h => (laws_szValveS_run p x).trans h
/-! laws.szInt64SS -/
noncomputable def laws_szInt64SS_l0_r {α : Type} (p : Nat) (v0 : List (List Int)) (rec : (Int) → (Int) → Option α) (v1 : Int) (v2 : Int) (k0 : (Int) → (Int) → Option α) (k1 : (Int) → Option α) : Option α :=
  (bif (decide (v2 < (v0.length : Int))) then (if 0 ≤ v2 then (v0[v2.toNat]?).bind fun y1 => ((laws_szInt64S_p p y1 v1).bind fun r2 => (bif (decide (r2.1 < (0 : Int))) then (k0 r2.1 (-1 : Int))
 else (rec r2.1 (IntKind.wrap .i64 (v2 + (1 : Int)))))) else none)
 else (k1 v1))
noncomputable def laws_szInt64SS_l0_go {α : Type} (p : Nat) (v0 : List (List Int)) : Nat → (Int) → (Int) → ((Int) → (Int) → Option α) → ((Int) → Option α) → Option α
  | 0, _, _, _, _ => none
  | q + 1, v1, v2, k0, k1 => laws_szInt64SS_l0_r p v0 (fun v1 v2 => laws_szInt64SS_l0_go p v0 q v1 v2 k0 k1) v1 v2 k0 k1
def laws_szInt64SS_l0_sh : Sh := ⟨[⟨0, false, [.sl (.slice (.int .i64))]⟩, ⟨1, false, [.int .i64]⟩, ⟨5, false, [.int .i64]⟩], 0, []⟩
noncomputable def laws_szInt64SS_lc0 (p : Nat) : LC := LC.alts 0 [⟨0, laws_szInt64SS_l0_sh, fun x {α} k => laws_szInt64SS_l0_go p x.1.1.1 p x.1.2.1.1 x.1.2.2.1.1 (fun o0 o1 => k .ret ⟨[(1, .one ⟨false, [.int .i64 o0]⟩), (4, .one ⟨false, [.int .i64 o1]⟩)], 0, []⟩) (fun o0 => k (.exit 0) ⟨[(1, .one ⟨false, [.int .i64 o0]⟩)], 0, []⟩)⟩]
noncomputable def laws_szInt64SS_lt (p : Nat) : LT := (.node .leaf (.node .leaf (.node .leaf (.node (.node .leaf (.loop [0, 1, 5] [1, 4] (some (laws_szInt64SS_lc0 p)) .leaf)) .leaf))))
noncomputable def laws_szInt64SS_G (p : Nat) : FuncId → Option CE := glist [(10, .pure (laws_szInt64S_c p))]
noncomputable def laws_szInt64SS_c0 : Code := codeAt [1, 1, 1, 0, 1, 0, 0] (bodyOf Tryz.f99)
noncomputable def laws_szInt64SS_it0 {α : Type} (p n b : Nat) (k : Ex → St → Option α) (q : Nat) (st : St) : Option α :=
  iter (fun s q => aexec Tryz.prog (laws_szInt64SS_G p) (fun g lt args st (k : D → St → Option α) => acall Tryz.prog (laws_szInt64SS_G p) 5 (n + 0) g lt args st k) 5 b 27 laws_szInt64SS_c0 .leaf s q) (canon b [0, 1, 5]) q st (fun e s => k e (canon b [1, 4] s))
theorem laws_szInt64SS_l0_step {α : Type} (p n : Nat) (k : Ex → St → Option α) (v0 : List (List Int)) (q : Nat) (v1 : Int) (v2 : Int) : laws_szInt64SS_it0 p n 0 k (q + 1) (laws_szInt64SS_l0_sh.mk' (((v0, ()), (v1, ()), (v2, ()), ()), (()))) =
  laws_szInt64SS_l0_r p v0 (fun v1 v2 => laws_szInt64SS_it0 p n 0 k q (laws_szInt64SS_l0_sh.mk' (((v0, ()), (v1, ()), (v2, ()), ()), (())))) v1 v2 (fun o0 o1 => k .ret ⟨[(1, .one ⟨false, [.int .i64 o0]⟩), (4, .one ⟨false, [.int .i64 o1]⟩)], 0, []⟩) (fun o0 => k (.exit 0) ⟨[(1, .one ⟨false, [.int .i64 o0]⟩)], 0, []⟩) := by kernel_rfl
theorem laws_szInt64SS_l0_ok {α : Type} (p n : Nat) (k : Ex → St → Option α) (v0 : List (List Int)) : ∀ (q : Nat) (v1 : Int) (v2 : Int), laws_szInt64SS_it0 p n 0 k q (laws_szInt64SS_l0_sh.mk' (((v0, ()), (v1, ()), (v2, ()), ()), (()))) =
  laws_szInt64SS_l0_go p v0 q v1 v2 (fun o0 o1 => k .ret ⟨[(1, .one ⟨false, [.int .i64 o0]⟩), (4, .one ⟨false, [.int .i64 o1]⟩)], 0, []⟩) (fun o0 => k (.exit 0) ⟨[(1, .one ⟨false, [.int .i64 o0]⟩)], 0, []⟩) := by
  intro q
  induction q with
  | zero => intros; rfl
  | succ q ih => intro v1 v2; rw [laws_szInt64SS_l0_step]; simp only [ih]; rfl
theorem laws_szInt64SS_ltok_99_ls (p : Nat) : loopsOf (bodyOf Tryz.f99) (laws_szInt64SS_lt p) = [⟨laws_szInt64SS_c0, [0, 1, 5], [1, 4], laws_szInt64SS_lc0 p, .leaf⟩] := by kernel_rfl
theorem laws_szInt64SS_ltok_99_dep (p : Nat) : LT.dep (laws_szInt64SS_lt p) = 0 := by kernel_rfl
theorem laws_szInt64SS_ltok_99 (p : Nat) : LTok Tryz.prog (laws_szInt64SS_G p) 5 99 (laws_szInt64SS_lt p) := by
  intro α n base fn c hd hfn hc
  have hfn' : some fn = some Tryz.f99 := hfn.symm.trans Tryz.func99
  cases hfn'
  have hc' : c = bodyOf Tryz.f99 := by unfold bodyOf; rw [hc]; rfl
  subst hc'
  rw [laws_szInt64SS_ltok_99_dep] at hd
  obtain ⟨n, rfl⟩ := Nat.exists_eq_add_of_le' hd
  apply LTS_of_loops
  rw [laws_szInt64SS_ltok_99_ls]
  intro e he st k r h
  simp only [List.mem_cons, List.not_mem_nil, or_false] at he
  subst he
  · obtain ⟨a, ha, hb, x, rfl, h⟩ := altRun_ok h
    simp only [List.mem_cons, List.not_mem_nil, or_false] at ha
    subst ha
    · cases hb; exact ⟨p, (laws_szInt64SS_l0_ok p n k _ p _ _).trans h⟩
theorem laws_szInt64SS_E (p : Nat) : EnvS Tryz.prog (laws_szInt64SS_G p) := by
  apply glist_env; intro f ce h
  simp only [List.mem_cons, List.not_mem_nil, or_false, Prod.mk.injEq] at h
  rcases h with ⟨rfl, rfl⟩
  · exact laws_szInt64S_s p
theorem laws_szInt64SS_I (p : Nat) : ∀ f lt, laws_szInt64SS_G p f = some (.inl lt) → LTok Tryz.prog (laws_szInt64SS_G p) 5 f lt := by
  apply glist_inl; intro f lt h
  simp only [List.mem_cons, List.not_mem_nil, or_false, Prod.mk.injEq, CE.inl.injEq, and_false, or_false, false_or, reduceCtorEq] at h
  
noncomputable def laws_szInt64SS_p (p : Nat) (a0 : (List (List Int))) (a1 : Int) : Option (Int × Unit) :=
  (bif (decide ((IntKind.wrap .i64 (a1 - (a0.length : Int))) < (0 : Int))) then some ((-1 : Int), ())
 else (laws_szInt64SS_l0_go p a0 p (IntKind.wrap .i64 (a1 - (a0.length : Int))) (0 : Int) (fun o3 o4 => some (o4, ())) (fun o5 => some (o5, ()))))
theorem laws_szInt64SS_run (p : Nat) (x : (parsT [.val (.slice (.slice (.int .i64))), .val (.int .i64)]).T) : acall Tryz.prog (laws_szInt64SS_G p) 5 1 99 (laws_szInt64SS_lt p) (argAVs [.val (.slice (.slice (.int .i64))), .val (.int .i64)] x) ⟨[], 0, []⟩ (outR [(.int .i64)]) = laws_szInt64SS_p p x.1 x.2.1 := by kernel_rfl
noncomputable def laws_szInt64SS_c (p : Nat) : PC := PC.fn true [.val (.slice (.slice (.int .i64))), .val (.int .i64)] [(.int .i64)] fun x => laws_szInt64SS_p p x.1 x.2.1
theorem laws_szInt64SS_s (p : Nat) : PSound Tryz.prog 99 (laws_szInt64SS_c p) := pure_sound (laws_szInt64SS_E p) Tryz.checked.mixed (laws_szInt64SS_I p) (laws_szInt64SS_ltok_99 p) (fun _ => rfl) fun x y h => (laws_szInt64SS_run p x).trans h
/-! laws.szPump -/
noncomputable def laws_szPump_G (p : Nat) : FuncId → Option CE := glist [(99, .pure (laws_szInt64SS_c p))]
theorem laws_szPump_E (p : Nat) : EnvS Tryz.prog (laws_szPump_G p) := by
  apply glist_env; intro f ce h
  simp only [List.mem_cons, List.not_mem_nil, or_false, Prod.mk.injEq] at h
  rcases h with ⟨rfl, rfl⟩
  · exact laws_szInt64SS_s p
theorem laws_szPump_I (p : Nat) : ∀ f lt, laws_szPump_G p f = some (.inl lt) → LTok Tryz.prog (laws_szPump_G p) 5 f lt := by
  apply glist_inl; intro f lt h
  simp only [List.mem_cons, List.not_mem_nil, or_false, Prod.mk.injEq, CE.inl.injEq, and_false, or_false, false_or, reduceCtorEq] at h
  
noncomputable def laws_szPump_p (p : Nat) (a0 : (Ty.T TPump)) (a1 : Int) : Option (Int × Unit) :=
  (bif (decide ((IntKind.wrap .i64 (a1 - (a0.1.size : Int))) < (0 : Int))) then some ((-1 : Int), ())
 else ((laws_szInt64SS_p p a0.2 (IntKind.wrap .i64 (a1 - (a0.1.size : Int)))).bind fun r1 => (bif (decide (r1.1 < (0 : Int))) then some ((-1 : Int), ())
 else some (r1.1, ()))))
theorem laws_szPump_run (p : Nat) (x : (parsT [.val TPump, .val (.int .i64)]).T) : acall Tryz.prog (laws_szPump_G p) 5 1 51 .leaf (argAVs [.val TPump, .val (.int .i64)] x) ⟨[], 0, []⟩ (outR [(.int .i64)]) = laws_szPump_p p x.1 x.2.1 := by kernel_rfl
noncomputable def laws_szPump_c (p : Nat) : PC := PC.fn true [.val TPump, .val (.int .i64)] [(.int .i64)] fun x => laws_szPump_p p x.1 x.2.1
theorem laws_szPump_s (p : Nat) : PSound Tryz.prog 51 (laws_szPump_c p) := pure_sound (laws_szPump_E p) Tryz.checked.mixed (laws_szPump_I p) LTok_leaf (fun _ => rfl) fun x y h => (laws_szPump_run p x).trans h
/-! laws.szPumpS -/
noncomputable def laws_szPumpS_l0_r {α : Type} (p : Nat) (v0 : List (Ty.T TPump)) (rec : (Int) → (Int) → Option α) (v1 : Int) (v2 : Int) (k0 : (Int) → (Int) → Option α) (k1 : (Int) → Option α) : Option α :=
  (bif (decide (v2 < (v0.length : Int))) then (if 0 ≤ v2 then (v0[v2.toNat]?).bind fun y1 => ((laws_szPump_p p y1 v1).bind fun r2 => (bif (decide (r2.1 < (0 : Int))) then (k0 r2.1 (-1 : Int))
 else (rec r2.1 (IntKind.wrap .i64 (v2 + (1 : Int)))))) else none)
 else (k1 v1))
noncomputable def laws_szPumpS_l0_go {α : Type} (p : Nat) (v0 : List (Ty.T TPump)) : Nat → (Int) → (Int) → ((Int) → (Int) → Option α) → ((Int) → Option α) → Option α
  | 0, _, _, _, _ => none
  | q + 1, v1, v2, k0, k1 => laws_szPumpS_l0_r p v0 (fun v1 v2 => laws_szPumpS_l0_go p v0 q v1 v2 k0 k1) v1 v2 k0 k1
def laws_szPumpS_l0_sh : Sh := ⟨[⟨0, false, [.sl TPump]⟩, ⟨1, false, [.int .i64]⟩, ⟨5, false, [.int .i64]⟩], 0, []⟩
noncomputable def laws_szPumpS_lc0 (p : Nat) : LC := LC.alts 0 [⟨0, laws_szPumpS_l0_sh, fun x {α} k => laws_szPumpS_l0_go p x.1.1.1 p x.1.2.1.1 x.1.2.2.1.1 (fun o0 o1 => k .ret ⟨[(1, .one ⟨false, [.int .i64 o0]⟩), (4, .one ⟨false, [.int .i64 o1]⟩)], 0, []⟩) (fun o0 => k (.exit 0) ⟨[(1, .one ⟨false, [.int .i64 o0]⟩)], 0, []⟩)⟩]
noncomputable def laws_szPumpS_lt (p : Nat) : LT := (.node .leaf (.node .leaf (.node .leaf (.node (.node .leaf (.loop [0, 1, 5] [1, 4] (some (laws_szPumpS_lc0 p)) .leaf)) .leaf))))
noncomputable def laws_szPumpS_G (p : Nat) : FuncId → Option CE := glist [(51, .pure (laws_szPump_c p))]
noncomputable def laws_szPumpS_c0 : Code := codeAt [1, 1, 1, 0, 1, 0, 0] (bodyOf Tryz.f12)
noncomputable def laws_szPumpS_it0 {α : Type} (p n b : Nat) (k : Ex → St → Option α) (q : Nat) (st : St) : Option α :=
  iter (fun s q => aexec Tryz.prog (laws_szPumpS_G p) (fun g lt args st (k : D → St → Option α) => acall Tryz.prog (laws_szPumpS_G p) 5 (n + 0) g lt args st k) 5 b 27 laws_szPumpS_c0 .leaf s q) (canon b [0, 1, 5]) q st (fun e s => k e (canon b [1, 4] s))
theorem laws_szPumpS_l0_step {α : Type} (p n : Nat) (k : Ex → St → Option α) (v0 : List (Ty.T TPump)) (q : Nat) (v1 : Int) (v2 : Int) : laws_szPumpS_it0 p n 0 k (q + 1) (laws_szPumpS_l0_sh.mk' (((v0, ()), (v1, ()), (v2, ()), ()), (()))) =
  laws_szPumpS_l0_r p v0 (fun v1 v2 => laws_szPumpS_it0 p n 0 k q (laws_szPumpS_l0_sh.mk' (((v0, ()), (v1, ()), (v2, ()), ()), (())))) v1 v2 (fun o0 o1 => k .ret ⟨[(1, .one ⟨false, [.int .i64 o0]⟩), (4, .one ⟨false, [.int .i64 o1]⟩)], 0, []⟩) (fun o0 => k (.exit 0) ⟨[(1, .one ⟨false, [.int .i64 o0]⟩)], 0, []⟩) := by kernel_rfl
theorem laws_szPumpS_l0_ok {α : Type} (p n : Nat) (k : Ex → St → Option α) (v0 : List (Ty.T TPump)) : ∀ (q : Nat) (v1 : Int) (v2 : Int), laws_szPumpS_it0 p n 0 k q (laws_szPumpS_l0_sh.mk' (((v0, ()), (v1, ()), (v2, ()), ()), (()))) =
  laws_szPumpS_l0_go p v0 q v1 v2 (fun o0 o1 => k .ret ⟨[(1, .one ⟨false, [.int .i64 o0]⟩), (4, .one ⟨false, [.int .i64 o1]⟩)], 0, []⟩) (fun o0 => k (.exit 0) ⟨[(1, .one ⟨false, [.int .i64 o0]⟩)], 0, []⟩) := by
  intro q
  induction q with
  | zero => intros; rfl
  | succ q ih => intro v1 v2; rw [laws_szPumpS_l0_step]; simp only [ih]; rfl
theorem laws_szPumpS_ltok_12_ls (p : Nat) : loopsOf (bodyOf Tryz.f12) (laws_szPumpS_lt p) = [⟨laws_szPumpS_c0, [0, 1, 5], [1, 4], laws_szPumpS_lc0 p, .leaf⟩] := by kernel_rfl
theorem laws_szPumpS_ltok_12_dep (p : Nat) : LT.dep (laws_szPumpS_lt p) = 0 := by kernel_rfl
theorem laws_szPumpS_ltok_12 (p : Nat) : LTok Tryz.prog (laws_szPumpS_G p) 5 12 (laws_szPumpS_lt p) := by
  intro α n base fn c hd hfn hc
  have hfn' : some fn = some Tryz.f12 := hfn.symm.trans Tryz.func12
  cases hfn'
  have hc' : c = bodyOf Tryz.f12 := by unfold bodyOf; rw [hc]; rfl
  subst hc'
  rw [laws_szPumpS_ltok_12_dep] at hd
  obtain ⟨n, rfl⟩ := Nat.exists_eq_add_of_le' hd
  apply LTS_of_loops
  rw [laws_szPumpS_ltok_12_ls]
  intro e he st k r h
  simp only [List.mem_cons, List.not_mem_nil, or_false] at he
  subst he
  · obtain ⟨a, ha, hb, x, rfl, h⟩ := altRun_ok h
    simp only [List.mem_cons, List.not_mem_nil, or_false] at ha
    subst ha
    · cases hb; exact ⟨p, (laws_szPumpS_l0_ok p n k _ p _ _).trans h⟩
theorem laws_szPumpS_E (p : Nat) : EnvS Tryz.prog (laws_szPumpS_G p) := by
  apply glist_env; intro f ce h
  simp only [List.mem_cons, List.not_mem_nil, or_false, Prod.mk.injEq] at h
  rcases h with ⟨rfl, rfl⟩
  · exact laws_szPump_s p
theorem laws_szPumpS_I (p : Nat) : ∀ f lt, laws_szPumpS_G p f = some (.inl lt) → LTok Tryz.prog (laws_szPumpS_G p) 5 f lt := by
  apply glist_inl; intro f lt h
  simp only [List.mem_cons, List.not_mem_nil, or_false, Prod.mk.injEq, CE.inl.injEq, and_false, or_false, false_or, reduceCtorEq] at h
  
noncomputable def laws_szPumpS_p (p : Nat) (a0 : (List (Ty.T TPump))) (a1 : Int) : Option (Int × Unit) :=
  (bif (decide ((IntKind.wrap .i64 (a1 - (a0.length : Int))) < (0 : Int))) then some ((-1 : Int), ())
 else (laws_szPumpS_l0_go p a0 p (IntKind.wrap .i64 (a1 - (a0.length : Int))) (0 : Int) (fun o3 o4 => some (o4, ())) (fun o5 => some (o5, ()))))
theorem laws_szPumpS_run (p : Nat) (x : (parsT [.val (.slice TPump), .val (.int .i64)]).T) : acall Tryz.prog (laws_szPumpS_G p) 5 1 12 (laws_szPumpS_lt p) (argAVs [.val (.slice TPump), .val (.int .i64)] x) ⟨[], 0, []⟩ (outR [(.int .i64)]) = laws_szPumpS_p p x.1 x.2.1 := by kernel_rfl
noncomputable def laws_szPumpS_c (p : Nat) : PC := PC.fn true [.val (.slice TPump), .val (.int .i64)] [(.int .i64)] fun x => laws_szPumpS_p p x.1 x.2.1
theorem laws_szPumpS_s (p : Nat) : PSound Tryz.prog 12 (laws_szPumpS_c p) := pure_sound (laws_szPumpS_E p) Tryz.checked.mixed (laws_szPumpS_I p) (laws_szPumpS_ltok_12 p) (fun _ => rfl) fun x y h => (laws_szPumpS_run p x).trans h
/-! laws.szSubstation -/
noncomputable def laws_szSubstation_G (p : Nat) : FuncId → Option CE := glist []
theorem laws_szSubstation_E (p : Nat) : EnvS Tryz.prog (laws_szSubstation_G p) := by
  apply glist_env; intro f ce h
  simp only [List.mem_cons, List.not_mem_nil, or_false, Prod.mk.injEq] at h
  
theorem laws_szSubstation_I (p : Nat) : ∀ f lt, laws_szSubstation_G p f = some (.inl lt) → LTok Tryz.prog (laws_szSubstation_G p) 5 f lt := by
  apply glist_inl; intro f lt h
  simp only [List.mem_cons, List.not_mem_nil, or_false, Prod.mk.injEq, CE.inl.injEq, and_false, or_false, false_or, reduceCtorEq] at h
  
noncomputable def laws_szSubstation_p (p : Nat) (a0 : (Ty.T TSubstation)) (a1 : Int) : Option (Int × Unit) :=
  (bif (decide ((IntKind.wrap .i64 (a1 - (a0.1.size : Int))) < (0 : Int))) then some ((-1 : Int), ())
 else some ((IntKind.wrap .i64 (a1 - (a0.1.size : Int))), ()))
theorem laws_szSubstation_run (p : Nat) (x : (parsT [.val TSubstation, .val (.int .i64)]).T) : acall Tryz.prog (laws_szSubstation_G p) 5 1 52 .leaf (argAVs [.val TSubstation, .val (.int .i64)] x) ⟨[], 0, []⟩ (outR [(.int .i64)]) = laws_szSubstation_p p x.1 x.2.1 := by kernel_rfl
noncomputable def laws_szSubstation_c (p : Nat) : PC := PC.fn true [.val TSubstation, .val (.int .i64)] [(.int .i64)] fun x => laws_szSubstation_p p x.1 x.2.1
theorem laws_szSubstation_s (p : Nat) : PSound Tryz.prog 52 (laws_szSubstation_c p) := pure_sound (laws_szSubstation_E p) Tryz.checked.mixed (laws_szSubstation_I p) LTok_leaf (fun _ => rfl) fun x y h => (laws_szSubstation_run p x).trans h
/-! laws.szSubstationS -/
noncomputable def laws_szSubstationS_l0_r {α : Type} (p : Nat) (v0 : List (Ty.T TSubstation)) (rec : (Int) → (Int) → Option α) (v1 : Int) (v2 : Int) (k0 : (Int) → (Int) → Option α) (k1 : (Int) → Option α) : Option α :=
  (bif (decide (v2 < (v0.length : Int))) then (if 0 ≤ v2 then (v0[v2.toNat]?).bind fun y1 => ((laws_szSubstation_p p y1 v1).bind fun r2 => (bif (decide (r2.1 < (0 : Int))) then (k0 r2.1 (-1 : Int))
 else (rec r2.1 (IntKind.wrap .i64 (v2 + (1 : Int)))))) else none)
 else (k1 v1))
noncomputable def laws_szSubstationS_l0_go {α : Type} (p : Nat) (v0 : List (Ty.T TSubstation)) : Nat → (Int) → (Int) → ((Int) → (Int) → Option α) → ((Int) → Option α) → Option α
  | 0, _, _, _, _ => none
  | q + 1, v1, v2, k0, k1 => laws_szSubstationS_l0_r p v0 (fun v1 v2 => laws_szSubstationS_l0_go p v0 q v1 v2 k0 k1) v1 v2 k0 k1
def laws_szSubstationS_l0_sh : Sh := ⟨[⟨0, false, [.sl TSubstation]⟩, ⟨1, false, [.int .i64]⟩, ⟨5, false, [.int .i64]⟩], 0, []⟩
noncomputable def laws_szSubstationS_lc0 (p : Nat) : LC := LC.alts 0 [⟨0, laws_szSubstationS_l0_sh, fun x {α} k => laws_szSubstationS_l0_go p x.1.1.1 p x.1.2.1.1 x.1.2.2.1.1 (fun o0 o1 => k .ret ⟨[(1, .one ⟨false, [.int .i64 o0]⟩), (4, .one ⟨false, [.int .i64 o1]⟩)], 0, []⟩) (fun o0 => k (.exit 0) ⟨[(1, .one ⟨false, [.int .i64 o0]⟩)], 0, []⟩)⟩]
noncomputable def laws_szSubstationS_lt (p : Nat) : LT := (.node .leaf (.node .leaf (.node .leaf (.node (.node .leaf (.loop [0, 1, 5] [1, 4] (some (laws_szSubstationS_lc0 p)) .leaf)) .leaf))))
noncomputable def laws_szSubstationS_G (p : Nat) : FuncId → Option CE := glist [(52, .pure (laws_szSubstation_c p))]
noncomputable def laws_szSubstationS_c0 : Code := codeAt [1, 1, 1, 0, 1, 0, 0] (bodyOf Tryz.f13)
noncomputable def laws_szSubstationS_it0 {α : Type} (p n b : Nat) (k : Ex → St → Option α) (q : Nat) (st : St) : Option α :=
  iter (fun s q => aexec Tryz.prog (laws_szSubstationS_G p) (fun g lt args st (k : D → St → Option α) => acall Tryz.prog (laws_szSubstationS_G p) 5 (n + 0) g lt args st k) 5 b 27 laws_szSubstationS_c0 .leaf s q) (canon b [0, 1, 5]) q st (fun e s => k e (canon b [1, 4] s))
theorem laws_szSubstationS_l0_step {α : Type} (p n : Nat) (k : Ex → St → Option α) (v0 : List (Ty.T TSubstation)) (q : Nat) (v1 : Int) (v2 : Int) : laws_szSubstationS_it0 p n 0 k (q + 1) (laws_szSubstationS_l0_sh.mk' (((v0, ()), (v1, ()), (v2, ()), ()), (()))) =
  laws_szSubstationS_l0_r p v0 (fun v1 v2 => laws_szSubstationS_it0 p n 0 k q (laws_szSubstationS_l0_sh.mk' (((v0, ()), (v1, ()), (v2, ()), ()), (())))) v1 v2 (fun o0 o1 => k .ret ⟨[(1, .one ⟨false, [.int .i64 o0]⟩), (4, .one ⟨false, [.int .i64 o1]⟩)], 0, []⟩) (fun o0 => k (.exit 0) ⟨[(1, .one ⟨false, [.int .i64 o0]⟩)], 0, []⟩) := by kernel_rfl
theorem laws_szSubstationS_l0_ok {α : Type} (p n : Nat) (k : Ex → St → Option α) (v0 : List (Ty.T TSubstation)) : ∀ (q : Nat) (v1 : Int) (v2 : Int), laws_szSubstationS_it0 p n 0 k q (laws_szSubstationS_l0_sh.mk' (((v0, ()), (v1, ()), (v2, ()), ()), (()))) =
  laws_szSubstationS_l0_go p v0 q v1 v2 (fun o0 o1 => k .ret ⟨[(1, .one ⟨false, [.int .i64 o0]⟩), (4, .one ⟨false, [.int .i64 o1]⟩)], 0, []⟩) (fun o0 => k (.exit 0) ⟨[(1, .one ⟨false, [.int .i64 o0]⟩)], 0, []⟩) := by
  intro q
  induction q with
  | zero => intros; rfl
  | succ q ih => intro v1 v2; rw [laws_szSubstationS_l0_step]; simp only [ih]; rfl
theorem laws_szSubstationS_ltok_13_ls (p : Nat) : loopsOf (bodyOf Tryz.f13) (laws_szSubstationS_lt p) = [⟨laws_szSubstationS_c0, [0, 1, 5], [1, 4], laws_szSubstationS_lc0 p, .leaf⟩] := by kernel_rfl
theorem laws_szSubstationS_ltok_13_dep (p : Nat) : LT.dep (laws_szSubstationS_lt p) = 0 := by kernel_rfl
theorem laws_szSubstationS_ltok_13 (p : Nat) : LTok Tryz.prog (laws_szSubstationS_G p) 5 13 (laws_szSubstationS_lt p) := by
  intro α n base fn c hd hfn hc
  have hfn' : some fn = some Tryz.f13 := hfn.symm.trans Tryz.func13
  cases hfn'
  have hc' : c = bodyOf Tryz.f13 := by unfold bodyOf; rw [hc]; rfl
  subst hc'
  rw [laws_szSubstationS_ltok_13_dep] at hd
  obtain ⟨n, rfl⟩ := Nat.exists_eq_add_of_le' hd
  apply LTS_of_loops
  rw [laws_szSubstationS_ltok_13_ls]
  intro e he st k r h
  simp only [List.mem_cons, List.not_mem_nil, or_false] at he
  subst he
  · obtain ⟨a, ha, hb, x, rfl, h⟩ := altRun_ok h
    simp only [List.mem_cons, List.not_mem_nil, or_false] at ha
    subst ha
    · cases hb; exact ⟨p, (laws_szSubstationS_l0_ok p n k _ p _ _).trans h⟩
theorem laws_szSubstationS_E (p : Nat) : EnvS Tryz.prog (laws_szSubstationS_G p) := by
  apply glist_env; intro f ce h
  simp only [List.mem_cons, List.not_mem_nil, or_false, Prod.mk.injEq] at h
  rcases h with ⟨rfl, rfl⟩
  · exact laws_szSubstation_s p
theorem laws_szSubstationS_I (p : Nat) : ∀ f lt, laws_szSubstationS_G p f = some (.inl lt) → LTok Tryz.prog (laws_szSubstationS_G p) 5 f lt := by
  apply glist_inl; intro f lt h
  simp only [List.mem_cons, List.not_mem_nil, or_false, Prod.mk.injEq, CE.inl.injEq, and_false, or_false, false_or, reduceCtorEq] at h
  
noncomputable def laws_szSubstationS_p (p : Nat) (a0 : (List (Ty.T TSubstation))) (a1 : Int) : Option (Int × Unit) :=
  (bif (decide ((IntKind.wrap .i64 (a1 - (a0.length : Int))) < (0 : Int))) then some ((-1 : Int), ())
 else (laws_szSubstationS_l0_go p a0 p (IntKind.wrap .i64 (a1 - (a0.length : Int))) (0 : Int) (fun o3 o4 => some (o4, ())) (fun o5 => some (o5, ()))))
theorem laws_szSubstationS_run (p : Nat) (x : (parsT [.val (.slice TSubstation), .val (.int .i64)]).T) : acall Tryz.prog (laws_szSubstationS_G p) 5 1 13 (laws_szSubstationS_lt p) (argAVs [.val (.slice TSubstation), .val (.int .i64)] x) ⟨[], 0, []⟩ (outR [(.int .i64)]) = laws_szSubstationS_p p x.1 x.2.1 := by kernel_rfl
noncomputable def laws_szSubstationS_c (p : Nat) : PC := PC.fn true [.val (.slice TSubstation), .val (.int .i64)] [(.int .i64)] fun x => laws_szSubstationS_p p x.1 x.2.1
theorem laws_szSubstationS_s (p : Nat) : PSound Tryz.prog 13 (laws_szSubstationS_c p) := pure_sound (laws_szSubstationS_E p) Tryz.checked.mixed (laws_szSubstationS_I p) (laws_szSubstationS_ltok_13 p) (fun _ => rfl) fun x y h => (laws_szSubstationS_run p x).trans h
/-! laws.szFuel -/
noncomputable def laws_szFuel_G (p : Nat) : FuncId → Option CE := glist []
theorem laws_szFuel_E (p : Nat) : EnvS Tryz.prog (laws_szFuel_G p) := by
  apply glist_env; intro f ce h
  simp only [List.mem_cons, List.not_mem_nil, or_false, Prod.mk.injEq] at h
  
theorem laws_szFuel_I (p : Nat) : ∀ f lt, laws_szFuel_G p f = some (.inl lt) → LTok Tryz.prog (laws_szFuel_G p) 5 f lt := by
  apply glist_inl; intro f lt h
  simp only [List.mem_cons, List.not_mem_nil, or_false, Prod.mk.injEq, CE.inl.injEq, and_false, or_false, false_or, reduceCtorEq] at h
  
noncomputable def laws_szFuel_p (p : Nat) (a0 : (Ty.T TFuel)) (a1 : Int) : Option (Int × Unit) :=
  (bif (decide ((IntKind.wrap .i64 (a1 - (a0.1.size : Int))) < (0 : Int))) then some ((-1 : Int), ())
 else some ((IntKind.wrap .i64 (a1 - (a0.1.size : Int))), ()))
theorem laws_szFuel_run (p : Nat) (x : (parsT [.val TFuel, .val (.int .i64)]).T) : acall Tryz.prog (laws_szFuel_G p) 5 1 53 .leaf (argAVs [.val TFuel, .val (.int .i64)] x) ⟨[], 0, []⟩ (outR [(.int .i64)]) = laws_szFuel_p p x.1 x.2.1 := by kernel_rfl
noncomputable def laws_szFuel_c (p : Nat) : PC := PC.fn true [.val TFuel, .val (.int .i64)] [(.int .i64)] fun x => laws_szFuel_p p x.1 x.2.1
theorem laws_szFuel_s (p : Nat) : PSound Tryz.prog 53 (laws_szFuel_c p) := pure_sound (laws_szFuel_E p) Tryz.checked.mixed (laws_szFuel_I p) LTok_leaf (fun _ => rfl) fun x y h => (laws_szFuel_run p x).trans h
/-! laws.szFuelS -/
noncomputable def laws_szFuelS_l0_r {α : Type} (p : Nat) (v0 : List (Ty.T TFuel)) (rec : (Int) → (Int) → Option α) (v1 : Int) (v2 : Int) (k0 : (Int) → (Int) → Option α) (k1 : (Int) → Option α) : Option α :=
  (bif (decide (v2 < (v0.length : Int))) then (if 0 ≤ v2 then (v0[v2.toNat]?).bind fun y1 => ((laws_szFuel_p p y1 v1).bind fun r2 => (bif (decide (r2.1 < (0 : Int))) then (k0 r2.1 (-1 : Int))
 else (rec r2.1 (IntKind.wrap .i64 (v2 + (1 : Int)))))) else none)
 else (k1 v1))
noncomputable def laws_szFuelS_l0_go {α : Type} (p : Nat) (v0 : List (Ty.T TFuel)) : Nat → (Int) → (Int) → ((Int) → (Int) → Option α) → ((Int) → Option α) → Option α
  | 0, _, _, _, _ => none
  | q + 1, v1, v2, k0, k1 => laws_szFuelS_l0_r p v0 (fun v1 v2 => laws_szFuelS_l0_go p v0 q v1 v2 k0 k1) v1 v2 k0 k1
def laws_szFuelS_l0_sh : Sh := ⟨[⟨0, false, [.sl TFuel]⟩, ⟨1, false, [.int .i64]⟩, ⟨5, false, [.int .i64]⟩], 0, []⟩
noncomputable def laws_szFuelS_lc0 (p : Nat) : LC := LC.alts 0 [⟨0, laws_szFuelS_l0_sh, fun x {α} k => laws_szFuelS_l0_go p x.1.1.1 p x.1.2.1.1 x.1.2.2.1.1 (fun o0 o1 => k .ret ⟨[(1, .one ⟨false, [.int .i64 o0]⟩), (4, .one ⟨false, [.int .i64 o1]⟩)], 0, []⟩) (fun o0 => k (.exit 0) ⟨[(1, .one ⟨false, [.int .i64 o0]⟩)], 0, []⟩)⟩]
noncomputable def laws_szFuelS_lt (p : Nat) : LT := (.node .leaf (.node .leaf (.node .leaf (.node (.node .leaf (.loop [0, 1, 5] [1, 4] (some (laws_szFuelS_lc0 p)) .leaf)) .leaf))))
noncomputable def laws_szFuelS_G (p : Nat) : FuncId → Option CE := glist [(53, .pure (laws_szFuel_c p))]
noncomputable def laws_szFuelS_c0 : Code := codeAt [1, 1, 1, 0, 1, 0, 0] (bodyOf Tryz.f14)
noncomputable def laws_szFuelS_it0 {α : Type} (p n b : Nat) (k : Ex → St → Option α) (q : Nat) (st : St) : Option α :=
  iter (fun s q => aexec Tryz.prog (laws_szFuelS_G p) (fun g lt args st (k : D → St → Option α) => acall Tryz.prog (laws_szFuelS_G p) 5 (n + 0) g lt args st k) 5 b 27 laws_szFuelS_c0 .leaf s q) (canon b [0, 1, 5]) q st (fun e s => k e (canon b [1, 4] s))
theorem laws_szFuelS_l0_step {α : Type} (p n : Nat) (k : Ex → St → Option α) (v0 : List (Ty.T TFuel)) (q : Nat) (v1 : Int) (v2 : Int) : laws_szFuelS_it0 p n 0 k (q + 1) (laws_szFuelS_l0_sh.mk' (((v0, ()), (v1, ()), (v2, ()), ()), (()))) =
  laws_szFuelS_l0_r p v0 (fun v1 v2 => laws_szFuelS_it0 p n 0 k q (laws_szFuelS_l0_sh.mk' (((v0, ()), (v1, ()), (v2, ()), ()), (())))) v1 v2 (fun o0 o1 => k .ret ⟨[(1, .one ⟨false, [.int .i64 o0]⟩), (4, .one ⟨false, [.int .i64 o1]⟩)], 0, []⟩) (fun o0 => k (.exit 0) ⟨[(1, .one ⟨false, [.int .i64 o0]⟩)], 0, []⟩) := by kernel_rfl
theorem laws_szFuelS_l0_ok {α : Type} (p n : Nat) (k : Ex → St → Option α) (v0 : List (Ty.T TFuel)) : ∀ (q : Nat) (v1 : Int) (v2 : Int), laws_szFuelS_it0 p n 0 k q (laws_szFuelS_l0_sh.mk' (((v0, ()), (v1, ()), (v2, ()), ()), (()))) =
  laws_szFuelS_l0_go p v0 q v1 v2 (fun o0 o1 => k .ret ⟨[(1, .one ⟨false, [.int .i64 o0]⟩), (4, .one ⟨false, [.int .i64 o1]⟩)], 0, []⟩) (fun o0 => k (.exit 0) ⟨[(1, .one ⟨false, [.int .i64 o0]⟩)], 0, []⟩) := by
  intro q
  induction q with
  | zero => intros; rfl
  | succ q ih => intro v1 v2; rw [laws_szFuelS_l0_step]; simp only [ih]; rfl
theorem laws_szFuelS_ltok_14_ls (p : Nat) : loopsOf (bodyOf Tryz.f14) (laws_szFuelS_lt p) = [⟨laws_szFuelS_c0, [0, 1, 5], [1, 4], laws_szFuelS_lc0 p, .leaf⟩] := by kernel_rfl
theorem laws_szFuelS_ltok_14_dep (p : Nat) : LT.dep (laws_szFuelS_lt p) = 0 := by kernel_rfl
theorem laws_szFuelS_ltok_14 (p : Nat) : LTok Tryz.prog (laws_szFuelS_G p) 5 14 (laws_szFuelS_lt p) := by
  intro α n base fn c hd hfn hc
  have hfn' : some fn = some Tryz.f14 := hfn.symm.trans Tryz.func14
  cases hfn'
  have hc' : c = bodyOf Tryz.f14 := by unfold bodyOf; rw [hc]; rfl
  subst hc'
  rw [laws_szFuelS_ltok_14_dep] at hd
  obtain ⟨n, rfl⟩ := Nat.exists_eq_add_of_le' hd
  apply LTS_of_loops
  rw [laws_szFuelS_ltok_14_ls]
  intro e he st k r h
  simp only [List.mem_cons, List.not_mem_nil, or_false] at he
  subst he
  · obtain ⟨a, ha, hb, x, rfl, h⟩ := altRun_ok h
    simp only [List.mem_cons, List.not_mem_nil, or_false] at ha
    subst ha
    · cases hb; exact ⟨p, (laws_szFuelS_l0_ok p n k _ p _ _).trans h⟩
theorem laws_szFuelS_E (p : Nat) : EnvS Tryz.prog (laws_szFuelS_G p) := by
  apply glist_env; intro f ce h
  simp only [List.mem_cons, List.not_mem_nil, or_false, Prod.mk.injEq] at h
  rcases h with ⟨rfl, rfl⟩
  · exact laws_szFuel_s p
theorem laws_szFuelS_I (p : Nat) : ∀ f lt, laws_szFuelS_G p f = some (.inl lt) → LTok Tryz.prog (laws_szFuelS_G p) 5 f lt := by
  apply glist_inl; intro f lt h
  simp only [List.mem_cons, List.not_mem_nil, or_false, Prod.mk.injEq, CE.inl.injEq, and_false, or_false, false_or, reduceCtorEq] at h
  
noncomputable def laws_szFuelS_p (p : Nat) (a0 : (List (Ty.T TFuel))) (a1 : Int) : Option (Int × Unit) :=
  (bif (decide ((IntKind.wrap .i64 (a1 - (a0.length : Int))) < (0 : Int))) then some ((-1 : Int), ())
 else (laws_szFuelS_l0_go p a0 p (IntKind.wrap .i64 (a1 - (a0.length : Int))) (0 : Int) (fun o3 o4 => some (o4, ())) (fun o5 => some (o5, ()))))
theorem laws_szFuelS_run (p : Nat) (x : (parsT [.val (.slice TFuel), .val (.int .i64)]).T) : acall Tryz.prog (laws_szFuelS_G p) 5 1 14 (laws_szFuelS_lt p) (argAVs [.val (.slice TFuel), .val (.int .i64)] x) ⟨[], 0, []⟩ (outR [(.int .i64)]) = laws_szFuelS_p p x.1 x.2.1 := by kernel_rfl
noncomputable def laws_szFuelS_c (p : Nat) : PC := PC.fn true [.val (.slice TFuel), .val (.int .i64)] [(.int .i64)] fun x => laws_szFuelS_p p x.1 x.2.1
theorem laws_szFuelS_s (p : Nat) : PSound Tryz.prog 14 (laws_szFuelS_c p) := pure_sound (laws_szFuelS_E p) Tryz.checked.mixed (laws_szFuelS_I p) (laws_szFuelS_ltok_14 p) (fun _ => rfl) fun x y h => (laws_szFuelS_run p x).trans h
/-! laws.szRepair -/
noncomputable def laws_szRepair_G (p : Nat) : FuncId → Option CE := glist []
theorem laws_szRepair_E (p : Nat) : EnvS Tryz.prog (laws_szRepair_G p) := by
  apply glist_env; intro f ce h
  simp only [List.mem_cons, List.not_mem_nil, or_false, Prod.mk.injEq] at h
  
theorem laws_szRepair_I (p : Nat) : ∀ f lt, laws_szRepair_G p f = some (.inl lt) → LTok Tryz.prog (laws_szRepair_G p) 5 f lt := by
  apply glist_inl; intro f lt h
  simp only [List.mem_cons, List.not_mem_nil, or_false, Prod.mk.injEq, CE.inl.injEq, and_false, or_false, false_or, reduceCtorEq] at h
  
noncomputable def laws_szRepair_p (p : Nat) (a0 : (Ty.T TFuel)) (a1 : Int) : Option (Int × Unit) :=
  (bif (decide ((IntKind.wrap .i64 (a1 - (a0.1.size : Int))) < (0 : Int))) then some ((-1 : Int), ())
 else some ((IntKind.wrap .i64 (a1 - (a0.1.size : Int))), ()))
theorem laws_szRepair_run (p : Nat) (x : (parsT [.val TFuel, .val (.int .i64)]).T) : acall Tryz.prog (laws_szRepair_G p) 5 1 54 .leaf (argAVs [.val TFuel, .val (.int .i64)] x) ⟨[], 0, []⟩ (outR [(.int .i64)]) = laws_szRepair_p p x.1 x.2.1 := by kernel_rfl
noncomputable def laws_szRepair_c (p : Nat) : PC := PC.fn true [.val TFuel, .val (.int .i64)] [(.int .i64)] fun x => laws_szRepair_p p x.1 x.2.1
theorem laws_szRepair_s (p : Nat) : PSound Tryz.prog 54 (laws_szRepair_c p) := pure_sound (laws_szRepair_E p) Tryz.checked.mixed (laws_szRepair_I p) LTok_leaf (fun _ => rfl) fun x y h => (laws_szRepair_run p x).trans h
/-! laws.szRepairS -/
noncomputable def laws_szRepairS_l0_r {α : Type} (p : Nat) (v0 : List (Ty.T TFuel)) (rec : (Int) → (Int) → Option α) (v1 : Int) (v2 : Int) (k0 : (Int) → (Int) → Option α) (k1 : (Int) → Option α) : Option α :=
  (bif (decide (v2 < (v0.length : Int))) then (if 0 ≤ v2 then (v0[v2.toNat]?).bind fun y1 => ((laws_szRepair_p p y1 v1).bind fun r2 => (bif (decide (r2.1 < (0 : Int))) then (k0 r2.1 (-1 : Int))
 else (rec r2.1 (IntKind.wrap .i64 (v2 + (1 : Int)))))) else none)
 else (k1 v1))
noncomputable def laws_szRepairS_l0_go {α : Type} (p : Nat) (v0 : List (Ty.T TFuel)) : Nat → (Int) → (Int) → ((Int) → (Int) → Option α) → ((Int) → Option α) → Option α
  | 0, _, _, _, _ => none
  | q + 1, v1, v2, k0, k1 => laws_szRepairS_l0_r p v0 (fun v1 v2 => laws_szRepairS_l0_go p v0 q v1 v2 k0 k1) v1 v2 k0 k1
def laws_szRepairS_l0_sh : Sh := ⟨[⟨0, false, [.sl TFuel]⟩, ⟨1, false, [.int .i64]⟩, ⟨5, false, [.int .i64]⟩], 0, []⟩
noncomputable def laws_szRepairS_lc0 (p : Nat) : LC := LC.alts 0 [⟨0, laws_szRepairS_l0_sh, fun x {α} k => laws_szRepairS_l0_go p x.1.1.1 p x.1.2.1.1 x.1.2.2.1.1 (fun o0 o1 => k .ret ⟨[(1, .one ⟨false, [.int .i64 o0]⟩), (4, .one ⟨false, [.int .i64 o1]⟩)], 0, []⟩) (fun o0 => k (.exit 0) ⟨[(1, .one ⟨false, [.int .i64 o0]⟩)], 0, []⟩)⟩]
noncomputable def laws_szRepairS_lt (p : Nat) : LT := (.node .leaf (.node .leaf (.node .leaf (.node (.node .leaf (.loop [0, 1, 5] [1, 4] (some (laws_szRepairS_lc0 p)) .leaf)) .leaf))))
noncomputable def laws_szRepairS_G (p : Nat) : FuncId → Option CE := glist [(54, .pure (laws_szRepair_c p))]
noncomputable def laws_szRepairS_c0 : Code := codeAt [1, 1, 1, 0, 1, 0, 0] (bodyOf Tryz.f15)
noncomputable def laws_szRepairS_it0 {α : Type} (p n b : Nat) (k : Ex → St → Option α) (q : Nat) (st : St) : Option α :=
  iter (fun s q => aexec Tryz.prog (laws_szRepairS_G p) (fun g lt args st (k : D → St → Option α) => acall Tryz.prog (laws_szRepairS_G p) 5 (n + 0) g lt args st k) 5 b 27 laws_szRepairS_c0 .leaf s q) (canon b [0, 1, 5]) q st (fun e s => k e (canon b [1, 4] s))
theorem laws_szRepairS_l0_step {α : Type} (p n : Nat) (k : Ex → St → Option α) (v0 : List (Ty.T TFuel)) (q : Nat) (v1 : Int) (v2 : Int) : laws_szRepairS_it0 p n 0 k (q + 1) (laws_szRepairS_l0_sh.mk' (((v0, ()), (v1, ()), (v2, ()), ()), (()))) =
  laws_szRepairS_l0_r p v0 (fun v1 v2 => laws_szRepairS_it0 p n 0 k q (laws_szRepairS_l0_sh.mk' (((v0, ()), (v1, ()), (v2, ()), ()), (())))) v1 v2 (fun o0 o1 => k .ret ⟨[(1, .one ⟨false, [.int .i64 o0]⟩), (4, .one ⟨false, [.int .i64 o1]⟩)], 0, []⟩) (fun o0 => k (.exit 0) ⟨[(1, .one ⟨false, [.int .i64 o0]⟩)], 0, []⟩) := by kernel_rfl
theorem laws_szRepairS_l0_ok {α : Type} (p n : Nat) (k : Ex → St → Option α) (v0 : List (Ty.T TFuel)) : ∀ (q : Nat) (v1 : Int) (v2 : Int), laws_szRepairS_it0 p n 0 k q (laws_szRepairS_l0_sh.mk' (((v0, ()), (v1, ()), (v2, ()), ()), (()))) =
  laws_szRepairS_l0_go p v0 q v1 v2 (fun o0 o1 => k .ret ⟨[(1, .one ⟨false, [.int .i64 o0]⟩), (4, .one ⟨false, [.int .i64 o1]⟩)], 0, []⟩) (fun o0 => k (.exit 0) ⟨[(1, .one ⟨false, [.int .i64 o0]⟩)], 0, []⟩) := by
  intro q
  induction q with
  | zero => intros; rfl
  | succ q ih => intro v1 v2; rw [laws_szRepairS_l0_step]; simp only [ih]; rfl
theorem laws_szRepairS_ltok_15_ls (p : Nat) : loopsOf (bodyOf Tryz.f15) (laws_szRepairS_lt p) = [⟨laws_szRepairS_c0, [0, 1, 5], [1, 4], laws_szRepairS_lc0 p, .leaf⟩] := by kernel_rfl
theorem laws_szRepairS_ltok_15_dep (p : Nat) : LT.dep (laws_szRepairS_lt p) = 0 := by kernel_rfl
theorem laws_szRepairS_ltok_15 (p : Nat) : LTok Tryz.prog (laws_szRepairS_G p) 5 15 (laws_szRepairS_lt p) := by
  intro α n base fn c hd hfn hc
  have hfn' : some fn = some Tryz.f15 := hfn.symm.trans Tryz.func15
  cases hfn'
  have hc' : c = bodyOf Tryz.f15 := by unfold bodyOf; rw [hc]; rfl
  subst hc'
  rw [laws_szRepairS_ltok_15_dep] at hd
  obtain ⟨n, rfl⟩ := Nat.exists_eq_add_of_le' hd
  apply LTS_of_loops
  rw [laws_szRepairS_ltok_15_ls]
  intro e he st k r h
  simp only [List.mem_cons, List.not_mem_nil, or_false] at he
  subst he
  · obtain ⟨a, ha, hb, x, rfl, h⟩ := altRun_ok h
    simp only [List.mem_cons, List.not_mem_nil, or_false] at ha
    subst ha
    · cases hb; exact ⟨p, (laws_szRepairS_l0_ok p n k _ p _ _).trans h⟩
theorem laws_szRepairS_E (p : Nat) : EnvS Tryz.prog (laws_szRepairS_G p) := by
  apply glist_env; intro f ce h
  simp only [List.mem_cons, List.not_mem_nil, or_false, Prod.mk.injEq] at h
  rcases h with ⟨rfl, rfl⟩
  · exact laws_szRepair_s p
theorem laws_szRepairS_I (p : Nat) : ∀ f lt, laws_szRepairS_G p f = some (.inl lt) → LTok Tryz.prog (laws_szRepairS_G p) 5 f lt := by
  apply glist_inl; intro f lt h
  simp only [List.mem_cons, List.not_mem_nil, or_false, Prod.mk.injEq, CE.inl.injEq, and_false, or_false, false_or, reduceCtorEq] at h
  
noncomputable def laws_szRepairS_p (p : Nat) (a0 : (List (Ty.T TFuel))) (a1 : Int) : Option (Int × Unit) :=
  (bif (decide ((IntKind.wrap .i64 (a1 - (a0.length : Int))) < (0 : Int))) then some ((-1 : Int), ())
 else (laws_szRepairS_l0_go p a0 p (IntKind.wrap .i64 (a1 - (a0.length : Int))) (0 : Int) (fun o3 o4 => some (o4, ())) (fun o5 => some (o5, ()))))
theorem laws_szRepairS_run (p : Nat) (x : (parsT [.val (.slice TFuel), .val (.int .i64)]).T) : acall Tryz.prog (laws_szRepairS_G p) 5 1 15 (laws_szRepairS_lt p) (argAVs [.val (.slice TFuel), .val (.int .i64)] x) ⟨[], 0, []⟩ (outR [(.int .i64)]) = laws_szRepairS_p p x.1 x.2.1 := by kernel_rfl
noncomputable def laws_szRepairS_c (p : Nat) : PC := PC.fn true [.val (.slice TFuel), .val (.int .i64)] [(.int .i64)] fun x => laws_szRepairS_p p x.1 x.2.1
theorem laws_szRepairS_s (p : Nat) : PSound Tryz.prog 15 (laws_szRepairS_c p) := pure_sound (laws_szRepairS_E p) Tryz.checked.mixed (laws_szRepairS_I p) (laws_szRepairS_ltok_15 p) (fun _ => rfl) fun x y h => (laws_szRepairS_run p x).trans h
/-! laws.szTenant -/
noncomputable def laws_szTenant_G (p : Nat) : FuncId → Option CE := glist []
theorem laws_szTenant_E (p : Nat) : EnvS Tryz.prog (laws_szTenant_G p) := by
  apply glist_env; intro f ce h
  simp only [List.mem_cons, List.not_mem_nil, or_false, Prod.mk.injEq] at h
  
theorem laws_szTenant_I (p : Nat) : ∀ f lt, laws_szTenant_G p f = some (.inl lt) → LTok Tryz.prog (laws_szTenant_G p) 5 f lt := by
  apply glist_inl; intro f lt h
  simp only [List.mem_cons, List.not_mem_nil, or_false, Prod.mk.injEq, CE.inl.injEq, and_false, or_false, false_or, reduceCtorEq] at h
  
noncomputable def laws_szTenant_p (p : Nat) (a0 : (Ty.T TTenant)) (a1 : Int) : Option (Int × Unit) :=
  (bif (decide ((IntKind.wrap .i64 (a1 - (a0.1.size : Int))) < (0 : Int))) then some ((-1 : Int), ())
 else some ((IntKind.wrap .i64 (a1 - (a0.1.size : Int))), ()))
theorem laws_szTenant_run (p : Nat) (x : (parsT [.val TTenant, .val (.int .i64)]).T) : acall Tryz.prog (laws_szTenant_G p) 5 1 55 .leaf (argAVs [.val TTenant, .val (.int .i64)] x) ⟨[], 0, []⟩ (outR [(.int .i64)]) = laws_szTenant_p p x.1 x.2.1 := by kernel_rfl
noncomputable def laws_szTenant_c (p : Nat) : PC := PC.fn true [.val TTenant, .val (.int .i64)] [(.int .i64)] fun x => laws_szTenant_p p x.1 x.2.1
theorem laws_szTenant_s (p : Nat) : PSound Tryz.prog 55 (laws_szTenant_c p) := pure_sound (laws_szTenant_E p) Tryz.checked.mixed (laws_szTenant_I p) LTok_leaf (fun _ => rfl) fun x y h => (laws_szTenant_run p x).trans h
/-! laws.szTenantS -/
noncomputable def laws_szTenantS_l0_r {α : Type} (p : Nat) (v0 : List (Ty.T TTenant)) (rec : (Int) → (Int) → Option α) (v1 : Int) (v2 : Int) (k0 : (Int) → (Int) → Option α) (k1 : (Int) → Option α) : Option α :=
  (bif (decide (v2 < (v0.length : Int))) then (if 0 ≤ v2 then (v0[v2.toNat]?).bind fun y1 => ((laws_szTenant_p p y1 v1).bind fun r2 => (bif (decide (r2.1 < (0 : Int))) then (k0 r2.1 (-1 : Int))
 else (rec r2.1 (IntKind.wrap .i64 (v2 + (1 : Int)))))) else none)
 else (k1 v1))
noncomputable def laws_szTenantS_l0_go {α : Type} (p : Nat) (v0 : List (Ty.T TTenant)) : Nat → (Int) → (Int) → ((Int) → (Int) → Option α) → ((Int) → Option α) → Option α
  | 0, _, _, _, _ => none
  | q + 1, v1, v2, k0, k1 => laws_szTenantS_l0_r p v0 (fun v1 v2 => laws_szTenantS_l0_go p v0 q v1 v2 k0 k1) v1 v2 k0 k1
def laws_szTenantS_l0_sh : Sh := ⟨[⟨0, false, [.sl TTenant]⟩, ⟨1, false, [.int .i64]⟩, ⟨5, false, [.int .i64]⟩], 0, []⟩
noncomputable def laws_szTenantS_lc0 (p : Nat) : LC := LC.alts 0 [⟨0, laws_szTenantS_l0_sh, fun x {α} k => laws_szTenantS_l0_go p x.1.1.1 p x.1.2.1.1 x.1.2.2.1.1 (fun o0 o1 => k .ret ⟨[(1, .one ⟨false, [.int .i64 o0]⟩), (4, .one ⟨false, [.int .i64 o1]⟩)], 0, []⟩) (fun o0 => k (.exit 0) ⟨[(1, .one ⟨false, [.int .i64 o0]⟩)], 0, []⟩)⟩]
noncomputable def laws_szTenantS_lt (p : Nat) : LT := (.node .leaf (.node .leaf (.node .leaf (.node (.node .leaf (.loop [0, 1, 5] [1, 4] (some (laws_szTenantS_lc0 p)) .leaf)) .leaf))))
noncomputable def laws_szTenantS_G (p : Nat) : FuncId → Option CE := glist [(55, .pure (laws_szTenant_c p))]
noncomputable def laws_szTenantS_c0 : Code := codeAt [1, 1, 1, 0, 1, 0, 0] (bodyOf Tryz.f16)
noncomputable def laws_szTenantS_it0 {α : Type} (p n b : Nat) (k : Ex → St → Option α) (q : Nat) (st : St) : Option α :=
  iter (fun s q => aexec Tryz.prog (laws_szTenantS_G p) (fun g lt args st (k : D → St → Option α) => acall Tryz.prog (laws_szTenantS_G p) 5 (n + 0) g lt args st k) 5 b 27 laws_szTenantS_c0 .leaf s q) (canon b [0, 1, 5]) q st (fun e s => k e (canon b [1, 4] s))
theorem laws_szTenantS_l0_step {α : Type} (p n : Nat) (k : Ex → St → Option α) (v0 : List (Ty.T TTenant)) (q : Nat) (v1 : Int) (v2 : Int) : laws_szTenantS_it0 p n 0 k (q + 1) (laws_szTenantS_l0_sh.mk' (((v0, ()), (v1, ()), (v2, ()), ()), (()))) =
  laws_szTenantS_l0_r p v0 (fun v1 v2 => laws_szTenantS_it0 p n 0 k q (laws_szTenantS_l0_sh.mk' (((v0, ()), (v1, ()), (v2, ()), ()), (())))) v1 v2 (fun o0 o1 => k .ret ⟨[(1, .one ⟨false, [.int .i64 o0]⟩), (4, .one ⟨false, [.int .i64 o1]⟩)], 0, []⟩) (fun o0 => k (.exit 0) ⟨[(1, .one ⟨false, [.int .i64 o0]⟩)], 0, []⟩) := by kernel_rfl
theorem laws_szTenantS_l0_ok {α : Type} (p n : Nat) (k : Ex → St → Option α) (v0 : List (Ty.T TTenant)) : ∀ (q : Nat) (v1 : Int) (v2 : Int), laws_szTenantS_it0 p n 0 k q (laws_szTenantS_l0_sh.mk' (((v0, ()), (v1, ()), (v2, ()), ()), (()))) =
  laws_szTenantS_l0_go p v0 q v1 v2 (fun o0 o1 => k .ret ⟨[(1, .one ⟨false, [.int .i64 o0]⟩), (4, .one ⟨false, [.int .i64 o1]⟩)], 0, []⟩) (fun o0 => k (.exit 0) ⟨[(1, .one ⟨false, [.int .i64 o0]⟩)], 0, []⟩) := by
  intro q
  induction q with
  | zero => intros; rfl
  | succ q ih => intro v1 v2; rw [laws_szTenantS_l0_step]; simp only [ih]; rfl
theorem laws_szTenantS_ltok_16_ls (p : Nat) : loopsOf (bodyOf Tryz.f16) (laws_szTenantS_lt p) = [⟨laws_szTenantS_c0, [0, 1, 5], [1, 4], laws_szTenantS_lc0 p, .leaf⟩] := by kernel_rfl
theorem laws_szTenantS_ltok_16_dep (p : Nat) : LT.dep (laws_szTenantS_lt p) = 0 := by kernel_rfl
theorem laws_szTenantS_ltok_16 (p : Nat) : LTok Tryz.prog (laws_szTenantS_G p) 5 16 (laws_szTenantS_lt p) := by
  intro α n base fn c hd hfn hc
  have hfn' : some fn = some Tryz.f16 := hfn.symm.trans Tryz.func16
  cases hfn'
  have hc' : c = bodyOf Tryz.f16 := by unfold bodyOf; rw [hc]; rfl
  subst hc'
  rw [laws_szTenantS_ltok_16_dep] at hd
  obtain ⟨n, rfl⟩ := Nat.exists_eq_add_of_le' hd
  apply LTS_of_loops
  rw [laws_szTenantS_ltok_16_ls]
  intro e he st k r h
  simp only [List.mem_cons, List.not_mem_nil, or_false] at he
  subst he
  · obtain ⟨a, ha, hb, x, rfl, h⟩ := altRun_ok h
    simp only [List.mem_cons, List.not_mem_nil, or_false] at ha
    subst ha
    · cases hb; exact ⟨p, (laws_szTenantS_l0_ok p n k _ p _ _).trans h⟩
theorem laws_szTenantS_E (p : Nat) : EnvS Tryz.prog (laws_szTenantS_G p) := by
  apply glist_env; intro f ce h
  simp only [List.mem_cons, List.not_mem_nil, or_false, Prod.mk.injEq] at h
  rcases h with ⟨rfl, rfl⟩
  · exact laws_szTenant_s p
theorem laws_szTenantS_I (p : Nat) : ∀ f lt, laws_szTenantS_G p f = some (.inl lt) → LTok Tryz.prog (laws_szTenantS_G p) 5 f lt := by
  apply glist_inl; intro f lt h
  simp only [List.mem_cons, List.not_mem_nil, or_false, Prod.mk.injEq, CE.inl.injEq, and_false, or_false, false_or, reduceCtorEq] at h
  
noncomputable def laws_szTenantS_p (p : Nat) (a0 : (List (Ty.T TTenant))) (a1 : Int) : Option (Int × Unit) :=
  (bif (decide ((IntKind.wrap .i64 (a1 - (a0.length : Int))) < (0 : Int))) then some ((-1 : Int), ())
 else (laws_szTenantS_l0_go p a0 p (IntKind.wrap .i64 (a1 - (a0.length : Int))) (0 : Int) (fun o3 o4 => some (o4, ())) (fun o5 => some (o5, ()))))
theorem laws_szTenantS_run (p : Nat) (x : (parsT [.val (.slice TTenant), .val (.int .i64)]).T) : acall Tryz.prog (laws_szTenantS_G p) 5 1 16 (laws_szTenantS_lt p) (argAVs [.val (.slice TTenant), .val (.int .i64)] x) ⟨[], 0, []⟩ (outR [(.int .i64)]) = laws_szTenantS_p p x.1 x.2.1 := by kernel_rfl
noncomputable def laws_szTenantS_c (p : Nat) : PC := PC.fn true [.val (.slice TTenant), .val (.int .i64)] [(.int .i64)] fun x => laws_szTenantS_p p x.1 x.2.1
theorem laws_szTenantS_s (p : Nat) : PSound Tryz.prog 16 (laws_szTenantS_c p) := pure_sound (laws_szTenantS_E p) Tryz.checked.mixed (laws_szTenantS_I p) (laws_szTenantS_ltok_16 p) (fun _ => rfl) fun x y h => (laws_szTenantS_run p x).trans h
/-! laws.szDuty -/
noncomputable def laws_szDuty_G (p : Nat) : FuncId → Option CE := glist []
theorem laws_szDuty_E (p : Nat) : EnvS Tryz.prog (laws_szDuty_G p) := by
  apply glist_env; intro f ce h
  simp only [List.mem_cons, List.not_mem_nil, or_false, Prod.mk.injEq] at h
  
theorem laws_szDuty_I (p : Nat) : ∀ f lt, laws_szDuty_G p f = some (.inl lt) → LTok Tryz.prog (laws_szDuty_G p) 5 f lt := by
  apply glist_inl; intro f lt h
  simp only [List.mem_cons, List.not_mem_nil, or_false, Prod.mk.injEq, CE.inl.injEq, and_false, or_false, false_or, reduceCtorEq] at h
  
noncomputable def laws_szDuty_p (p : Nat) (a0 : (Ty.T TDuty)) (a1 : Int) : Option (Int × Unit) :=
  (bif (decide ((IntKind.wrap .i64 (a1 - (a0.1.size : Int))) < (0 : Int))) then some ((-1 : Int), ())
 else some ((IntKind.wrap .i64 (a1 - (a0.1.size : Int))), ()))
theorem laws_szDuty_run (p : Nat) (x : (parsT [.val TDuty, .val (.int .i64)]).T) : acall Tryz.prog (laws_szDuty_G p) 5 1 56 .leaf (argAVs [.val TDuty, .val (.int .i64)] x) ⟨[], 0, []⟩ (outR [(.int .i64)]) = laws_szDuty_p p x.1 x.2.1 := by kernel_rfl
noncomputable def laws_szDuty_c (p : Nat) : PC := PC.fn true [.val TDuty, .val (.int .i64)] [(.int .i64)] fun x => laws_szDuty_p p x.1 x.2.1
theorem laws_szDuty_s (p : Nat) : PSound Tryz.prog 56 (laws_szDuty_c p) := pure_sound (laws_szDuty_E p) Tryz.checked.mixed (laws_szDuty_I p) LTok_leaf (fun _ => rfl) fun x y h => (laws_szDuty_run p x).trans h
/-! laws.szDutyS -/
noncomputable def laws_szDutyS_l0_r {α : Type} (p : Nat) (v0 : List (Ty.T TDuty)) (rec : (Int) → (Int) → Option α) (v1 : Int) (v2 : Int) (k0 : (Int) → (Int) → Option α) (k1 : (Int) → Option α) : Option α :=
  (bif (decide (v2 < (v0.length : Int))) then (if 0 ≤ v2 then (v0[v2.toNat]?).bind fun y1 => ((laws_szDuty_p p y1 v1).bind fun r2 => (bif (decide (r2.1 < (0 : Int))) then (k0 r2.1 (-1 : Int))
 else (rec r2.1 (IntKind.wrap .i64 (v2 + (1 : Int)))))) else none)
 else (k1 v1))
noncomputable def laws_szDutyS_l0_go {α : Type} (p : Nat) (v0 : List (Ty.T TDuty)) : Nat → (Int) → (Int) → ((Int) → (Int) → Option α) → ((Int) → Option α) → Option α
  | 0, _, _, _, _ => none
  | q + 1, v1, v2, k0, k1 => laws_szDutyS_l0_r p v0 (fun v1 v2 => laws_szDutyS_l0_go p v0 q v1 v2 k0 k1) v1 v2 k0 k1
def laws_szDutyS_l0_sh : Sh := ⟨[⟨0, false, [.sl TDuty]⟩, ⟨1, false, [.int .i64]⟩, ⟨5, false, [.int .i64]⟩], 0, []⟩
noncomputable def laws_szDutyS_lc0 (p : Nat) : LC := LC.alts 0 [⟨0, laws_szDutyS_l0_sh, fun x {α} k => laws_szDutyS_l0_go p x.1.1.1 p x.1.2.1.1 x.1.2.2.1.1 (fun o0 o1 => k .ret ⟨[(1, .one ⟨false, [.int .i64 o0]⟩), (4, .one ⟨false, [.int .i64 o1]⟩)], 0, []⟩) (fun o0 => k (.exit 0) ⟨[(1, .one ⟨false, [.int .i64 o0]⟩)], 0, []⟩)⟩]
noncomputable def laws_szDutyS_lt (p : Nat) : LT := (.node .leaf (.node .leaf (.node .leaf (.node (.node .leaf (.loop [0, 1, 5] [1, 4] (some (laws_szDutyS_lc0 p)) .leaf)) .leaf))))
noncomputable def laws_szDutyS_G (p : Nat) : FuncId → Option CE := glist [(56, .pure (laws_szDuty_c p))]
noncomputable def laws_szDutyS_c0 : Code := codeAt [1, 1, 1, 0, 1, 0, 0] (bodyOf Tryz.f17)
noncomputable def laws_szDutyS_it0 {α : Type} (p n b : Nat) (k : Ex → St → Option α) (q : Nat) (st : St) : Option α :=
  iter (fun s q => aexec Tryz.prog (laws_szDutyS_G p) (fun g lt args st (k : D → St → Option α) => acall Tryz.prog (laws_szDutyS_G p) 5 (n + 0) g lt args st k) 5 b 27 laws_szDutyS_c0 .leaf s q) (canon b [0, 1, 5]) q st (fun e s => k e (canon b [1, 4] s))
theorem laws_szDutyS_l0_step {α : Type} (p n : Nat) (k : Ex → St → Option α) (v0 : List (Ty.T TDuty)) (q : Nat) (v1 : Int) (v2 : Int) : laws_szDutyS_it0 p n 0 k (q + 1) (laws_szDutyS_l0_sh.mk' (((v0, ()), (v1, ()), (v2, ()), ()), (()))) =
  laws_szDutyS_l0_r p v0 (fun v1 v2 => laws_szDutyS_it0 p n 0 k q (laws_szDutyS_l0_sh.mk' (((v0, ()), (v1, ()), (v2, ()), ()), (())))) v1 v2 (fun o0 o1 => k .ret ⟨[(1, .one ⟨false, [.int .i64 o0]⟩), (4, .one ⟨false, [.int .i64 o1]⟩)], 0, []⟩) (fun o0 => k (.exit 0) ⟨[(1, .one ⟨false, [.int .i64 o0]⟩)], 0, []⟩) := by kernel_rfl
theorem laws_szDutyS_l0_ok {α : Type} (p n : Nat) (k : Ex → St → Option α) (v0 : List (Ty.T TDuty)) : ∀ (q : Nat) (v1 : Int) (v2 : Int), laws_szDutyS_it0 p n 0 k q (laws_szDutyS_l0_sh.mk' (((v0, ()), (v1, ()), (v2, ()), ()), (()))) =
  laws_szDutyS_l0_go p v0 q v1 v2 (fun o0 o1 => k .ret ⟨[(1, .one ⟨false, [.int .i64 o0]⟩), (4, .one ⟨false, [.int .i64 o1]⟩)], 0, []⟩) (fun o0 => k (.exit 0) ⟨[(1, .one ⟨false, [.int .i64 o0]⟩)], 0, []⟩) := by
  intro q
  induction q with
  | zero => intros; rfl
  | succ q ih => intro v1 v2; rw [laws_szDutyS_l0_step]; simp only [ih]; rfl
theorem laws_szDutyS_ltok_17_ls (p : Nat) : loopsOf (bodyOf Tryz.f17) (laws_szDutyS_lt p) = [⟨laws_szDutyS_c0, [0, 1, 5], [1, 4], laws_szDutyS_lc0 p, .leaf⟩] := by kernel_rfl
theorem laws_szDutyS_ltok_17_dep (p : Nat) : LT.dep (laws_szDutyS_lt p) = 0 := by kernel_rfl
theorem laws_szDutyS_ltok_17 (p : Nat) : LTok Tryz.prog (laws_szDutyS_G p) 5 17 (laws_szDutyS_lt p) := by
  intro α n base fn c hd hfn hc
  have hfn' : some fn = some Tryz.f17 := hfn.symm.trans Tryz.func17
  cases hfn'
  have hc' : c = bodyOf Tryz.f17 := by unfold bodyOf; rw [hc]; rfl
  subst hc'
  rw [laws_szDutyS_ltok_17_dep] at hd
  obtain ⟨n, rfl⟩ := Nat.exists_eq_add_of_le' hd
  apply LTS_of_loops
  rw [laws_szDutyS_ltok_17_ls]
  intro e he st k r h
  simp only [List.mem_cons, List.not_mem_nil, or_false] at he
  subst he
  · obtain ⟨a, ha, hb, x, rfl, h⟩ := altRun_ok h
    simp only [List.mem_cons, List.not_mem_nil, or_false] at ha
    subst ha
    · cases hb; exact ⟨p, (laws_szDutyS_l0_ok p n k _ p _ _).trans h⟩
theorem laws_szDutyS_E (p : Nat) : EnvS Tryz.prog (laws_szDutyS_G p) := by
  apply glist_env; intro f ce h
  simp only [List.mem_cons, List.not_mem_nil, or_false, Prod.mk.injEq] at h
  rcases h with ⟨rfl, rfl⟩
  · exact laws_szDuty_s p
theorem laws_szDutyS_I (p : Nat) : ∀ f lt, laws_szDutyS_G p f = some (.inl lt) → LTok Tryz.prog (laws_szDutyS_G p) 5 f lt := by
  apply glist_inl; intro f lt h
  simp only [List.mem_cons, List.not_mem_nil, or_false, Prod.mk.injEq, CE.inl.injEq, and_false, or_false, false_or, reduceCtorEq] at h
  
noncomputable def laws_szDutyS_p (p : Nat) (a0 : (List (Ty.T TDuty))) (a1 : Int) : Option (Int × Unit) :=
  (bif (decide ((IntKind.wrap .i64 (a1 - (a0.length : Int))) < (0 : Int))) then some ((-1 : Int), ())
 else (laws_szDutyS_l0_go p a0 p (IntKind.wrap .i64 (a1 - (a0.length : Int))) (0 : Int) (fun o3 o4 => some (o4, ())) (fun o5 => some (o5, ()))))
theorem laws_szDutyS_run (p : Nat) (x : (parsT [.val (.slice TDuty), .val (.int .i64)]).T) : acall Tryz.prog (laws_szDutyS_G p) 5 1 17 (laws_szDutyS_lt p) (argAVs [.val (.slice TDuty), .val (.int .i64)] x) ⟨[], 0, []⟩ (outR [(.int .i64)]) = laws_szDutyS_p p x.1 x.2.1 := by kernel_rfl
noncomputable def laws_szDutyS_c (p : Nat) : PC := PC.fn true [.val (.slice TDuty), .val (.int .i64)] [(.int .i64)] fun x => laws_szDutyS_p p x.1 x.2.1
theorem laws_szDutyS_s (p : Nat) : PSound Tryz.prog 17 (laws_szDutyS_c p) := pure_sound (laws_szDutyS_E p) Tryz.checked.mixed (laws_szDutyS_I p) (laws_szDutyS_ltok_17 p) (fun _ => rfl) fun x y h => (laws_szDutyS_run p x).trans h
/-! laws.szDesk -/
noncomputable def laws_szDesk_G (p : Nat) : FuncId → Option CE := glist [(9, .pure (laws_szNetwork_c p)), (10, .pure (laws_szInt64S_c p)), (11, .pure (laws_szValveS_c p)), (12, .pure (laws_szPumpS_c p)), (13, .pure (laws_szSubstationS_c p)), (14, .pure (laws_szFuelS_c p)), (15, .pure (laws_szRepairS_c p)), (16, .pure (laws_szTenantS_c p)), (17, .pure (laws_szDutyS_c p))]
theorem laws_szDesk_E (p : Nat) : EnvS Tryz.prog (laws_szDesk_G p) := by
  apply glist_env; intro f ce h
  simp only [List.mem_cons, List.not_mem_nil, or_false, Prod.mk.injEq] at h
  rcases h with ⟨rfl, rfl⟩ | ⟨rfl, rfl⟩ | ⟨rfl, rfl⟩ | ⟨rfl, rfl⟩ | ⟨rfl, rfl⟩ | ⟨rfl, rfl⟩ | ⟨rfl, rfl⟩ | ⟨rfl, rfl⟩ | ⟨rfl, rfl⟩
  · exact laws_szNetwork_s p
  · exact laws_szInt64S_s p
  · exact laws_szValveS_s p
  · exact laws_szPumpS_s p
  · exact laws_szSubstationS_s p
  · exact laws_szFuelS_s p
  · exact laws_szRepairS_s p
  · exact laws_szTenantS_s p
  · exact laws_szDutyS_s p
theorem laws_szDesk_I (p : Nat) : ∀ f lt, laws_szDesk_G p f = some (.inl lt) → LTok Tryz.prog (laws_szDesk_G p) 5 f lt := by
  apply glist_inl; intro f lt h
  simp only [List.mem_cons, List.not_mem_nil, or_false, Prod.mk.injEq, CE.inl.injEq, and_false, or_false, false_or, reduceCtorEq] at h
  
noncomputable def laws_szDesk_p (p : Nat) (a0 : (Ty.T TDesk)) (a1 : Int) : Option (Int × Unit) :=
  ((laws_szNetwork_p p a0.1 a1).bind fun r1 => (bif (decide (r1.1 < (0 : Int))) then some ((-1 : Int), ())
 else ((laws_szInt64S_p p a0.2.1 r1.1).bind fun r2 => (bif (decide (r2.1 < (0 : Int))) then some ((-1 : Int), ())
 else ((laws_szValveS_p p a0.2.2.1 r2.1).bind fun r3 => (bif (decide (r3.1 < (0 : Int))) then some ((-1 : Int), ())
 else ((laws_szPumpS_p p a0.2.2.2.1 r3.1).bind fun r4 => (bif (decide (r4.1 < (0 : Int))) then some ((-1 : Int), ())
 else ((laws_szSubstationS_p p a0.2.2.2.2.1 r4.1).bind fun r5 => (bif (decide (r5.1 < (0 : Int))) then some ((-1 : Int), ())
 else ((laws_szFuelS_p p a0.2.2.2.2.2.2.1 r5.1).bind fun r6 => (bif (decide (r6.1 < (0 : Int))) then some ((-1 : Int), ())
 else ((laws_szRepairS_p p a0.2.2.2.2.2.2.2.1 r6.1).bind fun r7 => (bif (decide (r7.1 < (0 : Int))) then some ((-1 : Int), ())
 else ((laws_szTenantS_p p a0.2.2.2.2.2.2.2.2.1 r7.1).bind fun r8 => (bif (decide (r8.1 < (0 : Int))) then some ((-1 : Int), ())
 else ((laws_szDutyS_p p a0.2.2.2.2.2.2.2.2.2 r8.1).bind fun r9 => (bif (decide (r9.1 < (0 : Int))) then some ((-1 : Int), ())
 else some (r9.1, ())))))))))))))))))))
theorem laws_szDesk_run (p : Nat) (x : (parsT [.val TDesk, .val (.int .i64)]).T) : acall Tryz.prog (laws_szDesk_G p) 5 1 4 .leaf (argAVs [.val TDesk, .val (.int .i64)] x) ⟨[], 0, []⟩ (outR [(.int .i64)]) = laws_szDesk_p p x.1 x.2.1 := by kernel_rfl
noncomputable def laws_szDesk_c (p : Nat) : PC := PC.fn true [.val TDesk, .val (.int .i64)] [(.int .i64)] fun x => laws_szDesk_p p x.1 x.2.1
theorem laws_szDesk_s (p : Nat) : PSound Tryz.prog 4 (laws_szDesk_c p) := pure_sound (laws_szDesk_E p) Tryz.checked.mixed (laws_szDesk_I p) LTok_leaf (fun _ => rfl) fun x y h => (laws_szDesk_run p x).trans h
/-! laws.toInt64S -/
noncomputable def laws_toInt64S_l0_r {α : Type} (p : Nat) (v0 : List Int) (rec : (Int) → (List Int) → Option α) (v1 : Int) (v2 : List Int) (k0 : (List Int) → Option α) : Option α :=
  (bif (decide (v1 < (v0.length : Int))) then (if 0 ≤ v1 then (v0[v1.toNat]?).bind fun y1 => (if 0 ≤ v1 ∧ v1 < (v2.length : Int) then (rec (IntKind.wrap .i64 (v1 + (1 : Int))) (v2.set v1.toNat y1)) else none) else none)
 else (k0 v2))
noncomputable def laws_toInt64S_l0_go {α : Type} (p : Nat) (v0 : List Int) : Nat → (Int) → (List Int) → ((List Int) → Option α) → Option α
  | 0, _, _, _ => none
  | q + 1, v1, v2, k0 => laws_toInt64S_l0_r p v0 (fun v1 v2 => laws_toInt64S_l0_go p v0 q v1 v2 k0) v1 v2 k0
def laws_toInt64S_l0_sh : Sh := ⟨[⟨0, false, [.sl (.int .i64)]⟩, ⟨3, false, [.lit (.own 0 0)]⟩, ⟨4, false, [.int .i64]⟩], 1, [(0, .arr 0 (.int .i64))]⟩
noncomputable def laws_toInt64S_lc0 (p : Nat) : LC := LC.alts 0 [⟨0, laws_toInt64S_l0_sh, fun x {α} k => laws_toInt64S_l0_go p x.1.1.1 p x.1.2.2.1.1 x.2.1 (fun o0 => k (.exit 0) ⟨[(3, .one ⟨false, [.own 0 0]⟩)], 1, [(0, .arr 0 (.int .i64) o0)]⟩)⟩]
noncomputable def laws_toInt64S_lt (p : Nat) : LT := (.node .leaf (.node .leaf (.node (.node .leaf (.loop [0, 3, 4] [3] (some (laws_toInt64S_lc0 p)) .leaf)) .leaf)))
noncomputable def laws_toInt64S_G (p : Nat) : FuncId → Option CE := glist []
noncomputable def laws_toInt64S_c0 : Code := codeAt [1, 1, 0, 1, 0, 0] (bodyOf Tryz.f20)
noncomputable def laws_toInt64S_it0 {α : Type} (p n b : Nat) (k : Ex → St → Option α) (q : Nat) (st : St) : Option α :=
  iter (fun s q => aexec Tryz.prog (laws_toInt64S_G p) (fun g lt args st (k : D → St → Option α) => acall Tryz.prog (laws_toInt64S_G p) 5 (n + 0) g lt args st k) 5 b 22 laws_toInt64S_c0 .leaf s q) (canon b [0, 3, 4]) q st (fun e s => k e (canon b [3] s))
theorem laws_toInt64S_l0_step {α : Type} (p n : Nat) (k : Ex → St → Option α) (v0 : List Int) (q : Nat) (v1 : Int) (v2 : List Int) : laws_toInt64S_it0 p n 0 k (q + 1) (laws_toInt64S_l0_sh.mk' (((v0, ()), ((), ()), (v1, ()), ()), (v2, ()))) =
  laws_toInt64S_l0_r p v0 (fun v1 v2 => laws_toInt64S_it0 p n 0 k q (laws_toInt64S_l0_sh.mk' (((v0, ()), ((), ()), (v1, ()), ()), (v2, ())))) v1 v2 (fun o0 => k (.exit 0) ⟨[(3, .one ⟨false, [.own 0 0]⟩)], 1, [(0, .arr 0 (.int .i64) o0)]⟩) := by kernel_rfl
theorem laws_toInt64S_l0_ok {α : Type} (p n : Nat) (k : Ex → St → Option α) (v0 : List Int) : ∀ (q : Nat) (v1 : Int) (v2 : List Int), laws_toInt64S_it0 p n 0 k q (laws_toInt64S_l0_sh.mk' (((v0, ()), ((), ()), (v1, ()), ()), (v2, ()))) =
  laws_toInt64S_l0_go p v0 q v1 v2 (fun o0 => k (.exit 0) ⟨[(3, .one ⟨false, [.own 0 0]⟩)], 1, [(0, .arr 0 (.int .i64) o0)]⟩) := by
  intro q
  induction q with
  | zero => intros; rfl
  | succ q ih => intro v1 v2; rw [laws_toInt64S_l0_step]; simp only [ih]; rfl
theorem laws_toInt64S_ltok_20_ls (p : Nat) : loopsOf (bodyOf Tryz.f20) (laws_toInt64S_lt p) = [⟨laws_toInt64S_c0, [0, 3, 4], [3], laws_toInt64S_lc0 p, .leaf⟩] := by kernel_rfl
theorem laws_toInt64S_ltok_20_dep (p : Nat) : LT.dep (laws_toInt64S_lt p) = 0 := by kernel_rfl
theorem laws_toInt64S_ltok_20 (p : Nat) : LTok Tryz.prog (laws_toInt64S_G p) 5 20 (laws_toInt64S_lt p) := by
  intro α n base fn c hd hfn hc
  have hfn' : some fn = some Tryz.f20 := hfn.symm.trans Tryz.func20
  cases hfn'
  have hc' : c = bodyOf Tryz.f20 := by unfold bodyOf; rw [hc]; rfl
  subst hc'
  rw [laws_toInt64S_ltok_20_dep] at hd
  obtain ⟨n, rfl⟩ := Nat.exists_eq_add_of_le' hd
  apply LTS_of_loops
  rw [laws_toInt64S_ltok_20_ls]
  intro e he st k r h
  simp only [List.mem_cons, List.not_mem_nil, or_false] at he
  subst he
  · obtain ⟨a, ha, hb, x, rfl, h⟩ := altRun_ok h
    simp only [List.mem_cons, List.not_mem_nil, or_false] at ha
    subst ha
    · cases hb; exact ⟨p, (laws_toInt64S_l0_ok p n k _ p _ _).trans h⟩
theorem laws_toInt64S_E (p : Nat) : EnvS Tryz.prog (laws_toInt64S_G p) := by
  apply glist_env; intro f ce h
  simp only [List.mem_cons, List.not_mem_nil, or_false, Prod.mk.injEq] at h
  
theorem laws_toInt64S_I (p : Nat) : ∀ f lt, laws_toInt64S_G p f = some (.inl lt) → LTok Tryz.prog (laws_toInt64S_G p) 5 f lt := by
  apply glist_inl; intro f lt h
  simp only [List.mem_cons, List.not_mem_nil, or_false, Prod.mk.injEq, CE.inl.injEq, and_false, or_false, false_or, reduceCtorEq] at h
  
noncomputable def laws_toInt64S_p (p : Nat) (a0 : (List Int)) : Option ((List Int) × Unit) :=
  (if 0 ≤ (a0.length : Int) ∧ (a0.length : Int) ≤ (a0.length : Int) ∧ (a0.length : Int) * (8 : Int) ≤ 140737488355328 ∧ (a0.length : Int) ≤ 140737488355328 then (laws_toInt64S_l0_go p a0 p (0 : Int) (List.replicate (a0.length : Int).toNat (Ty.zero (.int .i64))) (fun o2 => some (o2, ()))) else none)
theorem laws_toInt64S_run (p : Nat) (x : (parsT [.val (.slice (.int .i64))]).T) : acall Tryz.prog (laws_toInt64S_G p) 5 1 20 (laws_toInt64S_lt p) (argAVs [.val (.slice (.int .i64))] x) ⟨[], 0, []⟩ (outO [(.slice (.int .i64))]) = laws_toInt64S_p p x.1 := by kernel_rfl
noncomputable def laws_toInt64S_c (p : Nat) : PC := PC.fnO true [.val (.slice (.int .i64))] [(.slice (.int .i64))] fun x => laws_toInt64S_p p x.1
theorem laws_toInt64S_s (p : Nat) : PSound Tryz.prog 20 (laws_toInt64S_c p) := own_sound (laws_toInt64S_E p) Tryz.checked.mixed (laws_toInt64S_I p) (laws_toInt64S_ltok_20 p) (fun _ => rfl) fun x y h => (laws_toInt64S_run p x).trans h
/-! laws.toPipe -/
noncomputable def laws_toPipe_G (p : Nat) : FuncId → Option CE := glist []
theorem laws_toPipe_E (p : Nat) : EnvS Tryz.prog (laws_toPipe_G p) := by
  apply glist_env; intro f ce h
  simp only [List.mem_cons, List.not_mem_nil, or_false, Prod.mk.injEq] at h
  
theorem laws_toPipe_I (p : Nat) : ∀ f lt, laws_toPipe_G p f = some (.inl lt) → LTok Tryz.prog (laws_toPipe_G p) 5 f lt := by
  apply glist_inl; intro f lt h
  simp only [List.mem_cons, List.not_mem_nil, or_false, Prod.mk.injEq, CE.inl.injEq, and_false, or_false, false_or, reduceCtorEq] at h
  
noncomputable def laws_toPipe_p (p : Nat) (a0 : (Ty.T TPipe)) : Option ((Ty.T TPipe) × Unit) :=
  some (a0, ())
theorem laws_toPipe_run (p : Nat) (x : (parsT [.val TPipe]).T) : acall Tryz.prog (laws_toPipe_G p) 5 1 111 .leaf (argAVs [.val TPipe] x) ⟨[], 0, []⟩ (outR [TPipe]) = laws_toPipe_p p x.1 := by kernel_rfl
noncomputable def laws_toPipe_c (p : Nat) : PC := PC.fn true [.val TPipe] [TPipe] fun x => laws_toPipe_p p x.1
theorem laws_toPipe_s (p : Nat) : PSound Tryz.prog 111 (laws_toPipe_c p) := pure_sound (laws_toPipe_E p) Tryz.checked.mixed (laws_toPipe_I p) LTok_leaf (fun _ => rfl) fun x y h => (laws_toPipe_run p x).trans h
/-! laws.toPipeS -/
noncomputable def laws_toPipeS_l0_r {α : Type} (p : Nat) (v0 : List (Ty.T TPipe)) (rec : (Int) → (List (Ty.T TPipe)) → Option α) (v1 : Int) (v2 : List (Ty.T TPipe)) (k0 : (List (Ty.T TPipe)) → Option α) : Option α :=
  (bif (decide (v1 < (v0.length : Int))) then (if 0 ≤ v1 then (v0[v1.toNat]?).bind fun y1 => ((laws_toPipe_p p y1).bind fun r2 => (if 0 ≤ v1 ∧ v1 < (v2.length : Int) then (rec (IntKind.wrap .i64 (v1 + (1 : Int))) (v2.set v1.toNat r2.1)) else none)) else none)
 else (k0 v2))
noncomputable def laws_toPipeS_l0_go {α : Type} (p : Nat) (v0 : List (Ty.T TPipe)) : Nat → (Int) → (List (Ty.T TPipe)) → ((List (Ty.T TPipe)) → Option α) → Option α
  | 0, _, _, _ => none
  | q + 1, v1, v2, k0 => laws_toPipeS_l0_r p v0 (fun v1 v2 => laws_toPipeS_l0_go p v0 q v1 v2 k0) v1 v2 k0
def laws_toPipeS_l0_sh : Sh := ⟨[⟨0, false, [.sl TPipe]⟩, ⟨3, false, [.lit (.own 0 0)]⟩, ⟨4, false, [.int .i64]⟩], 1, [(0, .arr 0 TPipe)]⟩
noncomputable def laws_toPipeS_lc0 (p : Nat) : LC := LC.alts 0 [⟨0, laws_toPipeS_l0_sh, fun x {α} k => laws_toPipeS_l0_go p x.1.1.1 p x.1.2.2.1.1 x.2.1 (fun o0 => k (.exit 0) ⟨[(3, .one ⟨false, [.own 0 0]⟩)], 1, [(0, .arr 0 TPipe o0)]⟩)⟩]
noncomputable def laws_toPipeS_lt (p : Nat) : LT := (.node .leaf (.node .leaf (.node (.node .leaf (.loop [0, 3, 4] [3] (some (laws_toPipeS_lc0 p)) .leaf)) .leaf)))
noncomputable def laws_toPipeS_G (p : Nat) : FuncId → Option CE := glist [(111, .pure (laws_toPipe_c p))]
noncomputable def laws_toPipeS_c0 : Code := codeAt [1, 1, 0, 1, 0, 0] (bodyOf Tryz.f66)
noncomputable def laws_toPipeS_it0 {α : Type} (p n b : Nat) (k : Ex → St → Option α) (q : Nat) (st : St) : Option α :=
  iter (fun s q => aexec Tryz.prog (laws_toPipeS_G p) (fun g lt args st (k : D → St → Option α) => acall Tryz.prog (laws_toPipeS_G p) 5 (n + 0) g lt args st k) 5 b 23 laws_toPipeS_c0 .leaf s q) (canon b [0, 3, 4]) q st (fun e s => k e (canon b [3] s))
theorem laws_toPipeS_l0_step {α : Type} (p n : Nat) (k : Ex → St → Option α) (v0 : List (Ty.T TPipe)) (q : Nat) (v1 : Int) (v2 : List (Ty.T TPipe)) : laws_toPipeS_it0 p n 0 k (q + 1) (laws_toPipeS_l0_sh.mk' (((v0, ()), ((), ()), (v1, ()), ()), (v2, ()))) =
  laws_toPipeS_l0_r p v0 (fun v1 v2 => laws_toPipeS_it0 p n 0 k q (laws_toPipeS_l0_sh.mk' (((v0, ()), ((), ()), (v1, ()), ()), (v2, ())))) v1 v2 (fun o0 => k (.exit 0) ⟨[(3, .one ⟨false, [.own 0 0]⟩)], 1, [(0, .arr 0 TPipe o0)]⟩) := by kernel_rfl
theorem laws_toPipeS_l0_ok {α : Type} (p n : Nat) (k : Ex → St → Option α) (v0 : List (Ty.T TPipe)) : ∀ (q : Nat) (v1 : Int) (v2 : List (Ty.T TPipe)), laws_toPipeS_it0 p n 0 k q (laws_toPipeS_l0_sh.mk' (((v0, ()), ((), ()), (v1, ()), ()), (v2, ()))) =
  laws_toPipeS_l0_go p v0 q v1 v2 (fun o0 => k (.exit 0) ⟨[(3, .one ⟨false, [.own 0 0]⟩)], 1, [(0, .arr 0 TPipe o0)]⟩) := by
  intro q
  induction q with
  | zero => intros; rfl
  | succ q ih => intro v1 v2; rw [laws_toPipeS_l0_step]; simp only [ih]; rfl
theorem laws_toPipeS_ltok_66_ls (p : Nat) : loopsOf (bodyOf Tryz.f66) (laws_toPipeS_lt p) = [⟨laws_toPipeS_c0, [0, 3, 4], [3], laws_toPipeS_lc0 p, .leaf⟩] := by kernel_rfl
theorem laws_toPipeS_ltok_66_dep (p : Nat) : LT.dep (laws_toPipeS_lt p) = 0 := by kernel_rfl
theorem laws_toPipeS_ltok_66 (p : Nat) : LTok Tryz.prog (laws_toPipeS_G p) 5 66 (laws_toPipeS_lt p) := by
  intro α n base fn c hd hfn hc
  have hfn' : some fn = some Tryz.f66 := hfn.symm.trans Tryz.func66
  cases hfn'
  have hc' : c = bodyOf Tryz.f66 := by unfold bodyOf; rw [hc]; rfl
  subst hc'
  rw [laws_toPipeS_ltok_66_dep] at hd
  obtain ⟨n, rfl⟩ := Nat.exists_eq_add_of_le' hd
  apply LTS_of_loops
  rw [laws_toPipeS_ltok_66_ls]
  intro e he st k r h
  simp only [List.mem_cons, List.not_mem_nil, or_false] at he
  subst he
  · obtain ⟨a, ha, hb, x, rfl, h⟩ := altRun_ok h
    simp only [List.mem_cons, List.not_mem_nil, or_false] at ha
    subst ha
    · cases hb; exact ⟨p, (laws_toPipeS_l0_ok p n k _ p _ _).trans h⟩
theorem laws_toPipeS_E (p : Nat) : EnvS Tryz.prog (laws_toPipeS_G p) := by
  apply glist_env; intro f ce h
  simp only [List.mem_cons, List.not_mem_nil, or_false, Prod.mk.injEq] at h
  rcases h with ⟨rfl, rfl⟩
  · exact laws_toPipe_s p
theorem laws_toPipeS_I (p : Nat) : ∀ f lt, laws_toPipeS_G p f = some (.inl lt) → LTok Tryz.prog (laws_toPipeS_G p) 5 f lt := by
  apply glist_inl; intro f lt h
  simp only [List.mem_cons, List.not_mem_nil, or_false, Prod.mk.injEq, CE.inl.injEq, and_false, or_false, false_or, reduceCtorEq] at h
  
noncomputable def laws_toPipeS_p (p : Nat) (a0 : (List (Ty.T TPipe))) : Option ((List (Ty.T TPipe)) × Unit) :=
  (if 0 ≤ (a0.length : Int) ∧ (a0.length : Int) ≤ (a0.length : Int) ∧ (a0.length : Int) * (56 : Int) ≤ 140737488355328 ∧ (a0.length : Int) ≤ 140737488355328 then (laws_toPipeS_l0_go p a0 p (0 : Int) (List.replicate (a0.length : Int).toNat (Ty.zero TPipe)) (fun o3 => some (o3, ()))) else none)
theorem laws_toPipeS_run (p : Nat) (x : (parsT [.val (.slice TPipe)]).T) : acall Tryz.prog (laws_toPipeS_G p) 5 1 66 (laws_toPipeS_lt p) (argAVs [.val (.slice TPipe)] x) ⟨[], 0, []⟩ (outO [(.slice TPipe)]) = laws_toPipeS_p p x.1 := by kernel_rfl
noncomputable def laws_toPipeS_c (p : Nat) : PC := PC.fnO true [.val (.slice TPipe)] [(.slice TPipe)] fun x => laws_toPipeS_p p x.1
theorem laws_toPipeS_s (p : Nat) : PSound Tryz.prog 66 (laws_toPipeS_c p) := own_sound (laws_toPipeS_E p) Tryz.checked.mixed (laws_toPipeS_I p) (laws_toPipeS_ltok_66 p) (fun _ => rfl) fun x y h => (laws_toPipeS_run p x).trans h
/-! laws.toNetwork -/
noncomputable def laws_toNetwork_G (p : Nat) : FuncId → Option CE := glist [(20, .pure (laws_toInt64S_c p)), (66, .pure (laws_toPipeS_c p))]
theorem laws_toNetwork_E (p : Nat) : EnvS Tryz.prog (laws_toNetwork_G p) := by
  apply glist_env; intro f ce h
  simp only [List.mem_cons, List.not_mem_nil, or_false, Prod.mk.injEq] at h
  rcases h with ⟨rfl, rfl⟩ | ⟨rfl, rfl⟩
  · exact laws_toInt64S_s p
  · exact laws_toPipeS_s p
theorem laws_toNetwork_I (p : Nat) : ∀ f lt, laws_toNetwork_G p f = some (.inl lt) → LTok Tryz.prog (laws_toNetwork_G p) 5 f lt := by
  apply glist_inl; intro f lt h
  simp only [List.mem_cons, List.not_mem_nil, or_false, Prod.mk.injEq, CE.inl.injEq, and_false, or_false, false_or, reduceCtorEq] at h
  
noncomputable def laws_toNetwork_p (p : Nat) (a0 : (Ty.T TNetwork)) : Option ((Ty.T TNetwork) × Unit) :=
  ((laws_toInt64S_p p a0.1).bind fun r1 => ((laws_toPipeS_p p a0.2).bind fun r2 => some ((r1.1, r2.1), ())))
theorem laws_toNetwork_run (p : Nat) (x : (parsT [.val TNetwork]).T) : acall Tryz.prog (laws_toNetwork_G p) 5 1 19 .leaf (argAVs [.val TNetwork] x) ⟨[], 0, []⟩ (outO [TNetwork]) = laws_toNetwork_p p x.1 := by kernel_rfl
noncomputable def laws_toNetwork_c (p : Nat) : PC := PC.fnO true [.val TNetwork] [TNetwork] fun x => laws_toNetwork_p p x.1
theorem laws_toNetwork_s (p : Nat) : PSound Tryz.prog 19 (laws_toNetwork_c p) := own_sound (laws_toNetwork_E p) Tryz.checked.mixed (laws_toNetwork_I p) LTok_leaf (fun _ => rfl) fun x y h => (laws_toNetwork_run p x).trans h
/-! laws.toValve -/
noncomputable def laws_toValve_G (p : Nat) : FuncId → Option CE := glist []
theorem laws_toValve_E (p : Nat) : EnvS Tryz.prog (laws_toValve_G p) := by
  apply glist_env; intro f ce h
  simp only [List.mem_cons, List.not_mem_nil, or_false, Prod.mk.injEq] at h
  
theorem laws_toValve_I (p : Nat) : ∀ f lt, laws_toValve_G p f = some (.inl lt) → LTok Tryz.prog (laws_toValve_G p) 5 f lt := by
  apply glist_inl; intro f lt h
  simp only [List.mem_cons, List.not_mem_nil, or_false, Prod.mk.injEq, CE.inl.injEq, and_false, or_false, false_or, reduceCtorEq] at h
  
noncomputable def laws_toValve_p (p : Nat) (a0 : (Ty.T TValve)) : Option ((Ty.T TValve) × Unit) :=
  some (a0, ())
theorem laws_toValve_run (p : Nat) (x : (parsT [.val TValve]).T) : acall Tryz.prog (laws_toValve_G p) 5 1 67 .leaf (argAVs [.val TValve] x) ⟨[], 0, []⟩ (outR [TValve]) = laws_toValve_p p x.1 := by kernel_rfl
noncomputable def laws_toValve_c (p : Nat) : PC := PC.fn true [.val TValve] [TValve] fun x => laws_toValve_p p x.1
theorem laws_toValve_s (p : Nat) : PSound Tryz.prog 67 (laws_toValve_c p) := pure_sound (laws_toValve_E p) Tryz.checked.mixed (laws_toValve_I p) LTok_leaf (fun _ => rfl) fun x y h => (laws_toValve_run p x).trans h
/-! laws.toValveS -/
noncomputable def laws_toValveS_l0_r {α : Type} (p : Nat) (v0 : List (Ty.T TValve)) (rec : (Int) → (List (Ty.T TValve)) → Option α) (v1 : Int) (v2 : List (Ty.T TValve)) (k0 : (List (Ty.T TValve)) → Option α) : Option α :=
  (bif (decide (v1 < (v0.length : Int))) then (if 0 ≤ v1 then (v0[v1.toNat]?).bind fun y1 => ((laws_toValve_p p y1).bind fun r2 => (if 0 ≤ v1 ∧ v1 < (v2.length : Int) then (rec (IntKind.wrap .i64 (v1 + (1 : Int))) (v2.set v1.toNat r2.1)) else none)) else none)
 else (k0 v2))
noncomputable def laws_toValveS_l0_go {α : Type} (p : Nat) (v0 : List (Ty.T TValve)) : Nat → (Int) → (List (Ty.T TValve)) → ((List (Ty.T TValve)) → Option α) → Option α
  | 0, _, _, _ => none
  | q + 1, v1, v2, k0 => laws_toValveS_l0_r p v0 (fun v1 v2 => laws_toValveS_l0_go p v0 q v1 v2 k0) v1 v2 k0
def laws_toValveS_l0_sh : Sh := ⟨[⟨0, false, [.sl TValve]⟩, ⟨3, false, [.lit (.own 0 0)]⟩, ⟨4, false, [.int .i64]⟩], 1, [(0, .arr 0 TValve)]⟩
noncomputable def laws_toValveS_lc0 (p : Nat) : LC := LC.alts 0 [⟨0, laws_toValveS_l0_sh, fun x {α} k => laws_toValveS_l0_go p x.1.1.1 p x.1.2.2.1.1 x.2.1 (fun o0 => k (.exit 0) ⟨[(3, .one ⟨false, [.own 0 0]⟩)], 1, [(0, .arr 0 TValve o0)]⟩)⟩]
noncomputable def laws_toValveS_lt (p : Nat) : LT := (.node .leaf (.node .leaf (.node (.node .leaf (.loop [0, 3, 4] [3] (some (laws_toValveS_lc0 p)) .leaf)) .leaf)))
noncomputable def laws_toValveS_G (p : Nat) : FuncId → Option CE := glist [(67, .pure (laws_toValve_c p))]
noncomputable def laws_toValveS_c0 : Code := codeAt [1, 1, 0, 1, 0, 0] (bodyOf Tryz.f21)
noncomputable def laws_toValveS_it0 {α : Type} (p n b : Nat) (k : Ex → St → Option α) (q : Nat) (st : St) : Option α :=
  iter (fun s q => aexec Tryz.prog (laws_toValveS_G p) (fun g lt args st (k : D → St → Option α) => acall Tryz.prog (laws_toValveS_G p) 5 (n + 0) g lt args st k) 5 b 23 laws_toValveS_c0 .leaf s q) (canon b [0, 3, 4]) q st (fun e s => k e (canon b [3] s))
theorem laws_toValveS_l0_step {α : Type} (p n : Nat) (k : Ex → St → Option α) (v0 : List (Ty.T TValve)) (q : Nat) (v1 : Int) (v2 : List (Ty.T TValve)) : laws_toValveS_it0 p n 0 k (q + 1) (laws_toValveS_l0_sh.mk' (((v0, ()), ((), ()), (v1, ()), ()), (v2, ()))) =
  laws_toValveS_l0_r p v0 (fun v1 v2 => laws_toValveS_it0 p n 0 k q (laws_toValveS_l0_sh.mk' (((v0, ()), ((), ()), (v1, ()), ()), (v2, ())))) v1 v2 (fun o0 => k (.exit 0) ⟨[(3, .one ⟨false, [.own 0 0]⟩)], 1, [(0, .arr 0 TValve o0)]⟩) := by kernel_rfl
theorem laws_toValveS_l0_ok {α : Type} (p n : Nat) (k : Ex → St → Option α) (v0 : List (Ty.T TValve)) : ∀ (q : Nat) (v1 : Int) (v2 : List (Ty.T TValve)), laws_toValveS_it0 p n 0 k q (laws_toValveS_l0_sh.mk' (((v0, ()), ((), ()), (v1, ()), ()), (v2, ()))) =
  laws_toValveS_l0_go p v0 q v1 v2 (fun o0 => k (.exit 0) ⟨[(3, .one ⟨false, [.own 0 0]⟩)], 1, [(0, .arr 0 TValve o0)]⟩) := by
  intro q
  induction q with
  | zero => intros; rfl
  | succ q ih => intro v1 v2; rw [laws_toValveS_l0_step]; simp only [ih]; rfl
theorem laws_toValveS_ltok_21_ls (p : Nat) : loopsOf (bodyOf Tryz.f21) (laws_toValveS_lt p) = [⟨laws_toValveS_c0, [0, 3, 4], [3], laws_toValveS_lc0 p, .leaf⟩] := by kernel_rfl
theorem laws_toValveS_ltok_21_dep (p : Nat) : LT.dep (laws_toValveS_lt p) = 0 := by kernel_rfl
theorem laws_toValveS_ltok_21 (p : Nat) : LTok Tryz.prog (laws_toValveS_G p) 5 21 (laws_toValveS_lt p) := by
  intro α n base fn c hd hfn hc
  have hfn' : some fn = some Tryz.f21 := hfn.symm.trans Tryz.func21
  cases hfn'
  have hc' : c = bodyOf Tryz.f21 := by unfold bodyOf; rw [hc]; rfl
  subst hc'
  rw [laws_toValveS_ltok_21_dep] at hd
  obtain ⟨n, rfl⟩ := Nat.exists_eq_add_of_le' hd
  apply LTS_of_loops
  rw [laws_toValveS_ltok_21_ls]
  intro e he st k r h
  simp only [List.mem_cons, List.not_mem_nil, or_false] at he
  subst he
  · obtain ⟨a, ha, hb, x, rfl, h⟩ := altRun_ok h
    simp only [List.mem_cons, List.not_mem_nil, or_false] at ha
    subst ha
    · cases hb; exact ⟨p, (laws_toValveS_l0_ok p n k _ p _ _).trans h⟩
theorem laws_toValveS_E (p : Nat) : EnvS Tryz.prog (laws_toValveS_G p) := by
  apply glist_env; intro f ce h
  simp only [List.mem_cons, List.not_mem_nil, or_false, Prod.mk.injEq] at h
  rcases h with ⟨rfl, rfl⟩
  · exact laws_toValve_s p
theorem laws_toValveS_I (p : Nat) : ∀ f lt, laws_toValveS_G p f = some (.inl lt) → LTok Tryz.prog (laws_toValveS_G p) 5 f lt := by
  apply glist_inl; intro f lt h
  simp only [List.mem_cons, List.not_mem_nil, or_false, Prod.mk.injEq, CE.inl.injEq, and_false, or_false, false_or, reduceCtorEq] at h
  
noncomputable def laws_toValveS_p (p : Nat) (a0 : (List (Ty.T TValve))) : Option ((List (Ty.T TValve)) × Unit) :=
  (if 0 ≤ (a0.length : Int) ∧ (a0.length : Int) ≤ (a0.length : Int) ∧ (a0.length : Int) * (40 : Int) ≤ 140737488355328 ∧ (a0.length : Int) ≤ 140737488355328 then (laws_toValveS_l0_go p a0 p (0 : Int) (List.replicate (a0.length : Int).toNat (Ty.zero TValve)) (fun o3 => some (o3, ()))) else none)
theorem laws_toValveS_run (p : Nat) (x : (parsT [.val (.slice TValve)]).T) : acall Tryz.prog (laws_toValveS_G p) 5 1 21 (laws_toValveS_lt p) (argAVs [.val (.slice TValve)] x) ⟨[], 0, []⟩ (outO [(.slice TValve)]) = laws_toValveS_p p x.1 := by kernel_rfl
noncomputable def laws_toValveS_c (p : Nat) : PC := PC.fnO true [.val (.slice TValve)] [(.slice TValve)] fun x => laws_toValveS_p p x.1
theorem laws_toValveS_s (p : Nat) : PSound Tryz.prog 21 (laws_toValveS_c p) := own_sound (laws_toValveS_E p) Tryz.checked.mixed (laws_toValveS_I p) (laws_toValveS_ltok_21 p) (fun _ => rfl) fun x y h => (laws_toValveS_run p x).trans h
/-! laws.toInt64SS -/
noncomputable def laws_toInt64SS_l0_r {α : Type} (p : Nat) (v0 : List (List Int)) (rec : (Int) → (List (List Int)) → Option α) (v1 : Int) (v2 : List (List Int)) (k0 : (List (List Int)) → Option α) : Option α :=
  (bif (decide (v1 < (v0.length : Int))) then (if 0 ≤ v1 then (v0[v1.toNat]?).bind fun y1 => ((laws_toInt64S_p p y1).bind fun r2 => (if 0 ≤ v1 ∧ v1 < (v2.length : Int) then (rec (IntKind.wrap .i64 (v1 + (1 : Int))) (v2.set v1.toNat r2.1)) else none)) else none)
 else (k0 v2))
noncomputable def laws_toInt64SS_l0_go {α : Type} (p : Nat) (v0 : List (List Int)) : Nat → (Int) → (List (List Int)) → ((List (List Int)) → Option α) → Option α
  | 0, _, _, _ => none
  | q + 1, v1, v2, k0 => laws_toInt64SS_l0_r p v0 (fun v1 v2 => laws_toInt64SS_l0_go p v0 q v1 v2 k0) v1 v2 k0
def laws_toInt64SS_l0_sh : Sh := ⟨[⟨0, false, [.sl (.slice (.int .i64))]⟩, ⟨3, false, [.lit (.own 0 0)]⟩, ⟨4, false, [.int .i64]⟩], 1, [(0, .arr 0 (.slice (.int .i64)))]⟩
noncomputable def laws_toInt64SS_lc0 (p : Nat) : LC := LC.alts 0 [⟨0, laws_toInt64SS_l0_sh, fun x {α} k => laws_toInt64SS_l0_go p x.1.1.1 p x.1.2.2.1.1 x.2.1 (fun o0 => k (.exit 0) ⟨[(3, .one ⟨false, [.own 0 0]⟩)], 1, [(0, .arr 0 (.slice (.int .i64)) o0)]⟩)⟩]
noncomputable def laws_toInt64SS_lt (p : Nat) : LT := (.node .leaf (.node .leaf (.node (.node .leaf (.loop [0, 3, 4] [3] (some (laws_toInt64SS_lc0 p)) .leaf)) .leaf)))
noncomputable def laws_toInt64SS_G (p : Nat) : FuncId → Option CE := glist [(20, .pure (laws_toInt64S_c p))]
noncomputable def laws_toInt64SS_c0 : Code := codeAt [1, 1, 0, 1, 0, 0] (bodyOf Tryz.f112)
noncomputable def laws_toInt64SS_it0 {α : Type} (p n b : Nat) (k : Ex → St → Option α) (q : Nat) (st : St) : Option α :=
  iter (fun s q => aexec Tryz.prog (laws_toInt64SS_G p) (fun g lt args st (k : D → St → Option α) => acall Tryz.prog (laws_toInt64SS_G p) 5 (n + 0) g lt args st k) 5 b 23 laws_toInt64SS_c0 .leaf s q) (canon b [0, 3, 4]) q st (fun e s => k e (canon b [3] s))
theorem laws_toInt64SS_l0_step {α : Type} (p n : Nat) (k : Ex → St → Option α) (v0 : List (List Int)) (q : Nat) (v1 : Int) (v2 : List (List Int)) : laws_toInt64SS_it0 p n 0 k (q + 1) (laws_toInt64SS_l0_sh.mk' (((v0, ()), ((), ()), (v1, ()), ()), (v2, ()))) =
  laws_toInt64SS_l0_r p v0 (fun v1 v2 => laws_toInt64SS_it0 p n 0 k q (laws_toInt64SS_l0_sh.mk' (((v0, ()), ((), ()), (v1, ()), ()), (v2, ())))) v1 v2 (fun o0 => k (.exit 0) ⟨[(3, .one ⟨false, [.own 0 0]⟩)], 1, [(0, .arr 0 (.slice (.int .i64)) o0)]⟩) := by kernel_rfl
theorem laws_toInt64SS_l0_ok {α : Type} (p n : Nat) (k : Ex → St → Option α) (v0 : List (List Int)) : ∀ (q : Nat) (v1 : Int) (v2 : List (List Int)), laws_toInt64SS_it0 p n 0 k q (laws_toInt64SS_l0_sh.mk' (((v0, ()), ((), ()), (v1, ()), ()), (v2, ()))) =
  laws_toInt64SS_l0_go p v0 q v1 v2 (fun o0 => k (.exit 0) ⟨[(3, .one ⟨false, [.own 0 0]⟩)], 1, [(0, .arr 0 (.slice (.int .i64)) o0)]⟩) := by
  intro q
  induction q with
  | zero => intros; rfl
  | succ q ih => intro v1 v2; rw [laws_toInt64SS_l0_step]; simp only [ih]; rfl
theorem laws_toInt64SS_ltok_112_ls (p : Nat) : loopsOf (bodyOf Tryz.f112) (laws_toInt64SS_lt p) = [⟨laws_toInt64SS_c0, [0, 3, 4], [3], laws_toInt64SS_lc0 p, .leaf⟩] := by kernel_rfl
theorem laws_toInt64SS_ltok_112_dep (p : Nat) : LT.dep (laws_toInt64SS_lt p) = 0 := by kernel_rfl
theorem laws_toInt64SS_ltok_112 (p : Nat) : LTok Tryz.prog (laws_toInt64SS_G p) 5 112 (laws_toInt64SS_lt p) := by
  intro α n base fn c hd hfn hc
  have hfn' : some fn = some Tryz.f112 := hfn.symm.trans Tryz.func112
  cases hfn'
  have hc' : c = bodyOf Tryz.f112 := by unfold bodyOf; rw [hc]; rfl
  subst hc'
  rw [laws_toInt64SS_ltok_112_dep] at hd
  obtain ⟨n, rfl⟩ := Nat.exists_eq_add_of_le' hd
  apply LTS_of_loops
  rw [laws_toInt64SS_ltok_112_ls]
  intro e he st k r h
  simp only [List.mem_cons, List.not_mem_nil, or_false] at he
  subst he
  · obtain ⟨a, ha, hb, x, rfl, h⟩ := altRun_ok h
    simp only [List.mem_cons, List.not_mem_nil, or_false] at ha
    subst ha
    · cases hb; exact ⟨p, (laws_toInt64SS_l0_ok p n k _ p _ _).trans h⟩
theorem laws_toInt64SS_E (p : Nat) : EnvS Tryz.prog (laws_toInt64SS_G p) := by
  apply glist_env; intro f ce h
  simp only [List.mem_cons, List.not_mem_nil, or_false, Prod.mk.injEq] at h
  rcases h with ⟨rfl, rfl⟩
  · exact laws_toInt64S_s p
theorem laws_toInt64SS_I (p : Nat) : ∀ f lt, laws_toInt64SS_G p f = some (.inl lt) → LTok Tryz.prog (laws_toInt64SS_G p) 5 f lt := by
  apply glist_inl; intro f lt h
  simp only [List.mem_cons, List.not_mem_nil, or_false, Prod.mk.injEq, CE.inl.injEq, and_false, or_false, false_or, reduceCtorEq] at h
  
noncomputable def laws_toInt64SS_p (p : Nat) (a0 : (List (List Int))) : Option ((List (List Int)) × Unit) :=
  (if 0 ≤ (a0.length : Int) ∧ (a0.length : Int) ≤ (a0.length : Int) ∧ (a0.length : Int) * (24 : Int) ≤ 140737488355328 ∧ (a0.length : Int) ≤ 140737488355328 then (laws_toInt64SS_l0_go p a0 p (0 : Int) (List.replicate (a0.length : Int).toNat (Ty.zero (.slice (.int .i64)))) (fun o3 => some (o3, ()))) else none)
theorem laws_toInt64SS_run (p : Nat) (x : (parsT [.val (.slice (.slice (.int .i64)))]).T) : acall Tryz.prog (laws_toInt64SS_G p) 5 1 112 (laws_toInt64SS_lt p) (argAVs [.val (.slice (.slice (.int .i64)))] x) ⟨[], 0, []⟩ (outO [(.slice (.slice (.int .i64)))]) = laws_toInt64SS_p p x.1 := by kernel_rfl
noncomputable def laws_toInt64SS_c (p : Nat) : PC := PC.fnO false [.val (.slice (.slice (.int .i64)))] [(.slice (.slice (.int .i64)))] fun x => laws_toInt64SS_p p x.1
theorem laws_toInt64SS_s (p : Nat) : PSound Tryz.prog 112 (laws_toInt64SS_c p) := own_sound (laws_toInt64SS_E p) Tryz.checked.mixed (laws_toInt64SS_I p) (laws_toInt64SS_ltok_112 p) (fun h => by cases h) fun x y h => (laws_toInt64SS_run p x).trans h
/-! laws.toPump -/
noncomputable def laws_toPump_G (p : Nat) : FuncId → Option CE := glist [(112, .pure (laws_toInt64SS_c p))]
theorem laws_toPump_E (p : Nat) : EnvS Tryz.prog (laws_toPump_G p) := by
  apply glist_env; intro f ce h
  simp only [List.mem_cons, List.not_mem_nil, or_false, Prod.mk.injEq] at h
  rcases h with ⟨rfl, rfl⟩
  · exact laws_toInt64SS_s p
theorem laws_toPump_I (p : Nat) : ∀ f lt, laws_toPump_G p f = some (.inl lt) → LTok Tryz.prog (laws_toPump_G p) 5 f lt := by
  apply glist_inl; intro f lt h
  simp only [List.mem_cons, List.not_mem_nil, or_false, Prod.mk.injEq, CE.inl.injEq, and_false, or_false, false_or, reduceCtorEq] at h
  
noncomputable def laws_toPump_p (p : Nat) (a0 : (Ty.T TPump)) : Option ((Ty.T TPump) × Unit) :=
  ((laws_toInt64SS_p p a0.2).bind fun r1 => some ((a0.1, r1.1), ()))
theorem laws_toPump_run (p : Nat) (x : (parsT [.val TPump]).T) : acall Tryz.prog (laws_toPump_G p) 5 1 68 .leaf (argAVs [.val TPump] x) ⟨[], 0, []⟩ (outO [TPump]) = laws_toPump_p p x.1 := by kernel_rfl
noncomputable def laws_toPump_c (p : Nat) : PC := PC.fnO false [.val TPump] [TPump] fun x => laws_toPump_p p x.1
theorem laws_toPump_s (p : Nat) : PSound Tryz.prog 68 (laws_toPump_c p) := own_sound (laws_toPump_E p) Tryz.checked.mixed (laws_toPump_I p) LTok_leaf (fun h => by cases h) fun x y h => (laws_toPump_run p x).trans h
/-! laws.toPumpS -/
noncomputable def laws_toPumpS_l0_r {α : Type} (p : Nat) (v0 : List (Ty.T TPump)) (rec : (Int) → (List (Ty.T TPump)) → Option α) (v1 : Int) (v2 : List (Ty.T TPump)) (k0 : (List (Ty.T TPump)) → Option α) : Option α :=
  (bif (decide (v1 < (v0.length : Int))) then (if 0 ≤ v1 then (v0[v1.toNat]?).bind fun y1 => ((laws_toPump_p p y1).bind fun r2 => (if 0 ≤ v1 ∧ v1 < (v2.length : Int) then (rec (IntKind.wrap .i64 (v1 + (1 : Int))) (v2.set v1.toNat r2.1)) else none)) else none)
 else (k0 v2))
noncomputable def laws_toPumpS_l0_go {α : Type} (p : Nat) (v0 : List (Ty.T TPump)) : Nat → (Int) → (List (Ty.T TPump)) → ((List (Ty.T TPump)) → Option α) → Option α
  | 0, _, _, _ => none
  | q + 1, v1, v2, k0 => laws_toPumpS_l0_r p v0 (fun v1 v2 => laws_toPumpS_l0_go p v0 q v1 v2 k0) v1 v2 k0
def laws_toPumpS_l0_sh : Sh := ⟨[⟨0, false, [.sl TPump]⟩, ⟨3, false, [.lit (.own 0 0)]⟩, ⟨4, false, [.int .i64]⟩], 1, [(0, .arr 0 TPump)]⟩
noncomputable def laws_toPumpS_lc0 (p : Nat) : LC := LC.alts 0 [⟨0, laws_toPumpS_l0_sh, fun x {α} k => laws_toPumpS_l0_go p x.1.1.1 p x.1.2.2.1.1 x.2.1 (fun o0 => k (.exit 0) ⟨[(3, .one ⟨false, [.own 0 0]⟩)], 1, [(0, .arr 0 TPump o0)]⟩)⟩]
noncomputable def laws_toPumpS_lt (p : Nat) : LT := (.node .leaf (.node .leaf (.node (.node .leaf (.loop [0, 3, 4] [3] (some (laws_toPumpS_lc0 p)) .leaf)) .leaf)))
noncomputable def laws_toPumpS_G (p : Nat) : FuncId → Option CE := glist [(68, .pure (laws_toPump_c p))]
noncomputable def laws_toPumpS_c0 : Code := codeAt [1, 1, 0, 1, 0, 0] (bodyOf Tryz.f22)
noncomputable def laws_toPumpS_it0 {α : Type} (p n b : Nat) (k : Ex → St → Option α) (q : Nat) (st : St) : Option α :=
  iter (fun s q => aexec Tryz.prog (laws_toPumpS_G p) (fun g lt args st (k : D → St → Option α) => acall Tryz.prog (laws_toPumpS_G p) 5 (n + 0) g lt args st k) 5 b 23 laws_toPumpS_c0 .leaf s q) (canon b [0, 3, 4]) q st (fun e s => k e (canon b [3] s))
theorem laws_toPumpS_l0_step {α : Type} (p n : Nat) (k : Ex → St → Option α) (v0 : List (Ty.T TPump)) (q : Nat) (v1 : Int) (v2 : List (Ty.T TPump)) : laws_toPumpS_it0 p n 0 k (q + 1) (laws_toPumpS_l0_sh.mk' (((v0, ()), ((), ()), (v1, ()), ()), (v2, ()))) =
  laws_toPumpS_l0_r p v0 (fun v1 v2 => laws_toPumpS_it0 p n 0 k q (laws_toPumpS_l0_sh.mk' (((v0, ()), ((), ()), (v1, ()), ()), (v2, ())))) v1 v2 (fun o0 => k (.exit 0) ⟨[(3, .one ⟨false, [.own 0 0]⟩)], 1, [(0, .arr 0 TPump o0)]⟩) := by kernel_rfl
theorem laws_toPumpS_l0_ok {α : Type} (p n : Nat) (k : Ex → St → Option α) (v0 : List (Ty.T TPump)) : ∀ (q : Nat) (v1 : Int) (v2 : List (Ty.T TPump)), laws_toPumpS_it0 p n 0 k q (laws_toPumpS_l0_sh.mk' (((v0, ()), ((), ()), (v1, ()), ()), (v2, ()))) =
  laws_toPumpS_l0_go p v0 q v1 v2 (fun o0 => k (.exit 0) ⟨[(3, .one ⟨false, [.own 0 0]⟩)], 1, [(0, .arr 0 TPump o0)]⟩) := by
  intro q
  induction q with
  | zero => intros; rfl
  | succ q ih => intro v1 v2; rw [laws_toPumpS_l0_step]; simp only [ih]; rfl
theorem laws_toPumpS_ltok_22_ls (p : Nat) : loopsOf (bodyOf Tryz.f22) (laws_toPumpS_lt p) = [⟨laws_toPumpS_c0, [0, 3, 4], [3], laws_toPumpS_lc0 p, .leaf⟩] := by kernel_rfl
theorem laws_toPumpS_ltok_22_dep (p : Nat) : LT.dep (laws_toPumpS_lt p) = 0 := by kernel_rfl
theorem laws_toPumpS_ltok_22 (p : Nat) : LTok Tryz.prog (laws_toPumpS_G p) 5 22 (laws_toPumpS_lt p) := by
  intro α n base fn c hd hfn hc
  have hfn' : some fn = some Tryz.f22 := hfn.symm.trans Tryz.func22
  cases hfn'
  have hc' : c = bodyOf Tryz.f22 := by unfold bodyOf; rw [hc]; rfl
  subst hc'
  rw [laws_toPumpS_ltok_22_dep] at hd
  obtain ⟨n, rfl⟩ := Nat.exists_eq_add_of_le' hd
  apply LTS_of_loops
  rw [laws_toPumpS_ltok_22_ls]
  intro e he st k r h
  simp only [List.mem_cons, List.not_mem_nil, or_false] at he
  subst he
  · obtain ⟨a, ha, hb, x, rfl, h⟩ := altRun_ok h
    simp only [List.mem_cons, List.not_mem_nil, or_false] at ha
    subst ha
    · cases hb; exact ⟨p, (laws_toPumpS_l0_ok p n k _ p _ _).trans h⟩
theorem laws_toPumpS_E (p : Nat) : EnvS Tryz.prog (laws_toPumpS_G p) := by
  apply glist_env; intro f ce h
  simp only [List.mem_cons, List.not_mem_nil, or_false, Prod.mk.injEq] at h
  rcases h with ⟨rfl, rfl⟩
  · exact laws_toPump_s p
theorem laws_toPumpS_I (p : Nat) : ∀ f lt, laws_toPumpS_G p f = some (.inl lt) → LTok Tryz.prog (laws_toPumpS_G p) 5 f lt := by
  apply glist_inl; intro f lt h
  simp only [List.mem_cons, List.not_mem_nil, or_false, Prod.mk.injEq, CE.inl.injEq, and_false, or_false, false_or, reduceCtorEq] at h
  
noncomputable def laws_toPumpS_p (p : Nat) (a0 : (List (Ty.T TPump))) : Option ((List (Ty.T TPump)) × Unit) :=
  (if 0 ≤ (a0.length : Int) ∧ (a0.length : Int) ≤ (a0.length : Int) ∧ (a0.length : Int) * (40 : Int) ≤ 140737488355328 ∧ (a0.length : Int) ≤ 140737488355328 then (laws_toPumpS_l0_go p a0 p (0 : Int) (List.replicate (a0.length : Int).toNat (Ty.zero TPump)) (fun o3 => some (o3, ()))) else none)
theorem laws_toPumpS_run (p : Nat) (x : (parsT [.val (.slice TPump)]).T) : acall Tryz.prog (laws_toPumpS_G p) 5 1 22 (laws_toPumpS_lt p) (argAVs [.val (.slice TPump)] x) ⟨[], 0, []⟩ (outO [(.slice TPump)]) = laws_toPumpS_p p x.1 := by kernel_rfl
noncomputable def laws_toPumpS_c (p : Nat) : PC := PC.fnO false [.val (.slice TPump)] [(.slice TPump)] fun x => laws_toPumpS_p p x.1
theorem laws_toPumpS_s (p : Nat) : PSound Tryz.prog 22 (laws_toPumpS_c p) := own_sound (laws_toPumpS_E p) Tryz.checked.mixed (laws_toPumpS_I p) (laws_toPumpS_ltok_22 p) (fun h => by cases h) fun x y h => (laws_toPumpS_run p x).trans h
/-! laws.toSubstation -/
noncomputable def laws_toSubstation_G (p : Nat) : FuncId → Option CE := glist []
theorem laws_toSubstation_E (p : Nat) : EnvS Tryz.prog (laws_toSubstation_G p) := by
  apply glist_env; intro f ce h
  simp only [List.mem_cons, List.not_mem_nil, or_false, Prod.mk.injEq] at h
  
theorem laws_toSubstation_I (p : Nat) : ∀ f lt, laws_toSubstation_G p f = some (.inl lt) → LTok Tryz.prog (laws_toSubstation_G p) 5 f lt := by
  apply glist_inl; intro f lt h
  simp only [List.mem_cons, List.not_mem_nil, or_false, Prod.mk.injEq, CE.inl.injEq, and_false, or_false, false_or, reduceCtorEq] at h
  
noncomputable def laws_toSubstation_p (p : Nat) (a0 : (Ty.T TSubstation)) : Option ((Ty.T TSubstation) × Unit) :=
  some (a0, ())
theorem laws_toSubstation_run (p : Nat) (x : (parsT [.val TSubstation]).T) : acall Tryz.prog (laws_toSubstation_G p) 5 1 69 .leaf (argAVs [.val TSubstation] x) ⟨[], 0, []⟩ (outR [TSubstation]) = laws_toSubstation_p p x.1 := by kernel_rfl
noncomputable def laws_toSubstation_c (p : Nat) : PC := PC.fn true [.val TSubstation] [TSubstation] fun x => laws_toSubstation_p p x.1
theorem laws_toSubstation_s (p : Nat) : PSound Tryz.prog 69 (laws_toSubstation_c p) := pure_sound (laws_toSubstation_E p) Tryz.checked.mixed (laws_toSubstation_I p) LTok_leaf (fun _ => rfl) fun x y h => (laws_toSubstation_run p x).trans h
/-! laws.toSubstationS -/
noncomputable def laws_toSubstationS_l0_r {α : Type} (p : Nat) (v0 : List (Ty.T TSubstation)) (rec : (Int) → (List (Ty.T TSubstation)) → Option α) (v1 : Int) (v2 : List (Ty.T TSubstation)) (k0 : (List (Ty.T TSubstation)) → Option α) : Option α :=
  (bif (decide (v1 < (v0.length : Int))) then (if 0 ≤ v1 then (v0[v1.toNat]?).bind fun y1 => ((laws_toSubstation_p p y1).bind fun r2 => (if 0 ≤ v1 ∧ v1 < (v2.length : Int) then (rec (IntKind.wrap .i64 (v1 + (1 : Int))) (v2.set v1.toNat r2.1)) else none)) else none)
 else (k0 v2))
noncomputable def laws_toSubstationS_l0_go {α : Type} (p : Nat) (v0 : List (Ty.T TSubstation)) : Nat → (Int) → (List (Ty.T TSubstation)) → ((List (Ty.T TSubstation)) → Option α) → Option α
  | 0, _, _, _ => none
  | q + 1, v1, v2, k0 => laws_toSubstationS_l0_r p v0 (fun v1 v2 => laws_toSubstationS_l0_go p v0 q v1 v2 k0) v1 v2 k0
def laws_toSubstationS_l0_sh : Sh := ⟨[⟨0, false, [.sl TSubstation]⟩, ⟨3, false, [.lit (.own 0 0)]⟩, ⟨4, false, [.int .i64]⟩], 1, [(0, .arr 0 TSubstation)]⟩
noncomputable def laws_toSubstationS_lc0 (p : Nat) : LC := LC.alts 0 [⟨0, laws_toSubstationS_l0_sh, fun x {α} k => laws_toSubstationS_l0_go p x.1.1.1 p x.1.2.2.1.1 x.2.1 (fun o0 => k (.exit 0) ⟨[(3, .one ⟨false, [.own 0 0]⟩)], 1, [(0, .arr 0 TSubstation o0)]⟩)⟩]
noncomputable def laws_toSubstationS_lt (p : Nat) : LT := (.node .leaf (.node .leaf (.node (.node .leaf (.loop [0, 3, 4] [3] (some (laws_toSubstationS_lc0 p)) .leaf)) .leaf)))
noncomputable def laws_toSubstationS_G (p : Nat) : FuncId → Option CE := glist [(69, .pure (laws_toSubstation_c p))]
noncomputable def laws_toSubstationS_c0 : Code := codeAt [1, 1, 0, 1, 0, 0] (bodyOf Tryz.f23)
noncomputable def laws_toSubstationS_it0 {α : Type} (p n b : Nat) (k : Ex → St → Option α) (q : Nat) (st : St) : Option α :=
  iter (fun s q => aexec Tryz.prog (laws_toSubstationS_G p) (fun g lt args st (k : D → St → Option α) => acall Tryz.prog (laws_toSubstationS_G p) 5 (n + 0) g lt args st k) 5 b 23 laws_toSubstationS_c0 .leaf s q) (canon b [0, 3, 4]) q st (fun e s => k e (canon b [3] s))
theorem laws_toSubstationS_l0_step {α : Type} (p n : Nat) (k : Ex → St → Option α) (v0 : List (Ty.T TSubstation)) (q : Nat) (v1 : Int) (v2 : List (Ty.T TSubstation)) : laws_toSubstationS_it0 p n 0 k (q + 1) (laws_toSubstationS_l0_sh.mk' (((v0, ()), ((), ()), (v1, ()), ()), (v2, ()))) =
  laws_toSubstationS_l0_r p v0 (fun v1 v2 => laws_toSubstationS_it0 p n 0 k q (laws_toSubstationS_l0_sh.mk' (((v0, ()), ((), ()), (v1, ()), ()), (v2, ())))) v1 v2 (fun o0 => k (.exit 0) ⟨[(3, .one ⟨false, [.own 0 0]⟩)], 1, [(0, .arr 0 TSubstation o0)]⟩) := by kernel_rfl
theorem laws_toSubstationS_l0_ok {α : Type} (p n : Nat) (k : Ex → St → Option α) (v0 : List (Ty.T TSubstation)) : ∀ (q : Nat) (v1 : Int) (v2 : List (Ty.T TSubstation)), laws_toSubstationS_it0 p n 0 k q (laws_toSubstationS_l0_sh.mk' (((v0, ()), ((), ()), (v1, ()), ()), (v2, ()))) =
  laws_toSubstationS_l0_go p v0 q v1 v2 (fun o0 => k (.exit 0) ⟨[(3, .one ⟨false, [.own 0 0]⟩)], 1, [(0, .arr 0 TSubstation o0)]⟩) := by
  intro q
  induction q with
  | zero => intros; rfl
  | succ q ih => intro v1 v2; rw [laws_toSubstationS_l0_step]; simp only [ih]; rfl
theorem laws_toSubstationS_ltok_23_ls (p : Nat) : loopsOf (bodyOf Tryz.f23) (laws_toSubstationS_lt p) = [⟨laws_toSubstationS_c0, [0, 3, 4], [3], laws_toSubstationS_lc0 p, .leaf⟩] := by kernel_rfl
theorem laws_toSubstationS_ltok_23_dep (p : Nat) : LT.dep (laws_toSubstationS_lt p) = 0 := by kernel_rfl
theorem laws_toSubstationS_ltok_23 (p : Nat) : LTok Tryz.prog (laws_toSubstationS_G p) 5 23 (laws_toSubstationS_lt p) := by
  intro α n base fn c hd hfn hc
  have hfn' : some fn = some Tryz.f23 := hfn.symm.trans Tryz.func23
  cases hfn'
  have hc' : c = bodyOf Tryz.f23 := by unfold bodyOf; rw [hc]; rfl
  subst hc'
  rw [laws_toSubstationS_ltok_23_dep] at hd
  obtain ⟨n, rfl⟩ := Nat.exists_eq_add_of_le' hd
  apply LTS_of_loops
  rw [laws_toSubstationS_ltok_23_ls]
  intro e he st k r h
  simp only [List.mem_cons, List.not_mem_nil, or_false] at he
  subst he
  · obtain ⟨a, ha, hb, x, rfl, h⟩ := altRun_ok h
    simp only [List.mem_cons, List.not_mem_nil, or_false] at ha
    subst ha
    · cases hb; exact ⟨p, (laws_toSubstationS_l0_ok p n k _ p _ _).trans h⟩
theorem laws_toSubstationS_E (p : Nat) : EnvS Tryz.prog (laws_toSubstationS_G p) := by
  apply glist_env; intro f ce h
  simp only [List.mem_cons, List.not_mem_nil, or_false, Prod.mk.injEq] at h
  rcases h with ⟨rfl, rfl⟩
  · exact laws_toSubstation_s p
theorem laws_toSubstationS_I (p : Nat) : ∀ f lt, laws_toSubstationS_G p f = some (.inl lt) → LTok Tryz.prog (laws_toSubstationS_G p) 5 f lt := by
  apply glist_inl; intro f lt h
  simp only [List.mem_cons, List.not_mem_nil, or_false, Prod.mk.injEq, CE.inl.injEq, and_false, or_false, false_or, reduceCtorEq] at h
  
noncomputable def laws_toSubstationS_p (p : Nat) (a0 : (List (Ty.T TSubstation))) : Option ((List (Ty.T TSubstation)) × Unit) :=
  (if 0 ≤ (a0.length : Int) ∧ (a0.length : Int) ≤ (a0.length : Int) ∧ (a0.length : Int) * (48 : Int) ≤ 140737488355328 ∧ (a0.length : Int) ≤ 140737488355328 then (laws_toSubstationS_l0_go p a0 p (0 : Int) (List.replicate (a0.length : Int).toNat (Ty.zero TSubstation)) (fun o3 => some (o3, ()))) else none)
theorem laws_toSubstationS_run (p : Nat) (x : (parsT [.val (.slice TSubstation)]).T) : acall Tryz.prog (laws_toSubstationS_G p) 5 1 23 (laws_toSubstationS_lt p) (argAVs [.val (.slice TSubstation)] x) ⟨[], 0, []⟩ (outO [(.slice TSubstation)]) = laws_toSubstationS_p p x.1 := by kernel_rfl
noncomputable def laws_toSubstationS_c (p : Nat) : PC := PC.fnO true [.val (.slice TSubstation)] [(.slice TSubstation)] fun x => laws_toSubstationS_p p x.1
theorem laws_toSubstationS_s (p : Nat) : PSound Tryz.prog 23 (laws_toSubstationS_c p) := own_sound (laws_toSubstationS_E p) Tryz.checked.mixed (laws_toSubstationS_I p) (laws_toSubstationS_ltok_23 p) (fun _ => rfl) fun x y h => (laws_toSubstationS_run p x).trans h
/-! laws.toTank -/
noncomputable def laws_toTank_G (p : Nat) : FuncId → Option CE := glist []
theorem laws_toTank_E (p : Nat) : EnvS Tryz.prog (laws_toTank_G p) := by
  apply glist_env; intro f ce h
  simp only [List.mem_cons, List.not_mem_nil, or_false, Prod.mk.injEq] at h
  
theorem laws_toTank_I (p : Nat) : ∀ f lt, laws_toTank_G p f = some (.inl lt) → LTok Tryz.prog (laws_toTank_G p) 5 f lt := by
  apply glist_inl; intro f lt h
  simp only [List.mem_cons, List.not_mem_nil, or_false, Prod.mk.injEq, CE.inl.injEq, and_false, or_false, false_or, reduceCtorEq] at h
  
noncomputable def laws_toTank_p (p : Nat) (a0 : (Ty.T TTank)) : Option ((Ty.T TTank) × Unit) :=
  some (a0, ())
theorem laws_toTank_run (p : Nat) (x : (parsT [.val TTank]).T) : acall Tryz.prog (laws_toTank_G p) 5 1 24 .leaf (argAVs [.val TTank] x) ⟨[], 0, []⟩ (outR [TTank]) = laws_toTank_p p x.1 := by kernel_rfl
noncomputable def laws_toTank_c (p : Nat) : PC := PC.fn true [.val TTank] [TTank] fun x => laws_toTank_p p x.1
theorem laws_toTank_s (p : Nat) : PSound Tryz.prog 24 (laws_toTank_c p) := pure_sound (laws_toTank_E p) Tryz.checked.mixed (laws_toTank_I p) LTok_leaf (fun _ => rfl) fun x y h => (laws_toTank_run p x).trans h
/-! laws.toFuel -/
noncomputable def laws_toFuel_G (p : Nat) : FuncId → Option CE := glist []
theorem laws_toFuel_E (p : Nat) : EnvS Tryz.prog (laws_toFuel_G p) := by
  apply glist_env; intro f ce h
  simp only [List.mem_cons, List.not_mem_nil, or_false, Prod.mk.injEq] at h
  
theorem laws_toFuel_I (p : Nat) : ∀ f lt, laws_toFuel_G p f = some (.inl lt) → LTok Tryz.prog (laws_toFuel_G p) 5 f lt := by
  apply glist_inl; intro f lt h
  simp only [List.mem_cons, List.not_mem_nil, or_false, Prod.mk.injEq, CE.inl.injEq, and_false, or_false, false_or, reduceCtorEq] at h
  
noncomputable def laws_toFuel_p (p : Nat) (a0 : (Ty.T TFuel)) : Option ((Ty.T TFuel) × Unit) :=
  some (a0, ())
theorem laws_toFuel_run (p : Nat) (x : (parsT [.val TFuel]).T) : acall Tryz.prog (laws_toFuel_G p) 5 1 70 .leaf (argAVs [.val TFuel] x) ⟨[], 0, []⟩ (outR [TFuel]) = laws_toFuel_p p x.1 := by kernel_rfl
noncomputable def laws_toFuel_c (p : Nat) : PC := PC.fn true [.val TFuel] [TFuel] fun x => laws_toFuel_p p x.1
theorem laws_toFuel_s (p : Nat) : PSound Tryz.prog 70 (laws_toFuel_c p) := pure_sound (laws_toFuel_E p) Tryz.checked.mixed (laws_toFuel_I p) LTok_leaf (fun _ => rfl) fun x y h => (laws_toFuel_run p x).trans h
/-! laws.toFuelS -/
noncomputable def laws_toFuelS_l0_r {α : Type} (p : Nat) (v0 : List (Ty.T TFuel)) (rec : (Int) → (List (Ty.T TFuel)) → Option α) (v1 : Int) (v2 : List (Ty.T TFuel)) (k0 : (List (Ty.T TFuel)) → Option α) : Option α :=
  (bif (decide (v1 < (v0.length : Int))) then (if 0 ≤ v1 then (v0[v1.toNat]?).bind fun y1 => ((laws_toFuel_p p y1).bind fun r2 => (if 0 ≤ v1 ∧ v1 < (v2.length : Int) then (rec (IntKind.wrap .i64 (v1 + (1 : Int))) (v2.set v1.toNat r2.1)) else none)) else none)
 else (k0 v2))
noncomputable def laws_toFuelS_l0_go {α : Type} (p : Nat) (v0 : List (Ty.T TFuel)) : Nat → (Int) → (List (Ty.T TFuel)) → ((List (Ty.T TFuel)) → Option α) → Option α
  | 0, _, _, _ => none
  | q + 1, v1, v2, k0 => laws_toFuelS_l0_r p v0 (fun v1 v2 => laws_toFuelS_l0_go p v0 q v1 v2 k0) v1 v2 k0
def laws_toFuelS_l0_sh : Sh := ⟨[⟨0, false, [.sl TFuel]⟩, ⟨3, false, [.lit (.own 0 0)]⟩, ⟨4, false, [.int .i64]⟩], 1, [(0, .arr 0 TFuel)]⟩
noncomputable def laws_toFuelS_lc0 (p : Nat) : LC := LC.alts 0 [⟨0, laws_toFuelS_l0_sh, fun x {α} k => laws_toFuelS_l0_go p x.1.1.1 p x.1.2.2.1.1 x.2.1 (fun o0 => k (.exit 0) ⟨[(3, .one ⟨false, [.own 0 0]⟩)], 1, [(0, .arr 0 TFuel o0)]⟩)⟩]
noncomputable def laws_toFuelS_lt (p : Nat) : LT := (.node .leaf (.node .leaf (.node (.node .leaf (.loop [0, 3, 4] [3] (some (laws_toFuelS_lc0 p)) .leaf)) .leaf)))
noncomputable def laws_toFuelS_G (p : Nat) : FuncId → Option CE := glist [(70, .pure (laws_toFuel_c p))]
noncomputable def laws_toFuelS_c0 : Code := codeAt [1, 1, 0, 1, 0, 0] (bodyOf Tryz.f25)
noncomputable def laws_toFuelS_it0 {α : Type} (p n b : Nat) (k : Ex → St → Option α) (q : Nat) (st : St) : Option α :=
  iter (fun s q => aexec Tryz.prog (laws_toFuelS_G p) (fun g lt args st (k : D → St → Option α) => acall Tryz.prog (laws_toFuelS_G p) 5 (n + 0) g lt args st k) 5 b 23 laws_toFuelS_c0 .leaf s q) (canon b [0, 3, 4]) q st (fun e s => k e (canon b [3] s))
theorem laws_toFuelS_l0_step {α : Type} (p n : Nat) (k : Ex → St → Option α) (v0 : List (Ty.T TFuel)) (q : Nat) (v1 : Int) (v2 : List (Ty.T TFuel)) : laws_toFuelS_it0 p n 0 k (q + 1) (laws_toFuelS_l0_sh.mk' (((v0, ()), ((), ()), (v1, ()), ()), (v2, ()))) =
  laws_toFuelS_l0_r p v0 (fun v1 v2 => laws_toFuelS_it0 p n 0 k q (laws_toFuelS_l0_sh.mk' (((v0, ()), ((), ()), (v1, ()), ()), (v2, ())))) v1 v2 (fun o0 => k (.exit 0) ⟨[(3, .one ⟨false, [.own 0 0]⟩)], 1, [(0, .arr 0 TFuel o0)]⟩) := by kernel_rfl
theorem laws_toFuelS_l0_ok {α : Type} (p n : Nat) (k : Ex → St → Option α) (v0 : List (Ty.T TFuel)) : ∀ (q : Nat) (v1 : Int) (v2 : List (Ty.T TFuel)), laws_toFuelS_it0 p n 0 k q (laws_toFuelS_l0_sh.mk' (((v0, ()), ((), ()), (v1, ()), ()), (v2, ()))) =
  laws_toFuelS_l0_go p v0 q v1 v2 (fun o0 => k (.exit 0) ⟨[(3, .one ⟨false, [.own 0 0]⟩)], 1, [(0, .arr 0 TFuel o0)]⟩) := by
  intro q
  induction q with
  | zero => intros; rfl
  | succ q ih => intro v1 v2; rw [laws_toFuelS_l0_step]; simp only [ih]; rfl
theorem laws_toFuelS_ltok_25_ls (p : Nat) : loopsOf (bodyOf Tryz.f25) (laws_toFuelS_lt p) = [⟨laws_toFuelS_c0, [0, 3, 4], [3], laws_toFuelS_lc0 p, .leaf⟩] := by kernel_rfl
theorem laws_toFuelS_ltok_25_dep (p : Nat) : LT.dep (laws_toFuelS_lt p) = 0 := by kernel_rfl
theorem laws_toFuelS_ltok_25 (p : Nat) : LTok Tryz.prog (laws_toFuelS_G p) 5 25 (laws_toFuelS_lt p) := by
  intro α n base fn c hd hfn hc
  have hfn' : some fn = some Tryz.f25 := hfn.symm.trans Tryz.func25
  cases hfn'
  have hc' : c = bodyOf Tryz.f25 := by unfold bodyOf; rw [hc]; rfl
  subst hc'
  rw [laws_toFuelS_ltok_25_dep] at hd
  obtain ⟨n, rfl⟩ := Nat.exists_eq_add_of_le' hd
  apply LTS_of_loops
  rw [laws_toFuelS_ltok_25_ls]
  intro e he st k r h
  simp only [List.mem_cons, List.not_mem_nil, or_false] at he
  subst he
  · obtain ⟨a, ha, hb, x, rfl, h⟩ := altRun_ok h
    simp only [List.mem_cons, List.not_mem_nil, or_false] at ha
    subst ha
    · cases hb; exact ⟨p, (laws_toFuelS_l0_ok p n k _ p _ _).trans h⟩
theorem laws_toFuelS_E (p : Nat) : EnvS Tryz.prog (laws_toFuelS_G p) := by
  apply glist_env; intro f ce h
  simp only [List.mem_cons, List.not_mem_nil, or_false, Prod.mk.injEq] at h
  rcases h with ⟨rfl, rfl⟩
  · exact laws_toFuel_s p
theorem laws_toFuelS_I (p : Nat) : ∀ f lt, laws_toFuelS_G p f = some (.inl lt) → LTok Tryz.prog (laws_toFuelS_G p) 5 f lt := by
  apply glist_inl; intro f lt h
  simp only [List.mem_cons, List.not_mem_nil, or_false, Prod.mk.injEq, CE.inl.injEq, and_false, or_false, false_or, reduceCtorEq] at h
  
noncomputable def laws_toFuelS_p (p : Nat) (a0 : (List (Ty.T TFuel))) : Option ((List (Ty.T TFuel)) × Unit) :=
  (if 0 ≤ (a0.length : Int) ∧ (a0.length : Int) ≤ (a0.length : Int) ∧ (a0.length : Int) * (40 : Int) ≤ 140737488355328 ∧ (a0.length : Int) ≤ 140737488355328 then (laws_toFuelS_l0_go p a0 p (0 : Int) (List.replicate (a0.length : Int).toNat (Ty.zero TFuel)) (fun o3 => some (o3, ()))) else none)
theorem laws_toFuelS_run (p : Nat) (x : (parsT [.val (.slice TFuel)]).T) : acall Tryz.prog (laws_toFuelS_G p) 5 1 25 (laws_toFuelS_lt p) (argAVs [.val (.slice TFuel)] x) ⟨[], 0, []⟩ (outO [(.slice TFuel)]) = laws_toFuelS_p p x.1 := by kernel_rfl
noncomputable def laws_toFuelS_c (p : Nat) : PC := PC.fnO true [.val (.slice TFuel)] [(.slice TFuel)] fun x => laws_toFuelS_p p x.1
theorem laws_toFuelS_s (p : Nat) : PSound Tryz.prog 25 (laws_toFuelS_c p) := own_sound (laws_toFuelS_E p) Tryz.checked.mixed (laws_toFuelS_I p) (laws_toFuelS_ltok_25 p) (fun _ => rfl) fun x y h => (laws_toFuelS_run p x).trans h
/-! laws.toRepair -/
noncomputable def laws_toRepair_G (p : Nat) : FuncId → Option CE := glist []
theorem laws_toRepair_E (p : Nat) : EnvS Tryz.prog (laws_toRepair_G p) := by
  apply glist_env; intro f ce h
  simp only [List.mem_cons, List.not_mem_nil, or_false, Prod.mk.injEq] at h
  
theorem laws_toRepair_I (p : Nat) : ∀ f lt, laws_toRepair_G p f = some (.inl lt) → LTok Tryz.prog (laws_toRepair_G p) 5 f lt := by
  apply glist_inl; intro f lt h
  simp only [List.mem_cons, List.not_mem_nil, or_false, Prod.mk.injEq, CE.inl.injEq, and_false, or_false, false_or, reduceCtorEq] at h
  
noncomputable def laws_toRepair_p (p : Nat) (a0 : (Ty.T TFuel)) : Option ((Ty.T TFuel) × Unit) :=
  some (a0, ())
theorem laws_toRepair_run (p : Nat) (x : (parsT [.val TFuel]).T) : acall Tryz.prog (laws_toRepair_G p) 5 1 71 .leaf (argAVs [.val TFuel] x) ⟨[], 0, []⟩ (outR [TFuel]) = laws_toRepair_p p x.1 := by kernel_rfl
noncomputable def laws_toRepair_c (p : Nat) : PC := PC.fn true [.val TFuel] [TFuel] fun x => laws_toRepair_p p x.1
theorem laws_toRepair_s (p : Nat) : PSound Tryz.prog 71 (laws_toRepair_c p) := pure_sound (laws_toRepair_E p) Tryz.checked.mixed (laws_toRepair_I p) LTok_leaf (fun _ => rfl) fun x y h => (laws_toRepair_run p x).trans h
/-! laws.toRepairS -/
noncomputable def laws_toRepairS_l0_r {α : Type} (p : Nat) (v0 : List (Ty.T TFuel)) (rec : (Int) → (List (Ty.T TFuel)) → Option α) (v1 : Int) (v2 : List (Ty.T TFuel)) (k0 : (List (Ty.T TFuel)) → Option α) : Option α :=
  (bif (decide (v1 < (v0.length : Int))) then (if 0 ≤ v1 then (v0[v1.toNat]?).bind fun y1 => ((laws_toRepair_p p y1).bind fun r2 => (if 0 ≤ v1 ∧ v1 < (v2.length : Int) then (rec (IntKind.wrap .i64 (v1 + (1 : Int))) (v2.set v1.toNat r2.1)) else none)) else none)
 else (k0 v2))
noncomputable def laws_toRepairS_l0_go {α : Type} (p : Nat) (v0 : List (Ty.T TFuel)) : Nat → (Int) → (List (Ty.T TFuel)) → ((List (Ty.T TFuel)) → Option α) → Option α
  | 0, _, _, _ => none
  | q + 1, v1, v2, k0 => laws_toRepairS_l0_r p v0 (fun v1 v2 => laws_toRepairS_l0_go p v0 q v1 v2 k0) v1 v2 k0
def laws_toRepairS_l0_sh : Sh := ⟨[⟨0, false, [.sl TFuel]⟩, ⟨3, false, [.lit (.own 0 0)]⟩, ⟨4, false, [.int .i64]⟩], 1, [(0, .arr 0 TFuel)]⟩
noncomputable def laws_toRepairS_lc0 (p : Nat) : LC := LC.alts 0 [⟨0, laws_toRepairS_l0_sh, fun x {α} k => laws_toRepairS_l0_go p x.1.1.1 p x.1.2.2.1.1 x.2.1 (fun o0 => k (.exit 0) ⟨[(3, .one ⟨false, [.own 0 0]⟩)], 1, [(0, .arr 0 TFuel o0)]⟩)⟩]
noncomputable def laws_toRepairS_lt (p : Nat) : LT := (.node .leaf (.node .leaf (.node (.node .leaf (.loop [0, 3, 4] [3] (some (laws_toRepairS_lc0 p)) .leaf)) .leaf)))
noncomputable def laws_toRepairS_G (p : Nat) : FuncId → Option CE := glist [(71, .pure (laws_toRepair_c p))]
noncomputable def laws_toRepairS_c0 : Code := codeAt [1, 1, 0, 1, 0, 0] (bodyOf Tryz.f26)
noncomputable def laws_toRepairS_it0 {α : Type} (p n b : Nat) (k : Ex → St → Option α) (q : Nat) (st : St) : Option α :=
  iter (fun s q => aexec Tryz.prog (laws_toRepairS_G p) (fun g lt args st (k : D → St → Option α) => acall Tryz.prog (laws_toRepairS_G p) 5 (n + 0) g lt args st k) 5 b 23 laws_toRepairS_c0 .leaf s q) (canon b [0, 3, 4]) q st (fun e s => k e (canon b [3] s))
theorem laws_toRepairS_l0_step {α : Type} (p n : Nat) (k : Ex → St → Option α) (v0 : List (Ty.T TFuel)) (q : Nat) (v1 : Int) (v2 : List (Ty.T TFuel)) : laws_toRepairS_it0 p n 0 k (q + 1) (laws_toRepairS_l0_sh.mk' (((v0, ()), ((), ()), (v1, ()), ()), (v2, ()))) =
  laws_toRepairS_l0_r p v0 (fun v1 v2 => laws_toRepairS_it0 p n 0 k q (laws_toRepairS_l0_sh.mk' (((v0, ()), ((), ()), (v1, ()), ()), (v2, ())))) v1 v2 (fun o0 => k (.exit 0) ⟨[(3, .one ⟨false, [.own 0 0]⟩)], 1, [(0, .arr 0 TFuel o0)]⟩) := by kernel_rfl
theorem laws_toRepairS_l0_ok {α : Type} (p n : Nat) (k : Ex → St → Option α) (v0 : List (Ty.T TFuel)) : ∀ (q : Nat) (v1 : Int) (v2 : List (Ty.T TFuel)), laws_toRepairS_it0 p n 0 k q (laws_toRepairS_l0_sh.mk' (((v0, ()), ((), ()), (v1, ()), ()), (v2, ()))) =
  laws_toRepairS_l0_go p v0 q v1 v2 (fun o0 => k (.exit 0) ⟨[(3, .one ⟨false, [.own 0 0]⟩)], 1, [(0, .arr 0 TFuel o0)]⟩) := by
  intro q
  induction q with
  | zero => intros; rfl
  | succ q ih => intro v1 v2; rw [laws_toRepairS_l0_step]; simp only [ih]; rfl
theorem laws_toRepairS_ltok_26_ls (p : Nat) : loopsOf (bodyOf Tryz.f26) (laws_toRepairS_lt p) = [⟨laws_toRepairS_c0, [0, 3, 4], [3], laws_toRepairS_lc0 p, .leaf⟩] := by kernel_rfl
theorem laws_toRepairS_ltok_26_dep (p : Nat) : LT.dep (laws_toRepairS_lt p) = 0 := by kernel_rfl
theorem laws_toRepairS_ltok_26 (p : Nat) : LTok Tryz.prog (laws_toRepairS_G p) 5 26 (laws_toRepairS_lt p) := by
  intro α n base fn c hd hfn hc
  have hfn' : some fn = some Tryz.f26 := hfn.symm.trans Tryz.func26
  cases hfn'
  have hc' : c = bodyOf Tryz.f26 := by unfold bodyOf; rw [hc]; rfl
  subst hc'
  rw [laws_toRepairS_ltok_26_dep] at hd
  obtain ⟨n, rfl⟩ := Nat.exists_eq_add_of_le' hd
  apply LTS_of_loops
  rw [laws_toRepairS_ltok_26_ls]
  intro e he st k r h
  simp only [List.mem_cons, List.not_mem_nil, or_false] at he
  subst he
  · obtain ⟨a, ha, hb, x, rfl, h⟩ := altRun_ok h
    simp only [List.mem_cons, List.not_mem_nil, or_false] at ha
    subst ha
    · cases hb; exact ⟨p, (laws_toRepairS_l0_ok p n k _ p _ _).trans h⟩
theorem laws_toRepairS_E (p : Nat) : EnvS Tryz.prog (laws_toRepairS_G p) := by
  apply glist_env; intro f ce h
  simp only [List.mem_cons, List.not_mem_nil, or_false, Prod.mk.injEq] at h
  rcases h with ⟨rfl, rfl⟩
  · exact laws_toRepair_s p
theorem laws_toRepairS_I (p : Nat) : ∀ f lt, laws_toRepairS_G p f = some (.inl lt) → LTok Tryz.prog (laws_toRepairS_G p) 5 f lt := by
  apply glist_inl; intro f lt h
  simp only [List.mem_cons, List.not_mem_nil, or_false, Prod.mk.injEq, CE.inl.injEq, and_false, or_false, false_or, reduceCtorEq] at h
  
noncomputable def laws_toRepairS_p (p : Nat) (a0 : (List (Ty.T TFuel))) : Option ((List (Ty.T TFuel)) × Unit) :=
  (if 0 ≤ (a0.length : Int) ∧ (a0.length : Int) ≤ (a0.length : Int) ∧ (a0.length : Int) * (40 : Int) ≤ 140737488355328 ∧ (a0.length : Int) ≤ 140737488355328 then (laws_toRepairS_l0_go p a0 p (0 : Int) (List.replicate (a0.length : Int).toNat (Ty.zero TFuel)) (fun o3 => some (o3, ()))) else none)
theorem laws_toRepairS_run (p : Nat) (x : (parsT [.val (.slice TFuel)]).T) : acall Tryz.prog (laws_toRepairS_G p) 5 1 26 (laws_toRepairS_lt p) (argAVs [.val (.slice TFuel)] x) ⟨[], 0, []⟩ (outO [(.slice TFuel)]) = laws_toRepairS_p p x.1 := by kernel_rfl
noncomputable def laws_toRepairS_c (p : Nat) : PC := PC.fnO true [.val (.slice TFuel)] [(.slice TFuel)] fun x => laws_toRepairS_p p x.1
theorem laws_toRepairS_s (p : Nat) : PSound Tryz.prog 26 (laws_toRepairS_c p) := own_sound (laws_toRepairS_E p) Tryz.checked.mixed (laws_toRepairS_I p) (laws_toRepairS_ltok_26 p) (fun _ => rfl) fun x y h => (laws_toRepairS_run p x).trans h
/-! laws.toTenant -/
noncomputable def laws_toTenant_G (p : Nat) : FuncId → Option CE := glist []
theorem laws_toTenant_E (p : Nat) : EnvS Tryz.prog (laws_toTenant_G p) := by
  apply glist_env; intro f ce h
  simp only [List.mem_cons, List.not_mem_nil, or_false, Prod.mk.injEq] at h
  
theorem laws_toTenant_I (p : Nat) : ∀ f lt, laws_toTenant_G p f = some (.inl lt) → LTok Tryz.prog (laws_toTenant_G p) 5 f lt := by
  apply glist_inl; intro f lt h
  simp only [List.mem_cons, List.not_mem_nil, or_false, Prod.mk.injEq, CE.inl.injEq, and_false, or_false, false_or, reduceCtorEq] at h
  
noncomputable def laws_toTenant_p (p : Nat) (a0 : (Ty.T TTenant)) : Option ((Ty.T TTenant) × Unit) :=
  some (a0, ())
theorem laws_toTenant_run (p : Nat) (x : (parsT [.val TTenant]).T) : acall Tryz.prog (laws_toTenant_G p) 5 1 72 .leaf (argAVs [.val TTenant] x) ⟨[], 0, []⟩ (outR [TTenant]) = laws_toTenant_p p x.1 := by kernel_rfl
noncomputable def laws_toTenant_c (p : Nat) : PC := PC.fn true [.val TTenant] [TTenant] fun x => laws_toTenant_p p x.1
theorem laws_toTenant_s (p : Nat) : PSound Tryz.prog 72 (laws_toTenant_c p) := pure_sound (laws_toTenant_E p) Tryz.checked.mixed (laws_toTenant_I p) LTok_leaf (fun _ => rfl) fun x y h => (laws_toTenant_run p x).trans h
/-! laws.toTenantS -/
noncomputable def laws_toTenantS_l0_r {α : Type} (p : Nat) (v0 : List (Ty.T TTenant)) (rec : (Int) → (List (Ty.T TTenant)) → Option α) (v1 : Int) (v2 : List (Ty.T TTenant)) (k0 : (List (Ty.T TTenant)) → Option α) : Option α :=
  (bif (decide (v1 < (v0.length : Int))) then (if 0 ≤ v1 then (v0[v1.toNat]?).bind fun y1 => ((laws_toTenant_p p y1).bind fun r2 => (if 0 ≤ v1 ∧ v1 < (v2.length : Int) then (rec (IntKind.wrap .i64 (v1 + (1 : Int))) (v2.set v1.toNat r2.1)) else none)) else none)
 else (k0 v2))
noncomputable def laws_toTenantS_l0_go {α : Type} (p : Nat) (v0 : List (Ty.T TTenant)) : Nat → (Int) → (List (Ty.T TTenant)) → ((List (Ty.T TTenant)) → Option α) → Option α
  | 0, _, _, _ => none
  | q + 1, v1, v2, k0 => laws_toTenantS_l0_r p v0 (fun v1 v2 => laws_toTenantS_l0_go p v0 q v1 v2 k0) v1 v2 k0
def laws_toTenantS_l0_sh : Sh := ⟨[⟨0, false, [.sl TTenant]⟩, ⟨3, false, [.lit (.own 0 0)]⟩, ⟨4, false, [.int .i64]⟩], 1, [(0, .arr 0 TTenant)]⟩
noncomputable def laws_toTenantS_lc0 (p : Nat) : LC := LC.alts 0 [⟨0, laws_toTenantS_l0_sh, fun x {α} k => laws_toTenantS_l0_go p x.1.1.1 p x.1.2.2.1.1 x.2.1 (fun o0 => k (.exit 0) ⟨[(3, .one ⟨false, [.own 0 0]⟩)], 1, [(0, .arr 0 TTenant o0)]⟩)⟩]
noncomputable def laws_toTenantS_lt (p : Nat) : LT := (.node .leaf (.node .leaf (.node (.node .leaf (.loop [0, 3, 4] [3] (some (laws_toTenantS_lc0 p)) .leaf)) .leaf)))
noncomputable def laws_toTenantS_G (p : Nat) : FuncId → Option CE := glist [(72, .pure (laws_toTenant_c p))]
noncomputable def laws_toTenantS_c0 : Code := codeAt [1, 1, 0, 1, 0, 0] (bodyOf Tryz.f27)
noncomputable def laws_toTenantS_it0 {α : Type} (p n b : Nat) (k : Ex → St → Option α) (q : Nat) (st : St) : Option α :=
  iter (fun s q => aexec Tryz.prog (laws_toTenantS_G p) (fun g lt args st (k : D → St → Option α) => acall Tryz.prog (laws_toTenantS_G p) 5 (n + 0) g lt args st k) 5 b 23 laws_toTenantS_c0 .leaf s q) (canon b [0, 3, 4]) q st (fun e s => k e (canon b [3] s))
theorem laws_toTenantS_l0_step {α : Type} (p n : Nat) (k : Ex → St → Option α) (v0 : List (Ty.T TTenant)) (q : Nat) (v1 : Int) (v2 : List (Ty.T TTenant)) : laws_toTenantS_it0 p n 0 k (q + 1) (laws_toTenantS_l0_sh.mk' (((v0, ()), ((), ()), (v1, ()), ()), (v2, ()))) =
  laws_toTenantS_l0_r p v0 (fun v1 v2 => laws_toTenantS_it0 p n 0 k q (laws_toTenantS_l0_sh.mk' (((v0, ()), ((), ()), (v1, ()), ()), (v2, ())))) v1 v2 (fun o0 => k (.exit 0) ⟨[(3, .one ⟨false, [.own 0 0]⟩)], 1, [(0, .arr 0 TTenant o0)]⟩) := by kernel_rfl
theorem laws_toTenantS_l0_ok {α : Type} (p n : Nat) (k : Ex → St → Option α) (v0 : List (Ty.T TTenant)) : ∀ (q : Nat) (v1 : Int) (v2 : List (Ty.T TTenant)), laws_toTenantS_it0 p n 0 k q (laws_toTenantS_l0_sh.mk' (((v0, ()), ((), ()), (v1, ()), ()), (v2, ()))) =
  laws_toTenantS_l0_go p v0 q v1 v2 (fun o0 => k (.exit 0) ⟨[(3, .one ⟨false, [.own 0 0]⟩)], 1, [(0, .arr 0 TTenant o0)]⟩) := by
  intro q
  induction q with
  | zero => intros; rfl
  | succ q ih => intro v1 v2; rw [laws_toTenantS_l0_step]; simp only [ih]; rfl
theorem laws_toTenantS_ltok_27_ls (p : Nat) : loopsOf (bodyOf Tryz.f27) (laws_toTenantS_lt p) = [⟨laws_toTenantS_c0, [0, 3, 4], [3], laws_toTenantS_lc0 p, .leaf⟩] := by kernel_rfl
theorem laws_toTenantS_ltok_27_dep (p : Nat) : LT.dep (laws_toTenantS_lt p) = 0 := by kernel_rfl
theorem laws_toTenantS_ltok_27 (p : Nat) : LTok Tryz.prog (laws_toTenantS_G p) 5 27 (laws_toTenantS_lt p) := by
  intro α n base fn c hd hfn hc
  have hfn' : some fn = some Tryz.f27 := hfn.symm.trans Tryz.func27
  cases hfn'
  have hc' : c = bodyOf Tryz.f27 := by unfold bodyOf; rw [hc]; rfl
  subst hc'
  rw [laws_toTenantS_ltok_27_dep] at hd
  obtain ⟨n, rfl⟩ := Nat.exists_eq_add_of_le' hd
  apply LTS_of_loops
  rw [laws_toTenantS_ltok_27_ls]
  intro e he st k r h
  simp only [List.mem_cons, List.not_mem_nil, or_false] at he
  subst he
  · obtain ⟨a, ha, hb, x, rfl, h⟩ := altRun_ok h
    simp only [List.mem_cons, List.not_mem_nil, or_false] at ha
    subst ha
    · cases hb; exact ⟨p, (laws_toTenantS_l0_ok p n k _ p _ _).trans h⟩
theorem laws_toTenantS_E (p : Nat) : EnvS Tryz.prog (laws_toTenantS_G p) := by
  apply glist_env; intro f ce h
  simp only [List.mem_cons, List.not_mem_nil, or_false, Prod.mk.injEq] at h
  rcases h with ⟨rfl, rfl⟩
  · exact laws_toTenant_s p
theorem laws_toTenantS_I (p : Nat) : ∀ f lt, laws_toTenantS_G p f = some (.inl lt) → LTok Tryz.prog (laws_toTenantS_G p) 5 f lt := by
  apply glist_inl; intro f lt h
  simp only [List.mem_cons, List.not_mem_nil, or_false, Prod.mk.injEq, CE.inl.injEq, and_false, or_false, false_or, reduceCtorEq] at h
  
noncomputable def laws_toTenantS_p (p : Nat) (a0 : (List (Ty.T TTenant))) : Option ((List (Ty.T TTenant)) × Unit) :=
  (if 0 ≤ (a0.length : Int) ∧ (a0.length : Int) ≤ (a0.length : Int) ∧ (a0.length : Int) * (32 : Int) ≤ 140737488355328 ∧ (a0.length : Int) ≤ 140737488355328 then (laws_toTenantS_l0_go p a0 p (0 : Int) (List.replicate (a0.length : Int).toNat (Ty.zero TTenant)) (fun o3 => some (o3, ()))) else none)
theorem laws_toTenantS_run (p : Nat) (x : (parsT [.val (.slice TTenant)]).T) : acall Tryz.prog (laws_toTenantS_G p) 5 1 27 (laws_toTenantS_lt p) (argAVs [.val (.slice TTenant)] x) ⟨[], 0, []⟩ (outO [(.slice TTenant)]) = laws_toTenantS_p p x.1 := by kernel_rfl
noncomputable def laws_toTenantS_c (p : Nat) : PC := PC.fnO true [.val (.slice TTenant)] [(.slice TTenant)] fun x => laws_toTenantS_p p x.1
theorem laws_toTenantS_s (p : Nat) : PSound Tryz.prog 27 (laws_toTenantS_c p) := own_sound (laws_toTenantS_E p) Tryz.checked.mixed (laws_toTenantS_I p) (laws_toTenantS_ltok_27 p) (fun _ => rfl) fun x y h => (laws_toTenantS_run p x).trans h
/-! laws.toDuty -/
noncomputable def laws_toDuty_G (p : Nat) : FuncId → Option CE := glist []
theorem laws_toDuty_E (p : Nat) : EnvS Tryz.prog (laws_toDuty_G p) := by
  apply glist_env; intro f ce h
  simp only [List.mem_cons, List.not_mem_nil, or_false, Prod.mk.injEq] at h
  
theorem laws_toDuty_I (p : Nat) : ∀ f lt, laws_toDuty_G p f = some (.inl lt) → LTok Tryz.prog (laws_toDuty_G p) 5 f lt := by
  apply glist_inl; intro f lt h
  simp only [List.mem_cons, List.not_mem_nil, or_false, Prod.mk.injEq, CE.inl.injEq, and_false, or_false, false_or, reduceCtorEq] at h
  
noncomputable def laws_toDuty_p (p : Nat) (a0 : (Ty.T TDuty)) : Option ((Ty.T TDuty) × Unit) :=
  some (a0, ())
theorem laws_toDuty_run (p : Nat) (x : (parsT [.val TDuty]).T) : acall Tryz.prog (laws_toDuty_G p) 5 1 73 .leaf (argAVs [.val TDuty] x) ⟨[], 0, []⟩ (outR [TDuty]) = laws_toDuty_p p x.1 := by kernel_rfl
noncomputable def laws_toDuty_c (p : Nat) : PC := PC.fn true [.val TDuty] [TDuty] fun x => laws_toDuty_p p x.1
theorem laws_toDuty_s (p : Nat) : PSound Tryz.prog 73 (laws_toDuty_c p) := pure_sound (laws_toDuty_E p) Tryz.checked.mixed (laws_toDuty_I p) LTok_leaf (fun _ => rfl) fun x y h => (laws_toDuty_run p x).trans h
/-! laws.toDutyS -/
noncomputable def laws_toDutyS_l0_r {α : Type} (p : Nat) (v0 : List (Ty.T TDuty)) (rec : (Int) → (List (Ty.T TDuty)) → Option α) (v1 : Int) (v2 : List (Ty.T TDuty)) (k0 : (List (Ty.T TDuty)) → Option α) : Option α :=
  (bif (decide (v1 < (v0.length : Int))) then (if 0 ≤ v1 then (v0[v1.toNat]?).bind fun y1 => ((laws_toDuty_p p y1).bind fun r2 => (if 0 ≤ v1 ∧ v1 < (v2.length : Int) then (rec (IntKind.wrap .i64 (v1 + (1 : Int))) (v2.set v1.toNat r2.1)) else none)) else none)
 else (k0 v2))
noncomputable def laws_toDutyS_l0_go {α : Type} (p : Nat) (v0 : List (Ty.T TDuty)) : Nat → (Int) → (List (Ty.T TDuty)) → ((List (Ty.T TDuty)) → Option α) → Option α
  | 0, _, _, _ => none
  | q + 1, v1, v2, k0 => laws_toDutyS_l0_r p v0 (fun v1 v2 => laws_toDutyS_l0_go p v0 q v1 v2 k0) v1 v2 k0
def laws_toDutyS_l0_sh : Sh := ⟨[⟨0, false, [.sl TDuty]⟩, ⟨3, false, [.lit (.own 0 0)]⟩, ⟨4, false, [.int .i64]⟩], 1, [(0, .arr 0 TDuty)]⟩
noncomputable def laws_toDutyS_lc0 (p : Nat) : LC := LC.alts 0 [⟨0, laws_toDutyS_l0_sh, fun x {α} k => laws_toDutyS_l0_go p x.1.1.1 p x.1.2.2.1.1 x.2.1 (fun o0 => k (.exit 0) ⟨[(3, .one ⟨false, [.own 0 0]⟩)], 1, [(0, .arr 0 TDuty o0)]⟩)⟩]
noncomputable def laws_toDutyS_lt (p : Nat) : LT := (.node .leaf (.node .leaf (.node (.node .leaf (.loop [0, 3, 4] [3] (some (laws_toDutyS_lc0 p)) .leaf)) .leaf)))
noncomputable def laws_toDutyS_G (p : Nat) : FuncId → Option CE := glist [(73, .pure (laws_toDuty_c p))]
noncomputable def laws_toDutyS_c0 : Code := codeAt [1, 1, 0, 1, 0, 0] (bodyOf Tryz.f28)
noncomputable def laws_toDutyS_it0 {α : Type} (p n b : Nat) (k : Ex → St → Option α) (q : Nat) (st : St) : Option α :=
  iter (fun s q => aexec Tryz.prog (laws_toDutyS_G p) (fun g lt args st (k : D → St → Option α) => acall Tryz.prog (laws_toDutyS_G p) 5 (n + 0) g lt args st k) 5 b 23 laws_toDutyS_c0 .leaf s q) (canon b [0, 3, 4]) q st (fun e s => k e (canon b [3] s))
theorem laws_toDutyS_l0_step {α : Type} (p n : Nat) (k : Ex → St → Option α) (v0 : List (Ty.T TDuty)) (q : Nat) (v1 : Int) (v2 : List (Ty.T TDuty)) : laws_toDutyS_it0 p n 0 k (q + 1) (laws_toDutyS_l0_sh.mk' (((v0, ()), ((), ()), (v1, ()), ()), (v2, ()))) =
  laws_toDutyS_l0_r p v0 (fun v1 v2 => laws_toDutyS_it0 p n 0 k q (laws_toDutyS_l0_sh.mk' (((v0, ()), ((), ()), (v1, ()), ()), (v2, ())))) v1 v2 (fun o0 => k (.exit 0) ⟨[(3, .one ⟨false, [.own 0 0]⟩)], 1, [(0, .arr 0 TDuty o0)]⟩) := by kernel_rfl
theorem laws_toDutyS_l0_ok {α : Type} (p n : Nat) (k : Ex → St → Option α) (v0 : List (Ty.T TDuty)) : ∀ (q : Nat) (v1 : Int) (v2 : List (Ty.T TDuty)), laws_toDutyS_it0 p n 0 k q (laws_toDutyS_l0_sh.mk' (((v0, ()), ((), ()), (v1, ()), ()), (v2, ()))) =
  laws_toDutyS_l0_go p v0 q v1 v2 (fun o0 => k (.exit 0) ⟨[(3, .one ⟨false, [.own 0 0]⟩)], 1, [(0, .arr 0 TDuty o0)]⟩) := by
  intro q
  induction q with
  | zero => intros; rfl
  | succ q ih => intro v1 v2; rw [laws_toDutyS_l0_step]; simp only [ih]; rfl
theorem laws_toDutyS_ltok_28_ls (p : Nat) : loopsOf (bodyOf Tryz.f28) (laws_toDutyS_lt p) = [⟨laws_toDutyS_c0, [0, 3, 4], [3], laws_toDutyS_lc0 p, .leaf⟩] := by kernel_rfl
theorem laws_toDutyS_ltok_28_dep (p : Nat) : LT.dep (laws_toDutyS_lt p) = 0 := by kernel_rfl
theorem laws_toDutyS_ltok_28 (p : Nat) : LTok Tryz.prog (laws_toDutyS_G p) 5 28 (laws_toDutyS_lt p) := by
  intro α n base fn c hd hfn hc
  have hfn' : some fn = some Tryz.f28 := hfn.symm.trans Tryz.func28
  cases hfn'
  have hc' : c = bodyOf Tryz.f28 := by unfold bodyOf; rw [hc]; rfl
  subst hc'
  rw [laws_toDutyS_ltok_28_dep] at hd
  obtain ⟨n, rfl⟩ := Nat.exists_eq_add_of_le' hd
  apply LTS_of_loops
  rw [laws_toDutyS_ltok_28_ls]
  intro e he st k r h
  simp only [List.mem_cons, List.not_mem_nil, or_false] at he
  subst he
  · obtain ⟨a, ha, hb, x, rfl, h⟩ := altRun_ok h
    simp only [List.mem_cons, List.not_mem_nil, or_false] at ha
    subst ha
    · cases hb; exact ⟨p, (laws_toDutyS_l0_ok p n k _ p _ _).trans h⟩
theorem laws_toDutyS_E (p : Nat) : EnvS Tryz.prog (laws_toDutyS_G p) := by
  apply glist_env; intro f ce h
  simp only [List.mem_cons, List.not_mem_nil, or_false, Prod.mk.injEq] at h
  rcases h with ⟨rfl, rfl⟩
  · exact laws_toDuty_s p
theorem laws_toDutyS_I (p : Nat) : ∀ f lt, laws_toDutyS_G p f = some (.inl lt) → LTok Tryz.prog (laws_toDutyS_G p) 5 f lt := by
  apply glist_inl; intro f lt h
  simp only [List.mem_cons, List.not_mem_nil, or_false, Prod.mk.injEq, CE.inl.injEq, and_false, or_false, false_or, reduceCtorEq] at h
  
noncomputable def laws_toDutyS_p (p : Nat) (a0 : (List (Ty.T TDuty))) : Option ((List (Ty.T TDuty)) × Unit) :=
  (if 0 ≤ (a0.length : Int) ∧ (a0.length : Int) ≤ (a0.length : Int) ∧ (a0.length : Int) * (40 : Int) ≤ 140737488355328 ∧ (a0.length : Int) ≤ 140737488355328 then (laws_toDutyS_l0_go p a0 p (0 : Int) (List.replicate (a0.length : Int).toNat (Ty.zero TDuty)) (fun o3 => some (o3, ()))) else none)
theorem laws_toDutyS_run (p : Nat) (x : (parsT [.val (.slice TDuty)]).T) : acall Tryz.prog (laws_toDutyS_G p) 5 1 28 (laws_toDutyS_lt p) (argAVs [.val (.slice TDuty)] x) ⟨[], 0, []⟩ (outO [(.slice TDuty)]) = laws_toDutyS_p p x.1 := by kernel_rfl
noncomputable def laws_toDutyS_c (p : Nat) : PC := PC.fnO true [.val (.slice TDuty)] [(.slice TDuty)] fun x => laws_toDutyS_p p x.1
theorem laws_toDutyS_s (p : Nat) : PSound Tryz.prog 28 (laws_toDutyS_c p) := own_sound (laws_toDutyS_E p) Tryz.checked.mixed (laws_toDutyS_I p) (laws_toDutyS_ltok_28 p) (fun _ => rfl) fun x y h => (laws_toDutyS_run p x).trans h
/-! laws.toDesk -/
noncomputable def laws_toDesk_G (p : Nat) : FuncId → Option CE := glist [(19, .pure (laws_toNetwork_c p)), (20, .pure (laws_toInt64S_c p)), (21, .pure (laws_toValveS_c p)), (22, .pure (laws_toPumpS_c p)), (23, .pure (laws_toSubstationS_c p)), (24, .pure (laws_toTank_c p)), (25, .pure (laws_toFuelS_c p)), (26, .pure (laws_toRepairS_c p)), (27, .pure (laws_toTenantS_c p)), (28, .pure (laws_toDutyS_c p))]
theorem laws_toDesk_E (p : Nat) : EnvS Tryz.prog (laws_toDesk_G p) := by
  apply glist_env; intro f ce h
  simp only [List.mem_cons, List.not_mem_nil, or_false, Prod.mk.injEq] at h
  rcases h with ⟨rfl, rfl⟩ | ⟨rfl, rfl⟩ | ⟨rfl, rfl⟩ | ⟨rfl, rfl⟩ | ⟨rfl, rfl⟩ | ⟨rfl, rfl⟩ | ⟨rfl, rfl⟩ | ⟨rfl, rfl⟩ | ⟨rfl, rfl⟩ | ⟨rfl, rfl⟩
  · exact laws_toNetwork_s p
  · exact laws_toInt64S_s p
  · exact laws_toValveS_s p
  · exact laws_toPumpS_s p
  · exact laws_toSubstationS_s p
  · exact laws_toTank_s p
  · exact laws_toFuelS_s p
  · exact laws_toRepairS_s p
  · exact laws_toTenantS_s p
  · exact laws_toDutyS_s p
theorem laws_toDesk_I (p : Nat) : ∀ f lt, laws_toDesk_G p f = some (.inl lt) → LTok Tryz.prog (laws_toDesk_G p) 5 f lt := by
  apply glist_inl; intro f lt h
  simp only [List.mem_cons, List.not_mem_nil, or_false, Prod.mk.injEq, CE.inl.injEq, and_false, or_false, false_or, reduceCtorEq] at h
  
noncomputable def laws_toDesk_p (p : Nat) (a0 : (Ty.T TDesk)) : Option ((Ty.T TDesk) × Unit) :=
  ((laws_toNetwork_p p a0.1).bind fun r1 => ((laws_toInt64S_p p a0.2.1).bind fun r2 => ((laws_toValveS_p p a0.2.2.1).bind fun r3 => ((laws_toPumpS_p p a0.2.2.2.1).bind fun r4 => ((laws_toSubstationS_p p a0.2.2.2.2.1).bind fun r5 => ((laws_toTank_p p a0.2.2.2.2.2.1).bind fun r6 => ((laws_toFuelS_p p a0.2.2.2.2.2.2.1).bind fun r7 => ((laws_toRepairS_p p a0.2.2.2.2.2.2.2.1).bind fun r8 => ((laws_toTenantS_p p a0.2.2.2.2.2.2.2.2.1).bind fun r9 => ((laws_toDutyS_p p a0.2.2.2.2.2.2.2.2.2).bind fun r10 => some ((r1.1, (r2.1, (r3.1, (r4.1, (r5.1, (r6.1, (r7.1, (r8.1, (r9.1, r10.1))))))))), ())))))))))))
theorem laws_toDesk_run (p : Nat) (x : (parsT [.val TDesk]).T) : acall Tryz.prog (laws_toDesk_G p) 5 1 6 .leaf (argAVs [.val TDesk] x) ⟨[], 0, []⟩ (outO [TDesk]) = laws_toDesk_p p x.1 := by kernel_rfl
noncomputable def laws_toDesk_c (p : Nat) : PC := PC.fnO false [.val TDesk] [TDesk] fun x => laws_toDesk_p p x.1
theorem laws_toDesk_s (p : Nat) : PSound Tryz.prog 6 (laws_toDesk_c p) := own_sound (laws_toDesk_E p) Tryz.checked.mixed (laws_toDesk_I p) LTok_leaf (fun h => by cases h) fun x y h => (laws_toDesk_run p x).trans h
/-! spec.l00In -/
noncomputable def spec_l00In_G (p : Nat) : FuncId → Option CE := glist []
theorem spec_l00In_E (p : Nat) : EnvS Tryz.prog (spec_l00In_G p) := by
  apply glist_env; intro f ce h
  simp only [List.mem_cons, List.not_mem_nil, or_false, Prod.mk.injEq] at h
  
theorem spec_l00In_I (p : Nat) : ∀ f lt, spec_l00In_G p f = some (.inl lt) → LTok Tryz.prog (spec_l00In_G p) 5 f lt := by
  apply glist_inl; intro f lt h
  simp only [List.mem_cons, List.not_mem_nil, or_false, Prod.mk.injEq, CE.inl.injEq, and_false, or_false, false_or, reduceCtorEq] at h
  
noncomputable def spec_l00In_p (p : Nat) (a0 : Int) (a1 : Int) (a2 : Int) : Option (Bool × Unit) :=
  (bif (decide (a0 ≥ a1)) then some ((decide (a0 ≤ a2)), ())
 else some (false, ()))
theorem spec_l00In_run (p : Nat) (x : (parsT [.val (.int .i64), .val (.int .i64), .val (.int .i64)]).T) : acall Tryz.prog (spec_l00In_G p) 5 1 106 .leaf (argAVs [.val (.int .i64), .val (.int .i64), .val (.int .i64)] x) ⟨[], 0, []⟩ (outR [.bool]) = spec_l00In_p p x.1 x.2.1 x.2.2.1 := by kernel_rfl
noncomputable def spec_l00In_c (p : Nat) : PC := PC.fn true [.val (.int .i64), .val (.int .i64), .val (.int .i64)] [.bool] fun x => spec_l00In_p p x.1 x.2.1 x.2.2.1
theorem spec_l00In_s (p : Nat) : PSound Tryz.prog 106 (spec_l00In_c p) := pure_sound (spec_l00In_E p) Tryz.checked.mixed (spec_l00In_I p) LTok_leaf (fun _ => rfl) fun x y h => (spec_l00In_run p x).trans h
/-! spec.l03Flow -/
noncomputable def spec_l03Flow_G (p : Nat) : FuncId → Option CE := glist [(106, .pure (spec_l00In_c p))]
theorem spec_l03Flow_E (p : Nat) : EnvS Tryz.prog (spec_l03Flow_G p) := by
  apply glist_env; intro f ce h
  simp only [List.mem_cons, List.not_mem_nil, or_false, Prod.mk.injEq] at h
  rcases h with ⟨rfl, rfl⟩
  · exact spec_l00In_s p
theorem spec_l03Flow_I (p : Nat) : ∀ f lt, spec_l03Flow_G p f = some (.inl lt) → LTok Tryz.prog (spec_l03Flow_G p) 5 f lt := by
  apply glist_inl; intro f lt h
  simp only [List.mem_cons, List.not_mem_nil, or_false, Prod.mk.injEq, CE.inl.injEq, and_false, or_false, false_or, reduceCtorEq] at h
  
noncomputable def spec_l03Flow_p (p : Nat) (a0 : Int) : Option (Bool × Unit) :=
  ((spec_l00In_p p a0 (-100000 : Int) (100000 : Int)).bind fun r1 => some (r1.1, ()))
theorem spec_l03Flow_run (p : Nat) (x : (parsT [.val (.int .i64)]).T) : acall Tryz.prog (spec_l03Flow_G p) 5 1 100 .leaf (argAVs [.val (.int .i64)] x) ⟨[], 0, []⟩ (outR [.bool]) = spec_l03Flow_p p x.1 := by kernel_rfl
noncomputable def spec_l03Flow_c (p : Nat) : PC := PC.fn true [.val (.int .i64)] [.bool] fun x => spec_l03Flow_p p x.1
theorem spec_l03Flow_s (p : Nat) : PSound Tryz.prog 100 (spec_l03Flow_c p) := pure_sound (spec_l03Flow_E p) Tryz.checked.mixed (spec_l03Flow_I p) LTok_leaf (fun _ => rfl) fun x y h => (spec_l03Flow_run p x).trans h
/-! spec.l30Flows -/
noncomputable def spec_l30Flows_l0_r {α : Type} (p : Nat) (v1 : List Int) (rec : (Int) → Option α) (v2 : Int) (k0 : (Bool) → Option α) (k1 : Unit → Option α) : Option α :=
  (bif (decide (v2 < (v1.length : Int))) then (if 0 ≤ v2 then (v1[v2.toNat]?).bind fun y1 => ((spec_l03Flow_p p y1).bind fun r2 => (bif (!r2.1) then (k0 false)
 else (rec (IntKind.wrap .i64 (v2 + (1 : Int)))))) else none)
 else (k1 ()))
noncomputable def spec_l30Flows_l0_go {α : Type} (p : Nat) (v1 : List Int) : Nat → (Int) → ((Bool) → Option α) → (Unit → Option α) → Option α
  | 0, _, _, _ => none
  | q + 1, v2, k0, k1 => spec_l30Flows_l0_r p v1 (fun v2 => spec_l30Flows_l0_go p v1 q v2 k0 k1) v2 k0 k1
def spec_l30Flows_l0_sh : Sh := ⟨[⟨0, false, [.ref TNetwork 0]⟩, ⟨1, false, [.sl (.int .i64)]⟩, ⟨5, false, [.int .i64]⟩], 0, []⟩
noncomputable def spec_l30Flows_lc0 (p : Nat) : LC := LC.alts 0 [⟨0, spec_l30Flows_l0_sh, fun x {α} k => spec_l30Flows_l0_go p x.1.2.1.1 p x.1.2.2.1.1 (fun o2 => k .ret ⟨[(0, .one ⟨false, [.ref TNetwork x.1.1.1 0]⟩), (1, .one ⟨false, [.sl (.int .i64) x.1.2.1.1]⟩), (4, .one ⟨false, [.bool o2]⟩)], 0, []⟩) (fun _ => k (.exit 0) ⟨[(0, .one ⟨false, [.ref TNetwork x.1.1.1 0]⟩), (1, .one ⟨false, [.sl (.int .i64) x.1.2.1.1]⟩)], 0, []⟩)⟩]
noncomputable def spec_l30Flows_lt (p : Nat) : LT := (.node .leaf (.node (.node .leaf (.loop [0, 1, 5] [0, 1, 4] (some (spec_l30Flows_lc0 p)) .leaf)) .leaf))
noncomputable def spec_l30Flows_G (p : Nat) : FuncId → Option CE := glist [(100, .pure (spec_l03Flow_c p))]
noncomputable def spec_l30Flows_c0 : Code := codeAt [1, 0, 1, 0, 0] (bodyOf Tryz.f57)
noncomputable def spec_l30Flows_it0 {α : Type} (p n b : Nat) (k : Ex → St → Option α) (q : Nat) (st : St) : Option α :=
  iter (fun s q => aexec Tryz.prog (spec_l30Flows_G p) (fun g lt args st (k : D → St → Option α) => acall Tryz.prog (spec_l30Flows_G p) 5 (n + 0) g lt args st k) 5 b 26 spec_l30Flows_c0 .leaf s q) (canon b [0, 1, 5]) q st (fun e s => k e (canon b [0, 1, 4] s))
theorem spec_l30Flows_l0_step {α : Type} (p n : Nat) (k : Ex → St → Option α) (v0 : (Ty.T TNetwork)) (v1 : List Int) (q : Nat) (v2 : Int) : spec_l30Flows_it0 p n 0 k (q + 1) (spec_l30Flows_l0_sh.mk' (((v0, ()), (v1, ()), (v2, ()), ()), (()))) =
  spec_l30Flows_l0_r p v1 (fun v2 => spec_l30Flows_it0 p n 0 k q (spec_l30Flows_l0_sh.mk' (((v0, ()), (v1, ()), (v2, ()), ()), (())))) v2 (fun o2 => k .ret ⟨[(0, .one ⟨false, [.ref TNetwork v0 0]⟩), (1, .one ⟨false, [.sl (.int .i64) v1]⟩), (4, .one ⟨false, [.bool o2]⟩)], 0, []⟩) (fun _ => k (.exit 0) ⟨[(0, .one ⟨false, [.ref TNetwork v0 0]⟩), (1, .one ⟨false, [.sl (.int .i64) v1]⟩)], 0, []⟩) := by kernel_rfl
theorem spec_l30Flows_l0_ok {α : Type} (p n : Nat) (k : Ex → St → Option α) (v0 : (Ty.T TNetwork)) (v1 : List Int) : ∀ (q : Nat) (v2 : Int), spec_l30Flows_it0 p n 0 k q (spec_l30Flows_l0_sh.mk' (((v0, ()), (v1, ()), (v2, ()), ()), (()))) =
  spec_l30Flows_l0_go p v1 q v2 (fun o2 => k .ret ⟨[(0, .one ⟨false, [.ref TNetwork v0 0]⟩), (1, .one ⟨false, [.sl (.int .i64) v1]⟩), (4, .one ⟨false, [.bool o2]⟩)], 0, []⟩) (fun _ => k (.exit 0) ⟨[(0, .one ⟨false, [.ref TNetwork v0 0]⟩), (1, .one ⟨false, [.sl (.int .i64) v1]⟩)], 0, []⟩) := by
  intro q
  induction q with
  | zero => intros; rfl
  | succ q ih => intro v2; rw [spec_l30Flows_l0_step]; simp only [ih]; rfl
theorem spec_l30Flows_ltok_57_ls (p : Nat) : loopsOf (bodyOf Tryz.f57) (spec_l30Flows_lt p) = [⟨spec_l30Flows_c0, [0, 1, 5], [0, 1, 4], spec_l30Flows_lc0 p, .leaf⟩] := by kernel_rfl
theorem spec_l30Flows_ltok_57_dep (p : Nat) : LT.dep (spec_l30Flows_lt p) = 0 := by kernel_rfl
theorem spec_l30Flows_ltok_57 (p : Nat) : LTok Tryz.prog (spec_l30Flows_G p) 5 57 (spec_l30Flows_lt p) := by
  intro α n base fn c hd hfn hc
  have hfn' : some fn = some Tryz.f57 := hfn.symm.trans Tryz.func57
  cases hfn'
  have hc' : c = bodyOf Tryz.f57 := by unfold bodyOf; rw [hc]; rfl
  subst hc'
  rw [spec_l30Flows_ltok_57_dep] at hd
  obtain ⟨n, rfl⟩ := Nat.exists_eq_add_of_le' hd
  apply LTS_of_loops
  rw [spec_l30Flows_ltok_57_ls]
  intro e he st k r h
  simp only [List.mem_cons, List.not_mem_nil, or_false] at he
  subst he
  · obtain ⟨a, ha, hb, x, rfl, h⟩ := altRun_ok h
    simp only [List.mem_cons, List.not_mem_nil, or_false] at ha
    subst ha
    · cases hb; exact ⟨p, (spec_l30Flows_l0_ok p n k _ _ p _).trans h⟩
theorem spec_l30Flows_E (p : Nat) : EnvS Tryz.prog (spec_l30Flows_G p) := by
  apply glist_env; intro f ce h
  simp only [List.mem_cons, List.not_mem_nil, or_false, Prod.mk.injEq] at h
  rcases h with ⟨rfl, rfl⟩
  · exact spec_l03Flow_s p
theorem spec_l30Flows_I (p : Nat) : ∀ f lt, spec_l30Flows_G p f = some (.inl lt) → LTok Tryz.prog (spec_l30Flows_G p) 5 f lt := by
  apply glist_inl; intro f lt h
  simp only [List.mem_cons, List.not_mem_nil, or_false, Prod.mk.injEq, CE.inl.injEq, and_false, or_false, false_or, reduceCtorEq] at h
  
noncomputable def spec_l30Flows_p (p : Nat) (a0 : (Ty.T TNetwork)) (a1 : (List Int)) : Option (Bool × Unit) :=
  (spec_l30Flows_l0_go p a1 p (0 : Int) (fun o3 => some (o3, ())) (fun _ => some (((a1.length : Int) == (a0.2.length : Int)), ())))
theorem spec_l30Flows_run (p : Nat) (x : (parsT [.ptr TNetwork, .val (.slice (.int .i64))]).T) : acall Tryz.prog (spec_l30Flows_G p) 5 1 57 (spec_l30Flows_lt p) (argAVs [.ptr TNetwork, .val (.slice (.int .i64))] x) ⟨[], 0, []⟩ (outR [.bool]) = spec_l30Flows_p p x.1 x.2.1 := by kernel_rfl
noncomputable def spec_l30Flows_c (p : Nat) : PC := PC.fn true [.ptr TNetwork, .val (.slice (.int .i64))] [.bool] fun x => spec_l30Flows_p p x.1 x.2.1
theorem spec_l30Flows_s (p : Nat) : PSound Tryz.prog 57 (spec_l30Flows_c p) := pure_sound (spec_l30Flows_E p) Tryz.checked.mixed (spec_l30Flows_I p) (spec_l30Flows_ltok_57 p) (fun _ => rfl) fun x y h => (spec_l30Flows_run p x).trans h
/-! spec.l01Small -/
noncomputable def spec_l01Small_G (p : Nat) : FuncId → Option CE := glist []
theorem spec_l01Small_E (p : Nat) : EnvS Tryz.prog (spec_l01Small_G p) := by
  apply glist_env; intro f ce h
  simp only [List.mem_cons, List.not_mem_nil, or_false, Prod.mk.injEq] at h
  
theorem spec_l01Small_I (p : Nat) : ∀ f lt, spec_l01Small_G p f = some (.inl lt) → LTok Tryz.prog (spec_l01Small_G p) 5 f lt := by
  apply glist_inl; intro f lt h
  simp only [List.mem_cons, List.not_mem_nil, or_false, Prod.mk.injEq, CE.inl.injEq, and_false, or_false, false_or, reduceCtorEq] at h
  
noncomputable def spec_l01Small_p (p : Nat) (a0 : Int) : Option (Bool × Unit) :=
  (bif (decide (a0 ≥ (97 : Int))) then some ((decide (a0 ≤ (122 : Int))), ())
 else some (false, ()))
theorem spec_l01Small_run (p : Nat) (x : (parsT [.val (.int .u8)]).T) : acall Tryz.prog (spec_l01Small_G p) 5 1 129 .leaf (argAVs [.val (.int .u8)] x) ⟨[], 0, []⟩ (outR [.bool]) = spec_l01Small_p p x.1 := by kernel_rfl
noncomputable def spec_l01Small_c (p : Nat) : PC := PC.fn true [.val (.int .u8)] [.bool] fun x => spec_l01Small_p p x.1
theorem spec_l01Small_s (p : Nat) : PSound Tryz.prog 129 (spec_l01Small_c p) := pure_sound (spec_l01Small_E p) Tryz.checked.mixed (spec_l01Small_I p) LTok_leaf (fun _ => rfl) fun x y h => (spec_l01Small_run p x).trans h
/-! spec.l01Digit -/
noncomputable def spec_l01Digit_G (p : Nat) : FuncId → Option CE := glist []
theorem spec_l01Digit_E (p : Nat) : EnvS Tryz.prog (spec_l01Digit_G p) := by
  apply glist_env; intro f ce h
  simp only [List.mem_cons, List.not_mem_nil, or_false, Prod.mk.injEq] at h
  
theorem spec_l01Digit_I (p : Nat) : ∀ f lt, spec_l01Digit_G p f = some (.inl lt) → LTok Tryz.prog (spec_l01Digit_G p) 5 f lt := by
  apply glist_inl; intro f lt h
  simp only [List.mem_cons, List.not_mem_nil, or_false, Prod.mk.injEq, CE.inl.injEq, and_false, or_false, false_or, reduceCtorEq] at h
  
noncomputable def spec_l01Digit_p (p : Nat) (a0 : Int) : Option (Bool × Unit) :=
  (bif (decide (a0 ≥ (48 : Int))) then some ((decide (a0 ≤ (57 : Int))), ())
 else some (false, ()))
theorem spec_l01Digit_run (p : Nat) (x : (parsT [.val (.int .u8)]).T) : acall Tryz.prog (spec_l01Digit_G p) 5 1 130 .leaf (argAVs [.val (.int .u8)] x) ⟨[], 0, []⟩ (outR [.bool]) = spec_l01Digit_p p x.1 := by kernel_rfl
noncomputable def spec_l01Digit_c (p : Nat) : PC := PC.fn true [.val (.int .u8)] [.bool] fun x => spec_l01Digit_p p x.1
theorem spec_l01Digit_s (p : Nat) : PSound Tryz.prog 130 (spec_l01Digit_c p) := pure_sound (spec_l01Digit_E p) Tryz.checked.mixed (spec_l01Digit_I p) LTok_leaf (fun _ => rfl) fun x y h => (spec_l01Digit_run p x).trans h
/-! spec.l01Name -/
noncomputable def spec_l01Name_l0_r {α : Type} (p : Nat) (v0 : ByteArray) (rec : (Int) → Option α) (v1 : Int) (k0 : (Bool) → Option α) (k1 : Unit → Option α) : Option α :=
  (bif (decide (v1 < (v0.size : Int))) then (if 0 ≤ v1 ∧ v1 < (v0.size : Int) then ((spec_l01Small_p p ((v0.get! v1.toNat).toNat : Int)).bind fun r2 => (bif (!r2.1) then (if 0 ≤ v1 ∧ v1 < (v0.size : Int) then ((spec_l01Digit_p p ((v0.get! v1.toNat).toNat : Int)).bind fun r3 => (bif (!r3.1) then (k0 false)
 else (rec (IntKind.wrap .i64 (v1 + (1 : Int)))))) else none)
 else (rec (IntKind.wrap .i64 (v1 + (1 : Int)))))) else none)
 else (k1 ()))
noncomputable def spec_l01Name_l0_go {α : Type} (p : Nat) (v0 : ByteArray) : Nat → (Int) → ((Bool) → Option α) → (Unit → Option α) → Option α
  | 0, _, _, _ => none
  | q + 1, v1, k0, k1 => spec_l01Name_l0_r p v0 (fun v1 => spec_l01Name_l0_go p v0 q v1 k0 k1) v1 k0 k1
def spec_l01Name_l0_sh : Sh := ⟨[⟨0, false, [.str]⟩, ⟨3, false, [.int .i64]⟩], 0, []⟩
noncomputable def spec_l01Name_lc0 (p : Nat) : LC := LC.alts 0 [⟨0, spec_l01Name_l0_sh, fun x {α} k => spec_l01Name_l0_go p x.1.1.1 p x.1.2.1.1 (fun o0 => k .ret ⟨[(2, .one ⟨false, [.bool o0]⟩)], 0, []⟩) (fun _ => k (.exit 0) ⟨[], 0, []⟩)⟩]
noncomputable def spec_l01Name_lt (p : Nat) : LT := (.node .leaf (.node .leaf (.node (.node .leaf (.loop [0, 3] [2] (some (spec_l01Name_lc0 p)) .leaf)) .leaf)))
noncomputable def spec_l01Name_G (p : Nat) : FuncId → Option CE := glist [(129, .pure (spec_l01Small_c p)), (130, .pure (spec_l01Digit_c p))]
noncomputable def spec_l01Name_c0 : Code := codeAt [1, 1, 0, 1, 0, 0] (bodyOf Tryz.f102)
noncomputable def spec_l01Name_it0 {α : Type} (p n b : Nat) (k : Ex → St → Option α) (q : Nat) (st : St) : Option α :=
  iter (fun s q => aexec Tryz.prog (spec_l01Name_G p) (fun g lt args st (k : D → St → Option α) => acall Tryz.prog (spec_l01Name_G p) 5 (n + 0) g lt args st k) 5 b 35 spec_l01Name_c0 .leaf s q) (canon b [0, 3]) q st (fun e s => k e (canon b [2] s))
theorem spec_l01Name_l0_step {α : Type} (p n : Nat) (k : Ex → St → Option α) (v0 : ByteArray) (q : Nat) (v1 : Int) : spec_l01Name_it0 p n 0 k (q + 1) (spec_l01Name_l0_sh.mk' (((v0, ()), (v1, ()), ()), (()))) =
  spec_l01Name_l0_r p v0 (fun v1 => spec_l01Name_it0 p n 0 k q (spec_l01Name_l0_sh.mk' (((v0, ()), (v1, ()), ()), (())))) v1 (fun o0 => k .ret ⟨[(2, .one ⟨false, [.bool o0]⟩)], 0, []⟩) (fun _ => k (.exit 0) ⟨[], 0, []⟩) := by kernel_rfl
theorem spec_l01Name_l0_ok {α : Type} (p n : Nat) (k : Ex → St → Option α) (v0 : ByteArray) : ∀ (q : Nat) (v1 : Int), spec_l01Name_it0 p n 0 k q (spec_l01Name_l0_sh.mk' (((v0, ()), (v1, ()), ()), (()))) =
  spec_l01Name_l0_go p v0 q v1 (fun o0 => k .ret ⟨[(2, .one ⟨false, [.bool o0]⟩)], 0, []⟩) (fun _ => k (.exit 0) ⟨[], 0, []⟩) := by
  intro q
  induction q with
  | zero => intros; rfl
  | succ q ih => intro v1; rw [spec_l01Name_l0_step]; simp only [ih]; rfl
theorem spec_l01Name_ltok_102_ls (p : Nat) : loopsOf (bodyOf Tryz.f102) (spec_l01Name_lt p) = [⟨spec_l01Name_c0, [0, 3], [2], spec_l01Name_lc0 p, .leaf⟩] := by kernel_rfl
theorem spec_l01Name_ltok_102_dep (p : Nat) : LT.dep (spec_l01Name_lt p) = 0 := by kernel_rfl
theorem spec_l01Name_ltok_102 (p : Nat) : LTok Tryz.prog (spec_l01Name_G p) 5 102 (spec_l01Name_lt p) := by
  intro α n base fn c hd hfn hc
  have hfn' : some fn = some Tryz.f102 := hfn.symm.trans Tryz.func102
  cases hfn'
  have hc' : c = bodyOf Tryz.f102 := by unfold bodyOf; rw [hc]; rfl
  subst hc'
  rw [spec_l01Name_ltok_102_dep] at hd
  obtain ⟨n, rfl⟩ := Nat.exists_eq_add_of_le' hd
  apply LTS_of_loops
  rw [spec_l01Name_ltok_102_ls]
  intro e he st k r h
  simp only [List.mem_cons, List.not_mem_nil, or_false] at he
  subst he
  · obtain ⟨a, ha, hb, x, rfl, h⟩ := altRun_ok h
    simp only [List.mem_cons, List.not_mem_nil, or_false] at ha
    subst ha
    · cases hb; exact ⟨p, (spec_l01Name_l0_ok p n k _ p _).trans h⟩
theorem spec_l01Name_E (p : Nat) : EnvS Tryz.prog (spec_l01Name_G p) := by
  apply glist_env; intro f ce h
  simp only [List.mem_cons, List.not_mem_nil, or_false, Prod.mk.injEq] at h
  rcases h with ⟨rfl, rfl⟩ | ⟨rfl, rfl⟩
  · exact spec_l01Small_s p
  · exact spec_l01Digit_s p
theorem spec_l01Name_I (p : Nat) : ∀ f lt, spec_l01Name_G p f = some (.inl lt) → LTok Tryz.prog (spec_l01Name_G p) 5 f lt := by
  apply glist_inl; intro f lt h
  simp only [List.mem_cons, List.not_mem_nil, or_false, Prod.mk.injEq, CE.inl.injEq, and_false, or_false, false_or, reduceCtorEq] at h
  
noncomputable def spec_l01Name_p (p : Nat) (a0 : ByteArray) : Option (Bool × Unit) :=
  (bif (a0.toList == (⟨#[]⟩ : ByteArray).toList) then some (false, ())
 else (bif (decide ((a0.size : Int) > (10 : Int))) then some (false, ())
 else (if 0 ≤ (0 : Int) ∧ (0 : Int) < (a0.size : Int) then ((spec_l01Small_p p ((a0.get! (0 : Int).toNat).toNat : Int)).bind fun r1 => (bif (!r1.1) then some (false, ())
 else (spec_l01Name_l0_go p a0 p (0 : Int) (fun o4 => some (o4, ())) (fun _ => some (true, ()))))) else none)))
theorem spec_l01Name_run (p : Nat) (x : (parsT [.val .str]).T) : acall Tryz.prog (spec_l01Name_G p) 5 1 102 (spec_l01Name_lt p) (argAVs [.val .str] x) ⟨[], 0, []⟩ (outR [.bool]) = spec_l01Name_p p x.1 := by kernel_rfl
noncomputable def spec_l01Name_c (p : Nat) : PC := PC.fn true [.val .str] [.bool] fun x => spec_l01Name_p p x.1
theorem spec_l01Name_s (p : Nat) : PSound Tryz.prog 102 (spec_l01Name_c p) := pure_sound (spec_l01Name_E p) Tryz.checked.mixed (spec_l01Name_I p) (spec_l01Name_ltok_102 p) (fun _ => rfl) fun x y h => (spec_l01Name_run p x).trans h
/-! spec.l03Ok -/
noncomputable def spec_l03Ok_G (p : Nat) : FuncId → Option CE := glist [(102, .pure (spec_l01Name_c p)), (106, .pure (spec_l00In_c p))]
theorem spec_l03Ok_E (p : Nat) : EnvS Tryz.prog (spec_l03Ok_G p) := by
  apply glist_env; intro f ce h
  simp only [List.mem_cons, List.not_mem_nil, or_false, Prod.mk.injEq] at h
  rcases h with ⟨rfl, rfl⟩ | ⟨rfl, rfl⟩
  · exact spec_l01Name_s p
  · exact spec_l00In_s p
theorem spec_l03Ok_I (p : Nat) : ∀ f lt, spec_l03Ok_G p f = some (.inl lt) → LTok Tryz.prog (spec_l03Ok_G p) 5 f lt := by
  apply glist_inl; intro f lt h
  simp only [List.mem_cons, List.not_mem_nil, or_false, Prod.mk.injEq, CE.inl.injEq, and_false, or_false, false_or, reduceCtorEq] at h
  
noncomputable def spec_l03Ok_p (p : Nat) (a0 : (Ty.T TPipe)) : Option (Bool × Unit) :=
  ((spec_l01Name_p p a0.1).bind fun r1 => (bif (!r1.1) then some (false, ())
 else ((spec_l00In_p p a0.2.1 (0 : Int) (15 : Int)).bind fun r2 => (bif (!r2.1) then some (false, ())
 else ((spec_l00In_p p a0.2.2.1 (0 : Int) (15 : Int)).bind fun r3 => (bif (!r3.1) then some (false, ())
 else (bif (a0.2.1 == a0.2.2.1) then some (false, ())
 else ((spec_l00In_p p a0.2.2.2.1 (1 : Int) (10000 : Int)).bind fun r4 => (bif r4.1 then ((spec_l00In_p p a0.2.2.2.2.1 (20 : Int) (1000 : Int)).bind fun r5 => (bif r5.1 then ((spec_l00In_p p a0.2.2.2.2.2 (0 : Int) (5000 : Int)).bind fun r6 => some (r6.1, ()))
 else some (false, ())))
 else some (false, ()))))))))))
theorem spec_l03Ok_run (p : Nat) (x : (parsT [.ptr TPipe]).T) : acall Tryz.prog (spec_l03Ok_G p) 5 1 136 .leaf (argAVs [.ptr TPipe] x) ⟨[], 0, []⟩ (outR [.bool]) = spec_l03Ok_p p x.1 := by kernel_rfl
noncomputable def spec_l03Ok_c (p : Nat) : PC := PC.fn true [.ptr TPipe] [.bool] fun x => spec_l03Ok_p p x.1
theorem spec_l03Ok_s (p : Nat) : PSound Tryz.prog 136 (spec_l03Ok_c p) := pure_sound (spec_l03Ok_E p) Tryz.checked.mixed (spec_l03Ok_I p) LTok_leaf (fun _ => rfl) fun x y h => (spec_l03Ok_run p x).trans h
/-! spec.l04Fits -/
noncomputable def spec_l04Fits_G (p : Nat) : FuncId → Option CE := glist [(136, .pure (spec_l03Ok_c p))]
theorem spec_l04Fits_E (p : Nat) : EnvS Tryz.prog (spec_l04Fits_G p) := by
  apply glist_env; intro f ce h
  simp only [List.mem_cons, List.not_mem_nil, or_false, Prod.mk.injEq] at h
  rcases h with ⟨rfl, rfl⟩
  · exact spec_l03Ok_s p
theorem spec_l04Fits_I (p : Nat) : ∀ f lt, spec_l04Fits_G p f = some (.inl lt) → LTok Tryz.prog (spec_l04Fits_G p) 5 f lt := by
  apply glist_inl; intro f lt h
  simp only [List.mem_cons, List.not_mem_nil, or_false, Prod.mk.injEq, CE.inl.injEq, and_false, or_false, false_or, reduceCtorEq] at h
  
noncomputable def spec_l04Fits_p (p : Nat) (a0 : (Ty.T TNetwork)) (a1 : (Ty.T TPipe)) : Option (Bool × Unit) :=
  ((spec_l03Ok_p p a1).bind fun r1 => (bif r1.1 then (bif (decide (a1.2.1 < (a0.1.length : Int))) then some ((decide (a1.2.2.1 < (a0.1.length : Int))), ())
 else some (false, ()))
 else some (false, ())))
theorem spec_l04Fits_run (p : Nat) (x : (parsT [.ptr TNetwork, .ptr TPipe]).T) : acall Tryz.prog (spec_l04Fits_G p) 5 1 128 .leaf (argAVs [.ptr TNetwork, .ptr TPipe] x) ⟨[], 0, []⟩ (outR [.bool]) = spec_l04Fits_p p x.1 x.2.1 := by kernel_rfl
noncomputable def spec_l04Fits_c (p : Nat) : PC := PC.fn true [.ptr TNetwork, .ptr TPipe] [.bool] fun x => spec_l04Fits_p p x.1 x.2.1
theorem spec_l04Fits_s (p : Nat) : PSound Tryz.prog 128 (spec_l04Fits_c p) := pure_sound (spec_l04Fits_E p) Tryz.checked.mixed (spec_l04Fits_I p) LTok_leaf (fun _ => rfl) fun x y h => (spec_l04Fits_run p x).trans h
/-! spec.l04Ok -/
noncomputable def spec_l04Ok_l0_r {α : Type} (p : Nat) (v0 : (Ty.T TNetwork)) (rec : (Int) → Option α) (v1 : Int) (k0 : (Bool) → Option α) (k1 : Unit → Option α) : Option α :=
  (bif (decide (v1 < (v0.1.length : Int))) then (if 0 ≤ v1 then (v0.1[v1.toNat]?).bind fun y1 => ((spec_l00In_p p y1 (-100000 : Int) (100000 : Int)).bind fun r2 => (bif (!r2.1) then (k0 false)
 else (rec (IntKind.wrap .i64 (v1 + (1 : Int)))))) else none)
 else (k1 ()))
noncomputable def spec_l04Ok_l0_go {α : Type} (p : Nat) (v0 : (Ty.T TNetwork)) : Nat → (Int) → ((Bool) → Option α) → (Unit → Option α) → Option α
  | 0, _, _, _ => none
  | q + 1, v1, k0, k1 => spec_l04Ok_l0_r p v0 (fun v1 => spec_l04Ok_l0_go p v0 q v1 k0 k1) v1 k0 k1
def spec_l04Ok_l0_sh : Sh := ⟨[⟨0, false, [.ref TNetwork 0]⟩, ⟨3, false, [.int .i64]⟩], 0, []⟩
noncomputable def spec_l04Ok_l1_r {α : Type} (p : Nat) (v0 : (Ty.T TNetwork)) (rec : (Int) → Option α) (v1 : Int) (k0 : (Bool) → Option α) (k1 : Unit → Option α) : Option α :=
  (bif (decide (v1 < (v0.2.length : Int))) then (if 0 ≤ v1 then (v0.2[v1.toNat]?).bind fun y4 => ((spec_l04Fits_p p v0 y4).bind fun r5 => (bif (!r5.1) then (k0 false)
 else (bif (decide (v1 > (0 : Int))) then (if 0 ≤ (IntKind.wrap .i64 (v1 - (1 : Int))) then (v0.2[(IntKind.wrap .i64 (v1 - (1 : Int))).toNat]?).bind fun y6 => (if 0 ≤ v1 then (v0.2[v1.toNat]?).bind fun y7 => (bif (!(Op.bytesLess y6.1.toList y7.1.toList)) then (k0 false)
 else (rec (IntKind.wrap .i64 (v1 + (1 : Int))))) else none) else none)
 else (rec (IntKind.wrap .i64 (v1 + (1 : Int))))))) else none)
 else (k1 ()))
noncomputable def spec_l04Ok_l1_go {α : Type} (p : Nat) (v0 : (Ty.T TNetwork)) : Nat → (Int) → ((Bool) → Option α) → (Unit → Option α) → Option α
  | 0, _, _, _ => none
  | q + 1, v1, k0, k1 => spec_l04Ok_l1_r p v0 (fun v1 => spec_l04Ok_l1_go p v0 q v1 k0 k1) v1 k0 k1
def spec_l04Ok_l1_sh : Sh := ⟨[⟨0, false, [.ref TNetwork 0]⟩, ⟨4, false, [.int .i64]⟩], 0, []⟩
noncomputable def spec_l04Ok_lc0 (p : Nat) : LC := LC.alts 0 [⟨0, spec_l04Ok_l0_sh, fun x {α} k => spec_l04Ok_l0_go p x.1.1.1 p x.1.2.1.1 (fun o1 => k .ret ⟨[(0, .one ⟨false, [.ref TNetwork x.1.1.1 0]⟩), (2, .one ⟨false, [.bool o1]⟩)], 0, []⟩) (fun _ => k (.exit 0) ⟨[(0, .one ⟨false, [.ref TNetwork x.1.1.1 0]⟩)], 0, []⟩)⟩]
noncomputable def spec_l04Ok_lc1 (p : Nat) : LC := LC.alts 0 [⟨0, spec_l04Ok_l1_sh, fun x {α} k => spec_l04Ok_l1_go p x.1.1.1 p x.1.2.1.1 (fun o0 => k .ret ⟨[(2, .one ⟨false, [.bool o0]⟩)], 0, []⟩) (fun _ => k (.exit 2) ⟨[], 0, []⟩)⟩]
noncomputable def spec_l04Ok_lt (p : Nat) : LT := (.node .leaf (.node (.node .leaf (.loop [0, 3] [0, 2] (some (spec_l04Ok_lc0 p)) .leaf)) (.node .leaf (.node (.node .leaf (.loop [0, 4] [2] (some (spec_l04Ok_lc1 p)) .leaf)) .leaf))))
noncomputable def spec_l04Ok_G (p : Nat) : FuncId → Option CE := glist [(106, .pure (spec_l00In_c p)), (128, .pure (spec_l04Fits_c p))]
noncomputable def spec_l04Ok_c0 : Code := codeAt [1, 0, 1, 0, 0] (bodyOf Tryz.f101)
noncomputable def spec_l04Ok_it0 {α : Type} (p n b : Nat) (k : Ex → St → Option α) (q : Nat) (st : St) : Option α :=
  iter (fun s q => aexec Tryz.prog (spec_l04Ok_G p) (fun g lt args st (k : D → St → Option α) => acall Tryz.prog (spec_l04Ok_G p) 5 (n + 0) g lt args st k) 5 b 87 spec_l04Ok_c0 .leaf s q) (canon b [0, 3]) q st (fun e s => k e (canon b [0, 2] s))
theorem spec_l04Ok_l0_step {α : Type} (p n : Nat) (k : Ex → St → Option α) (v0 : (Ty.T TNetwork)) (q : Nat) (v1 : Int) : spec_l04Ok_it0 p n 0 k (q + 1) (spec_l04Ok_l0_sh.mk' (((v0, ()), (v1, ()), ()), (()))) =
  spec_l04Ok_l0_r p v0 (fun v1 => spec_l04Ok_it0 p n 0 k q (spec_l04Ok_l0_sh.mk' (((v0, ()), (v1, ()), ()), (())))) v1 (fun o1 => k .ret ⟨[(0, .one ⟨false, [.ref TNetwork v0 0]⟩), (2, .one ⟨false, [.bool o1]⟩)], 0, []⟩) (fun _ => k (.exit 0) ⟨[(0, .one ⟨false, [.ref TNetwork v0 0]⟩)], 0, []⟩) := by kernel_rfl
theorem spec_l04Ok_l0_ok {α : Type} (p n : Nat) (k : Ex → St → Option α) (v0 : (Ty.T TNetwork)) : ∀ (q : Nat) (v1 : Int), spec_l04Ok_it0 p n 0 k q (spec_l04Ok_l0_sh.mk' (((v0, ()), (v1, ()), ()), (()))) =
  spec_l04Ok_l0_go p v0 q v1 (fun o1 => k .ret ⟨[(0, .one ⟨false, [.ref TNetwork v0 0]⟩), (2, .one ⟨false, [.bool o1]⟩)], 0, []⟩) (fun _ => k (.exit 0) ⟨[(0, .one ⟨false, [.ref TNetwork v0 0]⟩)], 0, []⟩) := by
  intro q
  induction q with
  | zero => intros; rfl
  | succ q ih => intro v1; rw [spec_l04Ok_l0_step]; simp only [ih]; rfl
noncomputable def spec_l04Ok_c1 : Code := codeAt [1, 1, 1, 0, 1, 0, 0] (bodyOf Tryz.f101)
noncomputable def spec_l04Ok_it1 {α : Type} (p n b : Nat) (k : Ex → St → Option α) (q : Nat) (st : St) : Option α :=
  iter (fun s q => aexec Tryz.prog (spec_l04Ok_G p) (fun g lt args st (k : D → St → Option α) => acall Tryz.prog (spec_l04Ok_G p) 5 (n + 0) g lt args st k) 5 b 87 spec_l04Ok_c1 .leaf s q) (canon b [0, 4]) q st (fun e s => k e (canon b [2] s))
theorem spec_l04Ok_l1_step {α : Type} (p n : Nat) (k : Ex → St → Option α) (v0 : (Ty.T TNetwork)) (q : Nat) (v1 : Int) : spec_l04Ok_it1 p n 0 k (q + 1) (spec_l04Ok_l1_sh.mk' (((v0, ()), (v1, ()), ()), (()))) =
  spec_l04Ok_l1_r p v0 (fun v1 => spec_l04Ok_it1 p n 0 k q (spec_l04Ok_l1_sh.mk' (((v0, ()), (v1, ()), ()), (())))) v1 (fun o0 => k .ret ⟨[(2, .one ⟨false, [.bool o0]⟩)], 0, []⟩) (fun _ => k (.exit 2) ⟨[], 0, []⟩) := by kernel_rfl
theorem spec_l04Ok_l1_ok {α : Type} (p n : Nat) (k : Ex → St → Option α) (v0 : (Ty.T TNetwork)) : ∀ (q : Nat) (v1 : Int), spec_l04Ok_it1 p n 0 k q (spec_l04Ok_l1_sh.mk' (((v0, ()), (v1, ()), ()), (()))) =
  spec_l04Ok_l1_go p v0 q v1 (fun o0 => k .ret ⟨[(2, .one ⟨false, [.bool o0]⟩)], 0, []⟩) (fun _ => k (.exit 2) ⟨[], 0, []⟩) := by
  intro q
  induction q with
  | zero => intros; rfl
  | succ q ih => intro v1; rw [spec_l04Ok_l1_step]; simp only [ih]; rfl
theorem spec_l04Ok_ltok_101_ls (p : Nat) : loopsOf (bodyOf Tryz.f101) (spec_l04Ok_lt p) = [⟨spec_l04Ok_c0, [0, 3], [0, 2], spec_l04Ok_lc0 p, .leaf⟩, ⟨spec_l04Ok_c1, [0, 4], [2], spec_l04Ok_lc1 p, .leaf⟩] := by kernel_rfl
theorem spec_l04Ok_ltok_101_dep (p : Nat) : LT.dep (spec_l04Ok_lt p) = 0 := by kernel_rfl
theorem spec_l04Ok_ltok_101 (p : Nat) : LTok Tryz.prog (spec_l04Ok_G p) 5 101 (spec_l04Ok_lt p) := by
  intro α n base fn c hd hfn hc
  have hfn' : some fn = some Tryz.f101 := hfn.symm.trans Tryz.func101
  cases hfn'
  have hc' : c = bodyOf Tryz.f101 := by unfold bodyOf; rw [hc]; rfl
  subst hc'
  rw [spec_l04Ok_ltok_101_dep] at hd
  obtain ⟨n, rfl⟩ := Nat.exists_eq_add_of_le' hd
  apply LTS_of_loops
  rw [spec_l04Ok_ltok_101_ls]
  intro e he st k r h
  simp only [List.mem_cons, List.not_mem_nil, or_false] at he
  rcases he with rfl | rfl
  · obtain ⟨a, ha, hb, x, rfl, h⟩ := altRun_ok h
    simp only [List.mem_cons, List.not_mem_nil, or_false] at ha
    subst ha
    · cases hb; exact ⟨p, (spec_l04Ok_l0_ok p n k _ p _).trans h⟩
  · obtain ⟨a, ha, hb, x, rfl, h⟩ := altRun_ok h
    simp only [List.mem_cons, List.not_mem_nil, or_false] at ha
    subst ha
    · cases hb; exact ⟨p, (spec_l04Ok_l1_ok p n k _ p _).trans h⟩
theorem spec_l04Ok_E (p : Nat) : EnvS Tryz.prog (spec_l04Ok_G p) := by
  apply glist_env; intro f ce h
  simp only [List.mem_cons, List.not_mem_nil, or_false, Prod.mk.injEq] at h
  rcases h with ⟨rfl, rfl⟩ | ⟨rfl, rfl⟩
  · exact spec_l00In_s p
  · exact spec_l04Fits_s p
theorem spec_l04Ok_I (p : Nat) : ∀ f lt, spec_l04Ok_G p f = some (.inl lt) → LTok Tryz.prog (spec_l04Ok_G p) 5 f lt := by
  apply glist_inl; intro f lt h
  simp only [List.mem_cons, List.not_mem_nil, or_false, Prod.mk.injEq, CE.inl.injEq, and_false, or_false, false_or, reduceCtorEq] at h
  
noncomputable def spec_l04Ok_p (p : Nat) (a0 : (Ty.T TNetwork)) : Option (Bool × Unit) :=
  (spec_l04Ok_l0_go p a0 p (0 : Int) (fun o3 => some (o3, ())) (fun _ => (bif (decide ((a0.1.length : Int) < (1 : Int))) then some (false, ())
 else (bif (decide ((a0.1.length : Int) > (16 : Int))) then some (false, ())
 else (bif (decide ((a0.2.length : Int) > (20 : Int))) then some (false, ())
 else (spec_l04Ok_l1_go p a0 p (0 : Int) (fun o8 => some (o8, ())) (fun _ => some (true, ()))))))))
theorem spec_l04Ok_run (p : Nat) (x : (parsT [.ptr TNetwork]).T) : acall Tryz.prog (spec_l04Ok_G p) 5 1 101 (spec_l04Ok_lt p) (argAVs [.ptr TNetwork] x) ⟨[], 0, []⟩ (outR [.bool]) = spec_l04Ok_p p x.1 := by kernel_rfl
noncomputable def spec_l04Ok_c (p : Nat) : PC := PC.fn true [.ptr TNetwork] [.bool] fun x => spec_l04Ok_p p x.1
theorem spec_l04Ok_s (p : Nat) : PSound Tryz.prog 101 (spec_l04Ok_c p) := pure_sound (spec_l04Ok_E p) Tryz.checked.mixed (spec_l04Ok_I p) (spec_l04Ok_ltok_101 p) (fun _ => rfl) fun x y h => (spec_l04Ok_run p x).trans h
/-! spec.l18Pipe -/
noncomputable def spec_l18Pipe_l0_r {α : Type} (p : Nat) (v0 : (Ty.T TNetwork)) (v1 : (Ty.T TValve)) (rec : (Int) → Option α) (v2 : Int) (k0 : (Int) → Option α) (k1 : Unit → Option α) : Option α :=
  (bif (decide (v2 < (v0.2.length : Int))) then (if 0 ≤ v2 then (v0.2[v2.toNat]?).bind fun y1 => (bif (y1.1.toList == v1.2.1.toList) then (k0 v2)
 else (rec (IntKind.wrap .i64 (v2 + (1 : Int))))) else none)
 else (k1 ()))
noncomputable def spec_l18Pipe_l0_go {α : Type} (p : Nat) (v0 : (Ty.T TNetwork)) (v1 : (Ty.T TValve)) : Nat → (Int) → ((Int) → Option α) → (Unit → Option α) → Option α
  | 0, _, _, _ => none
  | q + 1, v2, k0, k1 => spec_l18Pipe_l0_r p v0 v1 (fun v2 => spec_l18Pipe_l0_go p v0 v1 q v2 k0 k1) v2 k0 k1
def spec_l18Pipe_l0_sh : Sh := ⟨[⟨0, false, [.ref TNetwork 0]⟩, ⟨1, false, [.ref TValve 0]⟩, ⟨5, false, [.int .i64]⟩], 0, []⟩
noncomputable def spec_l18Pipe_lc0 (p : Nat) : LC := LC.alts 0 [⟨0, spec_l18Pipe_l0_sh, fun x {α} k => spec_l18Pipe_l0_go p x.1.1.1 x.1.2.1.1 p x.1.2.2.1.1 (fun o0 => k .ret ⟨[(4, .one ⟨false, [.int .i64 o0]⟩)], 0, []⟩) (fun _ => k (.exit 0) ⟨[], 0, []⟩)⟩]
noncomputable def spec_l18Pipe_lt (p : Nat) : LT := (.node .leaf (.node (.node .leaf (.loop [0, 1, 5] [4] (some (spec_l18Pipe_lc0 p)) .leaf)) .leaf))
noncomputable def spec_l18Pipe_G (p : Nat) : FuncId → Option CE := glist []
noncomputable def spec_l18Pipe_c0 : Code := codeAt [1, 0, 1, 0, 0] (bodyOf Tryz.f103)
noncomputable def spec_l18Pipe_it0 {α : Type} (p n b : Nat) (k : Ex → St → Option α) (q : Nat) (st : St) : Option α :=
  iter (fun s q => aexec Tryz.prog (spec_l18Pipe_G p) (fun g lt args st (k : D → St → Option α) => acall Tryz.prog (spec_l18Pipe_G p) 5 (n + 0) g lt args st k) 5 b 29 spec_l18Pipe_c0 .leaf s q) (canon b [0, 1, 5]) q st (fun e s => k e (canon b [4] s))
theorem spec_l18Pipe_l0_step {α : Type} (p n : Nat) (k : Ex → St → Option α) (v0 : (Ty.T TNetwork)) (v1 : (Ty.T TValve)) (q : Nat) (v2 : Int) : spec_l18Pipe_it0 p n 0 k (q + 1) (spec_l18Pipe_l0_sh.mk' (((v0, ()), (v1, ()), (v2, ()), ()), (()))) =
  spec_l18Pipe_l0_r p v0 v1 (fun v2 => spec_l18Pipe_it0 p n 0 k q (spec_l18Pipe_l0_sh.mk' (((v0, ()), (v1, ()), (v2, ()), ()), (())))) v2 (fun o0 => k .ret ⟨[(4, .one ⟨false, [.int .i64 o0]⟩)], 0, []⟩) (fun _ => k (.exit 0) ⟨[], 0, []⟩) := by kernel_rfl
theorem spec_l18Pipe_l0_ok {α : Type} (p n : Nat) (k : Ex → St → Option α) (v0 : (Ty.T TNetwork)) (v1 : (Ty.T TValve)) : ∀ (q : Nat) (v2 : Int), spec_l18Pipe_it0 p n 0 k q (spec_l18Pipe_l0_sh.mk' (((v0, ()), (v1, ()), (v2, ()), ()), (()))) =
  spec_l18Pipe_l0_go p v0 v1 q v2 (fun o0 => k .ret ⟨[(4, .one ⟨false, [.int .i64 o0]⟩)], 0, []⟩) (fun _ => k (.exit 0) ⟨[], 0, []⟩) := by
  intro q
  induction q with
  | zero => intros; rfl
  | succ q ih => intro v2; rw [spec_l18Pipe_l0_step]; simp only [ih]; rfl
theorem spec_l18Pipe_ltok_103_ls (p : Nat) : loopsOf (bodyOf Tryz.f103) (spec_l18Pipe_lt p) = [⟨spec_l18Pipe_c0, [0, 1, 5], [4], spec_l18Pipe_lc0 p, .leaf⟩] := by kernel_rfl
theorem spec_l18Pipe_ltok_103_dep (p : Nat) : LT.dep (spec_l18Pipe_lt p) = 0 := by kernel_rfl
theorem spec_l18Pipe_ltok_103 (p : Nat) : LTok Tryz.prog (spec_l18Pipe_G p) 5 103 (spec_l18Pipe_lt p) := by
  intro α n base fn c hd hfn hc
  have hfn' : some fn = some Tryz.f103 := hfn.symm.trans Tryz.func103
  cases hfn'
  have hc' : c = bodyOf Tryz.f103 := by unfold bodyOf; rw [hc]; rfl
  subst hc'
  rw [spec_l18Pipe_ltok_103_dep] at hd
  obtain ⟨n, rfl⟩ := Nat.exists_eq_add_of_le' hd
  apply LTS_of_loops
  rw [spec_l18Pipe_ltok_103_ls]
  intro e he st k r h
  simp only [List.mem_cons, List.not_mem_nil, or_false] at he
  subst he
  · obtain ⟨a, ha, hb, x, rfl, h⟩ := altRun_ok h
    simp only [List.mem_cons, List.not_mem_nil, or_false] at ha
    subst ha
    · cases hb; exact ⟨p, (spec_l18Pipe_l0_ok p n k _ _ p _).trans h⟩
theorem spec_l18Pipe_E (p : Nat) : EnvS Tryz.prog (spec_l18Pipe_G p) := by
  apply glist_env; intro f ce h
  simp only [List.mem_cons, List.not_mem_nil, or_false, Prod.mk.injEq] at h
  
theorem spec_l18Pipe_I (p : Nat) : ∀ f lt, spec_l18Pipe_G p f = some (.inl lt) → LTok Tryz.prog (spec_l18Pipe_G p) 5 f lt := by
  apply glist_inl; intro f lt h
  simp only [List.mem_cons, List.not_mem_nil, or_false, Prod.mk.injEq, CE.inl.injEq, and_false, or_false, false_or, reduceCtorEq] at h
  
noncomputable def spec_l18Pipe_p (p : Nat) (a0 : (Ty.T TNetwork)) (a1 : (Ty.T TValve)) : Option (Int × Unit) :=
  (spec_l18Pipe_l0_go p a0 a1 p (0 : Int) (fun o2 => some (o2, ())) (fun _ => some ((-1 : Int), ())))
theorem spec_l18Pipe_run (p : Nat) (x : (parsT [.ptr TNetwork, .ptr TValve]).T) : acall Tryz.prog (spec_l18Pipe_G p) 5 1 103 (spec_l18Pipe_lt p) (argAVs [.ptr TNetwork, .ptr TValve] x) ⟨[], 0, []⟩ (outR [(.int .i64)]) = spec_l18Pipe_p p x.1 x.2.1 := by kernel_rfl
noncomputable def spec_l18Pipe_c (p : Nat) : PC := PC.fn true [.ptr TNetwork, .ptr TValve] [(.int .i64)] fun x => spec_l18Pipe_p p x.1 x.2.1
theorem spec_l18Pipe_s (p : Nat) : PSound Tryz.prog 103 (spec_l18Pipe_c p) := pure_sound (spec_l18Pipe_E p) Tryz.checked.mixed (spec_l18Pipe_I p) (spec_l18Pipe_ltok_103 p) (fun _ => rfl) fun x y h => (spec_l18Pipe_run p x).trans h
/-! spec.l18Ok -/
noncomputable def spec_l18Ok_l1_r {α : Type} (p : Nat) (v1 : List (Ty.T TValve)) (v2 : Int) (rec : (Int) → Option α) (v3 : Int) (k0 : (Bool) → Option α) (k1 : Unit → Option α) : Option α :=
  (bif (decide (v3 < v2)) then (if 0 ≤ v3 then (v1[v3.toNat]?).bind fun y8 => (if 0 ≤ v2 then (v1[v2.toNat]?).bind fun y9 => (bif (y8.2.1.toList == y9.2.1.toList) then (if 0 ≤ v3 then (v1[v3.toNat]?).bind fun y10 => (if 0 ≤ v2 then (v1[v2.toNat]?).bind fun y11 => (bif (y10.2.2 == y11.2.2) then (k0 false)
 else (rec (IntKind.wrap .i64 (v3 + (1 : Int))))) else none) else none)
 else (rec (IntKind.wrap .i64 (v3 + (1 : Int))))) else none) else none)
 else (k1 ()))
noncomputable def spec_l18Ok_l1_go {α : Type} (p : Nat) (v1 : List (Ty.T TValve)) (v2 : Int) : Nat → (Int) → ((Bool) → Option α) → (Unit → Option α) → Option α
  | 0, _, _, _ => none
  | q + 1, v3, k0, k1 => spec_l18Ok_l1_r p v1 v2 (fun v3 => spec_l18Ok_l1_go p v1 v2 q v3 k0 k1) v3 k0 k1
def spec_l18Ok_l1_sh : Sh := ⟨[⟨0, false, [.ref TNetwork 0]⟩, ⟨1, false, [.sl TValve]⟩, ⟨5, false, [.int .i64]⟩, ⟨6, false, [.int .i64]⟩], 0, []⟩
noncomputable def spec_l18Ok_l0_r {α : Type} (p : Nat) (v0 : (Ty.T TNetwork)) (v1 : List (Ty.T TValve)) (rec : (Int) → Option α) (v2 : Int) (k0 : (Bool) → Option α) (k1 : Unit → Option α) : Option α :=
  (bif (decide (v2 < (v1.length : Int))) then (if 0 ≤ v2 then (v1[v2.toNat]?).bind fun y2 => ((spec_l01Name_p p y2.1).bind fun r3 => (bif (!r3.1) then (k0 false)
 else (if 0 ≤ v2 then (v1[v2.toNat]?).bind fun y4 => ((spec_l18Pipe_p p v0 y4).bind fun r5 => (bif (decide (r5.1 < (0 : Int))) then (k0 false)
 else (bif (decide (v2 > (0 : Int))) then (if 0 ≤ (IntKind.wrap .i64 (v2 - (1 : Int))) then (v1[(IntKind.wrap .i64 (v2 - (1 : Int))).toNat]?).bind fun y6 => (if 0 ≤ v2 then (v1[v2.toNat]?).bind fun y7 => (bif (!(Op.bytesLess y6.1.toList y7.1.toList)) then (k0 false)
 else (spec_l18Ok_l1_go p v1 v2 p (0 : Int) (fun o12 => (k0 o12)) (fun _ => (rec (IntKind.wrap .i64 (v2 + (1 : Int))))))) else none) else none)
 else (spec_l18Ok_l1_go p v1 v2 p (0 : Int) (fun o13 => (k0 o13)) (fun _ => (rec (IntKind.wrap .i64 (v2 + (1 : Int))))))))) else none))) else none)
 else (k1 ()))
noncomputable def spec_l18Ok_l0_go {α : Type} (p : Nat) (v0 : (Ty.T TNetwork)) (v1 : List (Ty.T TValve)) : Nat → (Int) → ((Bool) → Option α) → (Unit → Option α) → Option α
  | 0, _, _, _ => none
  | q + 1, v2, k0, k1 => spec_l18Ok_l0_r p v0 v1 (fun v2 => spec_l18Ok_l0_go p v0 v1 q v2 k0 k1) v2 k0 k1
def spec_l18Ok_l0_sh : Sh := ⟨[⟨0, false, [.ref TNetwork 0]⟩, ⟨1, false, [.sl TValve]⟩, ⟨5, false, [.int .i64]⟩], 0, []⟩
noncomputable def spec_l18Ok_lc0 (p : Nat) : LC := LC.alts 0 [⟨0, spec_l18Ok_l1_sh, fun x {α} k => spec_l18Ok_l1_go p x.1.2.1.1 x.1.2.2.1.1 p x.1.2.2.2.1.1 (fun o2 => k .ret ⟨[(0, .one ⟨false, [.ref TNetwork x.1.1.1 0]⟩), (1, .one ⟨false, [.sl TValve x.1.2.1.1]⟩), (4, .one ⟨false, [.bool o2]⟩), (5, .one ⟨false, [.int .i64 x.1.2.2.1.1]⟩)], 0, []⟩) (fun _ => k (.exit 2) ⟨[(0, .one ⟨false, [.ref TNetwork x.1.1.1 0]⟩), (1, .one ⟨false, [.sl TValve x.1.2.1.1]⟩), (5, .one ⟨false, [.int .i64 x.1.2.2.1.1]⟩)], 0, []⟩)⟩]
noncomputable def spec_l18Ok_lc1 (p : Nat) : LC := LC.alts 0 [⟨0, spec_l18Ok_l0_sh, fun x {α} k => spec_l18Ok_l0_go p x.1.1.1 x.1.2.1.1 p x.1.2.2.1.1 (fun o0 => k .ret ⟨[(4, .one ⟨false, [.bool o0]⟩)], 0, []⟩) (fun _ => k (.exit 0) ⟨[], 0, []⟩)⟩]
noncomputable def spec_l18Ok_lt (p : Nat) : LT := (.node .leaf (.node .leaf (.node (.node .leaf (.loop [0, 1, 5] [4] (some (spec_l18Ok_lc1 p)) (.node .leaf (.node (.node .leaf (.node .leaf (.loop [0, 1, 5, 6] [0, 1, 4, 5] (some (spec_l18Ok_lc0 p)) .leaf))) .leaf)))) .leaf)))
noncomputable def spec_l18Ok_G (p : Nat) : FuncId → Option CE := glist [(101, .pure (spec_l04Ok_c p)), (102, .pure (spec_l01Name_c p)), (103, .pure (spec_l18Pipe_c p))]
noncomputable def spec_l18Ok_c0 : Code := codeAt [1, 1, 0, 1, 0, 0, 1, 0, 0, 1, 1, 0, 0] (bodyOf Tryz.f58)
noncomputable def spec_l18Ok_it0 {α : Type} (p n b : Nat) (k : Ex → St → Option α) (q : Nat) (st : St) : Option α :=
  iter (fun s q => aexec Tryz.prog (spec_l18Ok_G p) (fun g lt args st (k : D → St → Option α) => acall Tryz.prog (spec_l18Ok_G p) 5 (n + 0) g lt args st k) 5 b 83 spec_l18Ok_c0 .leaf s q) (canon b [0, 1, 5, 6]) q st (fun e s => k e (canon b [0, 1, 4, 5] s))
theorem spec_l18Ok_l1_step {α : Type} (p n : Nat) (k : Ex → St → Option α) (v0 : (Ty.T TNetwork)) (v1 : List (Ty.T TValve)) (v2 : Int) (q : Nat) (v3 : Int) : spec_l18Ok_it0 p n 0 k (q + 1) (spec_l18Ok_l1_sh.mk' (((v0, ()), (v1, ()), (v2, ()), (v3, ()), ()), (()))) =
  spec_l18Ok_l1_r p v1 v2 (fun v3 => spec_l18Ok_it0 p n 0 k q (spec_l18Ok_l1_sh.mk' (((v0, ()), (v1, ()), (v2, ()), (v3, ()), ()), (())))) v3 (fun o2 => k .ret ⟨[(0, .one ⟨false, [.ref TNetwork v0 0]⟩), (1, .one ⟨false, [.sl TValve v1]⟩), (4, .one ⟨false, [.bool o2]⟩), (5, .one ⟨false, [.int .i64 v2]⟩)], 0, []⟩) (fun _ => k (.exit 2) ⟨[(0, .one ⟨false, [.ref TNetwork v0 0]⟩), (1, .one ⟨false, [.sl TValve v1]⟩), (5, .one ⟨false, [.int .i64 v2]⟩)], 0, []⟩) := by kernel_rfl
theorem spec_l18Ok_l1_ok {α : Type} (p n : Nat) (k : Ex → St → Option α) (v0 : (Ty.T TNetwork)) (v1 : List (Ty.T TValve)) (v2 : Int) : ∀ (q : Nat) (v3 : Int), spec_l18Ok_it0 p n 0 k q (spec_l18Ok_l1_sh.mk' (((v0, ()), (v1, ()), (v2, ()), (v3, ()), ()), (()))) =
  spec_l18Ok_l1_go p v1 v2 q v3 (fun o2 => k .ret ⟨[(0, .one ⟨false, [.ref TNetwork v0 0]⟩), (1, .one ⟨false, [.sl TValve v1]⟩), (4, .one ⟨false, [.bool o2]⟩), (5, .one ⟨false, [.int .i64 v2]⟩)], 0, []⟩) (fun _ => k (.exit 2) ⟨[(0, .one ⟨false, [.ref TNetwork v0 0]⟩), (1, .one ⟨false, [.sl TValve v1]⟩), (5, .one ⟨false, [.int .i64 v2]⟩)], 0, []⟩) := by
  intro q
  induction q with
  | zero => intros; rfl
  | succ q ih => intro v3; rw [spec_l18Ok_l1_step]; simp only [ih]; rfl
noncomputable def spec_l18Ok_c1 : Code := codeAt [1, 1, 0, 1, 0, 0] (bodyOf Tryz.f58)
noncomputable def spec_l18Ok_it1 {α : Type} (p n b : Nat) (k : Ex → St → Option α) (q : Nat) (st : St) : Option α :=
  iter (fun s q => aexec Tryz.prog (spec_l18Ok_G p) (fun g lt args st (k : D → St → Option α) => acall Tryz.prog (spec_l18Ok_G p) 5 (n + 0) g lt args st k) 5 b 83 spec_l18Ok_c1 (.node .leaf (.node (.node .leaf (.node .leaf (.loop [0, 1, 5, 6] [0, 1, 4, 5] (some (spec_l18Ok_lc0 p)) .leaf))) .leaf)) s q) (canon b [0, 1, 5]) q st (fun e s => k e (canon b [4] s))
theorem spec_l18Ok_l0_step {α : Type} (p n : Nat) (k : Ex → St → Option α) (v0 : (Ty.T TNetwork)) (v1 : List (Ty.T TValve)) (q : Nat) (v2 : Int) : spec_l18Ok_it1 p n 0 k (q + 1) (spec_l18Ok_l0_sh.mk' (((v0, ()), (v1, ()), (v2, ()), ()), (()))) =
  spec_l18Ok_l0_r p v0 v1 (fun v2 => spec_l18Ok_it1 p n 0 k q (spec_l18Ok_l0_sh.mk' (((v0, ()), (v1, ()), (v2, ()), ()), (())))) v2 (fun o0 => k .ret ⟨[(4, .one ⟨false, [.bool o0]⟩)], 0, []⟩) (fun _ => k (.exit 0) ⟨[], 0, []⟩) := by kernel_rfl
theorem spec_l18Ok_l0_ok {α : Type} (p n : Nat) (k : Ex → St → Option α) (v0 : (Ty.T TNetwork)) (v1 : List (Ty.T TValve)) : ∀ (q : Nat) (v2 : Int), spec_l18Ok_it1 p n 0 k q (spec_l18Ok_l0_sh.mk' (((v0, ()), (v1, ()), (v2, ()), ()), (()))) =
  spec_l18Ok_l0_go p v0 v1 q v2 (fun o0 => k .ret ⟨[(4, .one ⟨false, [.bool o0]⟩)], 0, []⟩) (fun _ => k (.exit 0) ⟨[], 0, []⟩) := by
  intro q
  induction q with
  | zero => intros; rfl
  | succ q ih => intro v2; rw [spec_l18Ok_l0_step]; simp only [ih]; rfl
theorem spec_l18Ok_ltok_58_ls (p : Nat) : loopsOf (bodyOf Tryz.f58) (spec_l18Ok_lt p) = [⟨spec_l18Ok_c1, [0, 1, 5], [4], spec_l18Ok_lc1 p, (.node .leaf (.node (.node .leaf (.node .leaf (.loop [0, 1, 5, 6] [0, 1, 4, 5] (some (spec_l18Ok_lc0 p)) .leaf))) .leaf))⟩, ⟨spec_l18Ok_c0, [0, 1, 5, 6], [0, 1, 4, 5], spec_l18Ok_lc0 p, .leaf⟩] := by kernel_rfl
theorem spec_l18Ok_ltok_58_dep (p : Nat) : LT.dep (spec_l18Ok_lt p) = 0 := by kernel_rfl
theorem spec_l18Ok_ltok_58 (p : Nat) : LTok Tryz.prog (spec_l18Ok_G p) 5 58 (spec_l18Ok_lt p) := by
  intro α n base fn c hd hfn hc
  have hfn' : some fn = some Tryz.f58 := hfn.symm.trans Tryz.func58
  cases hfn'
  have hc' : c = bodyOf Tryz.f58 := by unfold bodyOf; rw [hc]; rfl
  subst hc'
  rw [spec_l18Ok_ltok_58_dep] at hd
  obtain ⟨n, rfl⟩ := Nat.exists_eq_add_of_le' hd
  apply LTS_of_loops
  rw [spec_l18Ok_ltok_58_ls]
  intro e he st k r h
  simp only [List.mem_cons, List.not_mem_nil, or_false] at he
  rcases he with rfl | rfl
  · obtain ⟨a, ha, hb, x, rfl, h⟩ := altRun_ok h
    simp only [List.mem_cons, List.not_mem_nil, or_false] at ha
    subst ha
    · cases hb; exact ⟨p, (spec_l18Ok_l0_ok p n k _ _ p _).trans h⟩
  · obtain ⟨a, ha, hb, x, rfl, h⟩ := altRun_ok h
    simp only [List.mem_cons, List.not_mem_nil, or_false] at ha
    subst ha
    · cases hb; exact ⟨p, (spec_l18Ok_l1_ok p n k _ _ _ p _).trans h⟩
theorem spec_l18Ok_E (p : Nat) : EnvS Tryz.prog (spec_l18Ok_G p) := by
  apply glist_env; intro f ce h
  simp only [List.mem_cons, List.not_mem_nil, or_false, Prod.mk.injEq] at h
  rcases h with ⟨rfl, rfl⟩ | ⟨rfl, rfl⟩ | ⟨rfl, rfl⟩
  · exact spec_l04Ok_s p
  · exact spec_l01Name_s p
  · exact spec_l18Pipe_s p
theorem spec_l18Ok_I (p : Nat) : ∀ f lt, spec_l18Ok_G p f = some (.inl lt) → LTok Tryz.prog (spec_l18Ok_G p) 5 f lt := by
  apply glist_inl; intro f lt h
  simp only [List.mem_cons, List.not_mem_nil, or_false, Prod.mk.injEq, CE.inl.injEq, and_false, or_false, false_or, reduceCtorEq] at h
  
noncomputable def spec_l18Ok_p (p : Nat) (a0 : (Ty.T TNetwork)) (a1 : (List (Ty.T TValve))) : Option (Bool × Unit) :=
  ((spec_l04Ok_p p a0).bind fun r1 => (bif (!r1.1) then some (false, ())
 else (bif (decide ((a1.length : Int) > (8 : Int))) then some (false, ())
 else (spec_l18Ok_l0_go p a0 a1 p (0 : Int) (fun o14 => some (o14, ())) (fun _ => some (true, ()))))))
theorem spec_l18Ok_run (p : Nat) (x : (parsT [.ptr TNetwork, .val (.slice TValve)]).T) : acall Tryz.prog (spec_l18Ok_G p) 5 1 58 (spec_l18Ok_lt p) (argAVs [.ptr TNetwork, .val (.slice TValve)] x) ⟨[], 0, []⟩ (outR [.bool]) = spec_l18Ok_p p x.1 x.2.1 := by kernel_rfl
noncomputable def spec_l18Ok_c (p : Nat) : PC := PC.fn true [.ptr TNetwork, .val (.slice TValve)] [.bool] fun x => spec_l18Ok_p p x.1 x.2.1
theorem spec_l18Ok_s (p : Nat) : PSound Tryz.prog 58 (spec_l18Ok_c p) := pure_sound (spec_l18Ok_E p) Tryz.checked.mixed (spec_l18Ok_I p) (spec_l18Ok_ltok_58 p) (fun _ => rfl) fun x y h => (spec_l18Ok_run p x).trans h
/-! spec.l02Flow -/
noncomputable def spec_l02Flow_G (p : Nat) : FuncId → Option CE := glist [(106, .pure (spec_l00In_c p))]
theorem spec_l02Flow_E (p : Nat) : EnvS Tryz.prog (spec_l02Flow_G p) := by
  apply glist_env; intro f ce h
  simp only [List.mem_cons, List.not_mem_nil, or_false, Prod.mk.injEq] at h
  rcases h with ⟨rfl, rfl⟩
  · exact spec_l00In_s p
theorem spec_l02Flow_I (p : Nat) : ∀ f lt, spec_l02Flow_G p f = some (.inl lt) → LTok Tryz.prog (spec_l02Flow_G p) 5 f lt := by
  apply glist_inl; intro f lt h
  simp only [List.mem_cons, List.not_mem_nil, or_false, Prod.mk.injEq, CE.inl.injEq, and_false, or_false, false_or, reduceCtorEq] at h
  
noncomputable def spec_l02Flow_p (p : Nat) (a0 : Int) : Option (Bool × Unit) :=
  ((spec_l00In_p p a0 (0 : Int) (100000 : Int)).bind fun r1 => some (r1.1, ()))
theorem spec_l02Flow_run (p : Nat) (x : (parsT [.val (.int .i64)]).T) : acall Tryz.prog (spec_l02Flow_G p) 5 1 131 .leaf (argAVs [.val (.int .i64)] x) ⟨[], 0, []⟩ (outR [.bool]) = spec_l02Flow_p p x.1 := by kernel_rfl
noncomputable def spec_l02Flow_c (p : Nat) : PC := PC.fn true [.val (.int .i64)] [.bool] fun x => spec_l02Flow_p p x.1
theorem spec_l02Flow_s (p : Nat) : PSound Tryz.prog 131 (spec_l02Flow_c p) := pure_sound (spec_l02Flow_E p) Tryz.checked.mixed (spec_l02Flow_I p) LTok_leaf (fun _ => rfl) fun x y h => (spec_l02Flow_run p x).trans h
/-! spec.l08Ok -/
noncomputable def spec_l08Ok_l0_r {α : Type} (p : Nat) (v0 : (Ty.T TPump)) (rec : (Int) → Option α) (v1 : Int) (k0 : (Bool) → Option α) (k1 : Unit → Option α) : Option α :=
  (bif (decide (v1 < (v0.2.length : Int))) then (if 0 ≤ v1 then (v0.2[v1.toNat]?).bind fun y2 => (bif ((y2.length : Int) != (2 : Int)) then (k0 false)
 else (if 0 ≤ (0 : Int) then (y2[(0 : Int).toNat]?).bind fun y3 => ((spec_l02Flow_p p y3).bind fun r4 => (bif (!r4.1) then (k0 false)
 else (if 0 ≤ (1 : Int) then (y2[(1 : Int).toNat]?).bind fun y5 => ((spec_l00In_p p y5 (0 : Int) (2000000 : Int)).bind fun r6 => (bif (!r6.1) then (k0 false)
 else (bif (v1 == (0 : Int)) then (if 0 ≤ (0 : Int) then (y2[(0 : Int).toNat]?).bind fun y7 => (bif (y7 != (0 : Int)) then (k0 false)
 else (bif (decide (v1 > (0 : Int))) then (if 0 ≤ (IntKind.wrap .i64 (v1 - (1 : Int))) then (v0.2[(IntKind.wrap .i64 (v1 - (1 : Int))).toNat]?).bind fun y8 => (if 0 ≤ (0 : Int) then (y8[(0 : Int).toNat]?).bind fun y9 => (if 0 ≤ (0 : Int) then (y2[(0 : Int).toNat]?).bind fun y10 => (bif (decide (y9 ≥ y10)) then (k0 false)
 else (if 0 ≤ (IntKind.wrap .i64 (v1 - (1 : Int))) then (v0.2[(IntKind.wrap .i64 (v1 - (1 : Int))).toNat]?).bind fun y11 => (if 0 ≤ (1 : Int) then (y11[(1 : Int).toNat]?).bind fun y12 => (if 0 ≤ (1 : Int) then (y2[(1 : Int).toNat]?).bind fun y13 => (bif (decide (y12 < y13)) then (k0 false)
 else (rec (IntKind.wrap .i64 (v1 + (1 : Int))))) else none) else none) else none)) else none) else none) else none)
 else (rec (IntKind.wrap .i64 (v1 + (1 : Int)))))) else none)
 else (bif (decide (v1 > (0 : Int))) then (if 0 ≤ (IntKind.wrap .i64 (v1 - (1 : Int))) then (v0.2[(IntKind.wrap .i64 (v1 - (1 : Int))).toNat]?).bind fun y14 => (if 0 ≤ (0 : Int) then (y14[(0 : Int).toNat]?).bind fun y15 => (if 0 ≤ (0 : Int) then (y2[(0 : Int).toNat]?).bind fun y16 => (bif (decide (y15 ≥ y16)) then (k0 false)
 else (if 0 ≤ (IntKind.wrap .i64 (v1 - (1 : Int))) then (v0.2[(IntKind.wrap .i64 (v1 - (1 : Int))).toNat]?).bind fun y17 => (if 0 ≤ (1 : Int) then (y17[(1 : Int).toNat]?).bind fun y18 => (if 0 ≤ (1 : Int) then (y2[(1 : Int).toNat]?).bind fun y19 => (bif (decide (y18 < y19)) then (k0 false)
 else (rec (IntKind.wrap .i64 (v1 + (1 : Int))))) else none) else none) else none)) else none) else none) else none)
 else (rec (IntKind.wrap .i64 (v1 + (1 : Int)))))))) else none))) else none)) else none)
 else (k1 ()))
noncomputable def spec_l08Ok_l0_go {α : Type} (p : Nat) (v0 : (Ty.T TPump)) : Nat → (Int) → ((Bool) → Option α) → (Unit → Option α) → Option α
  | 0, _, _, _ => none
  | q + 1, v1, k0, k1 => spec_l08Ok_l0_r p v0 (fun v1 => spec_l08Ok_l0_go p v0 q v1 k0 k1) v1 k0 k1
def spec_l08Ok_l0_sh : Sh := ⟨[⟨0, false, [.ref TPump 0]⟩, ⟨3, false, [.int .i64]⟩], 0, []⟩
noncomputable def spec_l08Ok_lc0 (p : Nat) : LC := LC.alts 0 [⟨0, spec_l08Ok_l0_sh, fun x {α} k => spec_l08Ok_l0_go p x.1.1.1 p x.1.2.1.1 (fun o0 => k .ret ⟨[(2, .one ⟨false, [.bool o0]⟩)], 0, []⟩) (fun _ => k (.exit 0) ⟨[], 0, []⟩)⟩]
noncomputable def spec_l08Ok_lt (p : Nat) : LT := (.node .leaf (.node .leaf (.node (.node .leaf (.loop [0, 3] [2] (some (spec_l08Ok_lc0 p)) .leaf)) .leaf)))
noncomputable def spec_l08Ok_G (p : Nat) : FuncId → Option CE := glist [(102, .pure (spec_l01Name_c p)), (106, .pure (spec_l00In_c p)), (131, .pure (spec_l02Flow_c p))]
noncomputable def spec_l08Ok_c0 : Code := codeAt [1, 1, 0, 1, 0, 0] (bodyOf Tryz.f104)
noncomputable def spec_l08Ok_it0 {α : Type} (p n b : Nat) (k : Ex → St → Option α) (q : Nat) (st : St) : Option α :=
  iter (fun s q => aexec Tryz.prog (spec_l08Ok_G p) (fun g lt args st (k : D → St → Option α) => acall Tryz.prog (spec_l08Ok_G p) 5 (n + 0) g lt args st k) 5 b 104 spec_l08Ok_c0 .leaf s q) (canon b [0, 3]) q st (fun e s => k e (canon b [2] s))
theorem spec_l08Ok_l0_step {α : Type} (p n : Nat) (k : Ex → St → Option α) (v0 : (Ty.T TPump)) (q : Nat) (v1 : Int) : spec_l08Ok_it0 p n 0 k (q + 1) (spec_l08Ok_l0_sh.mk' (((v0, ()), (v1, ()), ()), (()))) =
  spec_l08Ok_l0_r p v0 (fun v1 => spec_l08Ok_it0 p n 0 k q (spec_l08Ok_l0_sh.mk' (((v0, ()), (v1, ()), ()), (())))) v1 (fun o0 => k .ret ⟨[(2, .one ⟨false, [.bool o0]⟩)], 0, []⟩) (fun _ => k (.exit 0) ⟨[], 0, []⟩) := by kernel_rfl
theorem spec_l08Ok_l0_ok {α : Type} (p n : Nat) (k : Ex → St → Option α) (v0 : (Ty.T TPump)) : ∀ (q : Nat) (v1 : Int), spec_l08Ok_it0 p n 0 k q (spec_l08Ok_l0_sh.mk' (((v0, ()), (v1, ()), ()), (()))) =
  spec_l08Ok_l0_go p v0 q v1 (fun o0 => k .ret ⟨[(2, .one ⟨false, [.bool o0]⟩)], 0, []⟩) (fun _ => k (.exit 0) ⟨[], 0, []⟩) := by
  intro q
  induction q with
  | zero => intros; rfl
  | succ q ih => intro v1; rw [spec_l08Ok_l0_step]; simp only [ih]; rfl
theorem spec_l08Ok_ltok_104_ls (p : Nat) : loopsOf (bodyOf Tryz.f104) (spec_l08Ok_lt p) = [⟨spec_l08Ok_c0, [0, 3], [2], spec_l08Ok_lc0 p, .leaf⟩] := by kernel_rfl
theorem spec_l08Ok_ltok_104_dep (p : Nat) : LT.dep (spec_l08Ok_lt p) = 0 := by kernel_rfl
theorem spec_l08Ok_ltok_104 (p : Nat) : LTok Tryz.prog (spec_l08Ok_G p) 5 104 (spec_l08Ok_lt p) := by
  intro α n base fn c hd hfn hc
  have hfn' : some fn = some Tryz.f104 := hfn.symm.trans Tryz.func104
  cases hfn'
  have hc' : c = bodyOf Tryz.f104 := by unfold bodyOf; rw [hc]; rfl
  subst hc'
  rw [spec_l08Ok_ltok_104_dep] at hd
  obtain ⟨n, rfl⟩ := Nat.exists_eq_add_of_le' hd
  apply LTS_of_loops
  rw [spec_l08Ok_ltok_104_ls]
  intro e he st k r h
  simp only [List.mem_cons, List.not_mem_nil, or_false] at he
  subst he
  · obtain ⟨a, ha, hb, x, rfl, h⟩ := altRun_ok h
    simp only [List.mem_cons, List.not_mem_nil, or_false] at ha
    subst ha
    · cases hb; exact ⟨p, (spec_l08Ok_l0_ok p n k _ p _).trans h⟩
theorem spec_l08Ok_E (p : Nat) : EnvS Tryz.prog (spec_l08Ok_G p) := by
  apply glist_env; intro f ce h
  simp only [List.mem_cons, List.not_mem_nil, or_false, Prod.mk.injEq] at h
  rcases h with ⟨rfl, rfl⟩ | ⟨rfl, rfl⟩ | ⟨rfl, rfl⟩
  · exact spec_l01Name_s p
  · exact spec_l00In_s p
  · exact spec_l02Flow_s p
theorem spec_l08Ok_I (p : Nat) : ∀ f lt, spec_l08Ok_G p f = some (.inl lt) → LTok Tryz.prog (spec_l08Ok_G p) 5 f lt := by
  apply glist_inl; intro f lt h
  simp only [List.mem_cons, List.not_mem_nil, or_false, Prod.mk.injEq, CE.inl.injEq, and_false, or_false, false_or, reduceCtorEq] at h
  
noncomputable def spec_l08Ok_p (p : Nat) (a0 : (Ty.T TPump)) : Option (Bool × Unit) :=
  ((spec_l01Name_p p a0.1).bind fun r1 => (bif (!r1.1) then some (false, ())
 else (bif (decide ((a0.2.length : Int) < (2 : Int))) then some (false, ())
 else (bif (decide ((a0.2.length : Int) > (8 : Int))) then some (false, ())
 else (spec_l08Ok_l0_go p a0 p (0 : Int) (fun o20 => some (o20, ())) (fun _ => some (true, ())))))))
theorem spec_l08Ok_run (p : Nat) (x : (parsT [.ptr TPump]).T) : acall Tryz.prog (spec_l08Ok_G p) 5 1 104 (spec_l08Ok_lt p) (argAVs [.ptr TPump] x) ⟨[], 0, []⟩ (outR [.bool]) = spec_l08Ok_p p x.1 := by kernel_rfl
noncomputable def spec_l08Ok_c (p : Nat) : PC := PC.fn true [.ptr TPump] [.bool] fun x => spec_l08Ok_p p x.1
theorem spec_l08Ok_s (p : Nat) : PSound Tryz.prog 104 (spec_l08Ok_c p) := pure_sound (spec_l08Ok_E p) Tryz.checked.mixed (spec_l08Ok_I p) (spec_l08Ok_ltok_104 p) (fun _ => rfl) fun x y h => (spec_l08Ok_run p x).trans h
end Go.Proofs.YtgmcefnlcalagaaGreat.W
