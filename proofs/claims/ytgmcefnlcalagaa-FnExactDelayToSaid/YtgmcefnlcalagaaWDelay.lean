/- The walk of functions of the program: typed texts, loops, runs, contracts; printed by walk.py. No condition. -/
import Derived.Test.YtgmcefnlcalagaaAm32
import Derived.Test.YtgmcefnlcalagaaSort
import Derived.Test.YtgmcefnlcalagaaProg
import Derived.Test.YtgmcefnlcalagaaChecked
namespace Go.Proofs.Ytgmcefnlcalagaa.W
open Go Go.RowKit Go.Proofs.Ytgmcefnlcalagaa.AM
set_option maxRecDepth 100000
set_option linter.unusedVariables false
set_option linter.unusedSimpArgs false
abbrev TNetwork : Ty := (.prod (.slice (.int .i64)) (.slice (.prod .str (.prod (.int .i64) (.prod (.int .i64) (.prod (.int .i64) (.prod (.int .i64) (.int .i64))))))))
abbrev Tway : Ty := (.prod (.int .i64) (.prod (.int .i64) (.int .i64)))
abbrev TPipe : Ty := (.prod .str (.prod (.int .i64) (.prod (.int .i64) (.prod (.int .i64) (.prod (.int .i64) (.int .i64))))))
/-! laws.szInt64S -/
noncomputable def laws_szInt64S_G (p : Nat) : FuncId → Option CE := glist []
theorem laws_szInt64S_E (p : Nat) : EnvS Try.prog (laws_szInt64S_G p) := by
  apply glist_env; intro f ce h
  simp only [List.mem_cons, List.not_mem_nil, or_false, Prod.mk.injEq] at h
  
theorem laws_szInt64S_I (p : Nat) : ∀ f lt, laws_szInt64S_G p f = some (.inl lt) → LTok Try.prog (laws_szInt64S_G p) 5 f lt := by
  apply glist_inl; intro f lt h
  simp only [List.mem_cons, List.not_mem_nil, or_false, Prod.mk.injEq, CE.inl.injEq, and_false, or_false, false_or, reduceCtorEq] at h
  
noncomputable def laws_szInt64S_p (p : Nat) (a0 : (List Int)) (a1 : Int) : Option (Int × Unit) :=
  (bif (decide ((IntKind.wrap .i64 (a1 - (a0.length : Int))) < (0 : Int))) then some ((-1 : Int), ())
 else some ((IntKind.wrap .i64 (a1 - (a0.length : Int))), ()))
theorem laws_szInt64S_run (p : Nat) (x : (parsT [.val (.slice (.int .i64)), .val (.int .i64)]).T) : acall Try.prog (laws_szInt64S_G p) 5 1 20 .leaf (argAVs [.val (.slice (.int .i64)), .val (.int .i64)] x) ⟨[], 0, []⟩ (outR [(.int .i64)]) = laws_szInt64S_p p x.1 x.2.1 := by kernel_rfl
noncomputable def laws_szInt64S_c (p : Nat) : PC := PC.fn true [.val (.slice (.int .i64)), .val (.int .i64)] [(.int .i64)] fun x => laws_szInt64S_p p x.1 x.2.1
theorem laws_szInt64S_s (p : Nat) : PSound Try.prog 20 (laws_szInt64S_c p) := pure_sound (laws_szInt64S_E p) Try.checked.mixed (laws_szInt64S_I p) LTok_leaf (fun _ => rfl) fun x y h => (laws_szInt64S_run p x).trans h
/-! laws.szPipe -/
noncomputable def laws_szPipe_G (p : Nat) : FuncId → Option CE := glist []
theorem laws_szPipe_E (p : Nat) : EnvS Try.prog (laws_szPipe_G p) := by
  apply glist_env; intro f ce h
  simp only [List.mem_cons, List.not_mem_nil, or_false, Prod.mk.injEq] at h
  
theorem laws_szPipe_I (p : Nat) : ∀ f lt, laws_szPipe_G p f = some (.inl lt) → LTok Try.prog (laws_szPipe_G p) 5 f lt := by
  apply glist_inl; intro f lt h
  simp only [List.mem_cons, List.not_mem_nil, or_false, Prod.mk.injEq, CE.inl.injEq, and_false, or_false, false_or, reduceCtorEq] at h
  
noncomputable def laws_szPipe_p (p : Nat) (a0 : (Ty.T TPipe)) (a1 : Int) : Option (Int × Unit) :=
  (bif (decide ((IntKind.wrap .i64 (a1 - (a0.1.size : Int))) < (0 : Int))) then some ((-1 : Int), ())
 else some ((IntKind.wrap .i64 (a1 - (a0.1.size : Int))), ()))
theorem laws_szPipe_run (p : Nat) (x : (parsT [.val TPipe, .val (.int .i64)]).T) : acall Try.prog (laws_szPipe_G p) 5 1 56 .leaf (argAVs [.val TPipe, .val (.int .i64)] x) ⟨[], 0, []⟩ (outR [(.int .i64)]) = laws_szPipe_p p x.1 x.2.1 := by kernel_rfl
noncomputable def laws_szPipe_c (p : Nat) : PC := PC.fn true [.val TPipe, .val (.int .i64)] [(.int .i64)] fun x => laws_szPipe_p p x.1 x.2.1
theorem laws_szPipe_s (p : Nat) : PSound Try.prog 56 (laws_szPipe_c p) := pure_sound (laws_szPipe_E p) Try.checked.mixed (laws_szPipe_I p) LTok_leaf (fun _ => rfl) fun x y h => (laws_szPipe_run p x).trans h
/-! laws.szPipeS -/
noncomputable def laws_szPipeS_l0_r {α : Type} (p : Nat) (v0 : List (Ty.T TPipe)) (rec : (Int) → (Int) → Option α) (v1 : Int) (v2 : Int) (k0 : (Int) → (Int) → Option α) (k1 : (Int) → Option α) : Option α :=
  (bif (decide (v2 < (v0.length : Int))) then (if 0 ≤ v2 then (v0[v2.toNat]?).bind fun y1 => ((laws_szPipe_p p y1 v1).bind fun r2 => (bif (decide (r2.1 < (0 : Int))) then (k0 r2.1 (-1 : Int))
 else (rec r2.1 (IntKind.wrap .i64 (v2 + (1 : Int)))))) else none)
 else (k1 v1))
noncomputable def laws_szPipeS_l0_go {α : Type} (p : Nat) (v0 : List (Ty.T TPipe)) : Nat → (Int) → (Int) → ((Int) → (Int) → Option α) → ((Int) → Option α) → Option α
  | 0, _, _, _, _ => none
  | q + 1, v1, v2, k0, k1 => laws_szPipeS_l0_r p v0 (fun v1 v2 => laws_szPipeS_l0_go p v0 q v1 v2 k0 k1) v1 v2 k0 k1
def laws_szPipeS_l0_sh : Sh := ⟨[⟨0, false, [.sl TPipe]⟩, ⟨1, false, [.int .i64]⟩, ⟨5, false, [.int .i64]⟩], 0, []⟩
noncomputable def laws_szPipeS_lc0 (p : Nat) : LC := LC.alts 0 [⟨0, laws_szPipeS_l0_sh, fun x {α} k => laws_szPipeS_l0_go p x.1.1.1 p x.1.2.1.1 x.1.2.2.1.1 (fun o0 o1 => k .ret ⟨[(1, .one ⟨false, [.int .i64 o0]⟩), (4, .one ⟨false, [.int .i64 o1]⟩)], 0, []⟩) (fun o0 => k (.exit 0) ⟨[(1, .one ⟨false, [.int .i64 o0]⟩)], 0, []⟩)⟩]
noncomputable def laws_szPipeS_lt (p : Nat) : LT := (.node .leaf (.node .leaf (.node .leaf (.node (.node .leaf (.loop [0, 1, 5] [1, 4] (some (laws_szPipeS_lc0 p)) .leaf)) .leaf))))
noncomputable def laws_szPipeS_G (p : Nat) : FuncId → Option CE := glist [(56, .pure (laws_szPipe_c p))]
noncomputable def laws_szPipeS_c0 : Code := codeAt [1, 1, 1, 0, 1, 0, 0] (bodyOf Try.f21)
noncomputable def laws_szPipeS_it0 {α : Type} (p n b : Nat) (k : Ex → St → Option α) (q : Nat) (st : St) : Option α :=
  iter (fun s q => aexec Try.prog (laws_szPipeS_G p) (fun g lt args st (k : D → St → Option α) => acall Try.prog (laws_szPipeS_G p) 5 (n + 0) g lt args st k) 5 b 27 laws_szPipeS_c0 .leaf s q) (canon b [0, 1, 5]) q st (fun e s => k e (canon b [1, 4] s))
theorem laws_szPipeS_l0_step {α : Type} (p n : Nat) (k : Ex → St → Option α) (v0 : List (Ty.T TPipe)) (q : Nat) (v1 : Int) (v2 : Int) : laws_szPipeS_it0 p n 0 k (q + 1) (laws_szPipeS_l0_sh.mk' (((v0, ()), (v1, ()), (v2, ()), ()), (()))) =
  laws_szPipeS_l0_r p v0 (fun v1 v2 => laws_szPipeS_it0 p n 0 k q (laws_szPipeS_l0_sh.mk' (((v0, ()), (v1, ()), (v2, ()), ()), (())))) v1 v2 (fun o0 o1 => k .ret ⟨[(1, .one ⟨false, [.int .i64 o0]⟩), (4, .one ⟨false, [.int .i64 o1]⟩)], 0, []⟩) (fun o0 => k (.exit 0) ⟨[(1, .one ⟨false, [.int .i64 o0]⟩)], 0, []⟩) := by kernel_rfl
theorem laws_szPipeS_l0_ok {α : Type} (p n : Nat) (k : Ex → St → Option α) (v0 : List (Ty.T TPipe)) : ∀ (q : Nat) (v1 : Int) (v2 : Int), laws_szPipeS_it0 p n 0 k q (laws_szPipeS_l0_sh.mk' (((v0, ()), (v1, ()), (v2, ()), ()), (()))) =
  laws_szPipeS_l0_go p v0 q v1 v2 (fun o0 o1 => k .ret ⟨[(1, .one ⟨false, [.int .i64 o0]⟩), (4, .one ⟨false, [.int .i64 o1]⟩)], 0, []⟩) (fun o0 => k (.exit 0) ⟨[(1, .one ⟨false, [.int .i64 o0]⟩)], 0, []⟩) := by
  intro q
  induction q with
  | zero => intros; rfl
  | succ q ih => intro v1 v2; rw [laws_szPipeS_l0_step]; simp only [ih]; rfl
theorem laws_szPipeS_ltok_21_ls (p : Nat) : loopsOf (bodyOf Try.f21) (laws_szPipeS_lt p) = [⟨laws_szPipeS_c0, [0, 1, 5], [1, 4], laws_szPipeS_lc0 p, .leaf⟩] := by kernel_rfl
theorem laws_szPipeS_ltok_21_dep (p : Nat) : LT.dep (laws_szPipeS_lt p) = 0 := by kernel_rfl
theorem laws_szPipeS_ltok_21 (p : Nat) : LTok Try.prog (laws_szPipeS_G p) 5 21 (laws_szPipeS_lt p) := by
  intro α n base fn c hd hfn hc
  have hfn' : some fn = some Try.f21 := hfn.symm.trans Try.func21
  cases hfn'
  have hc' : c = bodyOf Try.f21 := by unfold bodyOf; rw [hc]; rfl
  subst hc'
  rw [laws_szPipeS_ltok_21_dep] at hd
  obtain ⟨n, rfl⟩ := Nat.exists_eq_add_of_le' hd
  apply LTS_of_loops
  rw [laws_szPipeS_ltok_21_ls]
  intro e he st k r h
  simp only [List.mem_cons, List.not_mem_nil, or_false] at he
  subst he
  · obtain ⟨a, ha, hb, x, rfl, h⟩ := altRun_ok h
    simp only [List.mem_cons, List.not_mem_nil, or_false] at ha
    subst ha
    · cases hb; exact ⟨p, (laws_szPipeS_l0_ok p n k _ p _ _).trans h⟩
theorem laws_szPipeS_E (p : Nat) : EnvS Try.prog (laws_szPipeS_G p) := by
  apply glist_env; intro f ce h
  simp only [List.mem_cons, List.not_mem_nil, or_false, Prod.mk.injEq] at h
  rcases h with ⟨rfl, rfl⟩
  · exact laws_szPipe_s p
theorem laws_szPipeS_I (p : Nat) : ∀ f lt, laws_szPipeS_G p f = some (.inl lt) → LTok Try.prog (laws_szPipeS_G p) 5 f lt := by
  apply glist_inl; intro f lt h
  simp only [List.mem_cons, List.not_mem_nil, or_false, Prod.mk.injEq, CE.inl.injEq, and_false, or_false, false_or, reduceCtorEq] at h
  
noncomputable def laws_szPipeS_p (p : Nat) (a0 : (List (Ty.T TPipe))) (a1 : Int) : Option (Int × Unit) :=
  (bif (decide ((IntKind.wrap .i64 (a1 - (a0.length : Int))) < (0 : Int))) then some ((-1 : Int), ())
 else (laws_szPipeS_l0_go p a0 p (IntKind.wrap .i64 (a1 - (a0.length : Int))) (0 : Int) (fun o3 o4 => some (o4, ())) (fun o5 => some (o5, ()))))
theorem laws_szPipeS_run (p : Nat) (x : (parsT [.val (.slice TPipe), .val (.int .i64)]).T) : acall Try.prog (laws_szPipeS_G p) 5 1 21 (laws_szPipeS_lt p) (argAVs [.val (.slice TPipe), .val (.int .i64)] x) ⟨[], 0, []⟩ (outR [(.int .i64)]) = laws_szPipeS_p p x.1 x.2.1 := by kernel_rfl
noncomputable def laws_szPipeS_c (p : Nat) : PC := PC.fn true [.val (.slice TPipe), .val (.int .i64)] [(.int .i64)] fun x => laws_szPipeS_p p x.1 x.2.1
theorem laws_szPipeS_s (p : Nat) : PSound Try.prog 21 (laws_szPipeS_c p) := pure_sound (laws_szPipeS_E p) Try.checked.mixed (laws_szPipeS_I p) (laws_szPipeS_ltok_21 p) (fun _ => rfl) fun x y h => (laws_szPipeS_run p x).trans h
/-! laws.szNetwork -/
noncomputable def laws_szNetwork_G (p : Nat) : FuncId → Option CE := glist [(20, .pure (laws_szInt64S_c p)), (21, .pure (laws_szPipeS_c p))]
theorem laws_szNetwork_E (p : Nat) : EnvS Try.prog (laws_szNetwork_G p) := by
  apply glist_env; intro f ce h
  simp only [List.mem_cons, List.not_mem_nil, or_false, Prod.mk.injEq] at h
  rcases h with ⟨rfl, rfl⟩ | ⟨rfl, rfl⟩
  · exact laws_szInt64S_s p
  · exact laws_szPipeS_s p
theorem laws_szNetwork_I (p : Nat) : ∀ f lt, laws_szNetwork_G p f = some (.inl lt) → LTok Try.prog (laws_szNetwork_G p) 5 f lt := by
  apply glist_inl; intro f lt h
  simp only [List.mem_cons, List.not_mem_nil, or_false, Prod.mk.injEq, CE.inl.injEq, and_false, or_false, false_or, reduceCtorEq] at h
  
noncomputable def laws_szNetwork_p (p : Nat) (a0 : (Ty.T TNetwork)) (a1 : Int) : Option (Int × Unit) :=
  ((laws_szInt64S_p p a0.1 a1).bind fun r1 => (bif (decide (r1.1 < (0 : Int))) then some ((-1 : Int), ())
 else ((laws_szPipeS_p p a0.2 r1.1).bind fun r2 => (bif (decide (r2.1 < (0 : Int))) then some ((-1 : Int), ())
 else some (r2.1, ())))))
theorem laws_szNetwork_run (p : Nat) (x : (parsT [.val TNetwork, .val (.int .i64)]).T) : acall Try.prog (laws_szNetwork_G p) 5 1 6 .leaf (argAVs [.val TNetwork, .val (.int .i64)] x) ⟨[], 0, []⟩ (outR [(.int .i64)]) = laws_szNetwork_p p x.1 x.2.1 := by kernel_rfl
noncomputable def laws_szNetwork_c (p : Nat) : PC := PC.fn true [.val TNetwork, .val (.int .i64)] [(.int .i64)] fun x => laws_szNetwork_p p x.1 x.2.1
theorem laws_szNetwork_s (p : Nat) : PSound Try.prog 6 (laws_szNetwork_c p) := pure_sound (laws_szNetwork_E p) Try.checked.mixed (laws_szNetwork_I p) LTok_leaf (fun _ => rfl) fun x y h => (laws_szNetwork_run p x).trans h
/-! laws.toInt64S -/
noncomputable def laws_toInt64S_l0_r {α : Type} (p : Nat) (v0 : List Int) (rec : (Int) → (List Int) → Option α) (v1 : Int) (v2 : List Int) (k0 : (List Int) → Option α) : Option α :=
  (bif (decide (v1 < (v0.length : Int))) then (if 0 ≤ v1 then (v0[v1.toNat]?).bind fun y1 => (if 0 ≤ v1 ∧ v1 < (v2.length : Int) then (rec (IntKind.wrap .i64 (v1 + (1 : Int))) (v2.set v1.toNat y1)) else none) else none)
 else (k0 v2))
noncomputable def laws_toInt64S_l0_go {α : Type} (p : Nat) (v0 : List Int) : Nat → (Int) → (List Int) → ((List Int) → Option α) → Option α
  | 0, _, _, _ => none
  | q + 1, v1, v2, k0 => laws_toInt64S_l0_r p v0 (fun v1 v2 => laws_toInt64S_l0_go p v0 q v1 v2 k0) v1 v2 k0
def laws_toInt64S_l0_sh : Sh := ⟨[⟨0, false, [.sl (.int .i64)]⟩, ⟨3, false, [.lit (.own 0 0)]⟩, ⟨4, false, [.int .i64]⟩], 1, [(0, .arr 0 (.int .i64))]⟩
noncomputable def laws_toInt64S_lc0 (p : Nat) : LC := LC.alts 0 [⟨0, laws_toInt64S_l0_sh, fun x {α} k => laws_toInt64S_l0_go p x.1.1.1 p x.1.2.2.1.1 x.2.1 (fun o0 => k (.exit 0) ⟨[(3, .one ⟨false, [.own 0 0]⟩)], 1, [(0, .arr 0 (.int .i64) o0)]⟩)⟩]
noncomputable def laws_toInt64S_lt (p : Nat) : LT := (.node .leaf (.node .leaf (.node (.node .leaf (.loop [0, 3, 4] [3] (some (laws_toInt64S_lc0 p)) .leaf)) .leaf)))
noncomputable def laws_toInt64S_G (p : Nat) : FuncId → Option CE := glist []
noncomputable def laws_toInt64S_c0 : Code := codeAt [1, 1, 0, 1, 0, 0] (bodyOf Try.f9)
noncomputable def laws_toInt64S_it0 {α : Type} (p n b : Nat) (k : Ex → St → Option α) (q : Nat) (st : St) : Option α :=
  iter (fun s q => aexec Try.prog (laws_toInt64S_G p) (fun g lt args st (k : D → St → Option α) => acall Try.prog (laws_toInt64S_G p) 5 (n + 0) g lt args st k) 5 b 22 laws_toInt64S_c0 .leaf s q) (canon b [0, 3, 4]) q st (fun e s => k e (canon b [3] s))
theorem laws_toInt64S_l0_step {α : Type} (p n : Nat) (k : Ex → St → Option α) (v0 : List Int) (q : Nat) (v1 : Int) (v2 : List Int) : laws_toInt64S_it0 p n 0 k (q + 1) (laws_toInt64S_l0_sh.mk' (((v0, ()), ((), ()), (v1, ()), ()), (v2, ()))) =
  laws_toInt64S_l0_r p v0 (fun v1 v2 => laws_toInt64S_it0 p n 0 k q (laws_toInt64S_l0_sh.mk' (((v0, ()), ((), ()), (v1, ()), ()), (v2, ())))) v1 v2 (fun o0 => k (.exit 0) ⟨[(3, .one ⟨false, [.own 0 0]⟩)], 1, [(0, .arr 0 (.int .i64) o0)]⟩) := by kernel_rfl
theorem laws_toInt64S_l0_ok {α : Type} (p n : Nat) (k : Ex → St → Option α) (v0 : List Int) : ∀ (q : Nat) (v1 : Int) (v2 : List Int), laws_toInt64S_it0 p n 0 k q (laws_toInt64S_l0_sh.mk' (((v0, ()), ((), ()), (v1, ()), ()), (v2, ()))) =
  laws_toInt64S_l0_go p v0 q v1 v2 (fun o0 => k (.exit 0) ⟨[(3, .one ⟨false, [.own 0 0]⟩)], 1, [(0, .arr 0 (.int .i64) o0)]⟩) := by
  intro q
  induction q with
  | zero => intros; rfl
  | succ q ih => intro v1 v2; rw [laws_toInt64S_l0_step]; simp only [ih]; rfl
theorem laws_toInt64S_ltok_9_ls (p : Nat) : loopsOf (bodyOf Try.f9) (laws_toInt64S_lt p) = [⟨laws_toInt64S_c0, [0, 3, 4], [3], laws_toInt64S_lc0 p, .leaf⟩] := by kernel_rfl
theorem laws_toInt64S_ltok_9_dep (p : Nat) : LT.dep (laws_toInt64S_lt p) = 0 := by kernel_rfl
theorem laws_toInt64S_ltok_9 (p : Nat) : LTok Try.prog (laws_toInt64S_G p) 5 9 (laws_toInt64S_lt p) := by
  intro α n base fn c hd hfn hc
  have hfn' : some fn = some Try.f9 := hfn.symm.trans Try.func9
  cases hfn'
  have hc' : c = bodyOf Try.f9 := by unfold bodyOf; rw [hc]; rfl
  subst hc'
  rw [laws_toInt64S_ltok_9_dep] at hd
  obtain ⟨n, rfl⟩ := Nat.exists_eq_add_of_le' hd
  apply LTS_of_loops
  rw [laws_toInt64S_ltok_9_ls]
  intro e he st k r h
  simp only [List.mem_cons, List.not_mem_nil, or_false] at he
  subst he
  · obtain ⟨a, ha, hb, x, rfl, h⟩ := altRun_ok h
    simp only [List.mem_cons, List.not_mem_nil, or_false] at ha
    subst ha
    · cases hb; exact ⟨p, (laws_toInt64S_l0_ok p n k _ p _ _).trans h⟩
theorem laws_toInt64S_E (p : Nat) : EnvS Try.prog (laws_toInt64S_G p) := by
  apply glist_env; intro f ce h
  simp only [List.mem_cons, List.not_mem_nil, or_false, Prod.mk.injEq] at h
  
theorem laws_toInt64S_I (p : Nat) : ∀ f lt, laws_toInt64S_G p f = some (.inl lt) → LTok Try.prog (laws_toInt64S_G p) 5 f lt := by
  apply glist_inl; intro f lt h
  simp only [List.mem_cons, List.not_mem_nil, or_false, Prod.mk.injEq, CE.inl.injEq, and_false, or_false, false_or, reduceCtorEq] at h
  
noncomputable def laws_toInt64S_p (p : Nat) (a0 : (List Int)) : Option ((List Int) × Unit) :=
  (if 0 ≤ (a0.length : Int) ∧ (a0.length : Int) ≤ (a0.length : Int) ∧ (a0.length : Int) * (8 : Int) ≤ 140737488355328 ∧ (a0.length : Int) ≤ 140737488355328 then (laws_toInt64S_l0_go p a0 p (0 : Int) (List.replicate (a0.length : Int).toNat (Ty.zero (.int .i64))) (fun o2 => some (o2, ()))) else none)
theorem laws_toInt64S_run (p : Nat) (x : (parsT [.val (.slice (.int .i64))]).T) : acall Try.prog (laws_toInt64S_G p) 5 1 9 (laws_toInt64S_lt p) (argAVs [.val (.slice (.int .i64))] x) ⟨[], 0, []⟩ (outO [(.slice (.int .i64))]) = laws_toInt64S_p p x.1 := by kernel_rfl
noncomputable def laws_toInt64S_c (p : Nat) : PC := PC.fnO true [.val (.slice (.int .i64))] [(.slice (.int .i64))] fun x => laws_toInt64S_p p x.1
theorem laws_toInt64S_s (p : Nat) : PSound Try.prog 9 (laws_toInt64S_c p) := own_sound (laws_toInt64S_E p) Try.checked.mixed (laws_toInt64S_I p) (laws_toInt64S_ltok_9 p) (fun _ => rfl) fun x y h => (laws_toInt64S_run p x).trans h
/-! laws.toPipe -/
noncomputable def laws_toPipe_G (p : Nat) : FuncId → Option CE := glist []
theorem laws_toPipe_E (p : Nat) : EnvS Try.prog (laws_toPipe_G p) := by
  apply glist_env; intro f ce h
  simp only [List.mem_cons, List.not_mem_nil, or_false, Prod.mk.injEq] at h
  
theorem laws_toPipe_I (p : Nat) : ∀ f lt, laws_toPipe_G p f = some (.inl lt) → LTok Try.prog (laws_toPipe_G p) 5 f lt := by
  apply glist_inl; intro f lt h
  simp only [List.mem_cons, List.not_mem_nil, or_false, Prod.mk.injEq, CE.inl.injEq, and_false, or_false, false_or, reduceCtorEq] at h
  
noncomputable def laws_toPipe_p (p : Nat) (a0 : (Ty.T TPipe)) : Option ((Ty.T TPipe) × Unit) :=
  some (a0, ())
theorem laws_toPipe_run (p : Nat) (x : (parsT [.val TPipe]).T) : acall Try.prog (laws_toPipe_G p) 5 1 62 .leaf (argAVs [.val TPipe] x) ⟨[], 0, []⟩ (outR [TPipe]) = laws_toPipe_p p x.1 := by kernel_rfl
noncomputable def laws_toPipe_c (p : Nat) : PC := PC.fn true [.val TPipe] [TPipe] fun x => laws_toPipe_p p x.1
theorem laws_toPipe_s (p : Nat) : PSound Try.prog 62 (laws_toPipe_c p) := pure_sound (laws_toPipe_E p) Try.checked.mixed (laws_toPipe_I p) LTok_leaf (fun _ => rfl) fun x y h => (laws_toPipe_run p x).trans h
/-! laws.toPipeS -/
noncomputable def laws_toPipeS_l0_r {α : Type} (p : Nat) (v0 : List (Ty.T TPipe)) (rec : (Int) → (List (Ty.T TPipe)) → Option α) (v1 : Int) (v2 : List (Ty.T TPipe)) (k0 : (List (Ty.T TPipe)) → Option α) : Option α :=
  (bif (decide (v1 < (v0.length : Int))) then (if 0 ≤ v1 then (v0[v1.toNat]?).bind fun y1 => ((laws_toPipe_p p y1).bind fun r2 => (if 0 ≤ v1 ∧ v1 < (v2.length : Int) then (rec (IntKind.wrap .i64 (v1 + (1 : Int))) (v2.set v1.toNat r2.1)) else none)) else none)
 else (k0 v2))
noncomputable def laws_toPipeS_l0_go {α : Type} (p : Nat) (v0 : List (Ty.T TPipe)) : Nat → (Int) → (List (Ty.T TPipe)) → ((List (Ty.T TPipe)) → Option α) → Option α
  | 0, _, _, _ => none
  | q + 1, v1, v2, k0 => laws_toPipeS_l0_r p v0 (fun v1 v2 => laws_toPipeS_l0_go p v0 q v1 v2 k0) v1 v2 k0
def laws_toPipeS_l0_sh : Sh := ⟨[⟨0, false, [.sl TPipe]⟩, ⟨3, false, [.lit (.own 0 0)]⟩, ⟨4, false, [.int .i64]⟩], 1, [(0, .arr 0 TPipe)]⟩
noncomputable def laws_toPipeS_lc0 (p : Nat) : LC := LC.alts 0 [⟨0, laws_toPipeS_l0_sh, fun x {α} k => laws_toPipeS_l0_go p x.1.1.1 p x.1.2.2.1.1 x.2.1 (fun o0 => k (.exit 0) ⟨[(3, .one ⟨false, [.own 0 0]⟩)], 1, [(0, .arr 0 TPipe o0)]⟩)⟩]
noncomputable def laws_toPipeS_lt (p : Nat) : LT := (.node .leaf (.node .leaf (.node (.node .leaf (.loop [0, 3, 4] [3] (some (laws_toPipeS_lc0 p)) .leaf)) .leaf)))
noncomputable def laws_toPipeS_G (p : Nat) : FuncId → Option CE := glist [(62, .pure (laws_toPipe_c p))]
noncomputable def laws_toPipeS_c0 : Code := codeAt [1, 1, 0, 1, 0, 0] (bodyOf Try.f30)
noncomputable def laws_toPipeS_it0 {α : Type} (p n b : Nat) (k : Ex → St → Option α) (q : Nat) (st : St) : Option α :=
  iter (fun s q => aexec Try.prog (laws_toPipeS_G p) (fun g lt args st (k : D → St → Option α) => acall Try.prog (laws_toPipeS_G p) 5 (n + 0) g lt args st k) 5 b 23 laws_toPipeS_c0 .leaf s q) (canon b [0, 3, 4]) q st (fun e s => k e (canon b [3] s))
theorem laws_toPipeS_l0_step {α : Type} (p n : Nat) (k : Ex → St → Option α) (v0 : List (Ty.T TPipe)) (q : Nat) (v1 : Int) (v2 : List (Ty.T TPipe)) : laws_toPipeS_it0 p n 0 k (q + 1) (laws_toPipeS_l0_sh.mk' (((v0, ()), ((), ()), (v1, ()), ()), (v2, ()))) =
  laws_toPipeS_l0_r p v0 (fun v1 v2 => laws_toPipeS_it0 p n 0 k q (laws_toPipeS_l0_sh.mk' (((v0, ()), ((), ()), (v1, ()), ()), (v2, ())))) v1 v2 (fun o0 => k (.exit 0) ⟨[(3, .one ⟨false, [.own 0 0]⟩)], 1, [(0, .arr 0 TPipe o0)]⟩) := by kernel_rfl
theorem laws_toPipeS_l0_ok {α : Type} (p n : Nat) (k : Ex → St → Option α) (v0 : List (Ty.T TPipe)) : ∀ (q : Nat) (v1 : Int) (v2 : List (Ty.T TPipe)), laws_toPipeS_it0 p n 0 k q (laws_toPipeS_l0_sh.mk' (((v0, ()), ((), ()), (v1, ()), ()), (v2, ()))) =
  laws_toPipeS_l0_go p v0 q v1 v2 (fun o0 => k (.exit 0) ⟨[(3, .one ⟨false, [.own 0 0]⟩)], 1, [(0, .arr 0 TPipe o0)]⟩) := by
  intro q
  induction q with
  | zero => intros; rfl
  | succ q ih => intro v1 v2; rw [laws_toPipeS_l0_step]; simp only [ih]; rfl
theorem laws_toPipeS_ltok_30_ls (p : Nat) : loopsOf (bodyOf Try.f30) (laws_toPipeS_lt p) = [⟨laws_toPipeS_c0, [0, 3, 4], [3], laws_toPipeS_lc0 p, .leaf⟩] := by kernel_rfl
theorem laws_toPipeS_ltok_30_dep (p : Nat) : LT.dep (laws_toPipeS_lt p) = 0 := by kernel_rfl
theorem laws_toPipeS_ltok_30 (p : Nat) : LTok Try.prog (laws_toPipeS_G p) 5 30 (laws_toPipeS_lt p) := by
  intro α n base fn c hd hfn hc
  have hfn' : some fn = some Try.f30 := hfn.symm.trans Try.func30
  cases hfn'
  have hc' : c = bodyOf Try.f30 := by unfold bodyOf; rw [hc]; rfl
  subst hc'
  rw [laws_toPipeS_ltok_30_dep] at hd
  obtain ⟨n, rfl⟩ := Nat.exists_eq_add_of_le' hd
  apply LTS_of_loops
  rw [laws_toPipeS_ltok_30_ls]
  intro e he st k r h
  simp only [List.mem_cons, List.not_mem_nil, or_false] at he
  subst he
  · obtain ⟨a, ha, hb, x, rfl, h⟩ := altRun_ok h
    simp only [List.mem_cons, List.not_mem_nil, or_false] at ha
    subst ha
    · cases hb; exact ⟨p, (laws_toPipeS_l0_ok p n k _ p _ _).trans h⟩
theorem laws_toPipeS_E (p : Nat) : EnvS Try.prog (laws_toPipeS_G p) := by
  apply glist_env; intro f ce h
  simp only [List.mem_cons, List.not_mem_nil, or_false, Prod.mk.injEq] at h
  rcases h with ⟨rfl, rfl⟩
  · exact laws_toPipe_s p
theorem laws_toPipeS_I (p : Nat) : ∀ f lt, laws_toPipeS_G p f = some (.inl lt) → LTok Try.prog (laws_toPipeS_G p) 5 f lt := by
  apply glist_inl; intro f lt h
  simp only [List.mem_cons, List.not_mem_nil, or_false, Prod.mk.injEq, CE.inl.injEq, and_false, or_false, false_or, reduceCtorEq] at h
  
noncomputable def laws_toPipeS_p (p : Nat) (a0 : (List (Ty.T TPipe))) : Option ((List (Ty.T TPipe)) × Unit) :=
  (if 0 ≤ (a0.length : Int) ∧ (a0.length : Int) ≤ (a0.length : Int) ∧ (a0.length : Int) * (56 : Int) ≤ 140737488355328 ∧ (a0.length : Int) ≤ 140737488355328 then (laws_toPipeS_l0_go p a0 p (0 : Int) (List.replicate (a0.length : Int).toNat (Ty.zero TPipe)) (fun o3 => some (o3, ()))) else none)
theorem laws_toPipeS_run (p : Nat) (x : (parsT [.val (.slice TPipe)]).T) : acall Try.prog (laws_toPipeS_G p) 5 1 30 (laws_toPipeS_lt p) (argAVs [.val (.slice TPipe)] x) ⟨[], 0, []⟩ (outO [(.slice TPipe)]) = laws_toPipeS_p p x.1 := by kernel_rfl
noncomputable def laws_toPipeS_c (p : Nat) : PC := PC.fnO true [.val (.slice TPipe)] [(.slice TPipe)] fun x => laws_toPipeS_p p x.1
theorem laws_toPipeS_s (p : Nat) : PSound Try.prog 30 (laws_toPipeS_c p) := own_sound (laws_toPipeS_E p) Try.checked.mixed (laws_toPipeS_I p) (laws_toPipeS_ltok_30 p) (fun _ => rfl) fun x y h => (laws_toPipeS_run p x).trans h
/-! laws.toNetwork -/
noncomputable def laws_toNetwork_G (p : Nat) : FuncId → Option CE := glist [(9, .pure (laws_toInt64S_c p)), (30, .pure (laws_toPipeS_c p))]
theorem laws_toNetwork_E (p : Nat) : EnvS Try.prog (laws_toNetwork_G p) := by
  apply glist_env; intro f ce h
  simp only [List.mem_cons, List.not_mem_nil, or_false, Prod.mk.injEq] at h
  rcases h with ⟨rfl, rfl⟩ | ⟨rfl, rfl⟩
  · exact laws_toInt64S_s p
  · exact laws_toPipeS_s p
theorem laws_toNetwork_I (p : Nat) : ∀ f lt, laws_toNetwork_G p f = some (.inl lt) → LTok Try.prog (laws_toNetwork_G p) 5 f lt := by
  apply glist_inl; intro f lt h
  simp only [List.mem_cons, List.not_mem_nil, or_false, Prod.mk.injEq, CE.inl.injEq, and_false, or_false, false_or, reduceCtorEq] at h
  
noncomputable def laws_toNetwork_p (p : Nat) (a0 : (Ty.T TNetwork)) : Option ((Ty.T TNetwork) × Unit) :=
  ((laws_toInt64S_p p a0.1).bind fun r1 => ((laws_toPipeS_p p a0.2).bind fun r2 => some ((r1.1, r2.1), ())))
theorem laws_toNetwork_run (p : Nat) (x : (parsT [.val TNetwork]).T) : acall Try.prog (laws_toNetwork_G p) 5 1 8 .leaf (argAVs [.val TNetwork] x) ⟨[], 0, []⟩ (outO [TNetwork]) = laws_toNetwork_p p x.1 := by kernel_rfl
noncomputable def laws_toNetwork_c (p : Nat) : PC := PC.fnO true [.val TNetwork] [TNetwork] fun x => laws_toNetwork_p p x.1
theorem laws_toNetwork_s (p : Nat) : PSound Try.prog 8 (laws_toNetwork_c p) := own_sound (laws_toNetwork_E p) Try.checked.mixed (laws_toNetwork_I p) LTok_leaf (fun _ => rfl) fun x y h => (laws_toNetwork_run p x).trans h
/-! spec.l00In -/
noncomputable def spec_l00In_G (p : Nat) : FuncId → Option CE := glist []
theorem spec_l00In_E (p : Nat) : EnvS Try.prog (spec_l00In_G p) := by
  apply glist_env; intro f ce h
  simp only [List.mem_cons, List.not_mem_nil, or_false, Prod.mk.injEq] at h
  
theorem spec_l00In_I (p : Nat) : ∀ f lt, spec_l00In_G p f = some (.inl lt) → LTok Try.prog (spec_l00In_G p) 5 f lt := by
  apply glist_inl; intro f lt h
  simp only [List.mem_cons, List.not_mem_nil, or_false, Prod.mk.injEq, CE.inl.injEq, and_false, or_false, false_or, reduceCtorEq] at h
  
noncomputable def spec_l00In_p (p : Nat) (a0 : Int) (a1 : Int) (a2 : Int) : Option (Bool × Unit) :=
  (bif (decide (a0 ≥ a1)) then some ((decide (a0 ≤ a2)), ())
 else some (false, ()))
theorem spec_l00In_run (p : Nat) (x : (parsT [.val (.int .i64), .val (.int .i64), .val (.int .i64)]).T) : acall Try.prog (spec_l00In_G p) 5 1 40 .leaf (argAVs [.val (.int .i64), .val (.int .i64), .val (.int .i64)] x) ⟨[], 0, []⟩ (outR [.bool]) = spec_l00In_p p x.1 x.2.1 x.2.2.1 := by kernel_rfl
noncomputable def spec_l00In_c (p : Nat) : PC := PC.fn true [.val (.int .i64), .val (.int .i64), .val (.int .i64)] [.bool] fun x => spec_l00In_p p x.1 x.2.1 x.2.2.1
theorem spec_l00In_s (p : Nat) : PSound Try.prog 40 (spec_l00In_c p) := pure_sound (spec_l00In_E p) Try.checked.mixed (spec_l00In_I p) LTok_leaf (fun _ => rfl) fun x y h => (spec_l00In_run p x).trans h
/-! spec.l01Small -/
noncomputable def spec_l01Small_G (p : Nat) : FuncId → Option CE := glist []
theorem spec_l01Small_E (p : Nat) : EnvS Try.prog (spec_l01Small_G p) := by
  apply glist_env; intro f ce h
  simp only [List.mem_cons, List.not_mem_nil, or_false, Prod.mk.injEq] at h
  
theorem spec_l01Small_I (p : Nat) : ∀ f lt, spec_l01Small_G p f = some (.inl lt) → LTok Try.prog (spec_l01Small_G p) 5 f lt := by
  apply glist_inl; intro f lt h
  simp only [List.mem_cons, List.not_mem_nil, or_false, Prod.mk.injEq, CE.inl.injEq, and_false, or_false, false_or, reduceCtorEq] at h
  
noncomputable def spec_l01Small_p (p : Nat) (a0 : Int) : Option (Bool × Unit) :=
  (bif (decide (a0 ≥ (97 : Int))) then some ((decide (a0 ≤ (122 : Int))), ())
 else some (false, ()))
theorem spec_l01Small_run (p : Nat) (x : (parsT [.val (.int .u8)]).T) : acall Try.prog (spec_l01Small_G p) 5 1 121 .leaf (argAVs [.val (.int .u8)] x) ⟨[], 0, []⟩ (outR [.bool]) = spec_l01Small_p p x.1 := by kernel_rfl
noncomputable def spec_l01Small_c (p : Nat) : PC := PC.fn true [.val (.int .u8)] [.bool] fun x => spec_l01Small_p p x.1
theorem spec_l01Small_s (p : Nat) : PSound Try.prog 121 (spec_l01Small_c p) := pure_sound (spec_l01Small_E p) Try.checked.mixed (spec_l01Small_I p) LTok_leaf (fun _ => rfl) fun x y h => (spec_l01Small_run p x).trans h
/-! spec.l01Digit -/
noncomputable def spec_l01Digit_G (p : Nat) : FuncId → Option CE := glist []
theorem spec_l01Digit_E (p : Nat) : EnvS Try.prog (spec_l01Digit_G p) := by
  apply glist_env; intro f ce h
  simp only [List.mem_cons, List.not_mem_nil, or_false, Prod.mk.injEq] at h
  
theorem spec_l01Digit_I (p : Nat) : ∀ f lt, spec_l01Digit_G p f = some (.inl lt) → LTok Try.prog (spec_l01Digit_G p) 5 f lt := by
  apply glist_inl; intro f lt h
  simp only [List.mem_cons, List.not_mem_nil, or_false, Prod.mk.injEq, CE.inl.injEq, and_false, or_false, false_or, reduceCtorEq] at h
  
noncomputable def spec_l01Digit_p (p : Nat) (a0 : Int) : Option (Bool × Unit) :=
  (bif (decide (a0 ≥ (48 : Int))) then some ((decide (a0 ≤ (57 : Int))), ())
 else some (false, ()))
theorem spec_l01Digit_run (p : Nat) (x : (parsT [.val (.int .u8)]).T) : acall Try.prog (spec_l01Digit_G p) 5 1 122 .leaf (argAVs [.val (.int .u8)] x) ⟨[], 0, []⟩ (outR [.bool]) = spec_l01Digit_p p x.1 := by kernel_rfl
noncomputable def spec_l01Digit_c (p : Nat) : PC := PC.fn true [.val (.int .u8)] [.bool] fun x => spec_l01Digit_p p x.1
theorem spec_l01Digit_s (p : Nat) : PSound Try.prog 122 (spec_l01Digit_c p) := pure_sound (spec_l01Digit_E p) Try.checked.mixed (spec_l01Digit_I p) LTok_leaf (fun _ => rfl) fun x y h => (spec_l01Digit_run p x).trans h
/-! spec.l01Name -/
noncomputable def spec_l01Name_l0_r {α : Type} (p : Nat) (v0 : ByteArray) (rec : (Int) → Option α) (v1 : Int) (k0 : (Bool) → Option α) (k1 : Unit → Option α) : Option α :=
  (bif (decide (v1 < (v0.size : Int))) then (if 0 ≤ v1 ∧ v1 < (v0.size : Int) then ((spec_l01Small_p p ((v0.get! v1.toNat).toNat : Int)).bind fun r2 => (bif (!r2.1) then (if 0 ≤ v1 ∧ v1 < (v0.size : Int) then ((spec_l01Digit_p p ((v0.get! v1.toNat).toNat : Int)).bind fun r3 => (bif (!r3.1) then (k0 false)
 else (rec (IntKind.wrap .i64 (v1 + (1 : Int)))))) else none)
 else (rec (IntKind.wrap .i64 (v1 + (1 : Int)))))) else none)
 else (k1 ()))
noncomputable def spec_l01Name_l0_go {α : Type} (p : Nat) (v0 : ByteArray) : Nat → (Int) → ((Bool) → Option α) → (Unit → Option α) → Option α
  | 0, _, _, _ => none
  | q + 1, v1, k0, k1 => spec_l01Name_l0_r p v0 (fun v1 => spec_l01Name_l0_go p v0 q v1 k0 k1) v1 k0 k1
def spec_l01Name_l0_sh : Sh := ⟨[⟨0, false, [.str]⟩, ⟨3, false, [.int .i64]⟩], 0, []⟩
noncomputable def spec_l01Name_lc0 (p : Nat) : LC := LC.alts 0 [⟨0, spec_l01Name_l0_sh, fun x {α} k => spec_l01Name_l0_go p x.1.1.1 p x.1.2.1.1 (fun o0 => k .ret ⟨[(2, .one ⟨false, [.bool o0]⟩)], 0, []⟩) (fun _ => k (.exit 0) ⟨[], 0, []⟩)⟩]
noncomputable def spec_l01Name_lt (p : Nat) : LT := (.node .leaf (.node .leaf (.node (.node .leaf (.loop [0, 3] [2] (some (spec_l01Name_lc0 p)) .leaf)) .leaf)))
noncomputable def spec_l01Name_G (p : Nat) : FuncId → Option CE := glist [(121, .pure (spec_l01Small_c p)), (122, .pure (spec_l01Digit_c p))]
noncomputable def spec_l01Name_c0 : Code := codeAt [1, 1, 0, 1, 0, 0] (bodyOf Try.f106)
noncomputable def spec_l01Name_it0 {α : Type} (p n b : Nat) (k : Ex → St → Option α) (q : Nat) (st : St) : Option α :=
  iter (fun s q => aexec Try.prog (spec_l01Name_G p) (fun g lt args st (k : D → St → Option α) => acall Try.prog (spec_l01Name_G p) 5 (n + 0) g lt args st k) 5 b 35 spec_l01Name_c0 .leaf s q) (canon b [0, 3]) q st (fun e s => k e (canon b [2] s))
theorem spec_l01Name_l0_step {α : Type} (p n : Nat) (k : Ex → St → Option α) (v0 : ByteArray) (q : Nat) (v1 : Int) : spec_l01Name_it0 p n 0 k (q + 1) (spec_l01Name_l0_sh.mk' (((v0, ()), (v1, ()), ()), (()))) =
  spec_l01Name_l0_r p v0 (fun v1 => spec_l01Name_it0 p n 0 k q (spec_l01Name_l0_sh.mk' (((v0, ()), (v1, ()), ()), (())))) v1 (fun o0 => k .ret ⟨[(2, .one ⟨false, [.bool o0]⟩)], 0, []⟩) (fun _ => k (.exit 0) ⟨[], 0, []⟩) := by kernel_rfl
theorem spec_l01Name_l0_ok {α : Type} (p n : Nat) (k : Ex → St → Option α) (v0 : ByteArray) : ∀ (q : Nat) (v1 : Int), spec_l01Name_it0 p n 0 k q (spec_l01Name_l0_sh.mk' (((v0, ()), (v1, ()), ()), (()))) =
  spec_l01Name_l0_go p v0 q v1 (fun o0 => k .ret ⟨[(2, .one ⟨false, [.bool o0]⟩)], 0, []⟩) (fun _ => k (.exit 0) ⟨[], 0, []⟩) := by
  intro q
  induction q with
  | zero => intros; rfl
  | succ q ih => intro v1; rw [spec_l01Name_l0_step]; simp only [ih]; rfl
theorem spec_l01Name_ltok_106_ls (p : Nat) : loopsOf (bodyOf Try.f106) (spec_l01Name_lt p) = [⟨spec_l01Name_c0, [0, 3], [2], spec_l01Name_lc0 p, .leaf⟩] := by kernel_rfl
theorem spec_l01Name_ltok_106_dep (p : Nat) : LT.dep (spec_l01Name_lt p) = 0 := by kernel_rfl
theorem spec_l01Name_ltok_106 (p : Nat) : LTok Try.prog (spec_l01Name_G p) 5 106 (spec_l01Name_lt p) := by
  intro α n base fn c hd hfn hc
  have hfn' : some fn = some Try.f106 := hfn.symm.trans Try.func106
  cases hfn'
  have hc' : c = bodyOf Try.f106 := by unfold bodyOf; rw [hc]; rfl
  subst hc'
  rw [spec_l01Name_ltok_106_dep] at hd
  obtain ⟨n, rfl⟩ := Nat.exists_eq_add_of_le' hd
  apply LTS_of_loops
  rw [spec_l01Name_ltok_106_ls]
  intro e he st k r h
  simp only [List.mem_cons, List.not_mem_nil, or_false] at he
  subst he
  · obtain ⟨a, ha, hb, x, rfl, h⟩ := altRun_ok h
    simp only [List.mem_cons, List.not_mem_nil, or_false] at ha
    subst ha
    · cases hb; exact ⟨p, (spec_l01Name_l0_ok p n k _ p _).trans h⟩
theorem spec_l01Name_E (p : Nat) : EnvS Try.prog (spec_l01Name_G p) := by
  apply glist_env; intro f ce h
  simp only [List.mem_cons, List.not_mem_nil, or_false, Prod.mk.injEq] at h
  rcases h with ⟨rfl, rfl⟩ | ⟨rfl, rfl⟩
  · exact spec_l01Small_s p
  · exact spec_l01Digit_s p
theorem spec_l01Name_I (p : Nat) : ∀ f lt, spec_l01Name_G p f = some (.inl lt) → LTok Try.prog (spec_l01Name_G p) 5 f lt := by
  apply glist_inl; intro f lt h
  simp only [List.mem_cons, List.not_mem_nil, or_false, Prod.mk.injEq, CE.inl.injEq, and_false, or_false, false_or, reduceCtorEq] at h
  
noncomputable def spec_l01Name_p (p : Nat) (a0 : ByteArray) : Option (Bool × Unit) :=
  (bif (a0.toList == (⟨#[]⟩ : ByteArray).toList) then some (false, ())
 else (bif (decide ((a0.size : Int) > (10 : Int))) then some (false, ())
 else (if 0 ≤ (0 : Int) ∧ (0 : Int) < (a0.size : Int) then ((spec_l01Small_p p ((a0.get! (0 : Int).toNat).toNat : Int)).bind fun r1 => (bif (!r1.1) then some (false, ())
 else (spec_l01Name_l0_go p a0 p (0 : Int) (fun o4 => some (o4, ())) (fun _ => some (true, ()))))) else none)))
theorem spec_l01Name_run (p : Nat) (x : (parsT [.val .str]).T) : acall Try.prog (spec_l01Name_G p) 5 1 106 (spec_l01Name_lt p) (argAVs [.val .str] x) ⟨[], 0, []⟩ (outR [.bool]) = spec_l01Name_p p x.1 := by kernel_rfl
noncomputable def spec_l01Name_c (p : Nat) : PC := PC.fn true [.val .str] [.bool] fun x => spec_l01Name_p p x.1
theorem spec_l01Name_s (p : Nat) : PSound Try.prog 106 (spec_l01Name_c p) := pure_sound (spec_l01Name_E p) Try.checked.mixed (spec_l01Name_I p) (spec_l01Name_ltok_106 p) (fun _ => rfl) fun x y h => (spec_l01Name_run p x).trans h
/-! spec.l03Ok -/
noncomputable def spec_l03Ok_G (p : Nat) : FuncId → Option CE := glist [(40, .pure (spec_l00In_c p)), (106, .pure (spec_l01Name_c p))]
theorem spec_l03Ok_E (p : Nat) : EnvS Try.prog (spec_l03Ok_G p) := by
  apply glist_env; intro f ce h
  simp only [List.mem_cons, List.not_mem_nil, or_false, Prod.mk.injEq] at h
  rcases h with ⟨rfl, rfl⟩ | ⟨rfl, rfl⟩
  · exact spec_l00In_s p
  · exact spec_l01Name_s p
theorem spec_l03Ok_I (p : Nat) : ∀ f lt, spec_l03Ok_G p f = some (.inl lt) → LTok Try.prog (spec_l03Ok_G p) 5 f lt := by
  apply glist_inl; intro f lt h
  simp only [List.mem_cons, List.not_mem_nil, or_false, Prod.mk.injEq, CE.inl.injEq, and_false, or_false, false_or, reduceCtorEq] at h
  
noncomputable def spec_l03Ok_p (p : Nat) (a0 : (Ty.T TPipe)) : Option (Bool × Unit) :=
  ((spec_l01Name_p p a0.1).bind fun r1 => (bif (!r1.1) then some (false, ())
 else ((spec_l00In_p p a0.2.1 (0 : Int) (15 : Int)).bind fun r2 => (bif (!r2.1) then some (false, ())
 else ((spec_l00In_p p a0.2.2.1 (0 : Int) (15 : Int)).bind fun r3 => (bif (!r3.1) then some (false, ())
 else (bif (a0.2.1 == a0.2.2.1) then some (false, ())
 else ((spec_l00In_p p a0.2.2.2.1 (1 : Int) (10000 : Int)).bind fun r4 => (bif r4.1 then ((spec_l00In_p p a0.2.2.2.2.1 (20 : Int) (1000 : Int)).bind fun r5 => (bif r5.1 then ((spec_l00In_p p a0.2.2.2.2.2 (0 : Int) (5000 : Int)).bind fun r6 => some (r6.1, ()))
 else some (false, ())))
 else some (false, ()))))))))))
theorem spec_l03Ok_run (p : Nat) (x : (parsT [.ptr TPipe]).T) : acall Try.prog (spec_l03Ok_G p) 5 1 100 .leaf (argAVs [.ptr TPipe] x) ⟨[], 0, []⟩ (outR [.bool]) = spec_l03Ok_p p x.1 := by kernel_rfl
noncomputable def spec_l03Ok_c (p : Nat) : PC := PC.fn true [.ptr TPipe] [.bool] fun x => spec_l03Ok_p p x.1
theorem spec_l03Ok_s (p : Nat) : PSound Try.prog 100 (spec_l03Ok_c p) := pure_sound (spec_l03Ok_E p) Try.checked.mixed (spec_l03Ok_I p) LTok_leaf (fun _ => rfl) fun x y h => (spec_l03Ok_run p x).trans h
/-! spec.l04Fits -/
noncomputable def spec_l04Fits_G (p : Nat) : FuncId → Option CE := glist [(100, .pure (spec_l03Ok_c p))]
theorem spec_l04Fits_E (p : Nat) : EnvS Try.prog (spec_l04Fits_G p) := by
  apply glist_env; intro f ce h
  simp only [List.mem_cons, List.not_mem_nil, or_false, Prod.mk.injEq] at h
  rcases h with ⟨rfl, rfl⟩
  · exact spec_l03Ok_s p
theorem spec_l04Fits_I (p : Nat) : ∀ f lt, spec_l04Fits_G p f = some (.inl lt) → LTok Try.prog (spec_l04Fits_G p) 5 f lt := by
  apply glist_inl; intro f lt h
  simp only [List.mem_cons, List.not_mem_nil, or_false, Prod.mk.injEq, CE.inl.injEq, and_false, or_false, false_or, reduceCtorEq] at h
  
noncomputable def spec_l04Fits_p (p : Nat) (a0 : (Ty.T TNetwork)) (a1 : (Ty.T TPipe)) : Option (Bool × Unit) :=
  ((spec_l03Ok_p p a1).bind fun r1 => (bif r1.1 then (bif (decide (a1.2.1 < (a0.1.length : Int))) then some ((decide (a1.2.2.1 < (a0.1.length : Int))), ())
 else some (false, ()))
 else some (false, ())))
theorem spec_l04Fits_run (p : Nat) (x : (parsT [.ptr TNetwork, .ptr TPipe]).T) : acall Try.prog (spec_l04Fits_G p) 5 1 73 .leaf (argAVs [.ptr TNetwork, .ptr TPipe] x) ⟨[], 0, []⟩ (outR [.bool]) = spec_l04Fits_p p x.1 x.2.1 := by kernel_rfl
noncomputable def spec_l04Fits_c (p : Nat) : PC := PC.fn true [.ptr TNetwork, .ptr TPipe] [.bool] fun x => spec_l04Fits_p p x.1 x.2.1
theorem spec_l04Fits_s (p : Nat) : PSound Try.prog 73 (spec_l04Fits_c p) := pure_sound (spec_l04Fits_E p) Try.checked.mixed (spec_l04Fits_I p) LTok_leaf (fun _ => rfl) fun x y h => (spec_l04Fits_run p x).trans h
/-! spec.l04Ok -/
noncomputable def spec_l04Ok_l0_r {α : Type} (p : Nat) (v0 : (Ty.T TNetwork)) (rec : (Int) → Option α) (v1 : Int) (k0 : (Bool) → Option α) (k1 : Unit → Option α) : Option α :=
  (bif (decide (v1 < (v0.1.length : Int))) then (if 0 ≤ v1 then (v0.1[v1.toNat]?).bind fun y1 => ((spec_l00In_p p y1 (-100000 : Int) (100000 : Int)).bind fun r2 => (bif (!r2.1) then (k0 false)
 else (rec (IntKind.wrap .i64 (v1 + (1 : Int)))))) else none)
 else (k1 ()))
noncomputable def spec_l04Ok_l0_go {α : Type} (p : Nat) (v0 : (Ty.T TNetwork)) : Nat → (Int) → ((Bool) → Option α) → (Unit → Option α) → Option α
  | 0, _, _, _ => none
  | q + 1, v1, k0, k1 => spec_l04Ok_l0_r p v0 (fun v1 => spec_l04Ok_l0_go p v0 q v1 k0 k1) v1 k0 k1
def spec_l04Ok_l0_sh : Sh := ⟨[⟨0, false, [.ref TNetwork 0]⟩, ⟨3, false, [.int .i64]⟩], 0, []⟩
noncomputable def spec_l04Ok_l1_r {α : Type} (p : Nat) (v0 : (Ty.T TNetwork)) (rec : (Int) → Option α) (v1 : Int) (k0 : (Bool) → Option α) (k1 : Unit → Option α) : Option α :=
  (bif (decide (v1 < (v0.2.length : Int))) then (if 0 ≤ v1 then (v0.2[v1.toNat]?).bind fun y4 => ((spec_l04Fits_p p v0 y4).bind fun r5 => (bif (!r5.1) then (k0 false)
 else (bif (decide (v1 > (0 : Int))) then (if 0 ≤ (IntKind.wrap .i64 (v1 - (1 : Int))) then (v0.2[(IntKind.wrap .i64 (v1 - (1 : Int))).toNat]?).bind fun y6 => (if 0 ≤ v1 then (v0.2[v1.toNat]?).bind fun y7 => (bif (!(Op.bytesLess y6.1.toList y7.1.toList)) then (k0 false)
 else (rec (IntKind.wrap .i64 (v1 + (1 : Int))))) else none) else none)
 else (rec (IntKind.wrap .i64 (v1 + (1 : Int))))))) else none)
 else (k1 ()))
noncomputable def spec_l04Ok_l1_go {α : Type} (p : Nat) (v0 : (Ty.T TNetwork)) : Nat → (Int) → ((Bool) → Option α) → (Unit → Option α) → Option α
  | 0, _, _, _ => none
  | q + 1, v1, k0, k1 => spec_l04Ok_l1_r p v0 (fun v1 => spec_l04Ok_l1_go p v0 q v1 k0 k1) v1 k0 k1
def spec_l04Ok_l1_sh : Sh := ⟨[⟨0, false, [.ref TNetwork 0]⟩, ⟨4, false, [.int .i64]⟩], 0, []⟩
noncomputable def spec_l04Ok_lc0 (p : Nat) : LC := LC.alts 0 [⟨0, spec_l04Ok_l0_sh, fun x {α} k => spec_l04Ok_l0_go p x.1.1.1 p x.1.2.1.1 (fun o1 => k .ret ⟨[(0, .one ⟨false, [.ref TNetwork x.1.1.1 0]⟩), (2, .one ⟨false, [.bool o1]⟩)], 0, []⟩) (fun _ => k (.exit 0) ⟨[(0, .one ⟨false, [.ref TNetwork x.1.1.1 0]⟩)], 0, []⟩)⟩]
noncomputable def spec_l04Ok_lc1 (p : Nat) : LC := LC.alts 0 [⟨0, spec_l04Ok_l1_sh, fun x {α} k => spec_l04Ok_l1_go p x.1.1.1 p x.1.2.1.1 (fun o0 => k .ret ⟨[(2, .one ⟨false, [.bool o0]⟩)], 0, []⟩) (fun _ => k (.exit 2) ⟨[], 0, []⟩)⟩]
noncomputable def spec_l04Ok_lt (p : Nat) : LT := (.node .leaf (.node (.node .leaf (.loop [0, 3] [0, 2] (some (spec_l04Ok_lc0 p)) .leaf)) (.node .leaf (.node (.node .leaf (.loop [0, 4] [2] (some (spec_l04Ok_lc1 p)) .leaf)) .leaf))))
noncomputable def spec_l04Ok_G (p : Nat) : FuncId → Option CE := glist [(40, .pure (spec_l00In_c p)), (73, .pure (spec_l04Fits_c p))]
noncomputable def spec_l04Ok_c0 : Code := codeAt [1, 0, 1, 0, 0] (bodyOf Try.f39)
noncomputable def spec_l04Ok_it0 {α : Type} (p n b : Nat) (k : Ex → St → Option α) (q : Nat) (st : St) : Option α :=
  iter (fun s q => aexec Try.prog (spec_l04Ok_G p) (fun g lt args st (k : D → St → Option α) => acall Try.prog (spec_l04Ok_G p) 5 (n + 0) g lt args st k) 5 b 87 spec_l04Ok_c0 .leaf s q) (canon b [0, 3]) q st (fun e s => k e (canon b [0, 2] s))
theorem spec_l04Ok_l0_step {α : Type} (p n : Nat) (k : Ex → St → Option α) (v0 : (Ty.T TNetwork)) (q : Nat) (v1 : Int) : spec_l04Ok_it0 p n 0 k (q + 1) (spec_l04Ok_l0_sh.mk' (((v0, ()), (v1, ()), ()), (()))) =
  spec_l04Ok_l0_r p v0 (fun v1 => spec_l04Ok_it0 p n 0 k q (spec_l04Ok_l0_sh.mk' (((v0, ()), (v1, ()), ()), (())))) v1 (fun o1 => k .ret ⟨[(0, .one ⟨false, [.ref TNetwork v0 0]⟩), (2, .one ⟨false, [.bool o1]⟩)], 0, []⟩) (fun _ => k (.exit 0) ⟨[(0, .one ⟨false, [.ref TNetwork v0 0]⟩)], 0, []⟩) := by kernel_rfl
theorem spec_l04Ok_l0_ok {α : Type} (p n : Nat) (k : Ex → St → Option α) (v0 : (Ty.T TNetwork)) : ∀ (q : Nat) (v1 : Int), spec_l04Ok_it0 p n 0 k q (spec_l04Ok_l0_sh.mk' (((v0, ()), (v1, ()), ()), (()))) =
  spec_l04Ok_l0_go p v0 q v1 (fun o1 => k .ret ⟨[(0, .one ⟨false, [.ref TNetwork v0 0]⟩), (2, .one ⟨false, [.bool o1]⟩)], 0, []⟩) (fun _ => k (.exit 0) ⟨[(0, .one ⟨false, [.ref TNetwork v0 0]⟩)], 0, []⟩) := by
  intro q
  induction q with
  | zero => intros; rfl
  | succ q ih => intro v1; rw [spec_l04Ok_l0_step]; simp only [ih]; rfl
noncomputable def spec_l04Ok_c1 : Code := codeAt [1, 1, 1, 0, 1, 0, 0] (bodyOf Try.f39)
noncomputable def spec_l04Ok_it1 {α : Type} (p n b : Nat) (k : Ex → St → Option α) (q : Nat) (st : St) : Option α :=
  iter (fun s q => aexec Try.prog (spec_l04Ok_G p) (fun g lt args st (k : D → St → Option α) => acall Try.prog (spec_l04Ok_G p) 5 (n + 0) g lt args st k) 5 b 87 spec_l04Ok_c1 .leaf s q) (canon b [0, 4]) q st (fun e s => k e (canon b [2] s))
theorem spec_l04Ok_l1_step {α : Type} (p n : Nat) (k : Ex → St → Option α) (v0 : (Ty.T TNetwork)) (q : Nat) (v1 : Int) : spec_l04Ok_it1 p n 0 k (q + 1) (spec_l04Ok_l1_sh.mk' (((v0, ()), (v1, ()), ()), (()))) =
  spec_l04Ok_l1_r p v0 (fun v1 => spec_l04Ok_it1 p n 0 k q (spec_l04Ok_l1_sh.mk' (((v0, ()), (v1, ()), ()), (())))) v1 (fun o0 => k .ret ⟨[(2, .one ⟨false, [.bool o0]⟩)], 0, []⟩) (fun _ => k (.exit 2) ⟨[], 0, []⟩) := by kernel_rfl
theorem spec_l04Ok_l1_ok {α : Type} (p n : Nat) (k : Ex → St → Option α) (v0 : (Ty.T TNetwork)) : ∀ (q : Nat) (v1 : Int), spec_l04Ok_it1 p n 0 k q (spec_l04Ok_l1_sh.mk' (((v0, ()), (v1, ()), ()), (()))) =
  spec_l04Ok_l1_go p v0 q v1 (fun o0 => k .ret ⟨[(2, .one ⟨false, [.bool o0]⟩)], 0, []⟩) (fun _ => k (.exit 2) ⟨[], 0, []⟩) := by
  intro q
  induction q with
  | zero => intros; rfl
  | succ q ih => intro v1; rw [spec_l04Ok_l1_step]; simp only [ih]; rfl
theorem spec_l04Ok_ltok_39_ls (p : Nat) : loopsOf (bodyOf Try.f39) (spec_l04Ok_lt p) = [⟨spec_l04Ok_c0, [0, 3], [0, 2], spec_l04Ok_lc0 p, .leaf⟩, ⟨spec_l04Ok_c1, [0, 4], [2], spec_l04Ok_lc1 p, .leaf⟩] := by kernel_rfl
theorem spec_l04Ok_ltok_39_dep (p : Nat) : LT.dep (spec_l04Ok_lt p) = 0 := by kernel_rfl
theorem spec_l04Ok_ltok_39 (p : Nat) : LTok Try.prog (spec_l04Ok_G p) 5 39 (spec_l04Ok_lt p) := by
  intro α n base fn c hd hfn hc
  have hfn' : some fn = some Try.f39 := hfn.symm.trans Try.func39
  cases hfn'
  have hc' : c = bodyOf Try.f39 := by unfold bodyOf; rw [hc]; rfl
  subst hc'
  rw [spec_l04Ok_ltok_39_dep] at hd
  obtain ⟨n, rfl⟩ := Nat.exists_eq_add_of_le' hd
  apply LTS_of_loops
  rw [spec_l04Ok_ltok_39_ls]
  intro e he st k r h
  simp only [List.mem_cons, List.not_mem_nil, or_false] at he
  rcases he with rfl | rfl
  · obtain ⟨a, ha, hb, x, rfl, h⟩ := altRun_ok h
    simp only [List.mem_cons, List.not_mem_nil, or_false] at ha
    subst ha
    · cases hb; exact ⟨p, (spec_l04Ok_l0_ok p n k _ p _).trans h⟩
  · obtain ⟨a, ha, hb, x, rfl, h⟩ := altRun_ok h
    simp only [List.mem_cons, List.not_mem_nil, or_false] at ha
    subst ha
    · cases hb; exact ⟨p, (spec_l04Ok_l1_ok p n k _ p _).trans h⟩
theorem spec_l04Ok_E (p : Nat) : EnvS Try.prog (spec_l04Ok_G p) := by
  apply glist_env; intro f ce h
  simp only [List.mem_cons, List.not_mem_nil, or_false, Prod.mk.injEq] at h
  rcases h with ⟨rfl, rfl⟩ | ⟨rfl, rfl⟩
  · exact spec_l00In_s p
  · exact spec_l04Fits_s p
theorem spec_l04Ok_I (p : Nat) : ∀ f lt, spec_l04Ok_G p f = some (.inl lt) → LTok Try.prog (spec_l04Ok_G p) 5 f lt := by
  apply glist_inl; intro f lt h
  simp only [List.mem_cons, List.not_mem_nil, or_false, Prod.mk.injEq, CE.inl.injEq, and_false, or_false, false_or, reduceCtorEq] at h
  
noncomputable def spec_l04Ok_p (p : Nat) (a0 : (Ty.T TNetwork)) : Option (Bool × Unit) :=
  (spec_l04Ok_l0_go p a0 p (0 : Int) (fun o3 => some (o3, ())) (fun _ => (bif (decide ((a0.1.length : Int) < (1 : Int))) then some (false, ())
 else (bif (decide ((a0.1.length : Int) > (16 : Int))) then some (false, ())
 else (bif (decide ((a0.2.length : Int) > (20 : Int))) then some (false, ())
 else (spec_l04Ok_l1_go p a0 p (0 : Int) (fun o8 => some (o8, ())) (fun _ => some (true, ()))))))))
theorem spec_l04Ok_run (p : Nat) (x : (parsT [.ptr TNetwork]).T) : acall Try.prog (spec_l04Ok_G p) 5 1 39 (spec_l04Ok_lt p) (argAVs [.ptr TNetwork] x) ⟨[], 0, []⟩ (outR [.bool]) = spec_l04Ok_p p x.1 := by kernel_rfl
noncomputable def spec_l04Ok_c (p : Nat) : PC := PC.fn true [.ptr TNetwork] [.bool] fun x => spec_l04Ok_p p x.1
theorem spec_l04Ok_s (p : Nat) : PSound Try.prog 39 (spec_l04Ok_c p) := pure_sound (spec_l04Ok_E p) Try.checked.mixed (spec_l04Ok_I p) (spec_l04Ok_ltok_39 p) (fun _ => rfl) fun x y h => (spec_l04Ok_run p x).trans h
/-! spec.l04Node -/
noncomputable def spec_l04Node_G (p : Nat) : FuncId → Option CE := glist [(40, .pure (spec_l00In_c p))]
theorem spec_l04Node_E (p : Nat) : EnvS Try.prog (spec_l04Node_G p) := by
  apply glist_env; intro f ce h
  simp only [List.mem_cons, List.not_mem_nil, or_false, Prod.mk.injEq] at h
  rcases h with ⟨rfl, rfl⟩
  · exact spec_l00In_s p
theorem spec_l04Node_I (p : Nat) : ∀ f lt, spec_l04Node_G p f = some (.inl lt) → LTok Try.prog (spec_l04Node_G p) 5 f lt := by
  apply glist_inl; intro f lt h
  simp only [List.mem_cons, List.not_mem_nil, or_false, Prod.mk.injEq, CE.inl.injEq, and_false, or_false, false_or, reduceCtorEq] at h
  
noncomputable def spec_l04Node_p (p : Nat) (a0 : (Ty.T TNetwork)) (a1 : Int) : Option (Bool × Unit) :=
  ((spec_l00In_p p a1 (0 : Int) (IntKind.wrap .i64 ((a0.1.length : Int) - (1 : Int)))).bind fun r1 => some (r1.1, ()))
theorem spec_l04Node_run (p : Nat) (x : (parsT [.ptr TNetwork, .val (.int .i64)]).T) : acall Try.prog (spec_l04Node_G p) 5 1 23 .leaf (argAVs [.ptr TNetwork, .val (.int .i64)] x) ⟨[], 0, []⟩ (outR [.bool]) = spec_l04Node_p p x.1 x.2.1 := by kernel_rfl
noncomputable def spec_l04Node_c (p : Nat) : PC := PC.fn true [.ptr TNetwork, .val (.int .i64)] [.bool] fun x => spec_l04Node_p p x.1 x.2.1
theorem spec_l04Node_s (p : Nat) : PSound Try.prog 23 (spec_l04Node_c p) := pure_sound (spec_l04Node_E p) Try.checked.mixed (spec_l04Node_I p) LTok_leaf (fun _ => rfl) fun x y h => (spec_l04Node_run p x).trans h
/-! spec.l07Ask -/
noncomputable def spec_l07Ask_G (p : Nat) : FuncId → Option CE := glist [(23, .pure (spec_l04Node_c p)), (39, .pure (spec_l04Ok_c p))]
theorem spec_l07Ask_E (p : Nat) : EnvS Try.prog (spec_l07Ask_G p) := by
  apply glist_env; intro f ce h
  simp only [List.mem_cons, List.not_mem_nil, or_false, Prod.mk.injEq] at h
  rcases h with ⟨rfl, rfl⟩ | ⟨rfl, rfl⟩
  · exact spec_l04Node_s p
  · exact spec_l04Ok_s p
theorem spec_l07Ask_I (p : Nat) : ∀ f lt, spec_l07Ask_G p f = some (.inl lt) → LTok Try.prog (spec_l07Ask_G p) 5 f lt := by
  apply glist_inl; intro f lt h
  simp only [List.mem_cons, List.not_mem_nil, or_false, Prod.mk.injEq, CE.inl.injEq, and_false, or_false, false_or, reduceCtorEq] at h
  
noncomputable def spec_l07Ask_p (p : Nat) (a0 : (Ty.T TNetwork)) (a1 : Int) : Option (Int × Unit) :=
  ((spec_l04Ok_p p a0).bind fun r1 => (bif (!r1.1) then some ((1 : Int), ())
 else ((spec_l04Node_p p a0 a1).bind fun r2 => (bif (!r2.1) then some ((2 : Int), ())
 else some ((0 : Int), ())))))
theorem spec_l07Ask_run (p : Nat) (x : (parsT [.ptr TNetwork, .val (.int .i64)]).T) : acall Try.prog (spec_l07Ask_G p) 5 1 22 .leaf (argAVs [.ptr TNetwork, .val (.int .i64)] x) ⟨[], 0, []⟩ (outR [(.int .i64)]) = spec_l07Ask_p p x.1 x.2.1 := by kernel_rfl
noncomputable def spec_l07Ask_c (p : Nat) : PC := PC.fn true [.ptr TNetwork, .val (.int .i64)] [(.int .i64)] fun x => spec_l07Ask_p p x.1 x.2.1
theorem spec_l07Ask_s (p : Nat) : PSound Try.prog 22 (spec_l07Ask_c p) := pure_sound (spec_l07Ask_E p) Try.checked.mixed (spec_l07Ask_I p) LTok_leaf (fun _ => rfl) fun x y h => (spec_l07Ask_run p x).trans h
/-! spec.l03Press -/
noncomputable def spec_l03Press_G (p : Nat) : FuncId → Option CE := glist [(40, .pure (spec_l00In_c p))]
theorem spec_l03Press_E (p : Nat) : EnvS Try.prog (spec_l03Press_G p) := by
  apply glist_env; intro f ce h
  simp only [List.mem_cons, List.not_mem_nil, or_false, Prod.mk.injEq] at h
  rcases h with ⟨rfl, rfl⟩
  · exact spec_l00In_s p
theorem spec_l03Press_I (p : Nat) : ∀ f lt, spec_l03Press_G p f = some (.inl lt) → LTok Try.prog (spec_l03Press_G p) 5 f lt := by
  apply glist_inl; intro f lt h
  simp only [List.mem_cons, List.not_mem_nil, or_false, Prod.mk.injEq, CE.inl.injEq, and_false, or_false, false_or, reduceCtorEq] at h
  
noncomputable def spec_l03Press_p (p : Nat) (a0 : Int) : Option (Bool × Unit) :=
  ((spec_l00In_p p a0 (0 : Int) (100000000 : Int)).bind fun r1 => some (r1.1, ()))
theorem spec_l03Press_run (p : Nat) (x : (parsT [.val (.int .i64)]).T) : acall Try.prog (spec_l03Press_G p) 5 1 57 .leaf (argAVs [.val (.int .i64)] x) ⟨[], 0, []⟩ (outR [.bool]) = spec_l03Press_p p x.1 := by kernel_rfl
noncomputable def spec_l03Press_c (p : Nat) : PC := PC.fn true [.val (.int .i64)] [.bool] fun x => spec_l03Press_p p x.1
theorem spec_l03Press_s (p : Nat) : PSound Try.prog 57 (spec_l03Press_c p) := pure_sound (spec_l03Press_E p) Try.checked.mixed (spec_l03Press_I p) LTok_leaf (fun _ => rfl) fun x y h => (spec_l03Press_run p x).trans h
/-! spec.l03Flow -/
noncomputable def spec_l03Flow_G (p : Nat) : FuncId → Option CE := glist [(40, .pure (spec_l00In_c p))]
theorem spec_l03Flow_E (p : Nat) : EnvS Try.prog (spec_l03Flow_G p) := by
  apply glist_env; intro f ce h
  simp only [List.mem_cons, List.not_mem_nil, or_false, Prod.mk.injEq] at h
  rcases h with ⟨rfl, rfl⟩
  · exact spec_l00In_s p
theorem spec_l03Flow_I (p : Nat) : ∀ f lt, spec_l03Flow_G p f = some (.inl lt) → LTok Try.prog (spec_l03Flow_G p) 5 f lt := by
  apply glist_inl; intro f lt h
  simp only [List.mem_cons, List.not_mem_nil, or_false, Prod.mk.injEq, CE.inl.injEq, and_false, or_false, false_or, reduceCtorEq] at h
  
noncomputable def spec_l03Flow_p (p : Nat) (a0 : Int) : Option (Bool × Unit) :=
  ((spec_l00In_p p a0 (-100000 : Int) (100000 : Int)).bind fun r1 => some (r1.1, ()))
theorem spec_l03Flow_run (p : Nat) (x : (parsT [.val (.int .i64)]).T) : acall Try.prog (spec_l03Flow_G p) 5 1 88 .leaf (argAVs [.val (.int .i64)] x) ⟨[], 0, []⟩ (outR [.bool]) = spec_l03Flow_p p x.1 := by kernel_rfl
noncomputable def spec_l03Flow_c (p : Nat) : PC := PC.fn true [.val (.int .i64)] [.bool] fun x => spec_l03Flow_p p x.1
theorem spec_l03Flow_s (p : Nat) : PSound Try.prog 88 (spec_l03Flow_c p) := pure_sound (spec_l03Flow_E p) Try.checked.mixed (spec_l03Flow_I p) LTok_leaf (fun _ => rfl) fun x y h => (spec_l03Flow_run p x).trans h
/-! spec.l07Flows -/
noncomputable def spec_l07Flows_l0_r {α : Type} (p : Nat) (v1 : List Int) (rec : (Int) → Option α) (v2 : Int) (k0 : (Bool) → Option α) (k1 : Unit → Option α) : Option α :=
  (bif (decide (v2 < (v1.length : Int))) then (if 0 ≤ v2 then (v1[v2.toNat]?).bind fun y1 => ((spec_l03Flow_p p y1).bind fun r2 => (bif (!r2.1) then (k0 false)
 else (rec (IntKind.wrap .i64 (v2 + (1 : Int)))))) else none)
 else (k1 ()))
noncomputable def spec_l07Flows_l0_go {α : Type} (p : Nat) (v1 : List Int) : Nat → (Int) → ((Bool) → Option α) → (Unit → Option α) → Option α
  | 0, _, _, _ => none
  | q + 1, v2, k0, k1 => spec_l07Flows_l0_r p v1 (fun v2 => spec_l07Flows_l0_go p v1 q v2 k0 k1) v2 k0 k1
def spec_l07Flows_l0_sh : Sh := ⟨[⟨0, false, [.ref TNetwork 0]⟩, ⟨1, false, [.sl (.int .i64)]⟩, ⟨5, false, [.int .i64]⟩], 0, []⟩
noncomputable def spec_l07Flows_lc0 (p : Nat) : LC := LC.alts 0 [⟨0, spec_l07Flows_l0_sh, fun x {α} k => spec_l07Flows_l0_go p x.1.2.1.1 p x.1.2.2.1.1 (fun o2 => k .ret ⟨[(0, .one ⟨false, [.ref TNetwork x.1.1.1 0]⟩), (1, .one ⟨false, [.sl (.int .i64) x.1.2.1.1]⟩), (4, .one ⟨false, [.bool o2]⟩)], 0, []⟩) (fun _ => k (.exit 0) ⟨[(0, .one ⟨false, [.ref TNetwork x.1.1.1 0]⟩), (1, .one ⟨false, [.sl (.int .i64) x.1.2.1.1]⟩)], 0, []⟩)⟩]
noncomputable def spec_l07Flows_lt (p : Nat) : LT := (.node .leaf (.node (.node .leaf (.loop [0, 1, 5] [0, 1, 4] (some (spec_l07Flows_lc0 p)) .leaf)) .leaf))
noncomputable def spec_l07Flows_G (p : Nat) : FuncId → Option CE := glist [(88, .pure (spec_l03Flow_c p))]
noncomputable def spec_l07Flows_c0 : Code := codeAt [1, 0, 1, 0, 0] (bodyOf Try.f58)
noncomputable def spec_l07Flows_it0 {α : Type} (p n b : Nat) (k : Ex → St → Option α) (q : Nat) (st : St) : Option α :=
  iter (fun s q => aexec Try.prog (spec_l07Flows_G p) (fun g lt args st (k : D → St → Option α) => acall Try.prog (spec_l07Flows_G p) 5 (n + 0) g lt args st k) 5 b 26 spec_l07Flows_c0 .leaf s q) (canon b [0, 1, 5]) q st (fun e s => k e (canon b [0, 1, 4] s))
theorem spec_l07Flows_l0_step {α : Type} (p n : Nat) (k : Ex → St → Option α) (v0 : (Ty.T TNetwork)) (v1 : List Int) (q : Nat) (v2 : Int) : spec_l07Flows_it0 p n 0 k (q + 1) (spec_l07Flows_l0_sh.mk' (((v0, ()), (v1, ()), (v2, ()), ()), (()))) =
  spec_l07Flows_l0_r p v1 (fun v2 => spec_l07Flows_it0 p n 0 k q (spec_l07Flows_l0_sh.mk' (((v0, ()), (v1, ()), (v2, ()), ()), (())))) v2 (fun o2 => k .ret ⟨[(0, .one ⟨false, [.ref TNetwork v0 0]⟩), (1, .one ⟨false, [.sl (.int .i64) v1]⟩), (4, .one ⟨false, [.bool o2]⟩)], 0, []⟩) (fun _ => k (.exit 0) ⟨[(0, .one ⟨false, [.ref TNetwork v0 0]⟩), (1, .one ⟨false, [.sl (.int .i64) v1]⟩)], 0, []⟩) := by kernel_rfl
theorem spec_l07Flows_l0_ok {α : Type} (p n : Nat) (k : Ex → St → Option α) (v0 : (Ty.T TNetwork)) (v1 : List Int) : ∀ (q : Nat) (v2 : Int), spec_l07Flows_it0 p n 0 k q (spec_l07Flows_l0_sh.mk' (((v0, ()), (v1, ()), (v2, ()), ()), (()))) =
  spec_l07Flows_l0_go p v1 q v2 (fun o2 => k .ret ⟨[(0, .one ⟨false, [.ref TNetwork v0 0]⟩), (1, .one ⟨false, [.sl (.int .i64) v1]⟩), (4, .one ⟨false, [.bool o2]⟩)], 0, []⟩) (fun _ => k (.exit 0) ⟨[(0, .one ⟨false, [.ref TNetwork v0 0]⟩), (1, .one ⟨false, [.sl (.int .i64) v1]⟩)], 0, []⟩) := by
  intro q
  induction q with
  | zero => intros; rfl
  | succ q ih => intro v2; rw [spec_l07Flows_l0_step]; simp only [ih]; rfl
theorem spec_l07Flows_ltok_58_ls (p : Nat) : loopsOf (bodyOf Try.f58) (spec_l07Flows_lt p) = [⟨spec_l07Flows_c0, [0, 1, 5], [0, 1, 4], spec_l07Flows_lc0 p, .leaf⟩] := by kernel_rfl
theorem spec_l07Flows_ltok_58_dep (p : Nat) : LT.dep (spec_l07Flows_lt p) = 0 := by kernel_rfl
theorem spec_l07Flows_ltok_58 (p : Nat) : LTok Try.prog (spec_l07Flows_G p) 5 58 (spec_l07Flows_lt p) := by
  intro α n base fn c hd hfn hc
  have hfn' : some fn = some Try.f58 := hfn.symm.trans Try.func58
  cases hfn'
  have hc' : c = bodyOf Try.f58 := by unfold bodyOf; rw [hc]; rfl
  subst hc'
  rw [spec_l07Flows_ltok_58_dep] at hd
  obtain ⟨n, rfl⟩ := Nat.exists_eq_add_of_le' hd
  apply LTS_of_loops
  rw [spec_l07Flows_ltok_58_ls]
  intro e he st k r h
  simp only [List.mem_cons, List.not_mem_nil, or_false] at he
  subst he
  · obtain ⟨a, ha, hb, x, rfl, h⟩ := altRun_ok h
    simp only [List.mem_cons, List.not_mem_nil, or_false] at ha
    subst ha
    · cases hb; exact ⟨p, (spec_l07Flows_l0_ok p n k _ _ p _).trans h⟩
theorem spec_l07Flows_E (p : Nat) : EnvS Try.prog (spec_l07Flows_G p) := by
  apply glist_env; intro f ce h
  simp only [List.mem_cons, List.not_mem_nil, or_false, Prod.mk.injEq] at h
  rcases h with ⟨rfl, rfl⟩
  · exact spec_l03Flow_s p
theorem spec_l07Flows_I (p : Nat) : ∀ f lt, spec_l07Flows_G p f = some (.inl lt) → LTok Try.prog (spec_l07Flows_G p) 5 f lt := by
  apply glist_inl; intro f lt h
  simp only [List.mem_cons, List.not_mem_nil, or_false, Prod.mk.injEq, CE.inl.injEq, and_false, or_false, false_or, reduceCtorEq] at h
  
noncomputable def spec_l07Flows_p (p : Nat) (a0 : (Ty.T TNetwork)) (a1 : (List Int)) : Option (Bool × Unit) :=
  (spec_l07Flows_l0_go p a1 p (0 : Int) (fun o3 => some (o3, ())) (fun _ => some (((a1.length : Int) == (a0.2.length : Int)), ())))
theorem spec_l07Flows_run (p : Nat) (x : (parsT [.ptr TNetwork, .val (.slice (.int .i64))]).T) : acall Try.prog (spec_l07Flows_G p) 5 1 58 (spec_l07Flows_lt p) (argAVs [.ptr TNetwork, .val (.slice (.int .i64))] x) ⟨[], 0, []⟩ (outR [.bool]) = spec_l07Flows_p p x.1 x.2.1 := by kernel_rfl
noncomputable def spec_l07Flows_c (p : Nat) : PC := PC.fn true [.ptr TNetwork, .val (.slice (.int .i64))] [.bool] fun x => spec_l07Flows_p p x.1 x.2.1
theorem spec_l07Flows_s (p : Nat) : PSound Try.prog 58 (spec_l07Flows_c p) := pure_sound (spec_l07Flows_E p) Try.checked.mixed (spec_l07Flows_I p) (spec_l07Flows_ltok_58 p) (fun _ => rfl) fun x y h => (spec_l07Flows_run p x).trans h
/-! spec.l04Tree -/
noncomputable def spec_l04Tree_l0_r {α : Type} (p : Nat) (v0 : (Ty.T TNetwork)) (rec : (Int) → (List Int) → Option α) (v1 : Int) (v3 : List Int) (k0 : (List Int) → Option α) : Option α :=
  (bif (decide (v1 < (v0.1.length : Int))) then (bif capOk (v3.length + ((List.replicate 1 (Ty.zero (.int .i64))).set 0 v1).length) 8 then (rec (IntKind.wrap .i64 (v1 + (1 : Int))) (v3 ++ ((List.replicate 1 (Ty.zero (.int .i64))).set 0 v1))) else none)
 else (k0 v3))
noncomputable def spec_l04Tree_l0_go {α : Type} (p : Nat) (v0 : (Ty.T TNetwork)) : Nat → (Int) → (List Int) → ((List Int) → Option α) → Option α
  | 0, _, _, _ => none
  | q + 1, v1, v3, k0 => spec_l04Tree_l0_r p v0 (fun v1 v3 => spec_l04Tree_l0_go p v0 q v1 v3 k0) v1 v3 k0
def spec_l04Tree_l0_sh : Sh := ⟨[⟨0, false, [.ref TNetwork 0]⟩, ⟨3, false, [.lit (.own 0 0)]⟩, ⟨4, false, [.lit (.own 1 0)]⟩, ⟨5, false, [.int .i64]⟩], 2, [(0, .arr 0 (.int .i64)), (1, .arr 0 (.int .i64))]⟩
noncomputable def spec_l04Tree_l2_r {α : Type} (p : Nat) (v2 : Int) (v3 : Int) (rec : (Int) → (List Int) → Option α) (v4 : Int) (v6 : List Int) (k0 : (List Int) → Option α) : Option α :=
  (bif (decide (v4 < (v6.length : Int))) then (if 0 ≤ v4 ∧ v4 < (v6.length : Int) then (bif ((v6.getD v4.toNat (Ty.zero (.int .i64))) == v3) then (if 0 ≤ v4 ∧ v4 < (v6.length : Int) then (rec (IntKind.wrap .i64 (v4 + (1 : Int))) (v6.set v4.toNat v2)) else none)
 else (rec (IntKind.wrap .i64 (v4 + (1 : Int))) v6)) else none)
 else (k0 v6))
noncomputable def spec_l04Tree_l2_go {α : Type} (p : Nat) (v2 : Int) (v3 : Int) : Nat → (Int) → (List Int) → ((List Int) → Option α) → Option α
  | 0, _, _, _ => none
  | q + 1, v4, v6, k0 => spec_l04Tree_l2_r p v2 v3 (fun v4 v6 => spec_l04Tree_l2_go p v2 v3 q v4 v6 k0) v4 v6 k0
def spec_l04Tree_l2_sh : Sh := ⟨[⟨0, false, [.ref TNetwork 0]⟩, ⟨3, false, [.lit (.own 0 0)]⟩, ⟨4, false, [.lit (.own 1 0)]⟩, ⟨6, false, [.int .i64]⟩, ⟨7, false, [.int .i64]⟩, ⟨8, false, [.int .i64]⟩, ⟨9, false, [.int .i64]⟩], 2, [(0, .arr 0 (.int .i64)), (1, .arr 0 (.int .i64))]⟩
noncomputable def spec_l04Tree_l1_r {α : Type} (p : Nat) (v0 : (Ty.T TNetwork)) (rec : (Int) → (List Int) → (List Int) → Option α) (v1 : Int) (v2 : List Int) (v3 : List Int) (k0 : (List Int) → Option α) : Option α :=
  (bif (decide (v1 < (v0.2.length : Int))) then (if 0 ≤ v1 then (v0.2[v1.toNat]?).bind fun y2 => (if 0 ≤ y2.2.1 ∧ y2.2.1 < (v3.length : Int) then (if 0 ≤ v1 then (v0.2[v1.toNat]?).bind fun y3 => (if 0 ≤ y3.2.2.1 ∧ y3.2.2.1 < (v3.length : Int) then (bif ((v3.getD y2.2.1.toNat (Ty.zero (.int .i64))) == (v3.getD y3.2.2.1.toNat (Ty.zero (.int .i64)))) then (rec (IntKind.wrap .i64 (v1 + (1 : Int))) v2 v3)
 else (bif capOk (v2.length + ((List.replicate 1 (Ty.zero (.int .i64))).set 0 v1).length) 8 then (spec_l04Tree_l2_go p (v3.getD y2.2.1.toNat (Ty.zero (.int .i64))) (v3.getD y3.2.2.1.toNat (Ty.zero (.int .i64))) p (0 : Int) v3 (fun o4 => (rec (IntKind.wrap .i64 (v1 + (1 : Int))) (v2 ++ ((List.replicate 1 (Ty.zero (.int .i64))).set 0 v1)) o4))) else none)) else none) else none) else none) else none)
 else (k0 v2))
noncomputable def spec_l04Tree_l1_go {α : Type} (p : Nat) (v0 : (Ty.T TNetwork)) : Nat → (Int) → (List Int) → (List Int) → ((List Int) → Option α) → Option α
  | 0, _, _, _, _ => none
  | q + 1, v1, v2, v3, k0 => spec_l04Tree_l1_r p v0 (fun v1 v2 v3 => spec_l04Tree_l1_go p v0 q v1 v2 v3 k0) v1 v2 v3 k0
def spec_l04Tree_l1_sh : Sh := ⟨[⟨0, false, [.ref TNetwork 0]⟩, ⟨3, false, [.lit (.own 0 0)]⟩, ⟨4, false, [.lit (.own 1 0)]⟩, ⟨6, false, [.int .i64]⟩], 2, [(0, .arr 0 (.int .i64)), (1, .arr 0 (.int .i64))]⟩
noncomputable def spec_l04Tree_lc0 (p : Nat) : LC := LC.alts 0 [⟨0, spec_l04Tree_l0_sh, fun x {α} k => spec_l04Tree_l0_go p x.1.1.1 p x.1.2.2.2.1.1 x.2.2.1 (fun o2 => k (.exit 0) ⟨[(0, .one ⟨false, [.ref TNetwork x.1.1.1 0]⟩), (3, .one ⟨false, [.own 0 0]⟩), (4, .one ⟨false, [.own 1 0]⟩)], 2, [(0, .arr 0 (.int .i64) x.2.1), (1, .arr 0 (.int .i64) o2)]⟩)⟩]
noncomputable def spec_l04Tree_lc1 (p : Nat) : LC := LC.alts 0 [⟨0, spec_l04Tree_l2_sh, fun x {α} k => spec_l04Tree_l2_go p x.1.2.2.2.2.1.1 x.1.2.2.2.2.2.1.1 p x.1.2.2.2.2.2.2.1.1 x.2.2.1 (fun o3 => k (.exit 4) ⟨[(0, .one ⟨false, [.ref TNetwork x.1.1.1 0]⟩), (3, .one ⟨false, [.own 0 0]⟩), (4, .one ⟨false, [.own 1 0]⟩), (6, .one ⟨false, [.int .i64 x.1.2.2.2.1.1]⟩)], 2, [(0, .arr 0 (.int .i64) x.2.1), (1, .arr 0 (.int .i64) o3)]⟩)⟩]
noncomputable def spec_l04Tree_lc2 (p : Nat) : LC := LC.alts 0 [⟨0, spec_l04Tree_l1_sh, fun x {α} k => spec_l04Tree_l1_go p x.1.1.1 p x.1.2.2.2.1.1 x.2.1 x.2.2.1 (fun o0 => k (.exit 2) ⟨[(3, .one ⟨false, [.own 0 0]⟩)], 1, [(0, .arr 0 (.int .i64) o0)]⟩)⟩]
noncomputable def spec_l04Tree_lt (p : Nat) : LT := (.node .leaf (.node .leaf (.node .leaf (.node (.node .leaf (.loop [0, 3, 4, 5] [0, 3, 4] (some (spec_l04Tree_lc0 p)) .leaf)) (.node (.node .leaf (.loop [0, 3, 4, 6] [3] (some (spec_l04Tree_lc2 p)) (.node .leaf (.node (.node .leaf (.node .leaf (.node .leaf (.node .leaf (.node .leaf (.loop [0, 3, 4, 6, 7, 8, 9] [0, 3, 4, 6] (some (spec_l04Tree_lc1 p)) .leaf)))))) .leaf)))) .leaf)))))
noncomputable def spec_l04Tree_G (p : Nat) : FuncId → Option CE := glist []
noncomputable def spec_l04Tree_c0 : Code := codeAt [1, 1, 1, 0, 1, 0, 0] (bodyOf Try.f89)
noncomputable def spec_l04Tree_it0 {α : Type} (p n b : Nat) (k : Ex → St → Option α) (q : Nat) (st : St) : Option α :=
  iter (fun s q => aexec Try.prog (spec_l04Tree_G p) (fun g lt args st (k : D → St → Option α) => acall Try.prog (spec_l04Tree_G p) 5 (n + 0) g lt args st k) 5 b 80 spec_l04Tree_c0 .leaf s q) (canon b [0, 3, 4, 5]) q st (fun e s => k e (canon b [0, 3, 4] s))
theorem spec_l04Tree_l0_step {α : Type} (p n : Nat) (k : Ex → St → Option α) (v0 : (Ty.T TNetwork)) (v2 : List Int) (q : Nat) (v1 : Int) (v3 : List Int) : spec_l04Tree_it0 p n 0 k (q + 1) (spec_l04Tree_l0_sh.mk' (((v0, ()), ((), ()), ((), ()), (v1, ()), ()), (v2, v3, ()))) =
  spec_l04Tree_l0_r p v0 (fun v1 v3 => spec_l04Tree_it0 p n 0 k q (spec_l04Tree_l0_sh.mk' (((v0, ()), ((), ()), ((), ()), (v1, ()), ()), (v2, v3, ())))) v1 v3 (fun o2 => k (.exit 0) ⟨[(0, .one ⟨false, [.ref TNetwork v0 0]⟩), (3, .one ⟨false, [.own 0 0]⟩), (4, .one ⟨false, [.own 1 0]⟩)], 2, [(0, .arr 0 (.int .i64) v2), (1, .arr 0 (.int .i64) o2)]⟩) := by kernel_rfl
theorem spec_l04Tree_l0_ok {α : Type} (p n : Nat) (k : Ex → St → Option α) (v0 : (Ty.T TNetwork)) (v2 : List Int) : ∀ (q : Nat) (v1 : Int) (v3 : List Int), spec_l04Tree_it0 p n 0 k q (spec_l04Tree_l0_sh.mk' (((v0, ()), ((), ()), ((), ()), (v1, ()), ()), (v2, v3, ()))) =
  spec_l04Tree_l0_go p v0 q v1 v3 (fun o2 => k (.exit 0) ⟨[(0, .one ⟨false, [.ref TNetwork v0 0]⟩), (3, .one ⟨false, [.own 0 0]⟩), (4, .one ⟨false, [.own 1 0]⟩)], 2, [(0, .arr 0 (.int .i64) v2), (1, .arr 0 (.int .i64) o2)]⟩) := by
  intro q
  induction q with
  | zero => intros; rfl
  | succ q ih => intro v1 v3; rw [spec_l04Tree_l0_step]; simp only [ih]; rfl
noncomputable def spec_l04Tree_c1 : Code := codeAt [1, 1, 1, 1, 0, 1, 0, 0, 1, 0, 0, 1, 1, 1, 1, 1, 0, 0] (bodyOf Try.f89)
noncomputable def spec_l04Tree_it1 {α : Type} (p n b : Nat) (k : Ex → St → Option α) (q : Nat) (st : St) : Option α :=
  iter (fun s q => aexec Try.prog (spec_l04Tree_G p) (fun g lt args st (k : D → St → Option α) => acall Try.prog (spec_l04Tree_G p) 5 (n + 0) g lt args st k) 5 b 80 spec_l04Tree_c1 .leaf s q) (canon b [0, 3, 4, 6, 7, 8, 9]) q st (fun e s => k e (canon b [0, 3, 4, 6] s))
theorem spec_l04Tree_l2_step {α : Type} (p n : Nat) (k : Ex → St → Option α) (v0 : (Ty.T TNetwork)) (v1 : Int) (v2 : Int) (v3 : Int) (v5 : List Int) (q : Nat) (v4 : Int) (v6 : List Int) : spec_l04Tree_it1 p n 0 k (q + 1) (spec_l04Tree_l2_sh.mk' (((v0, ()), ((), ()), ((), ()), (v1, ()), (v2, ()), (v3, ()), (v4, ()), ()), (v5, v6, ()))) =
  spec_l04Tree_l2_r p v2 v3 (fun v4 v6 => spec_l04Tree_it1 p n 0 k q (spec_l04Tree_l2_sh.mk' (((v0, ()), ((), ()), ((), ()), (v1, ()), (v2, ()), (v3, ()), (v4, ()), ()), (v5, v6, ())))) v4 v6 (fun o3 => k (.exit 4) ⟨[(0, .one ⟨false, [.ref TNetwork v0 0]⟩), (3, .one ⟨false, [.own 0 0]⟩), (4, .one ⟨false, [.own 1 0]⟩), (6, .one ⟨false, [.int .i64 v1]⟩)], 2, [(0, .arr 0 (.int .i64) v5), (1, .arr 0 (.int .i64) o3)]⟩) := by kernel_rfl
theorem spec_l04Tree_l2_ok {α : Type} (p n : Nat) (k : Ex → St → Option α) (v0 : (Ty.T TNetwork)) (v1 : Int) (v2 : Int) (v3 : Int) (v5 : List Int) : ∀ (q : Nat) (v4 : Int) (v6 : List Int), spec_l04Tree_it1 p n 0 k q (spec_l04Tree_l2_sh.mk' (((v0, ()), ((), ()), ((), ()), (v1, ()), (v2, ()), (v3, ()), (v4, ()), ()), (v5, v6, ()))) =
  spec_l04Tree_l2_go p v2 v3 q v4 v6 (fun o3 => k (.exit 4) ⟨[(0, .one ⟨false, [.ref TNetwork v0 0]⟩), (3, .one ⟨false, [.own 0 0]⟩), (4, .one ⟨false, [.own 1 0]⟩), (6, .one ⟨false, [.int .i64 v1]⟩)], 2, [(0, .arr 0 (.int .i64) v5), (1, .arr 0 (.int .i64) o3)]⟩) := by
  intro q
  induction q with
  | zero => intros; rfl
  | succ q ih => intro v4 v6; rw [spec_l04Tree_l2_step]; simp only [ih]; rfl
noncomputable def spec_l04Tree_c2 : Code := codeAt [1, 1, 1, 1, 0, 1, 0, 0] (bodyOf Try.f89)
noncomputable def spec_l04Tree_it2 {α : Type} (p n b : Nat) (k : Ex → St → Option α) (q : Nat) (st : St) : Option α :=
  iter (fun s q => aexec Try.prog (spec_l04Tree_G p) (fun g lt args st (k : D → St → Option α) => acall Try.prog (spec_l04Tree_G p) 5 (n + 0) g lt args st k) 5 b 80 spec_l04Tree_c2 (.node .leaf (.node (.node .leaf (.node .leaf (.node .leaf (.node .leaf (.node .leaf (.loop [0, 3, 4, 6, 7, 8, 9] [0, 3, 4, 6] (some (spec_l04Tree_lc1 p)) .leaf)))))) .leaf)) s q) (canon b [0, 3, 4, 6]) q st (fun e s => k e (canon b [3] s))
theorem spec_l04Tree_l1_step {α : Type} (p n : Nat) (k : Ex → St → Option α) (v0 : (Ty.T TNetwork)) (q : Nat) (v1 : Int) (v2 : List Int) (v3 : List Int) : spec_l04Tree_it2 p n 0 k (q + 1) (spec_l04Tree_l1_sh.mk' (((v0, ()), ((), ()), ((), ()), (v1, ()), ()), (v2, v3, ()))) =
  spec_l04Tree_l1_r p v0 (fun v1 v2 v3 => spec_l04Tree_it2 p n 0 k q (spec_l04Tree_l1_sh.mk' (((v0, ()), ((), ()), ((), ()), (v1, ()), ()), (v2, v3, ())))) v1 v2 v3 (fun o0 => k (.exit 2) ⟨[(3, .one ⟨false, [.own 0 0]⟩)], 1, [(0, .arr 0 (.int .i64) o0)]⟩) := by kernel_rfl
theorem spec_l04Tree_l1_ok {α : Type} (p n : Nat) (k : Ex → St → Option α) (v0 : (Ty.T TNetwork)) : ∀ (q : Nat) (v1 : Int) (v2 : List Int) (v3 : List Int), spec_l04Tree_it2 p n 0 k q (spec_l04Tree_l1_sh.mk' (((v0, ()), ((), ()), ((), ()), (v1, ()), ()), (v2, v3, ()))) =
  spec_l04Tree_l1_go p v0 q v1 v2 v3 (fun o0 => k (.exit 2) ⟨[(3, .one ⟨false, [.own 0 0]⟩)], 1, [(0, .arr 0 (.int .i64) o0)]⟩) := by
  intro q
  induction q with
  | zero => intros; rfl
  | succ q ih => intro v1 v2 v3; rw [spec_l04Tree_l1_step]; simp only [ih]; rfl
theorem spec_l04Tree_ltok_89_ls (p : Nat) : loopsOf (bodyOf Try.f89) (spec_l04Tree_lt p) = [⟨spec_l04Tree_c0, [0, 3, 4, 5], [0, 3, 4], spec_l04Tree_lc0 p, .leaf⟩, ⟨spec_l04Tree_c2, [0, 3, 4, 6], [3], spec_l04Tree_lc2 p, (.node .leaf (.node (.node .leaf (.node .leaf (.node .leaf (.node .leaf (.node .leaf (.loop [0, 3, 4, 6, 7, 8, 9] [0, 3, 4, 6] (some (spec_l04Tree_lc1 p)) .leaf)))))) .leaf))⟩, ⟨spec_l04Tree_c1, [0, 3, 4, 6, 7, 8, 9], [0, 3, 4, 6], spec_l04Tree_lc1 p, .leaf⟩] := by kernel_rfl
theorem spec_l04Tree_ltok_89_dep (p : Nat) : LT.dep (spec_l04Tree_lt p) = 0 := by kernel_rfl
theorem spec_l04Tree_ltok_89 (p : Nat) : LTok Try.prog (spec_l04Tree_G p) 5 89 (spec_l04Tree_lt p) := by
  intro α n base fn c hd hfn hc
  have hfn' : some fn = some Try.f89 := hfn.symm.trans Try.func89
  cases hfn'
  have hc' : c = bodyOf Try.f89 := by unfold bodyOf; rw [hc]; rfl
  subst hc'
  rw [spec_l04Tree_ltok_89_dep] at hd
  obtain ⟨n, rfl⟩ := Nat.exists_eq_add_of_le' hd
  apply LTS_of_loops
  rw [spec_l04Tree_ltok_89_ls]
  intro e he st k r h
  simp only [List.mem_cons, List.not_mem_nil, or_false] at he
  rcases he with rfl | rfl | rfl
  · obtain ⟨a, ha, hb, x, rfl, h⟩ := altRun_ok h
    simp only [List.mem_cons, List.not_mem_nil, or_false] at ha
    subst ha
    · cases hb; exact ⟨p, (spec_l04Tree_l0_ok p n k _ _ p _ _).trans h⟩
  · obtain ⟨a, ha, hb, x, rfl, h⟩ := altRun_ok h
    simp only [List.mem_cons, List.not_mem_nil, or_false] at ha
    subst ha
    · cases hb; exact ⟨p, (spec_l04Tree_l1_ok p n k _ p _ _ _).trans h⟩
  · obtain ⟨a, ha, hb, x, rfl, h⟩ := altRun_ok h
    simp only [List.mem_cons, List.not_mem_nil, or_false] at ha
    subst ha
    · cases hb; exact ⟨p, (spec_l04Tree_l2_ok p n k _ _ _ _ _ p _ _).trans h⟩
theorem spec_l04Tree_E (p : Nat) : EnvS Try.prog (spec_l04Tree_G p) := by
  apply glist_env; intro f ce h
  simp only [List.mem_cons, List.not_mem_nil, or_false, Prod.mk.injEq] at h
  
theorem spec_l04Tree_I (p : Nat) : ∀ f lt, spec_l04Tree_G p f = some (.inl lt) → LTok Try.prog (spec_l04Tree_G p) 5 f lt := by
  apply glist_inl; intro f lt h
  simp only [List.mem_cons, List.not_mem_nil, or_false, Prod.mk.injEq, CE.inl.injEq, and_false, or_false, false_or, reduceCtorEq] at h
  
noncomputable def spec_l04Tree_p (p : Nat) (a0 : (Ty.T TNetwork)) : Option ((List Int) × Unit) :=
  (spec_l04Tree_l0_go p a0 p (0 : Int) (List.replicate 0 (Ty.zero (.int .i64))) (fun o1 => (spec_l04Tree_l1_go p a0 p (0 : Int) (List.replicate 0 (Ty.zero (.int .i64))) o1 (fun o5 => some (o5, ())))))
theorem spec_l04Tree_run (p : Nat) (x : (parsT [.ptr TNetwork]).T) : acall Try.prog (spec_l04Tree_G p) 5 1 89 (spec_l04Tree_lt p) (argAVs [.ptr TNetwork] x) ⟨[], 0, []⟩ (outO [(.slice (.int .i64))]) = spec_l04Tree_p p x.1 := by kernel_rfl
noncomputable def spec_l04Tree_c (p : Nat) : PC := PC.fnO true [.ptr TNetwork] [(.slice (.int .i64))] fun x => spec_l04Tree_p p x.1
theorem spec_l04Tree_s (p : Nat) : PSound Try.prog 89 (spec_l04Tree_c p) := own_sound (spec_l04Tree_E p) Try.checked.mixed (spec_l04Tree_I p) (spec_l04Tree_ltok_89 p) (fun _ => rfl) fun x y h => (spec_l04Tree_run p x).trans h
/-! spec.l04IsTree -/
noncomputable def spec_l04IsTree_G (p : Nat) : FuncId → Option CE := glist [(89, .pure (spec_l04Tree_c p))]
theorem spec_l04IsTree_E (p : Nat) : EnvS Try.prog (spec_l04IsTree_G p) := by
  apply glist_env; intro f ce h
  simp only [List.mem_cons, List.not_mem_nil, or_false, Prod.mk.injEq] at h
  rcases h with ⟨rfl, rfl⟩
  · exact spec_l04Tree_s p
theorem spec_l04IsTree_I (p : Nat) : ∀ f lt, spec_l04IsTree_G p f = some (.inl lt) → LTok Try.prog (spec_l04IsTree_G p) 5 f lt := by
  apply glist_inl; intro f lt h
  simp only [List.mem_cons, List.not_mem_nil, or_false, Prod.mk.injEq, CE.inl.injEq, and_false, or_false, false_or, reduceCtorEq] at h
  
noncomputable def spec_l04IsTree_p (p : Nat) (a0 : (Ty.T TNetwork)) : Option (Bool × Unit) :=
  (bif ((a0.2.length : Int) == (IntKind.wrap .i64 ((a0.1.length : Int) - (1 : Int)))) then ((spec_l04Tree_p p a0).bind fun r1 => some (((r1.1.length : Int) == (a0.2.length : Int)), ()))
 else some (false, ()))
theorem spec_l04IsTree_run (p : Nat) (x : (parsT [.ptr TNetwork]).T) : acall Try.prog (spec_l04IsTree_G p) 5 1 59 .leaf (argAVs [.ptr TNetwork] x) ⟨[], 0, []⟩ (outR [.bool]) = spec_l04IsTree_p p x.1 := by kernel_rfl
noncomputable def spec_l04IsTree_c (p : Nat) : PC := PC.fn true [.ptr TNetwork] [.bool] fun x => spec_l04IsTree_p p x.1
theorem spec_l04IsTree_s (p : Nat) : PSound Try.prog 59 (spec_l04IsTree_c p) := pure_sound (spec_l04IsTree_E p) Try.checked.mixed (spec_l04IsTree_I p) LTok_leaf (fun _ => rfl) fun x y h => (spec_l04IsTree_run p x).trans h
/-! spec.l07Given -/
noncomputable def spec_l07Given_G (p : Nat) : FuncId → Option CE := glist [(22, .pure (spec_l07Ask_c p)), (57, .pure (spec_l03Press_c p)), (58, .pure (spec_l07Flows_c p)), (59, .pure (spec_l04IsTree_c p))]
theorem spec_l07Given_E (p : Nat) : EnvS Try.prog (spec_l07Given_G p) := by
  apply glist_env; intro f ce h
  simp only [List.mem_cons, List.not_mem_nil, or_false, Prod.mk.injEq] at h
  rcases h with ⟨rfl, rfl⟩ | ⟨rfl, rfl⟩ | ⟨rfl, rfl⟩ | ⟨rfl, rfl⟩
  · exact spec_l07Ask_s p
  · exact spec_l03Press_s p
  · exact spec_l07Flows_s p
  · exact spec_l04IsTree_s p
theorem spec_l07Given_I (p : Nat) : ∀ f lt, spec_l07Given_G p f = some (.inl lt) → LTok Try.prog (spec_l07Given_G p) 5 f lt := by
  apply glist_inl; intro f lt h
  simp only [List.mem_cons, List.not_mem_nil, or_false, Prod.mk.injEq, CE.inl.injEq, and_false, or_false, false_or, reduceCtorEq] at h
  
noncomputable def spec_l07Given_p (p : Nat) (a0 : (Ty.T TNetwork)) (a1 : Int) (a2 : Int) (a3 : (List Int)) : Option (Int × Unit) :=
  ((spec_l07Ask_p p a0 a1).bind fun r1 => (bif (r1.1 != (0 : Int)) then some (r1.1, ())
 else ((spec_l03Press_p p a2).bind fun r2 => (bif (!r2.1) then some ((2 : Int), ())
 else ((spec_l07Flows_p p a0 a3).bind fun r3 => (bif (!r3.1) then some ((7 : Int), ())
 else ((spec_l04IsTree_p p a0).bind fun r4 => (bif (!r4.1) then some ((6 : Int), ())
 else some ((0 : Int), ())))))))))
theorem spec_l07Given_run (p : Nat) (x : (parsT [.ptr TNetwork, .val (.int .i64), .val (.int .i64), .val (.slice (.int .i64))]).T) : acall Try.prog (spec_l07Given_G p) 5 1 24 .leaf (argAVs [.ptr TNetwork, .val (.int .i64), .val (.int .i64), .val (.slice (.int .i64))] x) ⟨[], 0, []⟩ (outR [(.int .i64)]) = spec_l07Given_p p x.1 x.2.1 x.2.2.1 x.2.2.2.1 := by kernel_rfl
noncomputable def spec_l07Given_c (p : Nat) : PC := PC.fn true [.ptr TNetwork, .val (.int .i64), .val (.int .i64), .val (.slice (.int .i64))] [(.int .i64)] fun x => spec_l07Given_p p x.1 x.2.1 x.2.2.1 x.2.2.2.1
theorem spec_l07Given_s (p : Nat) : PSound Try.prog 24 (spec_l07Given_c p) := pure_sound (spec_l07Given_E p) Try.checked.mixed (spec_l07Given_I p) LTok_leaf (fun _ => rfl) fun x y h => (spec_l07Given_run p x).trans h
/-! spec.l07Order -/
noncomputable def spec_l07Order_l1_r {α : Type} (p : Nat) (v0 : (Ty.T TNetwork)) (v1 : Int) (rec : (Int) → (List Int) → (List Int) → (List Bool) → Option α) (v2 : Int) (v3 : List Int) (v4 : List Int) (v5 : List Bool) (k0 : (List Int) → (List Int) → (List Bool) → Option α) : Option α :=
  (bif (decide (v2 < (v0.2.length : Int))) then (if 0 ≤ v2 then (v0.2[v2.toNat]?).bind fun y1 => (if 0 ≤ v1 ∧ v1 < (v3.length : Int) then (bif (y1.2.1 == (v3.getD v1.toNat (Ty.zero (.int .i64)))) then (if 0 ≤ y1.2.2.1 ∧ y1.2.2.1 < (v5.length : Int) then (bif (!(v5.getD y1.2.2.1.toNat (Ty.zero .bool))) then (if 0 ≤ y1.2.2.1 ∧ y1.2.2.1 < (v5.length : Int) then (if 0 ≤ y1.2.2.1 ∧ y1.2.2.1 < (v4.length : Int) then (bif capOk (v3.length + ((List.replicate 1 (Ty.zero (.int .i64))).set 0 y1.2.2.1).length) 8 then (if 0 ≤ v1 ∧ v1 < ((v3 ++ ((List.replicate 1 (Ty.zero (.int .i64))).set 0 y1.2.2.1)).length : Int) then (bif (y1.2.2.1 == ((v3 ++ ((List.replicate 1 (Ty.zero (.int .i64))).set 0 y1.2.2.1)).getD v1.toNat (Ty.zero (.int .i64)))) then (if 0 ≤ y1.2.1 ∧ y1.2.1 < ((v5.set y1.2.2.1.toNat true).length : Int) then (bif (!((v5.set y1.2.2.1.toNat true).getD y1.2.1.toNat (Ty.zero .bool))) then (if 0 ≤ y1.2.1 ∧ y1.2.1 < ((v5.set y1.2.2.1.toNat true).length : Int) then (if 0 ≤ y1.2.1 ∧ y1.2.1 < ((v4.set y1.2.2.1.toNat (IntKind.wrap .i64 (v2 + (1 : Int)))).length : Int) then (bif capOk ((v3 ++ ((List.replicate 1 (Ty.zero (.int .i64))).set 0 y1.2.2.1)).length + ((List.replicate 1 (Ty.zero (.int .i64))).set 0 y1.2.1).length) 8 then (rec (IntKind.wrap .i64 (v2 + (1 : Int))) ((v3 ++ ((List.replicate 1 (Ty.zero (.int .i64))).set 0 y1.2.2.1)) ++ ((List.replicate 1 (Ty.zero (.int .i64))).set 0 y1.2.1)) ((v4.set y1.2.2.1.toNat (IntKind.wrap .i64 (v2 + (1 : Int)))).set y1.2.1.toNat (IntKind.wrap .i64 ((IntKind.wrap .i64 (0 - v2)) - (1 : Int)))) ((v5.set y1.2.2.1.toNat true).set y1.2.1.toNat true)) else none) else none) else none)
 else (rec (IntKind.wrap .i64 (v2 + (1 : Int))) (v3 ++ ((List.replicate 1 (Ty.zero (.int .i64))).set 0 y1.2.2.1)) (v4.set y1.2.2.1.toNat (IntKind.wrap .i64 (v2 + (1 : Int)))) (v5.set y1.2.2.1.toNat true))) else none)
 else (rec (IntKind.wrap .i64 (v2 + (1 : Int))) (v3 ++ ((List.replicate 1 (Ty.zero (.int .i64))).set 0 y1.2.2.1)) (v4.set y1.2.2.1.toNat (IntKind.wrap .i64 (v2 + (1 : Int)))) (v5.set y1.2.2.1.toNat true))) else none) else none) else none) else none)
 else (if 0 ≤ v1 ∧ v1 < (v3.length : Int) then (bif (y1.2.2.1 == (v3.getD v1.toNat (Ty.zero (.int .i64)))) then (if 0 ≤ y1.2.1 ∧ y1.2.1 < (v5.length : Int) then (bif (!(v5.getD y1.2.1.toNat (Ty.zero .bool))) then (if 0 ≤ y1.2.1 ∧ y1.2.1 < (v5.length : Int) then (if 0 ≤ y1.2.1 ∧ y1.2.1 < (v4.length : Int) then (bif capOk (v3.length + ((List.replicate 1 (Ty.zero (.int .i64))).set 0 y1.2.1).length) 8 then (rec (IntKind.wrap .i64 (v2 + (1 : Int))) (v3 ++ ((List.replicate 1 (Ty.zero (.int .i64))).set 0 y1.2.1)) (v4.set y1.2.1.toNat (IntKind.wrap .i64 ((IntKind.wrap .i64 (0 - v2)) - (1 : Int)))) (v5.set y1.2.1.toNat true)) else none) else none) else none)
 else (rec (IntKind.wrap .i64 (v2 + (1 : Int))) v3 v4 v5)) else none)
 else (rec (IntKind.wrap .i64 (v2 + (1 : Int))) v3 v4 v5)) else none)) else none)
 else (if 0 ≤ v1 ∧ v1 < (v3.length : Int) then (bif (y1.2.2.1 == (v3.getD v1.toNat (Ty.zero (.int .i64)))) then (if 0 ≤ y1.2.1 ∧ y1.2.1 < (v5.length : Int) then (bif (!(v5.getD y1.2.1.toNat (Ty.zero .bool))) then (if 0 ≤ y1.2.1 ∧ y1.2.1 < (v5.length : Int) then (if 0 ≤ y1.2.1 ∧ y1.2.1 < (v4.length : Int) then (bif capOk (v3.length + ((List.replicate 1 (Ty.zero (.int .i64))).set 0 y1.2.1).length) 8 then (rec (IntKind.wrap .i64 (v2 + (1 : Int))) (v3 ++ ((List.replicate 1 (Ty.zero (.int .i64))).set 0 y1.2.1)) (v4.set y1.2.1.toNat (IntKind.wrap .i64 ((IntKind.wrap .i64 (0 - v2)) - (1 : Int)))) (v5.set y1.2.1.toNat true)) else none) else none) else none)
 else (rec (IntKind.wrap .i64 (v2 + (1 : Int))) v3 v4 v5)) else none)
 else (rec (IntKind.wrap .i64 (v2 + (1 : Int))) v3 v4 v5)) else none)) else none) else none)
 else (k0 v3 v4 v5))
noncomputable def spec_l07Order_l1_go {α : Type} (p : Nat) (v0 : (Ty.T TNetwork)) (v1 : Int) : Nat → (Int) → (List Int) → (List Int) → (List Bool) → ((List Int) → (List Int) → (List Bool) → Option α) → Option α
  | 0, _, _, _, _, _ => none
  | q + 1, v2, v3, v4, v5, k0 => spec_l07Order_l1_r p v0 v1 (fun v2 v3 v4 v5 => spec_l07Order_l1_go p v0 v1 q v2 v3 v4 v5 k0) v2 v3 v4 v5 k0
def spec_l07Order_l1_sh : Sh := ⟨[⟨0, false, [.ref TNetwork 0]⟩, ⟨6, false, [.lit (.own 0 0)]⟩, ⟨7, false, [.lit (.own 1 0)]⟩, ⟨8, false, [.lit (.own 2 0)]⟩, ⟨9, false, [.int .i64]⟩, ⟨10, false, [.int .i64]⟩], 3, [(0, .arr 0 (.int .i64)), (1, .arr 0 (.int .i64)), (2, .arr 0 .bool)]⟩
noncomputable def spec_l07Order_l0_r {α : Type} (p : Nat) (v0 : (Ty.T TNetwork)) (rec : (Int) → (List Int) → (List Int) → (List Bool) → Option α) (v1 : Int) (v2 : List Int) (v3 : List Int) (v4 : List Bool) (k0 : (List Int) → (List Int) → Option α) : Option α :=
  (bif (decide (v1 < (v2.length : Int))) then (spec_l07Order_l1_go p v0 v1 p (0 : Int) v2 v3 v4 (fun o2 o3 o4 => (rec (IntKind.wrap .i64 (v1 + (1 : Int))) o2 o3 o4)))
 else (k0 v2 v3))
noncomputable def spec_l07Order_l0_go {α : Type} (p : Nat) (v0 : (Ty.T TNetwork)) : Nat → (Int) → (List Int) → (List Int) → (List Bool) → ((List Int) → (List Int) → Option α) → Option α
  | 0, _, _, _, _, _ => none
  | q + 1, v1, v2, v3, v4, k0 => spec_l07Order_l0_r p v0 (fun v1 v2 v3 v4 => spec_l07Order_l0_go p v0 q v1 v2 v3 v4 k0) v1 v2 v3 v4 k0
def spec_l07Order_l0_sh : Sh := ⟨[⟨0, false, [.ref TNetwork 0]⟩, ⟨6, false, [.lit (.own 0 0)]⟩, ⟨7, false, [.lit (.own 1 0)]⟩, ⟨8, false, [.lit (.own 2 0)]⟩, ⟨9, false, [.int .i64]⟩], 3, [(0, .arr 0 (.int .i64)), (1, .arr 0 (.int .i64)), (2, .arr 0 .bool)]⟩
noncomputable def spec_l07Order_lc0 (p : Nat) : LC := LC.alts 0 [⟨0, spec_l07Order_l1_sh, fun x {α} k => spec_l07Order_l1_go p x.1.1.1 x.1.2.2.2.2.1.1 p x.1.2.2.2.2.2.1.1 x.2.1 x.2.2.1 x.2.2.2.1 (fun o2 o3 o4 => k (.exit 2) ⟨[(0, .one ⟨false, [.ref TNetwork x.1.1.1 0]⟩), (6, .one ⟨false, [.own 0 0]⟩), (7, .one ⟨false, [.own 1 0]⟩), (8, .one ⟨false, [.own 2 0]⟩), (9, .one ⟨false, [.int .i64 x.1.2.2.2.2.1.1]⟩)], 3, [(0, .arr 0 (.int .i64) o2), (1, .arr 0 (.int .i64) o3), (2, .arr 0 .bool o4)]⟩)⟩]
noncomputable def spec_l07Order_lc1 (p : Nat) : LC := LC.alts 0 [⟨0, spec_l07Order_l0_sh, fun x {α} k => spec_l07Order_l0_go p x.1.1.1 p x.1.2.2.2.2.1.1 x.2.1 x.2.2.1 x.2.2.2.1 (fun o0 o1 => k (.exit 0) ⟨[(6, .one ⟨false, [.own 0 0]⟩), (7, .one ⟨false, [.own 1 0]⟩)], 2, [(0, .arr 0 (.int .i64) o0), (1, .arr 0 (.int .i64) o1)]⟩)⟩]
noncomputable def spec_l07Order_lt (p : Nat) : LT := (.node .leaf (.node .leaf (.node .leaf (.node .leaf (.node .leaf (.node (.node .leaf (.loop [0, 6, 7, 8, 9] [6, 7] (some (spec_l07Order_lc1 p)) (.node .leaf (.node (.node .leaf (.loop [0, 6, 7, 8, 9, 10] [0, 6, 7, 8, 9] (some (spec_l07Order_lc0 p)) .leaf)) .leaf)))) .leaf))))))
noncomputable def spec_l07Order_G (p : Nat) : FuncId → Option CE := glist []
noncomputable def spec_l07Order_c0 : Code := codeAt [1, 1, 1, 1, 1, 0, 1, 0, 0, 1, 0, 0, 1, 0, 0] (bodyOf Try.f25)
noncomputable def spec_l07Order_it0 {α : Type} (p n b : Nat) (k : Ex → St → Option α) (q : Nat) (st : St) : Option α :=
  iter (fun s q => aexec Try.prog (spec_l07Order_G p) (fun g lt args st (k : D → St → Option α) => acall Try.prog (spec_l07Order_G p) 5 (n + 0) g lt args st k) 5 b 133 spec_l07Order_c0 .leaf s q) (canon b [0, 6, 7, 8, 9, 10]) q st (fun e s => k e (canon b [0, 6, 7, 8, 9] s))
theorem spec_l07Order_l1_step {α : Type} (p n : Nat) (k : Ex → St → Option α) (v0 : (Ty.T TNetwork)) (v1 : Int) (q : Nat) (v2 : Int) (v3 : List Int) (v4 : List Int) (v5 : List Bool) : spec_l07Order_it0 p n 0 k (q + 1) (spec_l07Order_l1_sh.mk' (((v0, ()), ((), ()), ((), ()), ((), ()), (v1, ()), (v2, ()), ()), (v3, v4, v5, ()))) =
  spec_l07Order_l1_r p v0 v1 (fun v2 v3 v4 v5 => spec_l07Order_it0 p n 0 k q (spec_l07Order_l1_sh.mk' (((v0, ()), ((), ()), ((), ()), ((), ()), (v1, ()), (v2, ()), ()), (v3, v4, v5, ())))) v2 v3 v4 v5 (fun o2 o3 o4 => k (.exit 2) ⟨[(0, .one ⟨false, [.ref TNetwork v0 0]⟩), (6, .one ⟨false, [.own 0 0]⟩), (7, .one ⟨false, [.own 1 0]⟩), (8, .one ⟨false, [.own 2 0]⟩), (9, .one ⟨false, [.int .i64 v1]⟩)], 3, [(0, .arr 0 (.int .i64) o2), (1, .arr 0 (.int .i64) o3), (2, .arr 0 .bool o4)]⟩) := by kernel_rfl
theorem spec_l07Order_l1_ok {α : Type} (p n : Nat) (k : Ex → St → Option α) (v0 : (Ty.T TNetwork)) (v1 : Int) : ∀ (q : Nat) (v2 : Int) (v3 : List Int) (v4 : List Int) (v5 : List Bool), spec_l07Order_it0 p n 0 k q (spec_l07Order_l1_sh.mk' (((v0, ()), ((), ()), ((), ()), ((), ()), (v1, ()), (v2, ()), ()), (v3, v4, v5, ()))) =
  spec_l07Order_l1_go p v0 v1 q v2 v3 v4 v5 (fun o2 o3 o4 => k (.exit 2) ⟨[(0, .one ⟨false, [.ref TNetwork v0 0]⟩), (6, .one ⟨false, [.own 0 0]⟩), (7, .one ⟨false, [.own 1 0]⟩), (8, .one ⟨false, [.own 2 0]⟩), (9, .one ⟨false, [.int .i64 v1]⟩)], 3, [(0, .arr 0 (.int .i64) o2), (1, .arr 0 (.int .i64) o3), (2, .arr 0 .bool o4)]⟩) := by
  intro q
  induction q with
  | zero => intros; rfl
  | succ q ih => intro v2 v3 v4 v5; rw [spec_l07Order_l1_step]; simp only [ih]; rfl
noncomputable def spec_l07Order_c1 : Code := codeAt [1, 1, 1, 1, 1, 0, 1, 0, 0] (bodyOf Try.f25)
noncomputable def spec_l07Order_it1 {α : Type} (p n b : Nat) (k : Ex → St → Option α) (q : Nat) (st : St) : Option α :=
  iter (fun s q => aexec Try.prog (spec_l07Order_G p) (fun g lt args st (k : D → St → Option α) => acall Try.prog (spec_l07Order_G p) 5 (n + 0) g lt args st k) 5 b 133 spec_l07Order_c1 (.node .leaf (.node (.node .leaf (.loop [0, 6, 7, 8, 9, 10] [0, 6, 7, 8, 9] (some (spec_l07Order_lc0 p)) .leaf)) .leaf)) s q) (canon b [0, 6, 7, 8, 9]) q st (fun e s => k e (canon b [6, 7] s))
theorem spec_l07Order_l0_step {α : Type} (p n : Nat) (k : Ex → St → Option α) (v0 : (Ty.T TNetwork)) (q : Nat) (v1 : Int) (v2 : List Int) (v3 : List Int) (v4 : List Bool) : spec_l07Order_it1 p n 0 k (q + 1) (spec_l07Order_l0_sh.mk' (((v0, ()), ((), ()), ((), ()), ((), ()), (v1, ()), ()), (v2, v3, v4, ()))) =
  spec_l07Order_l0_r p v0 (fun v1 v2 v3 v4 => spec_l07Order_it1 p n 0 k q (spec_l07Order_l0_sh.mk' (((v0, ()), ((), ()), ((), ()), ((), ()), (v1, ()), ()), (v2, v3, v4, ())))) v1 v2 v3 v4 (fun o0 o1 => k (.exit 0) ⟨[(6, .one ⟨false, [.own 0 0]⟩), (7, .one ⟨false, [.own 1 0]⟩)], 2, [(0, .arr 0 (.int .i64) o0), (1, .arr 0 (.int .i64) o1)]⟩) := by kernel_rfl
theorem spec_l07Order_l0_ok {α : Type} (p n : Nat) (k : Ex → St → Option α) (v0 : (Ty.T TNetwork)) : ∀ (q : Nat) (v1 : Int) (v2 : List Int) (v3 : List Int) (v4 : List Bool), spec_l07Order_it1 p n 0 k q (spec_l07Order_l0_sh.mk' (((v0, ()), ((), ()), ((), ()), ((), ()), (v1, ()), ()), (v2, v3, v4, ()))) =
  spec_l07Order_l0_go p v0 q v1 v2 v3 v4 (fun o0 o1 => k (.exit 0) ⟨[(6, .one ⟨false, [.own 0 0]⟩), (7, .one ⟨false, [.own 1 0]⟩)], 2, [(0, .arr 0 (.int .i64) o0), (1, .arr 0 (.int .i64) o1)]⟩) := by
  intro q
  induction q with
  | zero => intros; rfl
  | succ q ih => intro v1 v2 v3 v4; rw [spec_l07Order_l0_step]; simp only [ih]; rfl
theorem spec_l07Order_ltok_25_ls (p : Nat) : loopsOf (bodyOf Try.f25) (spec_l07Order_lt p) = [⟨spec_l07Order_c1, [0, 6, 7, 8, 9], [6, 7], spec_l07Order_lc1 p, (.node .leaf (.node (.node .leaf (.loop [0, 6, 7, 8, 9, 10] [0, 6, 7, 8, 9] (some (spec_l07Order_lc0 p)) .leaf)) .leaf))⟩, ⟨spec_l07Order_c0, [0, 6, 7, 8, 9, 10], [0, 6, 7, 8, 9], spec_l07Order_lc0 p, .leaf⟩] := by kernel_rfl
theorem spec_l07Order_ltok_25_dep (p : Nat) : LT.dep (spec_l07Order_lt p) = 0 := by kernel_rfl
theorem spec_l07Order_ltok_25 (p : Nat) : LTok Try.prog (spec_l07Order_G p) 5 25 (spec_l07Order_lt p) := by
  intro α n base fn c hd hfn hc
  have hfn' : some fn = some Try.f25 := hfn.symm.trans Try.func25
  cases hfn'
  have hc' : c = bodyOf Try.f25 := by unfold bodyOf; rw [hc]; rfl
  subst hc'
  rw [spec_l07Order_ltok_25_dep] at hd
  obtain ⟨n, rfl⟩ := Nat.exists_eq_add_of_le' hd
  apply LTS_of_loops
  rw [spec_l07Order_ltok_25_ls]
  intro e he st k r h
  simp only [List.mem_cons, List.not_mem_nil, or_false] at he
  rcases he with rfl | rfl
  · obtain ⟨a, ha, hb, x, rfl, h⟩ := altRun_ok h
    simp only [List.mem_cons, List.not_mem_nil, or_false] at ha
    subst ha
    · cases hb; exact ⟨p, (spec_l07Order_l0_ok p n k _ p _ _ _ _).trans h⟩
  · obtain ⟨a, ha, hb, x, rfl, h⟩ := altRun_ok h
    simp only [List.mem_cons, List.not_mem_nil, or_false] at ha
    subst ha
    · cases hb; exact ⟨p, (spec_l07Order_l1_ok p n k _ _ p _ _ _ _).trans h⟩
theorem spec_l07Order_E (p : Nat) : EnvS Try.prog (spec_l07Order_G p) := by
  apply glist_env; intro f ce h
  simp only [List.mem_cons, List.not_mem_nil, or_false, Prod.mk.injEq] at h
  
theorem spec_l07Order_I (p : Nat) : ∀ f lt, spec_l07Order_G p f = some (.inl lt) → LTok Try.prog (spec_l07Order_G p) 5 f lt := by
  apply glist_inl; intro f lt h
  simp only [List.mem_cons, List.not_mem_nil, or_false, Prod.mk.injEq, CE.inl.injEq, and_false, or_false, false_or, reduceCtorEq] at h
  
noncomputable def spec_l07Order_p (p : Nat) (a0 : (Ty.T TNetwork)) (a1 : Int) : Option ((List Int) × (List Int) × Unit) :=
  (if 0 ≤ (a0.1.length : Int) ∧ (a0.1.length : Int) ≤ (a0.1.length : Int) ∧ (a0.1.length : Int) * (8 : Int) ≤ 140737488355328 ∧ (a0.1.length : Int) ≤ 140737488355328 then (if 0 ≤ (a0.1.length : Int) ∧ (a0.1.length : Int) ≤ (a0.1.length : Int) ∧ (a0.1.length : Int) * (1 : Int) ≤ 140737488355328 ∧ (a0.1.length : Int) ≤ 140737488355328 then (if 0 ≤ a1 ∧ a1 < ((List.replicate (a0.1.length : Int).toNat (Ty.zero .bool)).length : Int) then (spec_l07Order_l0_go p a0 p (0 : Int) ((List.replicate 1 (Ty.zero (.int .i64))).set 0 a1) (List.replicate (a0.1.length : Int).toNat (Ty.zero (.int .i64))) ((List.replicate (a0.1.length : Int).toNat (Ty.zero .bool)).set a1.toNat true) (fun o5 o6 => some (o5, o6, ()))) else none) else none) else none)
theorem spec_l07Order_run (p : Nat) (x : (parsT [.ptr TNetwork, .val (.int .i64)]).T) : acall Try.prog (spec_l07Order_G p) 5 1 25 (spec_l07Order_lt p) (argAVs [.ptr TNetwork, .val (.int .i64)] x) ⟨[], 0, []⟩ (outO [(.slice (.int .i64)), (.slice (.int .i64))]) = spec_l07Order_p p x.1 x.2.1 := by kernel_rfl
noncomputable def spec_l07Order_c (p : Nat) : PC := PC.fnO true [.ptr TNetwork, .val (.int .i64)] [(.slice (.int .i64)), (.slice (.int .i64))] fun x => spec_l07Order_p p x.1 x.2.1
theorem spec_l07Order_s (p : Nat) : PSound Try.prog 25 (spec_l07Order_c p) := own_sound (spec_l07Order_E p) Try.checked.mixed (spec_l07Order_I p) (spec_l07Order_ltok_25 p) (fun _ => rfl) fun x y h => (spec_l07Order_run p x).trans h
/-! spec.l07Along -/
noncomputable def spec_l07Along_G (p : Nat) : FuncId → Option CE := glist []
theorem spec_l07Along_E (p : Nat) : EnvS Try.prog (spec_l07Along_G p) := by
  apply glist_env; intro f ce h
  simp only [List.mem_cons, List.not_mem_nil, or_false, Prod.mk.injEq] at h
  
theorem spec_l07Along_I (p : Nat) : ∀ f lt, spec_l07Along_G p f = some (.inl lt) → LTok Try.prog (spec_l07Along_G p) 5 f lt := by
  apply glist_inl; intro f lt h
  simp only [List.mem_cons, List.not_mem_nil, or_false, Prod.mk.injEq, CE.inl.injEq, and_false, or_false, false_or, reduceCtorEq] at h
  
noncomputable def spec_l07Along_p (p : Nat) (a0 : (List Int)) (a1 : Int) : Option (Int × Unit) :=
  (bif (decide (a1 > (0 : Int))) then (if 0 ≤ (IntKind.wrap .i64 (a1 - (1 : Int))) then (a0[(IntKind.wrap .i64 (a1 - (1 : Int))).toNat]?).bind fun y1 => some (y1, ()) else none)
 else (if 0 ≤ (IntKind.wrap .i64 ((IntKind.wrap .i64 (0 - a1)) - (1 : Int))) then (a0[(IntKind.wrap .i64 ((IntKind.wrap .i64 (0 - a1)) - (1 : Int))).toNat]?).bind fun y2 => some ((IntKind.wrap .i64 (0 - y2)), ()) else none))
theorem spec_l07Along_run (p : Nat) (x : (parsT [.val (.slice (.int .i64)), .val (.int .i64)]).T) : acall Try.prog (spec_l07Along_G p) 5 1 26 .leaf (argAVs [.val (.slice (.int .i64)), .val (.int .i64)] x) ⟨[], 0, []⟩ (outR [(.int .i64)]) = spec_l07Along_p p x.1 x.2.1 := by kernel_rfl
noncomputable def spec_l07Along_c (p : Nat) : PC := PC.fn true [.val (.slice (.int .i64)), .val (.int .i64)] [(.int .i64)] fun x => spec_l07Along_p p x.1 x.2.1
theorem spec_l07Along_s (p : Nat) : PSound Try.prog 26 (spec_l07Along_c p) := pure_sound (spec_l07Along_E p) Try.checked.mixed (spec_l07Along_I p) LTok_leaf (fun _ => rfl) fun x y h => (spec_l07Along_run p x).trans h
/-! spec.l00Max -/
noncomputable def spec_l00Max_G (p : Nat) : FuncId → Option CE := glist []
theorem spec_l00Max_E (p : Nat) : EnvS Try.prog (spec_l00Max_G p) := by
  apply glist_env; intro f ce h
  simp only [List.mem_cons, List.not_mem_nil, or_false, Prod.mk.injEq] at h
  
theorem spec_l00Max_I (p : Nat) : ∀ f lt, spec_l00Max_G p f = some (.inl lt) → LTok Try.prog (spec_l00Max_G p) 5 f lt := by
  apply glist_inl; intro f lt h
  simp only [List.mem_cons, List.not_mem_nil, or_false, Prod.mk.injEq, CE.inl.injEq, and_false, or_false, false_or, reduceCtorEq] at h
  
noncomputable def spec_l00Max_p (p : Nat) (a0 : Int) (a1 : Int) : Option (Int × Unit) :=
  (bif (decide (a0 > a1)) then some (a0, ())
 else some (a1, ()))
theorem spec_l00Max_run (p : Nat) (x : (parsT [.val (.int .i64), .val (.int .i64)]).T) : acall Try.prog (spec_l00Max_G p) 5 1 91 .leaf (argAVs [.val (.int .i64), .val (.int .i64)] x) ⟨[], 0, []⟩ (outR [(.int .i64)]) = spec_l00Max_p p x.1 x.2.1 := by kernel_rfl
noncomputable def spec_l00Max_c (p : Nat) : PC := PC.fn true [.val (.int .i64), .val (.int .i64)] [(.int .i64)] fun x => spec_l00Max_p p x.1 x.2.1
theorem spec_l00Max_s (p : Nat) : PSound Try.prog 91 (spec_l00Max_c p) := pure_sound (spec_l00Max_E p) Try.checked.mixed (spec_l00Max_I p) LTok_leaf (fun _ => rfl) fun x y h => (spec_l00Max_run p x).trans h
/-! spec.l03Abs -/
noncomputable def spec_l03Abs_G (p : Nat) : FuncId → Option CE := glist [(91, .pure (spec_l00Max_c p))]
theorem spec_l03Abs_E (p : Nat) : EnvS Try.prog (spec_l03Abs_G p) := by
  apply glist_env; intro f ce h
  simp only [List.mem_cons, List.not_mem_nil, or_false, Prod.mk.injEq] at h
  rcases h with ⟨rfl, rfl⟩
  · exact spec_l00Max_s p
theorem spec_l03Abs_I (p : Nat) : ∀ f lt, spec_l03Abs_G p f = some (.inl lt) → LTok Try.prog (spec_l03Abs_G p) 5 f lt := by
  apply glist_inl; intro f lt h
  simp only [List.mem_cons, List.not_mem_nil, or_false, Prod.mk.injEq, CE.inl.injEq, and_false, or_false, false_or, reduceCtorEq] at h
  
noncomputable def spec_l03Abs_p (p : Nat) (a0 : Int) : Option (Int × Unit) :=
  ((spec_l00Max_p p a0 (IntKind.wrap .i64 (0 - a0))).bind fun r1 => some (r1.1, ()))
theorem spec_l03Abs_run (p : Nat) (x : (parsT [.val (.int .i64)]).T) : acall Try.prog (spec_l03Abs_G p) 5 1 61 .leaf (argAVs [.val (.int .i64)] x) ⟨[], 0, []⟩ (outR [(.int .i64)]) = spec_l03Abs_p p x.1 := by kernel_rfl
noncomputable def spec_l03Abs_c (p : Nat) : PC := PC.fn true [.val (.int .i64)] [(.int .i64)] fun x => spec_l03Abs_p p x.1
theorem spec_l03Abs_s (p : Nat) : PSound Try.prog 61 (spec_l03Abs_c p) := pure_sound (spec_l03Abs_E p) Try.checked.mixed (spec_l03Abs_I p) LTok_leaf (fun _ => rfl) fun x y h => (spec_l03Abs_run p x).trans h
/-! spec.l01Div -/
noncomputable def spec_l01Div_G (p : Nat) : FuncId → Option CE := glist []
theorem spec_l01Div_E (p : Nat) : EnvS Try.prog (spec_l01Div_G p) := by
  apply glist_env; intro f ce h
  simp only [List.mem_cons, List.not_mem_nil, or_false, Prod.mk.injEq] at h
  
theorem spec_l01Div_I (p : Nat) : ∀ f lt, spec_l01Div_G p f = some (.inl lt) → LTok Try.prog (spec_l01Div_G p) 5 f lt := by
  apply glist_inl; intro f lt h
  simp only [List.mem_cons, List.not_mem_nil, or_false, Prod.mk.injEq, CE.inl.injEq, and_false, or_false, false_or, reduceCtorEq] at h
  
noncomputable def spec_l01Div_p (p : Nat) (a0 : Int) (a1 : Int) : Option (Int × Unit) :=
  (bif (decide (a1 < (0 : Int))) then (bif (decide ((IntKind.wrap .i64 (0 - a0)) < (0 : Int))) then (if (IntKind.wrap .i64 ((2 : Int) * (IntKind.wrap .i64 (0 - a1)))) = 0 then none else some ((IntKind.wrap .i64 (0 - (IntKind.wrap .i64 ((IntKind.wrap .i64 ((IntKind.wrap .i64 (0 - a1)) - (IntKind.wrap .i64 ((2 : Int) * (IntKind.wrap .i64 (0 - a0)))))).tdiv (IntKind.wrap .i64 ((2 : Int) * (IntKind.wrap .i64 (0 - a1)))))))), ()))
 else (if (IntKind.wrap .i64 ((2 : Int) * (IntKind.wrap .i64 (0 - a1)))) = 0 then none else some ((IntKind.wrap .i64 ((IntKind.wrap .i64 ((IntKind.wrap .i64 ((2 : Int) * (IntKind.wrap .i64 (0 - a0)))) + (IntKind.wrap .i64 (0 - a1)))).tdiv (IntKind.wrap .i64 ((2 : Int) * (IntKind.wrap .i64 (0 - a1)))))), ())))
 else (bif (decide (a0 < (0 : Int))) then (if (IntKind.wrap .i64 ((2 : Int) * a1)) = 0 then none else some ((IntKind.wrap .i64 (0 - (IntKind.wrap .i64 ((IntKind.wrap .i64 (a1 - (IntKind.wrap .i64 ((2 : Int) * a0)))).tdiv (IntKind.wrap .i64 ((2 : Int) * a1)))))), ()))
 else (if (IntKind.wrap .i64 ((2 : Int) * a1)) = 0 then none else some ((IntKind.wrap .i64 ((IntKind.wrap .i64 ((IntKind.wrap .i64 ((2 : Int) * a0)) + a1)).tdiv (IntKind.wrap .i64 ((2 : Int) * a1)))), ()))))
theorem spec_l01Div_run (p : Nat) (x : (parsT [.val (.int .i64), .val (.int .i64)]).T) : acall Try.prog (spec_l01Div_G p) 5 1 90 .leaf (argAVs [.val (.int .i64), .val (.int .i64)] x) ⟨[], 0, []⟩ (outR [(.int .i64)]) = spec_l01Div_p p x.1 x.2.1 := by kernel_rfl
noncomputable def spec_l01Div_c (p : Nat) : PC := PC.fn true [.val (.int .i64), .val (.int .i64)] [(.int .i64)] fun x => spec_l01Div_p p x.1 x.2.1
theorem spec_l01Div_s (p : Nat) : PSound Try.prog 90 (spec_l01Div_c p) := pure_sound (spec_l01Div_E p) Try.checked.mixed (spec_l01Div_I p) LTok_leaf (fun _ => rfl) fun x y h => (spec_l01Div_run p x).trans h
/-! spec.l03Water -/
noncomputable def spec_l03Water_G (p : Nat) : FuncId → Option CE := glist [(90, .pure (spec_l01Div_c p))]
theorem spec_l03Water_E (p : Nat) : EnvS Try.prog (spec_l03Water_G p) := by
  apply glist_env; intro f ce h
  simp only [List.mem_cons, List.not_mem_nil, or_false, Prod.mk.injEq] at h
  rcases h with ⟨rfl, rfl⟩
  · exact spec_l01Div_s p
theorem spec_l03Water_I (p : Nat) : ∀ f lt, spec_l03Water_G p f = some (.inl lt) → LTok Try.prog (spec_l03Water_G p) 5 f lt := by
  apply glist_inl; intro f lt h
  simp only [List.mem_cons, List.not_mem_nil, or_false, Prod.mk.injEq, CE.inl.injEq, and_false, or_false, false_or, reduceCtorEq] at h
  
noncomputable def spec_l03Water_p (p : Nat) (a0 : (Ty.T TPipe)) : Option (Int × Unit) :=
  ((spec_l01Div_p p (IntKind.wrap .i64 ((IntKind.wrap .i64 ((IntKind.wrap .i64 (a0.2.2.2.1 * a0.2.2.2.2.1)) * a0.2.2.2.2.1)) * (7854 : Int))) (10000 : Int)).bind fun r1 => some (r1.1, ()))
theorem spec_l03Water_run (p : Nat) (x : (parsT [.ptr TPipe]).T) : acall Try.prog (spec_l03Water_G p) 5 1 60 .leaf (argAVs [.ptr TPipe] x) ⟨[], 0, []⟩ (outR [(.int .i64)]) = spec_l03Water_p p x.1 := by kernel_rfl
noncomputable def spec_l03Water_c (p : Nat) : PC := PC.fn true [.ptr TPipe] [(.int .i64)] fun x => spec_l03Water_p p x.1
theorem spec_l03Water_s (p : Nat) : PSound Try.prog 60 (spec_l03Water_c p) := pure_sound (spec_l03Water_E p) Try.checked.mixed (spec_l03Water_I p) LTok_leaf (fun _ => rfl) fun x y h => (spec_l03Water_run p x).trans h
/-! spec.l03Delay -/
noncomputable def spec_l03Delay_G (p : Nat) : FuncId → Option CE := glist [(60, .pure (spec_l03Water_c p)), (61, .pure (spec_l03Abs_c p))]
theorem spec_l03Delay_E (p : Nat) : EnvS Try.prog (spec_l03Delay_G p) := by
  apply glist_env; intro f ce h
  simp only [List.mem_cons, List.not_mem_nil, or_false, Prod.mk.injEq] at h
  rcases h with ⟨rfl, rfl⟩ | ⟨rfl, rfl⟩
  · exact spec_l03Water_s p
  · exact spec_l03Abs_s p
theorem spec_l03Delay_I (p : Nat) : ∀ f lt, spec_l03Delay_G p f = some (.inl lt) → LTok Try.prog (spec_l03Delay_G p) 5 f lt := by
  apply glist_inl; intro f lt h
  simp only [List.mem_cons, List.not_mem_nil, or_false, Prod.mk.injEq, CE.inl.injEq, and_false, or_false, false_or, reduceCtorEq] at h
  
noncomputable def spec_l03Delay_p (p : Nat) (a0 : (Ty.T TPipe)) (a1 : Int) : Option (Int × Unit) :=
  ((spec_l03Water_p p a0).bind fun r1 => ((spec_l03Abs_p p a1).bind fun r2 => ((spec_l03Abs_p p a1).bind fun r3 => (if r3.1 = 0 then none else some ((IntKind.wrap .i64 ((IntKind.wrap .i64 ((IntKind.wrap .i64 (r1.1 + r2.1)) - (1 : Int))).tdiv r3.1)), ())))))
theorem spec_l03Delay_run (p : Nat) (x : (parsT [.ptr TPipe, .val (.int .i64)]).T) : acall Try.prog (spec_l03Delay_G p) 5 1 27 .leaf (argAVs [.ptr TPipe, .val (.int .i64)] x) ⟨[], 0, []⟩ (outR [(.int .i64)]) = spec_l03Delay_p p x.1 x.2.1 := by kernel_rfl
noncomputable def spec_l03Delay_c (p : Nat) : PC := PC.fn true [.ptr TPipe, .val (.int .i64)] [(.int .i64)] fun x => spec_l03Delay_p p x.1 x.2.1
theorem spec_l03Delay_s (p : Nat) : PSound Try.prog 27 (spec_l03Delay_c p) := pure_sound (spec_l03Delay_E p) Try.checked.mixed (spec_l03Delay_I p) LTok_leaf (fun _ => rfl) fun x y h => (spec_l03Delay_run p x).trans h
/-! spec.l07Before -/
noncomputable def spec_l07Before_G (p : Nat) : FuncId → Option CE := glist []
theorem spec_l07Before_E (p : Nat) : EnvS Try.prog (spec_l07Before_G p) := by
  apply glist_env; intro f ce h
  simp only [List.mem_cons, List.not_mem_nil, or_false, Prod.mk.injEq] at h
  
theorem spec_l07Before_I (p : Nat) : ∀ f lt, spec_l07Before_G p f = some (.inl lt) → LTok Try.prog (spec_l07Before_G p) 5 f lt := by
  apply glist_inl; intro f lt h
  simp only [List.mem_cons, List.not_mem_nil, or_false, Prod.mk.injEq, CE.inl.injEq, and_false, or_false, false_or, reduceCtorEq] at h
  
noncomputable def spec_l07Before_p (p : Nat) (a0 : (Ty.T TNetwork)) (a1 : Int) : Option (Int × Unit) :=
  (bif (decide (a1 > (0 : Int))) then (if 0 ≤ (IntKind.wrap .i64 (a1 - (1 : Int))) then (a0.2[(IntKind.wrap .i64 (a1 - (1 : Int))).toNat]?).bind fun y1 => some (y1.2.1, ()) else none)
 else (if 0 ≤ (IntKind.wrap .i64 ((IntKind.wrap .i64 (0 - a1)) - (1 : Int))) then (a0.2[(IntKind.wrap .i64 ((IntKind.wrap .i64 (0 - a1)) - (1 : Int))).toNat]?).bind fun y2 => some (y2.2.2.1, ()) else none))
theorem spec_l07Before_run (p : Nat) (x : (parsT [.ptr TNetwork, .val (.int .i64)]).T) : acall Try.prog (spec_l07Before_G p) 5 1 29 .leaf (argAVs [.ptr TNetwork, .val (.int .i64)] x) ⟨[], 0, []⟩ (outR [(.int .i64)]) = spec_l07Before_p p x.1 x.2.1 := by kernel_rfl
noncomputable def spec_l07Before_c (p : Nat) : PC := PC.fn true [.ptr TNetwork, .val (.int .i64)] [(.int .i64)] fun x => spec_l07Before_p p x.1 x.2.1
theorem spec_l07Before_s (p : Nat) : PSound Try.prog 29 (spec_l07Before_c p) := pure_sound (spec_l07Before_E p) Try.checked.mixed (spec_l07Before_I p) LTok_leaf (fun _ => rfl) fun x y h => (spec_l07Before_run p x).trans h
/-! spec.DelayTo -/
noncomputable def spec_DelayTo_l0_r {α : Type} (p : Nat) (v0 : Int) (v1 : List Int) (v4 : List Int) (v5 : List (Ty.T TPipe)) (v6 : List Int) (rec : (Int) → (Int) → Option α) (v2 : Int) (v3 : Int) (k0 : (Int) → (Int) → (Int) → Option α) (k1 : (Int) → Option α) : Option α :=
  (bif (v2 != v0) then (if 0 ≤ v2 ∧ v2 < (v6.length : Int) then ((spec_l07Along_p p v1 (v6.getD v2.toNat (Ty.zero (.int .i64)))).bind fun r5 => (bif (decide (r5.1 ≤ (0 : Int))) then (k0 (0 : Int) (3 : Int) v3)
 else ((spec_l03Abs_p p (v6.getD v2.toNat (Ty.zero (.int .i64)))).bind fun r6 => (if 0 ≤ (IntKind.wrap .i64 (r6.1 - (1 : Int))) then (v5[(IntKind.wrap .i64 (r6.1 - (1 : Int))).toNat]?).bind fun y7 => ((spec_l07Along_p p v1 (v6.getD v2.toNat (Ty.zero (.int .i64)))).bind fun r8 => ((spec_l03Delay_p p y7 r8.1).bind fun r9 => ((spec_l07Before_p p (v4, v5) (v6.getD v2.toNat (Ty.zero (.int .i64)))).bind fun r10 => (rec r10.1 (IntKind.wrap .i64 (v3 + r9.1)))))) else none)))) else none)
 else (k1 v3))
noncomputable def spec_DelayTo_l0_go {α : Type} (p : Nat) (v0 : Int) (v1 : List Int) (v4 : List Int) (v5 : List (Ty.T TPipe)) (v6 : List Int) : Nat → (Int) → (Int) → ((Int) → (Int) → (Int) → Option α) → ((Int) → Option α) → Option α
  | 0, _, _, _, _ => none
  | q + 1, v2, v3, k0, k1 => spec_DelayTo_l0_r p v0 v1 v4 v5 v6 (fun v2 v3 => spec_DelayTo_l0_go p v0 v1 v4 v5 v6 q v2 v3 k0 k1) v2 v3 k0 k1
def spec_DelayTo_l0_sh : Sh := ⟨[⟨1, false, [.int .i64]⟩, ⟨2, false, [.sl (.int .i64)]⟩, ⟨3, false, [.int .i64]⟩, ⟨4, false, [.lit (.ptr 0 0)]⟩, ⟨12, false, [.lit (.own 1 0)]⟩, ⟨13, false, [.int .i64]⟩], 2, [(0, .box [.sl (.int .i64), .sl TPipe]), (1, .arr 0 (.int .i64))]⟩
noncomputable def spec_DelayTo_lc0 (p : Nat) : LC := LC.alts 1 [⟨0, spec_DelayTo_l0_sh, fun x {α} k => spec_DelayTo_l0_go p x.1.1.1 x.1.2.1.1 x.2.1.1 x.2.1.2.1 x.2.2.1 p x.1.2.2.1.1 x.1.2.2.2.2.2.1.1 (fun o0 o1 o2 => k .ret ⟨[(8, .one ⟨false, [.int .i64 o0]⟩), (9, .one ⟨false, [.int .i64 o1]⟩), (13, .one ⟨false, [.int .i64 o2]⟩)], 0, []⟩) (fun o0 => k (.exit 0) ⟨[(13, .one ⟨false, [.int .i64 o0]⟩)], 0, []⟩)⟩]
noncomputable def spec_DelayTo_lt (p : Nat) : LT := (.node .leaf (.node .leaf (.node .leaf (.node .leaf (.node .leaf (.node .leaf (.node .leaf (.node .leaf (.node (.loop [1, 2, 3, 4, 12, 13] [8, 9, 13] (some (spec_DelayTo_lc0 p)) .leaf) .leaf)))))))))
noncomputable def spec_DelayTo_G (p : Nat) : FuncId → Option CE := glist [(22, .pure (spec_l07Ask_c p)), (23, .pure (spec_l04Node_c p)), (24, .pure (spec_l07Given_c p)), (25, .pure (spec_l07Order_c p)), (26, .pure (spec_l07Along_c p)), (27, .pure (spec_l03Delay_c p)), (29, .pure (spec_l07Before_c p)), (61, .pure (spec_l03Abs_c p)), (28, .inl .leaf)]
noncomputable def spec_DelayTo_c0 : Code := codeAt [1, 1, 1, 1, 1, 1, 1, 1, 0, 0, 0] (bodyOf Try.f7)
noncomputable def spec_DelayTo_it0 {α : Type} (p n b : Nat) (k : Ex → St → Option α) (q : Nat) (st : St) : Option α :=
  iter (fun s q => aexec Try.prog (spec_DelayTo_G p) (fun g lt args st (k : D → St → Option α) => acall Try.prog (spec_DelayTo_G p) 5 (n + 1) g lt args st k) 5 b 56 spec_DelayTo_c0 .leaf s q) (canon b [1, 2, 3, 4, 12, 13]) q st (fun e s => k e (canon b [8, 9, 13] s))
theorem spec_DelayTo_l0_step {α : Type} (p n : Nat) (k : Ex → St → Option α) (v0 : Int) (v1 : List Int) (v4 : List Int) (v5 : List (Ty.T TPipe)) (v6 : List Int) (q : Nat) (v2 : Int) (v3 : Int) : spec_DelayTo_it0 p n 0 k (q + 1) (spec_DelayTo_l0_sh.mk' (((v0, ()), (v1, ()), (v2, ()), ((), ()), ((), ()), (v3, ()), ()), ((v4, v5, ()), v6, ()))) =
  spec_DelayTo_l0_r p v0 v1 v4 v5 v6 (fun v2 v3 => spec_DelayTo_it0 p n 0 k q (spec_DelayTo_l0_sh.mk' (((v0, ()), (v1, ()), (v2, ()), ((), ()), ((), ()), (v3, ()), ()), ((v4, v5, ()), v6, ())))) v2 v3 (fun o0 o1 o2 => k .ret ⟨[(8, .one ⟨false, [.int .i64 o0]⟩), (9, .one ⟨false, [.int .i64 o1]⟩), (13, .one ⟨false, [.int .i64 o2]⟩)], 0, []⟩) (fun o0 => k (.exit 0) ⟨[(13, .one ⟨false, [.int .i64 o0]⟩)], 0, []⟩) := by kernel_rfl
theorem spec_DelayTo_l0_ok {α : Type} (p n : Nat) (k : Ex → St → Option α) (v0 : Int) (v1 : List Int) (v4 : List Int) (v5 : List (Ty.T TPipe)) (v6 : List Int) : ∀ (q : Nat) (v2 : Int) (v3 : Int), spec_DelayTo_it0 p n 0 k q (spec_DelayTo_l0_sh.mk' (((v0, ()), (v1, ()), (v2, ()), ((), ()), ((), ()), (v3, ()), ()), ((v4, v5, ()), v6, ()))) =
  spec_DelayTo_l0_go p v0 v1 v4 v5 v6 q v2 v3 (fun o0 o1 o2 => k .ret ⟨[(8, .one ⟨false, [.int .i64 o0]⟩), (9, .one ⟨false, [.int .i64 o1]⟩), (13, .one ⟨false, [.int .i64 o2]⟩)], 0, []⟩) (fun o0 => k (.exit 0) ⟨[(13, .one ⟨false, [.int .i64 o0]⟩)], 0, []⟩) := by
  intro q
  induction q with
  | zero => intros; rfl
  | succ q ih => intro v2 v3; rw [spec_DelayTo_l0_step]; simp only [ih]; rfl
theorem spec_DelayTo_ltok_7_ls (p : Nat) : loopsOf (bodyOf Try.f7) (spec_DelayTo_lt p) = [⟨spec_DelayTo_c0, [1, 2, 3, 4, 12, 13], [8, 9, 13], spec_DelayTo_lc0 p, .leaf⟩] := by kernel_rfl
theorem spec_DelayTo_ltok_7_dep (p : Nat) : LT.dep (spec_DelayTo_lt p) = 1 := by kernel_rfl
theorem spec_DelayTo_ltok_7 (p : Nat) : LTok Try.prog (spec_DelayTo_G p) 5 7 (spec_DelayTo_lt p) := by
  intro α n base fn c hd hfn hc
  have hfn' : some fn = some Try.f7 := hfn.symm.trans Try.func7
  cases hfn'
  have hc' : c = bodyOf Try.f7 := by unfold bodyOf; rw [hc]; rfl
  subst hc'
  rw [spec_DelayTo_ltok_7_dep] at hd
  obtain ⟨n, rfl⟩ := Nat.exists_eq_add_of_le' hd
  apply LTS_of_loops
  rw [spec_DelayTo_ltok_7_ls]
  intro e he st k r h
  simp only [List.mem_cons, List.not_mem_nil, or_false] at he
  subst he
  · obtain ⟨a, ha, hb, x, rfl, h⟩ := altRun_ok h
    simp only [List.mem_cons, List.not_mem_nil, or_false] at ha
    subst ha
    · cases hb; exact ⟨p, (spec_DelayTo_l0_ok p n k _ _ _ _ _ p _ _).trans h⟩
theorem spec_DelayTo_E (p : Nat) : EnvS Try.prog (spec_DelayTo_G p) := by
  apply glist_env; intro f ce h
  simp only [List.mem_cons, List.not_mem_nil, or_false, Prod.mk.injEq] at h
  rcases h with ⟨rfl, rfl⟩ | ⟨rfl, rfl⟩ | ⟨rfl, rfl⟩ | ⟨rfl, rfl⟩ | ⟨rfl, rfl⟩ | ⟨rfl, rfl⟩ | ⟨rfl, rfl⟩ | ⟨rfl, rfl⟩ | ⟨rfl, rfl⟩
  · exact spec_l07Ask_s p
  · exact spec_l04Node_s p
  · exact spec_l07Given_s p
  · exact spec_l07Order_s p
  · exact spec_l07Along_s p
  · exact spec_l03Delay_s p
  · exact spec_l07Before_s p
  · exact spec_l03Abs_s p
  · exact trivial
theorem spec_DelayTo_I (p : Nat) : ∀ f lt, spec_DelayTo_G p f = some (.inl lt) → LTok Try.prog (spec_DelayTo_G p) 5 f lt := by
  apply glist_inl; intro f lt h
  simp only [List.mem_cons, List.not_mem_nil, or_false, Prod.mk.injEq, CE.inl.injEq, and_false, or_false, false_or, reduceCtorEq] at h
  rcases h with ⟨rfl, rfl⟩
  · exact LTok_leaf
noncomputable def spec_DelayTo_p (p : Nat) (a0 : (Ty.T TNetwork)) (a1 : Int) (a2 : (List Int)) (a3 : Int) : Option (Int × Int × Unit) :=
  ((spec_l07Ask_p p a0 a1).bind fun r1 => (bif (r1.1 != (0 : Int)) then some ((0 : Int), r1.1, ())
 else ((spec_l04Node_p p a0 a3).bind fun r2 => (bif (!r2.1) then some ((0 : Int), (2 : Int), ())
 else ((spec_l07Given_p p a0 a1 (0 : Int) a2).bind fun r3 => (bif (r3.1 != (0 : Int)) then some ((0 : Int), r3.1, ())
 else ((spec_l07Order_p p a0 a1).bind fun r4 => (spec_DelayTo_l0_go p a1 a2 a0.1 a0.2 r4.2.1 p a3 (0 : Int) (fun o11 o12 o13 => some (o11, o12, ())) (fun o14 => some (o14, (0 : Int), ()))))))))))
theorem spec_DelayTo_run (p : Nat) (x : (parsT [.val TNetwork, .val (.int .i64), .val (.slice (.int .i64)), .val (.int .i64)]).T) : acall Try.prog (spec_DelayTo_G p) 5 2 7 (spec_DelayTo_lt p) (argAVs [.val TNetwork, .val (.int .i64), .val (.slice (.int .i64)), .val (.int .i64)] x) ⟨[], 0, []⟩ (outR [(.int .i64), (.int .i64)]) = spec_DelayTo_p p x.1 x.2.1 x.2.2.1 x.2.2.2.1 := by kernel_rfl
noncomputable def spec_DelayTo_c (p : Nat) : PC := PC.fn true [.val TNetwork, .val (.int .i64), .val (.slice (.int .i64)), .val (.int .i64)] [(.int .i64), (.int .i64)] fun x => spec_DelayTo_p p x.1 x.2.1 x.2.2.1 x.2.2.2.1
theorem spec_DelayTo_s (p : Nat) : PSound Try.prog 7 (spec_DelayTo_c p) := pure_sound (spec_DelayTo_E p) Try.checked.mixed (spec_DelayTo_I p) (spec_DelayTo_ltok_7 p) (fun _ => rfl) fun x y h => (spec_DelayTo_run p x).trans h
/-! impl.allWithin -/
noncomputable def impl_allWithin_l0_r {α : Type} (p : Nat) (v0 : List Int) (v1 : Int) (v3 : Int) (v4 : Int) (rec : (Int) → Option α) (v2 : Int) (k0 : (Int) → Option α) (k1 : Unit → Option α) : Option α :=
  (bif (decide (v2 < v1)) then (if 0 ≤ v2 then (v0[v2.toNat]?).bind fun y1 => (bif (decide (y1 ≥ v4)) then (bif (!(decide (y1 ≤ v3))) then (k0 v2)
 else (rec (IntKind.wrap .i64 (v2 + (1 : Int)))))
 else (bif (!false) then (k0 v2)
 else (rec (IntKind.wrap .i64 (v2 + (1 : Int)))))) else none)
 else (k1 ()))
noncomputable def impl_allWithin_l0_go {α : Type} (p : Nat) (v0 : List Int) (v1 : Int) (v3 : Int) (v4 : Int) : Nat → (Int) → ((Int) → Option α) → (Unit → Option α) → Option α
  | 0, _, _, _ => none
  | q + 1, v2, k0, k1 => impl_allWithin_l0_r p v0 v1 v3 v4 (fun v2 => impl_allWithin_l0_go p v0 v1 v3 v4 q v2 k0 k1) v2 k0 k1
def impl_allWithin_l0_sh : Sh := ⟨[⟨0, false, [.sl (.int .i64)]⟩, ⟨1, false, [.lit (.fn 93 [(0, 0), (1, 0)])]⟩, ⟨7, false, [.int .i64]⟩, ⟨8, false, [.int .i64]⟩], 2, [(1, .box [.int .i64]), (0, .box [.int .i64])]⟩
noncomputable def impl_allWithin_lc0 (p : Nat) : LC := LC.alts 2 [⟨2, impl_allWithin_l0_sh, fun x {α} k => impl_allWithin_l0_go p x.1.1.1 x.1.2.2.1.1 x.2.1.1 x.2.2.1.1 p x.1.2.2.2.1.1 (fun o0 => k .ret ⟨[(4, .one ⟨false, [.int .i64 o0]⟩)], 2, [(1, .box [.int .i64 x.2.1.1]), (0, .box [.int .i64 x.2.2.1.1])]⟩) (fun _ => k (.exit 0) ⟨[], 2, [(1, .box [.int .i64 x.2.1.1]), (0, .box [.int .i64 x.2.2.1.1])]⟩)⟩]
noncomputable def impl_allWithin_lt_80 (p : Nat) : LT := (.node .leaf (.node (.node .leaf (.loop [0, 1, 7, 8] [4] (some (impl_allWithin_lc0 p)) .leaf)) .leaf))
noncomputable def impl_allWithin_G (p : Nat) : FuncId → Option CE := glist [(66, .inl .leaf), (80, .inl (impl_allWithin_lt_80 p)), (92, .inl .leaf), (93, .inl .leaf)]
noncomputable def impl_allWithin_c0 : Code := codeAt [1, 0, 1, 0, 0] (bodyOf Try.f80)
noncomputable def impl_allWithin_it0 {α : Type} (p n b : Nat) (k : Ex → St → Option α) (q : Nat) (st : St) : Option α :=
  iter (fun s q => aexec Try.prog (impl_allWithin_G p) (fun g lt args st (k : D → St → Option α) => acall Try.prog (impl_allWithin_G p) 5 (n + 2) g lt args st k) 5 b 19 impl_allWithin_c0 .leaf s q) (canon b [0, 1, 7, 8]) q st (fun e s => k e (canon b [4] s))
theorem impl_allWithin_l0_step {α : Type} (p n : Nat) (k : Ex → St → Option α) (v0 : List Int) (v1 : Int) (v3 : Int) (v4 : Int) (q : Nat) (v2 : Int) : impl_allWithin_it0 p n 2 k (q + 1) (impl_allWithin_l0_sh.mk' (((v0, ()), ((), ()), (v1, ()), (v2, ()), ()), ((v3, ()), (v4, ()), ()))) =
  impl_allWithin_l0_r p v0 v1 v3 v4 (fun v2 => impl_allWithin_it0 p n 2 k q (impl_allWithin_l0_sh.mk' (((v0, ()), ((), ()), (v1, ()), (v2, ()), ()), ((v3, ()), (v4, ()), ())))) v2 (fun o0 => k .ret ⟨[(4, .one ⟨false, [.int .i64 o0]⟩)], 2, [(1, .box [.int .i64 v3]), (0, .box [.int .i64 v4])]⟩) (fun _ => k (.exit 0) ⟨[], 2, [(1, .box [.int .i64 v3]), (0, .box [.int .i64 v4])]⟩) := by kernel_rfl
theorem impl_allWithin_l0_ok {α : Type} (p n : Nat) (k : Ex → St → Option α) (v0 : List Int) (v1 : Int) (v3 : Int) (v4 : Int) : ∀ (q : Nat) (v2 : Int), impl_allWithin_it0 p n 2 k q (impl_allWithin_l0_sh.mk' (((v0, ()), ((), ()), (v1, ()), (v2, ()), ()), ((v3, ()), (v4, ()), ()))) =
  impl_allWithin_l0_go p v0 v1 v3 v4 q v2 (fun o0 => k .ret ⟨[(4, .one ⟨false, [.int .i64 o0]⟩)], 2, [(1, .box [.int .i64 v3]), (0, .box [.int .i64 v4])]⟩) (fun _ => k (.exit 0) ⟨[], 2, [(1, .box [.int .i64 v3]), (0, .box [.int .i64 v4])]⟩) := by
  intro q
  induction q with
  | zero => intros; rfl
  | succ q ih => intro v2; rw [impl_allWithin_l0_step]; simp only [ih]; rfl
theorem impl_allWithin_ltok_80_ls (p : Nat) : loopsOf (bodyOf Try.f80) (impl_allWithin_lt_80 p) = [⟨impl_allWithin_c0, [0, 1, 7, 8], [4], impl_allWithin_lc0 p, .leaf⟩] := by kernel_rfl
theorem impl_allWithin_ltok_80_dep (p : Nat) : LT.dep (impl_allWithin_lt_80 p) = 2 := by kernel_rfl
theorem impl_allWithin_ltok_80 (p : Nat) : LTok Try.prog (impl_allWithin_G p) 5 80 (impl_allWithin_lt_80 p) := by
  intro α n base fn c hd hfn hc
  have hfn' : some fn = some Try.f80 := hfn.symm.trans Try.func80
  cases hfn'
  have hc' : c = bodyOf Try.f80 := by unfold bodyOf; rw [hc]; rfl
  subst hc'
  rw [impl_allWithin_ltok_80_dep] at hd
  obtain ⟨n, rfl⟩ := Nat.exists_eq_add_of_le' hd
  apply LTS_of_loops
  rw [impl_allWithin_ltok_80_ls]
  intro e he st k r h
  simp only [List.mem_cons, List.not_mem_nil, or_false] at he
  subst he
  · obtain ⟨a, ha, hb, x, rfl, h⟩ := altRun_ok h
    simp only [List.mem_cons, List.not_mem_nil, or_false] at ha
    subst ha
    · cases hb; exact ⟨p, (impl_allWithin_l0_ok p n k _ _ _ _ p _).trans h⟩
theorem impl_allWithin_E (p : Nat) : EnvS Try.prog (impl_allWithin_G p) := by
  apply glist_env; intro f ce h
  simp only [List.mem_cons, List.not_mem_nil, or_false, Prod.mk.injEq] at h
  rcases h with ⟨rfl, rfl⟩ | ⟨rfl, rfl⟩ | ⟨rfl, rfl⟩ | ⟨rfl, rfl⟩
  · exact trivial
  · exact trivial
  · exact trivial
  · exact trivial
theorem impl_allWithin_I (p : Nat) : ∀ f lt, impl_allWithin_G p f = some (.inl lt) → LTok Try.prog (impl_allWithin_G p) 5 f lt := by
  apply glist_inl; intro f lt h
  simp only [List.mem_cons, List.not_mem_nil, or_false, Prod.mk.injEq, CE.inl.injEq, and_false, or_false, false_or, reduceCtorEq] at h
  rcases h with ⟨rfl, rfl⟩ | ⟨rfl, rfl⟩ | ⟨rfl, rfl⟩ | ⟨rfl, rfl⟩
  · exact LTok_leaf
  · exact (impl_allWithin_ltok_80 p)
  · exact LTok_leaf
  · exact LTok_leaf
noncomputable def impl_allWithin_p (p : Nat) (a0 : (List Int)) (a1 : Int) (a2 : Int) : Option (Bool × Unit) :=
  (impl_allWithin_l0_go p a0 (a0.length : Int) a2 a1 p (0 : Int) (fun o2 => some ((!(decide (o2 ≥ (0 : Int)))), ())) (fun _ => some ((!(decide ((-1 : Int) ≥ (0 : Int)))), ())))
theorem impl_allWithin_run (p : Nat) (x : (parsT [.val (.slice (.int .i64)), .val (.int .i64), .val (.int .i64)]).T) : acall Try.prog (impl_allWithin_G p) 5 5 63 .leaf (argAVs [.val (.slice (.int .i64)), .val (.int .i64), .val (.int .i64)] x) ⟨[], 0, []⟩ (outR [.bool]) = impl_allWithin_p p x.1 x.2.1 x.2.2.1 := by kernel_rfl
noncomputable def impl_allWithin_c (p : Nat) : PC := PC.fn true [.val (.slice (.int .i64)), .val (.int .i64), .val (.int .i64)] [.bool] fun x => impl_allWithin_p p x.1 x.2.1 x.2.2.1
theorem impl_allWithin_s (p : Nat) : PSound Try.prog 63 (impl_allWithin_c p) := pure_sound (impl_allWithin_E p) Try.checked.mixed (impl_allWithin_I p) LTok_leaf (fun _ => rfl) fun x y h => (impl_allWithin_run p x).trans h
/-! impl.onlyNameBytes -/
noncomputable def impl_onlyNameBytes_l0_r {α : Type} (p : Nat) (v0 : ByteArray) (v1 : Int) (rec : (Int) → Option α) (v2 : Int) (k0 : (Bool) → Option α) (k1 : Unit → Option α) : Option α :=
  (bif (decide (v2 < v1)) then (if 0 ≤ v2 ∧ v2 < (v0.size : Int) then (bif (decide (((v0.get! v2.toNat).toNat : Int) < (97 : Int))) then (bif (decide (((v0.get! v2.toNat).toNat : Int) < (48 : Int))) then (k0 false)
 else (bif (decide (((v0.get! v2.toNat).toNat : Int) > (57 : Int))) then (k0 false)
 else (rec (IntKind.wrap .i64 (v2 + (1 : Int))))))
 else (bif (decide (((v0.get! v2.toNat).toNat : Int) > (122 : Int))) then (bif (decide (((v0.get! v2.toNat).toNat : Int) < (48 : Int))) then (k0 false)
 else (bif (decide (((v0.get! v2.toNat).toNat : Int) > (57 : Int))) then (k0 false)
 else (rec (IntKind.wrap .i64 (v2 + (1 : Int))))))
 else (rec (IntKind.wrap .i64 (v2 + (1 : Int)))))) else none)
 else (k1 ()))
noncomputable def impl_onlyNameBytes_l0_go {α : Type} (p : Nat) (v0 : ByteArray) (v1 : Int) : Nat → (Int) → ((Bool) → Option α) → (Unit → Option α) → Option α
  | 0, _, _, _ => none
  | q + 1, v2, k0, k1 => impl_onlyNameBytes_l0_r p v0 v1 (fun v2 => impl_onlyNameBytes_l0_go p v0 v1 q v2 k0 k1) v2 k0 k1
def impl_onlyNameBytes_l0_sh : Sh := ⟨[⟨0, false, [.str]⟩, ⟨6, false, [.int .i64]⟩, ⟨7, false, [.int .i64]⟩], 0, []⟩
noncomputable def impl_onlyNameBytes_lc0 (p : Nat) : LC := LC.alts 0 [⟨0, impl_onlyNameBytes_l0_sh, fun x {α} k => impl_onlyNameBytes_l0_go p x.1.1.1 x.1.2.1.1 p x.1.2.2.1.1 (fun o0 => k .ret ⟨[(2, .one ⟨false, [.bool o0]⟩)], 0, []⟩) (fun _ => k (.exit 0) ⟨[], 0, []⟩)⟩]
noncomputable def impl_onlyNameBytes_lt (p : Nat) : LT := (.node .leaf (.node (.node .leaf (.loop [0, 6, 7] [2] (some (impl_onlyNameBytes_lc0 p)) .leaf)) .leaf))
noncomputable def impl_onlyNameBytes_G (p : Nat) : FuncId → Option CE := glist []
noncomputable def impl_onlyNameBytes_c0 : Code := codeAt [1, 0, 1, 0, 0] (bodyOf Try.f105)
noncomputable def impl_onlyNameBytes_it0 {α : Type} (p n b : Nat) (k : Ex → St → Option α) (q : Nat) (st : St) : Option α :=
  iter (fun s q => aexec Try.prog (impl_onlyNameBytes_G p) (fun g lt args st (k : D → St → Option α) => acall Try.prog (impl_onlyNameBytes_G p) 5 (n + 0) g lt args st k) 5 b 28 impl_onlyNameBytes_c0 .leaf s q) (canon b [0, 6, 7]) q st (fun e s => k e (canon b [2] s))
theorem impl_onlyNameBytes_l0_step {α : Type} (p n : Nat) (k : Ex → St → Option α) (v0 : ByteArray) (v1 : Int) (q : Nat) (v2 : Int) : impl_onlyNameBytes_it0 p n 0 k (q + 1) (impl_onlyNameBytes_l0_sh.mk' (((v0, ()), (v1, ()), (v2, ()), ()), (()))) =
  impl_onlyNameBytes_l0_r p v0 v1 (fun v2 => impl_onlyNameBytes_it0 p n 0 k q (impl_onlyNameBytes_l0_sh.mk' (((v0, ()), (v1, ()), (v2, ()), ()), (())))) v2 (fun o0 => k .ret ⟨[(2, .one ⟨false, [.bool o0]⟩)], 0, []⟩) (fun _ => k (.exit 0) ⟨[], 0, []⟩) := by kernel_rfl
theorem impl_onlyNameBytes_l0_ok {α : Type} (p n : Nat) (k : Ex → St → Option α) (v0 : ByteArray) (v1 : Int) : ∀ (q : Nat) (v2 : Int), impl_onlyNameBytes_it0 p n 0 k q (impl_onlyNameBytes_l0_sh.mk' (((v0, ()), (v1, ()), (v2, ()), ()), (()))) =
  impl_onlyNameBytes_l0_go p v0 v1 q v2 (fun o0 => k .ret ⟨[(2, .one ⟨false, [.bool o0]⟩)], 0, []⟩) (fun _ => k (.exit 0) ⟨[], 0, []⟩) := by
  intro q
  induction q with
  | zero => intros; rfl
  | succ q ih => intro v2; rw [impl_onlyNameBytes_l0_step]; simp only [ih]; rfl
theorem impl_onlyNameBytes_ltok_105_ls (p : Nat) : loopsOf (bodyOf Try.f105) (impl_onlyNameBytes_lt p) = [⟨impl_onlyNameBytes_c0, [0, 6, 7], [2], impl_onlyNameBytes_lc0 p, .leaf⟩] := by kernel_rfl
theorem impl_onlyNameBytes_ltok_105_dep (p : Nat) : LT.dep (impl_onlyNameBytes_lt p) = 0 := by kernel_rfl
theorem impl_onlyNameBytes_ltok_105 (p : Nat) : LTok Try.prog (impl_onlyNameBytes_G p) 5 105 (impl_onlyNameBytes_lt p) := by
  intro α n base fn c hd hfn hc
  have hfn' : some fn = some Try.f105 := hfn.symm.trans Try.func105
  cases hfn'
  have hc' : c = bodyOf Try.f105 := by unfold bodyOf; rw [hc]; rfl
  subst hc'
  rw [impl_onlyNameBytes_ltok_105_dep] at hd
  obtain ⟨n, rfl⟩ := Nat.exists_eq_add_of_le' hd
  apply LTS_of_loops
  rw [impl_onlyNameBytes_ltok_105_ls]
  intro e he st k r h
  simp only [List.mem_cons, List.not_mem_nil, or_false] at he
  subst he
  · obtain ⟨a, ha, hb, x, rfl, h⟩ := altRun_ok h
    simp only [List.mem_cons, List.not_mem_nil, or_false] at ha
    subst ha
    · cases hb; exact ⟨p, (impl_onlyNameBytes_l0_ok p n k _ _ p _).trans h⟩
theorem impl_onlyNameBytes_E (p : Nat) : EnvS Try.prog (impl_onlyNameBytes_G p) := by
  apply glist_env; intro f ce h
  simp only [List.mem_cons, List.not_mem_nil, or_false, Prod.mk.injEq] at h
  
theorem impl_onlyNameBytes_I (p : Nat) : ∀ f lt, impl_onlyNameBytes_G p f = some (.inl lt) → LTok Try.prog (impl_onlyNameBytes_G p) 5 f lt := by
  apply glist_inl; intro f lt h
  simp only [List.mem_cons, List.not_mem_nil, or_false, Prod.mk.injEq, CE.inl.injEq, and_false, or_false, false_or, reduceCtorEq] at h
  
noncomputable def impl_onlyNameBytes_p (p : Nat) (a0 : ByteArray) : Option (Bool × Unit) :=
  (impl_onlyNameBytes_l0_go p a0 (a0.size : Int) p (0 : Int) (fun o1 => some (o1, ())) (fun _ => some (true, ())))
theorem impl_onlyNameBytes_run (p : Nat) (x : (parsT [.val .str]).T) : acall Try.prog (impl_onlyNameBytes_G p) 5 1 105 (impl_onlyNameBytes_lt p) (argAVs [.val .str] x) ⟨[], 0, []⟩ (outR [.bool]) = impl_onlyNameBytes_p p x.1 := by kernel_rfl
noncomputable def impl_onlyNameBytes_c (p : Nat) : PC := PC.fn true [.val .str] [.bool] fun x => impl_onlyNameBytes_p p x.1
theorem impl_onlyNameBytes_s (p : Nat) : PSound Try.prog 105 (impl_onlyNameBytes_c p) := pure_sound (impl_onlyNameBytes_E p) Try.checked.mixed (impl_onlyNameBytes_I p) (impl_onlyNameBytes_ltok_105 p) (fun _ => rfl) fun x y h => (impl_onlyNameBytes_run p x).trans h
/-! impl.IsName -/
noncomputable def impl_IsName_G (p : Nat) : FuncId → Option CE := glist [(105, .pure (impl_onlyNameBytes_c p))]
theorem impl_IsName_E (p : Nat) : EnvS Try.prog (impl_IsName_G p) := by
  apply glist_env; intro f ce h
  simp only [List.mem_cons, List.not_mem_nil, or_false, Prod.mk.injEq] at h
  rcases h with ⟨rfl, rfl⟩
  · exact impl_onlyNameBytes_s p
theorem impl_IsName_I (p : Nat) : ∀ f lt, impl_IsName_G p f = some (.inl lt) → LTok Try.prog (impl_IsName_G p) 5 f lt := by
  apply glist_inl; intro f lt h
  simp only [List.mem_cons, List.not_mem_nil, or_false, Prod.mk.injEq, CE.inl.injEq, and_false, or_false, false_or, reduceCtorEq] at h
  
noncomputable def impl_IsName_p (p : Nat) (a0 : ByteArray) : Option (Bool × Unit) :=
  (bif (decide ((a0.size : Int) < (1 : Int))) then some (false, ())
 else (bif (decide ((a0.size : Int) > (10 : Int))) then some (false, ())
 else (if 0 ≤ (0 : Int) ∧ (0 : Int) < (a0.size : Int) then (bif (decide (((a0.get! (0 : Int).toNat).toNat : Int) < (97 : Int))) then some (false, ())
 else (if 0 ≤ (0 : Int) ∧ (0 : Int) < (a0.size : Int) then (bif (decide (((a0.get! (0 : Int).toNat).toNat : Int) > (122 : Int))) then some (false, ())
 else ((impl_onlyNameBytes_p p a0).bind fun r1 => some (r1.1, ()))) else none)) else none)))
theorem impl_IsName_run (p : Nat) (x : (parsT [.val .str]).T) : acall Try.prog (impl_IsName_G p) 5 1 94 .leaf (argAVs [.val .str] x) ⟨[], 0, []⟩ (outR [.bool]) = impl_IsName_p p x.1 := by kernel_rfl
noncomputable def impl_IsName_c (p : Nat) : PC := PC.fn true [.val .str] [.bool] fun x => impl_IsName_p p x.1
theorem impl_IsName_s (p : Nat) : PSound Try.prog 94 (impl_IsName_c p) := pure_sound (impl_IsName_E p) Try.checked.mixed (impl_IsName_I p) LTok_leaf (fun _ => rfl) fun x y h => (impl_IsName_run p x).trans h
/-! impl.within -/
noncomputable def impl_within_G (p : Nat) : FuncId → Option CE := glist []
theorem impl_within_E (p : Nat) : EnvS Try.prog (impl_within_G p) := by
  apply glist_env; intro f ce h
  simp only [List.mem_cons, List.not_mem_nil, or_false, Prod.mk.injEq] at h
  
theorem impl_within_I (p : Nat) : ∀ f lt, impl_within_G p f = some (.inl lt) → LTok Try.prog (impl_within_G p) 5 f lt := by
  apply glist_inl; intro f lt h
  simp only [List.mem_cons, List.not_mem_nil, or_false, Prod.mk.injEq, CE.inl.injEq, and_false, or_false, false_or, reduceCtorEq] at h
  
noncomputable def impl_within_p (p : Nat) (a0 : Int) (a1 : Int) (a2 : Int) : Option (Bool × Unit) :=
  (bif (decide (a0 ≥ a1)) then some ((decide (a0 ≤ a2)), ())
 else some (false, ()))
theorem impl_within_run (p : Nat) (x : (parsT [.val (.int .i64), .val (.int .i64), .val (.int .i64)]).T) : acall Try.prog (impl_within_G p) 5 1 66 .leaf (argAVs [.val (.int .i64), .val (.int .i64), .val (.int .i64)] x) ⟨[], 0, []⟩ (outR [.bool]) = impl_within_p p x.1 x.2.1 x.2.2.1 := by kernel_rfl
noncomputable def impl_within_c (p : Nat) : PC := PC.fn true [.val (.int .i64), .val (.int .i64), .val (.int .i64)] [.bool] fun x => impl_within_p p x.1 x.2.1 x.2.2.1
theorem impl_within_s (p : Nat) : PSound Try.prog 66 (impl_within_c p) := pure_sound (impl_within_E p) Try.checked.mixed (impl_within_I p) LTok_leaf (fun _ => rfl) fun x y h => (impl_within_run p x).trans h
/-! impl.nodeOk -/
noncomputable def impl_nodeOk_G (p : Nat) : FuncId → Option CE := glist [(66, .pure (impl_within_c p))]
theorem impl_nodeOk_E (p : Nat) : EnvS Try.prog (impl_nodeOk_G p) := by
  apply glist_env; intro f ce h
  simp only [List.mem_cons, List.not_mem_nil, or_false, Prod.mk.injEq] at h
  rcases h with ⟨rfl, rfl⟩
  · exact impl_within_s p
theorem impl_nodeOk_I (p : Nat) : ∀ f lt, impl_nodeOk_G p f = some (.inl lt) → LTok Try.prog (impl_nodeOk_G p) 5 f lt := by
  apply glist_inl; intro f lt h
  simp only [List.mem_cons, List.not_mem_nil, or_false, Prod.mk.injEq, CE.inl.injEq, and_false, or_false, false_or, reduceCtorEq] at h
  
noncomputable def impl_nodeOk_p (p : Nat) (a0 : Int) : Option (Bool × Unit) :=
  ((impl_within_p p a0 (0 : Int) (15 : Int)).bind fun r1 => some (r1.1, ()))
theorem impl_nodeOk_run (p : Nat) (x : (parsT [.val (.int .i64)]).T) : acall Try.prog (impl_nodeOk_G p) 5 1 95 .leaf (argAVs [.val (.int .i64)] x) ⟨[], 0, []⟩ (outR [.bool]) = impl_nodeOk_p p x.1 := by kernel_rfl
noncomputable def impl_nodeOk_c (p : Nat) : PC := PC.fn true [.val (.int .i64)] [.bool] fun x => impl_nodeOk_p p x.1
theorem impl_nodeOk_s (p : Nat) : PSound Try.prog 95 (impl_nodeOk_c p) := pure_sound (impl_nodeOk_E p) Try.checked.mixed (impl_nodeOk_I p) LTok_leaf (fun _ => rfl) fun x y h => (impl_nodeOk_run p x).trans h
/-! impl.ValidPipe -/
noncomputable def impl_ValidPipe_G (p : Nat) : FuncId → Option CE := glist [(66, .pure (impl_within_c p)), (94, .pure (impl_IsName_c p)), (95, .pure (impl_nodeOk_c p))]
theorem impl_ValidPipe_E (p : Nat) : EnvS Try.prog (impl_ValidPipe_G p) := by
  apply glist_env; intro f ce h
  simp only [List.mem_cons, List.not_mem_nil, or_false, Prod.mk.injEq] at h
  rcases h with ⟨rfl, rfl⟩ | ⟨rfl, rfl⟩ | ⟨rfl, rfl⟩
  · exact impl_within_s p
  · exact impl_IsName_s p
  · exact impl_nodeOk_s p
theorem impl_ValidPipe_I (p : Nat) : ∀ f lt, impl_ValidPipe_G p f = some (.inl lt) → LTok Try.prog (impl_ValidPipe_G p) 5 f lt := by
  apply glist_inl; intro f lt h
  simp only [List.mem_cons, List.not_mem_nil, or_false, Prod.mk.injEq, CE.inl.injEq, and_false, or_false, false_or, reduceCtorEq] at h
  
noncomputable def impl_ValidPipe_p (p : Nat) (a0 : (Ty.T TPipe)) : Option (Bool × Unit) :=
  ((impl_IsName_p p a0.1).bind fun r1 => (bif r1.1 then ((impl_nodeOk_p p a0.2.1).bind fun r2 => (bif r2.1 then ((impl_nodeOk_p p a0.2.2.1).bind fun r3 => (bif r3.1 then (bif (a0.2.1 != a0.2.2.1) then ((impl_within_p p a0.2.2.2.1 (1 : Int) (10000 : Int)).bind fun r4 => (bif r4.1 then ((impl_within_p p a0.2.2.2.2.1 (20 : Int) (1000 : Int)).bind fun r5 => (bif r5.1 then ((impl_within_p p a0.2.2.2.2.2 (0 : Int) (5000 : Int)).bind fun r6 => some (r6.1, ()))
 else some (false, ())))
 else some (false, ())))
 else some (false, ()))
 else some (false, ())))
 else some (false, ())))
 else some (false, ())))
theorem impl_ValidPipe_run (p : Nat) (x : (parsT [.val TPipe]).T) : acall Try.prog (impl_ValidPipe_G p) 5 1 64 .leaf (argAVs [.val TPipe] x) ⟨[], 0, []⟩ (outR [.bool]) = impl_ValidPipe_p p x.1 := by kernel_rfl
noncomputable def impl_ValidPipe_c (p : Nat) : PC := PC.fn true [.val TPipe] [.bool] fun x => impl_ValidPipe_p p x.1
theorem impl_ValidPipe_s (p : Nat) : PSound Try.prog 64 (impl_ValidPipe_c p) := pure_sound (impl_ValidPipe_E p) Try.checked.mixed (impl_ValidPipe_I p) LTok_leaf (fun _ => rfl) fun x y h => (impl_ValidPipe_run p x).trans h
/-! (impl.Network).hasNode -/
noncomputable def impl_Network_hasNode_G (p : Nat) : FuncId → Option CE := glist [(66, .pure (impl_within_c p))]
theorem impl_Network_hasNode_E (p : Nat) : EnvS Try.prog (impl_Network_hasNode_G p) := by
  apply glist_env; intro f ce h
  simp only [List.mem_cons, List.not_mem_nil, or_false, Prod.mk.injEq] at h
  rcases h with ⟨rfl, rfl⟩
  · exact impl_within_s p
theorem impl_Network_hasNode_I (p : Nat) : ∀ f lt, impl_Network_hasNode_G p f = some (.inl lt) → LTok Try.prog (impl_Network_hasNode_G p) 5 f lt := by
  apply glist_inl; intro f lt h
  simp only [List.mem_cons, List.not_mem_nil, or_false, Prod.mk.injEq, CE.inl.injEq, and_false, or_false, false_or, reduceCtorEq] at h
  
noncomputable def impl_Network_hasNode_p (p : Nat) (a0 : (Ty.T TNetwork)) (a1 : Int) : Option (Bool × Unit) :=
  ((impl_within_p p a1 (0 : Int) (IntKind.wrap .i64 ((a0.1.length : Int) - (1 : Int)))).bind fun r1 => some (r1.1, ()))
theorem impl_Network_hasNode_run (p : Nat) (x : (parsT [.val TNetwork, .val (.int .i64)]).T) : acall Try.prog (impl_Network_hasNode_G p) 5 1 32 .leaf (argAVs [.val TNetwork, .val (.int .i64)] x) ⟨[], 0, []⟩ (outR [.bool]) = impl_Network_hasNode_p p x.1 x.2.1 := by kernel_rfl
noncomputable def impl_Network_hasNode_c (p : Nat) : PC := PC.fn true [.val TNetwork, .val (.int .i64)] [.bool] fun x => impl_Network_hasNode_p p x.1 x.2.1
theorem impl_Network_hasNode_s (p : Nat) : PSound Try.prog 32 (impl_Network_hasNode_c p) := pure_sound (impl_Network_hasNode_E p) Try.checked.mixed (impl_Network_hasNode_I p) LTok_leaf (fun _ => rfl) fun x y h => (impl_Network_hasNode_run p x).trans h
/-! (impl.Network).hasEnds -/
noncomputable def impl_Network_hasEnds_G (p : Nat) : FuncId → Option CE := glist [(32, .pure (impl_Network_hasNode_c p))]
theorem impl_Network_hasEnds_E (p : Nat) : EnvS Try.prog (impl_Network_hasEnds_G p) := by
  apply glist_env; intro f ce h
  simp only [List.mem_cons, List.not_mem_nil, or_false, Prod.mk.injEq] at h
  rcases h with ⟨rfl, rfl⟩
  · exact impl_Network_hasNode_s p
theorem impl_Network_hasEnds_I (p : Nat) : ∀ f lt, impl_Network_hasEnds_G p f = some (.inl lt) → LTok Try.prog (impl_Network_hasEnds_G p) 5 f lt := by
  apply glist_inl; intro f lt h
  simp only [List.mem_cons, List.not_mem_nil, or_false, Prod.mk.injEq, CE.inl.injEq, and_false, or_false, false_or, reduceCtorEq] at h
  
noncomputable def impl_Network_hasEnds_p (p : Nat) (a0 : (Ty.T TNetwork)) (a1 : (Ty.T TPipe)) : Option (Bool × Unit) :=
  ((impl_Network_hasNode_p p a0 a1.2.1).bind fun r1 => (bif r1.1 then ((impl_Network_hasNode_p p a0 a1.2.2.1).bind fun r2 => some (r2.1, ()))
 else some (false, ())))
theorem impl_Network_hasEnds_run (p : Nat) (x : (parsT [.val TNetwork, .val TPipe]).T) : acall Try.prog (impl_Network_hasEnds_G p) 5 1 65 .leaf (argAVs [.val TNetwork, .val TPipe] x) ⟨[], 0, []⟩ (outR [.bool]) = impl_Network_hasEnds_p p x.1 x.2.1 := by kernel_rfl
noncomputable def impl_Network_hasEnds_c (p : Nat) : PC := PC.fn true [.val TNetwork, .val TPipe] [.bool] fun x => impl_Network_hasEnds_p p x.1 x.2.1
theorem impl_Network_hasEnds_s (p : Nat) : PSound Try.prog 65 (impl_Network_hasEnds_c p) := pure_sound (impl_Network_hasEnds_E p) Try.checked.mixed (impl_Network_hasEnds_I p) LTok_leaf (fun _ => rfl) fun x y h => (impl_Network_hasEnds_run p x).trans h
/-! impl.ValidNetwork -/
noncomputable def impl_ValidNetwork_l0_r {α : Type} (p : Nat) (v0 : List (Ty.T TPipe)) (v1 : Int) (v3 : List Int) (v4 : List (Ty.T TPipe)) (rec : (Int) → Option α) (v2 : Int) (k0 : (Bool) → Option α) (k1 : Unit → Option α) : Option α :=
  (bif (decide (v2 < v1)) then (if 0 ≤ v2 then (v0[v2.toNat]?).bind fun y2 => ((impl_ValidPipe_p p y2).bind fun r3 => (bif (!r3.1) then (k0 false)
 else ((impl_Network_hasEnds_p p (v3, v4) y2).bind fun r4 => (bif (!r4.1) then (k0 false)
 else (bif (decide (v2 > (0 : Int))) then (if 0 ≤ (IntKind.wrap .i64 (v2 - (1 : Int))) then (v4[(IntKind.wrap .i64 (v2 - (1 : Int))).toNat]?).bind fun y5 => (bif ((Op.bytesLess y2.1.toList y5.1.toList) || (y2.1.toList == y5.1.toList)) then (k0 false)
 else (rec (IntKind.wrap .i64 (v2 + (1 : Int))))) else none)
 else (rec (IntKind.wrap .i64 (v2 + (1 : Int))))))))) else none)
 else (k1 ()))
noncomputable def impl_ValidNetwork_l0_go {α : Type} (p : Nat) (v0 : List (Ty.T TPipe)) (v1 : Int) (v3 : List Int) (v4 : List (Ty.T TPipe)) : Nat → (Int) → ((Bool) → Option α) → (Unit → Option α) → Option α
  | 0, _, _, _ => none
  | q + 1, v2, k0, k1 => impl_ValidNetwork_l0_r p v0 v1 v3 v4 (fun v2 => impl_ValidNetwork_l0_go p v0 v1 v3 v4 q v2 k0 k1) v2 k0 k1
def impl_ValidNetwork_l0_sh : Sh := ⟨[⟨1, false, [.lit (.ptr 0 0)]⟩, ⟨28, false, [.sl TPipe]⟩, ⟨29, false, [.int .i64]⟩, ⟨30, false, [.int .i64]⟩], 1, [(0, .box [.sl (.int .i64), .sl TPipe])]⟩
noncomputable def impl_ValidNetwork_lc0 (p : Nat) : LC := LC.alts 0 [⟨0, impl_ValidNetwork_l0_sh, fun x {α} k => impl_ValidNetwork_l0_go p x.1.2.1.1 x.1.2.2.1.1 x.2.1.1 x.2.1.2.1 p x.1.2.2.2.1.1 (fun o0 => k .ret ⟨[(2, .one ⟨false, [.bool o0]⟩)], 0, []⟩) (fun _ => k (.exit 0) ⟨[], 0, []⟩)⟩]
noncomputable def impl_ValidNetwork_lt (p : Nat) : LT := (.node .leaf (.node .leaf (.node (.node .leaf (.loop [1, 28, 29, 30] [2] (some (impl_ValidNetwork_lc0 p)) .leaf)) .leaf)))
noncomputable def impl_ValidNetwork_G (p : Nat) : FuncId → Option CE := glist [(63, .pure (impl_allWithin_c p)), (64, .pure (impl_ValidPipe_c p)), (65, .pure (impl_Network_hasEnds_c p))]
noncomputable def impl_ValidNetwork_c0 : Code := codeAt [1, 1, 0, 1, 0, 0] (bodyOf Try.f31)
noncomputable def impl_ValidNetwork_it0 {α : Type} (p n b : Nat) (k : Ex → St → Option α) (q : Nat) (st : St) : Option α :=
  iter (fun s q => aexec Try.prog (impl_ValidNetwork_G p) (fun g lt args st (k : D → St → Option α) => acall Try.prog (impl_ValidNetwork_G p) 5 (n + 0) g lt args st k) 5 b 61 impl_ValidNetwork_c0 .leaf s q) (canon b [1, 28, 29, 30]) q st (fun e s => k e (canon b [2] s))
theorem impl_ValidNetwork_l0_step {α : Type} (p n : Nat) (k : Ex → St → Option α) (v0 : List (Ty.T TPipe)) (v1 : Int) (v3 : List Int) (v4 : List (Ty.T TPipe)) (q : Nat) (v2 : Int) : impl_ValidNetwork_it0 p n 0 k (q + 1) (impl_ValidNetwork_l0_sh.mk' ((((), ()), (v0, ()), (v1, ()), (v2, ()), ()), ((v3, v4, ()), ()))) =
  impl_ValidNetwork_l0_r p v0 v1 v3 v4 (fun v2 => impl_ValidNetwork_it0 p n 0 k q (impl_ValidNetwork_l0_sh.mk' ((((), ()), (v0, ()), (v1, ()), (v2, ()), ()), ((v3, v4, ()), ())))) v2 (fun o0 => k .ret ⟨[(2, .one ⟨false, [.bool o0]⟩)], 0, []⟩) (fun _ => k (.exit 0) ⟨[], 0, []⟩) := by kernel_rfl
theorem impl_ValidNetwork_l0_ok {α : Type} (p n : Nat) (k : Ex → St → Option α) (v0 : List (Ty.T TPipe)) (v1 : Int) (v3 : List Int) (v4 : List (Ty.T TPipe)) : ∀ (q : Nat) (v2 : Int), impl_ValidNetwork_it0 p n 0 k q (impl_ValidNetwork_l0_sh.mk' ((((), ()), (v0, ()), (v1, ()), (v2, ()), ()), ((v3, v4, ()), ()))) =
  impl_ValidNetwork_l0_go p v0 v1 v3 v4 q v2 (fun o0 => k .ret ⟨[(2, .one ⟨false, [.bool o0]⟩)], 0, []⟩) (fun _ => k (.exit 0) ⟨[], 0, []⟩) := by
  intro q
  induction q with
  | zero => intros; rfl
  | succ q ih => intro v2; rw [impl_ValidNetwork_l0_step]; simp only [ih]; rfl
theorem impl_ValidNetwork_ltok_31_ls (p : Nat) : loopsOf (bodyOf Try.f31) (impl_ValidNetwork_lt p) = [⟨impl_ValidNetwork_c0, [1, 28, 29, 30], [2], impl_ValidNetwork_lc0 p, .leaf⟩] := by kernel_rfl
theorem impl_ValidNetwork_ltok_31_dep (p : Nat) : LT.dep (impl_ValidNetwork_lt p) = 0 := by kernel_rfl
theorem impl_ValidNetwork_ltok_31 (p : Nat) : LTok Try.prog (impl_ValidNetwork_G p) 5 31 (impl_ValidNetwork_lt p) := by
  intro α n base fn c hd hfn hc
  have hfn' : some fn = some Try.f31 := hfn.symm.trans Try.func31
  cases hfn'
  have hc' : c = bodyOf Try.f31 := by unfold bodyOf; rw [hc]; rfl
  subst hc'
  rw [impl_ValidNetwork_ltok_31_dep] at hd
  obtain ⟨n, rfl⟩ := Nat.exists_eq_add_of_le' hd
  apply LTS_of_loops
  rw [impl_ValidNetwork_ltok_31_ls]
  intro e he st k r h
  simp only [List.mem_cons, List.not_mem_nil, or_false] at he
  subst he
  · obtain ⟨a, ha, hb, x, rfl, h⟩ := altRun_ok h
    simp only [List.mem_cons, List.not_mem_nil, or_false] at ha
    subst ha
    · cases hb; exact ⟨p, (impl_ValidNetwork_l0_ok p n k _ _ _ _ p _).trans h⟩
theorem impl_ValidNetwork_E (p : Nat) : EnvS Try.prog (impl_ValidNetwork_G p) := by
  apply glist_env; intro f ce h
  simp only [List.mem_cons, List.not_mem_nil, or_false, Prod.mk.injEq] at h
  rcases h with ⟨rfl, rfl⟩ | ⟨rfl, rfl⟩ | ⟨rfl, rfl⟩
  · exact impl_allWithin_s p
  · exact impl_ValidPipe_s p
  · exact impl_Network_hasEnds_s p
theorem impl_ValidNetwork_I (p : Nat) : ∀ f lt, impl_ValidNetwork_G p f = some (.inl lt) → LTok Try.prog (impl_ValidNetwork_G p) 5 f lt := by
  apply glist_inl; intro f lt h
  simp only [List.mem_cons, List.not_mem_nil, or_false, Prod.mk.injEq, CE.inl.injEq, and_false, or_false, false_or, reduceCtorEq] at h
  
noncomputable def impl_ValidNetwork_p (p : Nat) (a0 : (Ty.T TNetwork)) : Option (Bool × Unit) :=
  (bif (decide ((a0.1.length : Int) < (1 : Int))) then some (false, ())
 else (bif (decide ((a0.1.length : Int) > (16 : Int))) then some (false, ())
 else ((impl_allWithin_p p a0.1 (-100000 : Int) (100000 : Int)).bind fun r1 => (bif (!r1.1) then some (false, ())
 else (bif (decide ((a0.2.length : Int) > (20 : Int))) then some (false, ())
 else (impl_ValidNetwork_l0_go p a0.2 (a0.2.length : Int) a0.1 a0.2 p (0 : Int) (fun o6 => some (o6, ())) (fun _ => some (true, ()))))))))
theorem impl_ValidNetwork_run (p : Nat) (x : (parsT [.val TNetwork]).T) : acall Try.prog (impl_ValidNetwork_G p) 5 1 31 (impl_ValidNetwork_lt p) (argAVs [.val TNetwork] x) ⟨[], 0, []⟩ (outR [.bool]) = impl_ValidNetwork_p p x.1 := by kernel_rfl
noncomputable def impl_ValidNetwork_c (p : Nat) : PC := PC.fn true [.val TNetwork] [.bool] fun x => impl_ValidNetwork_p p x.1
theorem impl_ValidNetwork_s (p : Nat) : PSound Try.prog 31 (impl_ValidNetwork_c p) := pure_sound (impl_ValidNetwork_E p) Try.checked.mixed (impl_ValidNetwork_I p) (impl_ValidNetwork_ltok_31 p) (fun _ => rfl) fun x y h => (impl_ValidNetwork_run p x).trans h
/-! impl.pressureOk -/
noncomputable def impl_pressureOk_G (p : Nat) : FuncId → Option CE := glist [(66, .pure (impl_within_c p))]
theorem impl_pressureOk_E (p : Nat) : EnvS Try.prog (impl_pressureOk_G p) := by
  apply glist_env; intro f ce h
  simp only [List.mem_cons, List.not_mem_nil, or_false, Prod.mk.injEq] at h
  rcases h with ⟨rfl, rfl⟩
  · exact impl_within_s p
theorem impl_pressureOk_I (p : Nat) : ∀ f lt, impl_pressureOk_G p f = some (.inl lt) → LTok Try.prog (impl_pressureOk_G p) 5 f lt := by
  apply glist_inl; intro f lt h
  simp only [List.mem_cons, List.not_mem_nil, or_false, Prod.mk.injEq, CE.inl.injEq, and_false, or_false, false_or, reduceCtorEq] at h
  
noncomputable def impl_pressureOk_p (p : Nat) (a0 : Int) : Option (Bool × Unit) :=
  ((impl_within_p p a0 (0 : Int) (100000000 : Int)).bind fun r1 => some (r1.1, ()))
theorem impl_pressureOk_run (p : Nat) (x : (parsT [.val (.int .i64)]).T) : acall Try.prog (impl_pressureOk_G p) 5 1 96 .leaf (argAVs [.val (.int .i64)] x) ⟨[], 0, []⟩ (outR [.bool]) = impl_pressureOk_p p x.1 := by kernel_rfl
noncomputable def impl_pressureOk_c (p : Nat) : PC := PC.fn true [.val (.int .i64)] [.bool] fun x => impl_pressureOk_p p x.1
theorem impl_pressureOk_s (p : Nat) : PSound Try.prog 96 (impl_pressureOk_c p) := pure_sound (impl_pressureOk_E p) Try.checked.mixed (impl_pressureOk_I p) LTok_leaf (fun _ => rfl) fun x y h => (impl_pressureOk_run p x).trans h
/-! (impl.Network).flowsOk -/
noncomputable def impl_Network_flowsOk_G (p : Nat) : FuncId → Option CE := glist [(63, .pure (impl_allWithin_c p))]
theorem impl_Network_flowsOk_E (p : Nat) : EnvS Try.prog (impl_Network_flowsOk_G p) := by
  apply glist_env; intro f ce h
  simp only [List.mem_cons, List.not_mem_nil, or_false, Prod.mk.injEq] at h
  rcases h with ⟨rfl, rfl⟩
  · exact impl_allWithin_s p
theorem impl_Network_flowsOk_I (p : Nat) : ∀ f lt, impl_Network_flowsOk_G p f = some (.inl lt) → LTok Try.prog (impl_Network_flowsOk_G p) 5 f lt := by
  apply glist_inl; intro f lt h
  simp only [List.mem_cons, List.not_mem_nil, or_false, Prod.mk.injEq, CE.inl.injEq, and_false, or_false, false_or, reduceCtorEq] at h
  
noncomputable def impl_Network_flowsOk_p (p : Nat) (a0 : (Ty.T TNetwork)) (a1 : (List Int)) : Option (Bool × Unit) :=
  (bif ((a1.length : Int) == (a0.2.length : Int)) then ((impl_allWithin_p p a1 (-100000 : Int) (100000 : Int)).bind fun r1 => some (r1.1, ()))
 else some (false, ()))
theorem impl_Network_flowsOk_run (p : Nat) (x : (parsT [.val TNetwork, .val (.slice (.int .i64))]).T) : acall Try.prog (impl_Network_flowsOk_G p) 5 1 97 .leaf (argAVs [.val TNetwork, .val (.slice (.int .i64))] x) ⟨[], 0, []⟩ (outR [.bool]) = impl_Network_flowsOk_p p x.1 x.2.1 := by kernel_rfl
noncomputable def impl_Network_flowsOk_c (p : Nat) : PC := PC.fn true [.val TNetwork, .val (.slice (.int .i64))] [.bool] fun x => impl_Network_flowsOk_p p x.1 x.2.1
theorem impl_Network_flowsOk_s (p : Nat) : PSound Try.prog 97 (impl_Network_flowsOk_c p) := pure_sound (impl_Network_flowsOk_E p) Try.checked.mixed (impl_Network_flowsOk_I p) LTok_leaf (fun _ => rfl) fun x y h => (impl_Network_flowsOk_run p x).trans h
/-! (impl.Pipe).other -/
noncomputable def impl_Pipe_other_G (p : Nat) : FuncId → Option CE := glist []
theorem impl_Pipe_other_E (p : Nat) : EnvS Try.prog (impl_Pipe_other_G p) := by
  apply glist_env; intro f ce h
  simp only [List.mem_cons, List.not_mem_nil, or_false, Prod.mk.injEq] at h
  
theorem impl_Pipe_other_I (p : Nat) : ∀ f lt, impl_Pipe_other_G p f = some (.inl lt) → LTok Try.prog (impl_Pipe_other_G p) 5 f lt := by
  apply glist_inl; intro f lt h
  simp only [List.mem_cons, List.not_mem_nil, or_false, Prod.mk.injEq, CE.inl.injEq, and_false, or_false, false_or, reduceCtorEq] at h
  
noncomputable def impl_Pipe_other_p (p : Nat) (a0 : (Ty.T TPipe)) (a1 : Int) : Option (Int × Bool × Unit) :=
  (bif (a1 == a0.2.1) then some (a0.2.2.1, true, ())
 else (bif (a1 == a0.2.2.1) then some (a0.2.1, true, ())
 else some ((0 : Int), false, ())))
theorem impl_Pipe_other_run (p : Nat) (x : (parsT [.val TPipe, .val (.int .i64)]).T) : acall Try.prog (impl_Pipe_other_G p) 5 1 68 .leaf (argAVs [.val TPipe, .val (.int .i64)] x) ⟨[], 0, []⟩ (outR [(.int .i64), .bool]) = impl_Pipe_other_p p x.1 x.2.1 := by kernel_rfl
noncomputable def impl_Pipe_other_c (p : Nat) : PC := PC.fn true [.val TPipe, .val (.int .i64)] [(.int .i64), .bool] fun x => impl_Pipe_other_p p x.1 x.2.1
theorem impl_Pipe_other_s (p : Nat) : PSound Try.prog 68 (impl_Pipe_other_c p) := pure_sound (impl_Pipe_other_E p) Try.checked.mixed (impl_Pipe_other_I p) LTok_leaf (fun _ => rfl) fun x y h => (impl_Pipe_other_run p x).trans h
/-! slices.Index[[]int64,int64] -/
noncomputable def slices_Index_int64_int64_l0_r {α : Type} (p : Nat) (v0 : List Int) (v1 : Int) (v2 : Int) (rec : (Int) → Option α) (v3 : Int) (k0 : (Int) → Option α) (k1 : Unit → Option α) : Option α :=
  (bif (decide (v3 < v2)) then (if 0 ≤ v3 then (v0[v3.toNat]?).bind fun y1 => (bif (v1 == y1) then (k0 v3)
 else (rec (IntKind.wrap .i64 (v3 + (1 : Int))))) else none)
 else (k1 ()))
noncomputable def slices_Index_int64_int64_l0_go {α : Type} (p : Nat) (v0 : List Int) (v1 : Int) (v2 : Int) : Nat → (Int) → ((Int) → Option α) → (Unit → Option α) → Option α
  | 0, _, _, _ => none
  | q + 1, v3, k0, k1 => slices_Index_int64_int64_l0_r p v0 v1 v2 (fun v3 => slices_Index_int64_int64_l0_go p v0 v1 v2 q v3 k0 k1) v3 k0 k1
def slices_Index_int64_int64_l0_sh : Sh := ⟨[⟨0, false, [.sl (.int .i64)]⟩, ⟨1, false, [.int .i64]⟩, ⟨7, false, [.int .i64]⟩, ⟨8, false, [.int .i64]⟩], 0, []⟩
noncomputable def slices_Index_int64_int64_lc0 (p : Nat) : LC := LC.alts 0 [⟨0, slices_Index_int64_int64_l0_sh, fun x {α} k => slices_Index_int64_int64_l0_go p x.1.1.1 x.1.2.1.1 x.1.2.2.1.1 p x.1.2.2.2.1.1 (fun o0 => k .ret ⟨[(4, .one ⟨false, [.int .i64 o0]⟩)], 0, []⟩) (fun _ => k (.exit 0) ⟨[], 0, []⟩)⟩]
noncomputable def slices_Index_int64_int64_lt (p : Nat) : LT := (.node .leaf (.node (.node .leaf (.loop [0, 1, 7, 8] [4] (some (slices_Index_int64_int64_lc0 p)) .leaf)) .leaf))
noncomputable def slices_Index_int64_int64_G (p : Nat) : FuncId → Option CE := glist []
noncomputable def slices_Index_int64_int64_c0 : Code := codeAt [1, 0, 1, 0, 0] (bodyOf Try.f81)
noncomputable def slices_Index_int64_int64_it0 {α : Type} (p n b : Nat) (k : Ex → St → Option α) (q : Nat) (st : St) : Option α :=
  iter (fun s q => aexec Try.prog (slices_Index_int64_int64_G p) (fun g lt args st (k : D → St → Option α) => acall Try.prog (slices_Index_int64_int64_G p) 5 (n + 0) g lt args st k) 5 b 19 slices_Index_int64_int64_c0 .leaf s q) (canon b [0, 1, 7, 8]) q st (fun e s => k e (canon b [4] s))
theorem slices_Index_int64_int64_l0_step {α : Type} (p n : Nat) (k : Ex → St → Option α) (v0 : List Int) (v1 : Int) (v2 : Int) (q : Nat) (v3 : Int) : slices_Index_int64_int64_it0 p n 0 k (q + 1) (slices_Index_int64_int64_l0_sh.mk' (((v0, ()), (v1, ()), (v2, ()), (v3, ()), ()), (()))) =
  slices_Index_int64_int64_l0_r p v0 v1 v2 (fun v3 => slices_Index_int64_int64_it0 p n 0 k q (slices_Index_int64_int64_l0_sh.mk' (((v0, ()), (v1, ()), (v2, ()), (v3, ()), ()), (())))) v3 (fun o0 => k .ret ⟨[(4, .one ⟨false, [.int .i64 o0]⟩)], 0, []⟩) (fun _ => k (.exit 0) ⟨[], 0, []⟩) := by kernel_rfl
theorem slices_Index_int64_int64_l0_ok {α : Type} (p n : Nat) (k : Ex → St → Option α) (v0 : List Int) (v1 : Int) (v2 : Int) : ∀ (q : Nat) (v3 : Int), slices_Index_int64_int64_it0 p n 0 k q (slices_Index_int64_int64_l0_sh.mk' (((v0, ()), (v1, ()), (v2, ()), (v3, ()), ()), (()))) =
  slices_Index_int64_int64_l0_go p v0 v1 v2 q v3 (fun o0 => k .ret ⟨[(4, .one ⟨false, [.int .i64 o0]⟩)], 0, []⟩) (fun _ => k (.exit 0) ⟨[], 0, []⟩) := by
  intro q
  induction q with
  | zero => intros; rfl
  | succ q ih => intro v3; rw [slices_Index_int64_int64_l0_step]; simp only [ih]; rfl
theorem slices_Index_int64_int64_ltok_81_ls (p : Nat) : loopsOf (bodyOf Try.f81) (slices_Index_int64_int64_lt p) = [⟨slices_Index_int64_int64_c0, [0, 1, 7, 8], [4], slices_Index_int64_int64_lc0 p, .leaf⟩] := by kernel_rfl
theorem slices_Index_int64_int64_ltok_81_dep (p : Nat) : LT.dep (slices_Index_int64_int64_lt p) = 0 := by kernel_rfl
theorem slices_Index_int64_int64_ltok_81 (p : Nat) : LTok Try.prog (slices_Index_int64_int64_G p) 5 81 (slices_Index_int64_int64_lt p) := by
  intro α n base fn c hd hfn hc
  have hfn' : some fn = some Try.f81 := hfn.symm.trans Try.func81
  cases hfn'
  have hc' : c = bodyOf Try.f81 := by unfold bodyOf; rw [hc]; rfl
  subst hc'
  rw [slices_Index_int64_int64_ltok_81_dep] at hd
  obtain ⟨n, rfl⟩ := Nat.exists_eq_add_of_le' hd
  apply LTS_of_loops
  rw [slices_Index_int64_int64_ltok_81_ls]
  intro e he st k r h
  simp only [List.mem_cons, List.not_mem_nil, or_false] at he
  subst he
  · obtain ⟨a, ha, hb, x, rfl, h⟩ := altRun_ok h
    simp only [List.mem_cons, List.not_mem_nil, or_false] at ha
    subst ha
    · cases hb; exact ⟨p, (slices_Index_int64_int64_l0_ok p n k _ _ _ p _).trans h⟩
theorem slices_Index_int64_int64_E (p : Nat) : EnvS Try.prog (slices_Index_int64_int64_G p) := by
  apply glist_env; intro f ce h
  simp only [List.mem_cons, List.not_mem_nil, or_false, Prod.mk.injEq] at h
  
theorem slices_Index_int64_int64_I (p : Nat) : ∀ f lt, slices_Index_int64_int64_G p f = some (.inl lt) → LTok Try.prog (slices_Index_int64_int64_G p) 5 f lt := by
  apply glist_inl; intro f lt h
  simp only [List.mem_cons, List.not_mem_nil, or_false, Prod.mk.injEq, CE.inl.injEq, and_false, or_false, false_or, reduceCtorEq] at h
  
noncomputable def slices_Index_int64_int64_p (p : Nat) (a0 : (List Int)) (a1 : Int) : Option (Int × Unit) :=
  (slices_Index_int64_int64_l0_go p a0 a1 (a0.length : Int) p (0 : Int) (fun o2 => some (o2, ())) (fun _ => some ((-1 : Int), ())))
theorem slices_Index_int64_int64_run (p : Nat) (x : (parsT [.val (.slice (.int .i64)), .val (.int .i64)]).T) : acall Try.prog (slices_Index_int64_int64_G p) 5 1 81 (slices_Index_int64_int64_lt p) (argAVs [.val (.slice (.int .i64)), .val (.int .i64)] x) ⟨[], 0, []⟩ (outR [(.int .i64)]) = slices_Index_int64_int64_p p x.1 x.2.1 := by kernel_rfl
noncomputable def slices_Index_int64_int64_c (p : Nat) : PC := PC.fn true [.val (.slice (.int .i64)), .val (.int .i64)] [(.int .i64)] fun x => slices_Index_int64_int64_p p x.1 x.2.1
theorem slices_Index_int64_int64_s (p : Nat) : PSound Try.prog 81 (slices_Index_int64_int64_c p) := pure_sound (slices_Index_int64_int64_E p) Try.checked.mixed (slices_Index_int64_int64_I p) (slices_Index_int64_int64_ltok_81 p) (fun _ => rfl) fun x y h => (slices_Index_int64_int64_run p x).trans h
/-! slices.Contains[[]int64,int64] -/
noncomputable def slices_Contains_int64_int64_G (p : Nat) : FuncId → Option CE := glist [(81, .pure (slices_Index_int64_int64_c p))]
theorem slices_Contains_int64_int64_E (p : Nat) : EnvS Try.prog (slices_Contains_int64_int64_G p) := by
  apply glist_env; intro f ce h
  simp only [List.mem_cons, List.not_mem_nil, or_false, Prod.mk.injEq] at h
  rcases h with ⟨rfl, rfl⟩
  · exact slices_Index_int64_int64_s p
theorem slices_Contains_int64_int64_I (p : Nat) : ∀ f lt, slices_Contains_int64_int64_G p f = some (.inl lt) → LTok Try.prog (slices_Contains_int64_int64_G p) 5 f lt := by
  apply glist_inl; intro f lt h
  simp only [List.mem_cons, List.not_mem_nil, or_false, Prod.mk.injEq, CE.inl.injEq, and_false, or_false, false_or, reduceCtorEq] at h
  
noncomputable def slices_Contains_int64_int64_p (p : Nat) (a0 : (List Int)) (a1 : Int) : Option (Bool × Unit) :=
  ((slices_Index_int64_int64_p p a0 a1).bind fun r1 => some ((decide (r1.1 ≥ (0 : Int))), ()))
theorem slices_Contains_int64_int64_run (p : Nat) (x : (parsT [.val (.slice (.int .i64)), .val (.int .i64)]).T) : acall Try.prog (slices_Contains_int64_int64_G p) 5 1 49 .leaf (argAVs [.val (.slice (.int .i64)), .val (.int .i64)] x) ⟨[], 0, []⟩ (outR [.bool]) = slices_Contains_int64_int64_p p x.1 x.2.1 := by kernel_rfl
noncomputable def slices_Contains_int64_int64_c (p : Nat) : PC := PC.fn true [.val (.slice (.int .i64)), .val (.int .i64)] [.bool] fun x => slices_Contains_int64_int64_p p x.1 x.2.1
theorem slices_Contains_int64_int64_s (p : Nat) : PSound Try.prog 49 (slices_Contains_int64_int64_c p) := pure_sound (slices_Contains_int64_int64_E p) Try.checked.mixed (slices_Contains_int64_int64_I p) LTok_leaf (fun _ => rfl) fun x y h => (slices_Contains_int64_int64_run p x).trans h
/-! (impl.Network).reached -/
noncomputable def impl_Network_reached_l1_r {α : Type} (p : Nat) (v0 : List Int) (v1 : Int) (v2 : List (Ty.T TPipe)) (v3 : Int) (rec : (Int) → (List Int) → Option α) (v4 : Int) (v7 : List Int) (k0 : (List Int) → Option α) : Option α :=
  (bif (decide (v4 < v3)) then (if 0 ≤ v4 then (v2[v4.toNat]?).bind fun y1 => (if 0 ≤ v1 ∧ v1 < (v7.length : Int) then ((impl_Pipe_other_p p y1 (v7.getD v1.toNat (Ty.zero (.int .i64)))).bind fun r2 => (bif r2.2.1 then ((slices_Contains_int64_int64_p p v0 v4).bind fun r3 => (bif (!r3.1) then ((slices_Contains_int64_int64_p p v7 r2.1).bind fun r4 => (bif (!r4.1) then (bif capOk (v7.length + ((List.replicate 1 (Ty.zero (.int .i64))).set 0 r2.1).length) 8 then (rec (IntKind.wrap .i64 (v4 + (1 : Int))) (v7 ++ ((List.replicate 1 (Ty.zero (.int .i64))).set 0 r2.1))) else none)
 else (rec (IntKind.wrap .i64 (v4 + (1 : Int))) v7)))
 else (rec (IntKind.wrap .i64 (v4 + (1 : Int))) v7)))
 else (rec (IntKind.wrap .i64 (v4 + (1 : Int))) v7))) else none) else none)
 else (k0 v7))
noncomputable def impl_Network_reached_l1_go {α : Type} (p : Nat) (v0 : List Int) (v1 : Int) (v2 : List (Ty.T TPipe)) (v3 : Int) : Nat → (Int) → (List Int) → ((List Int) → Option α) → Option α
  | 0, _, _, _ => none
  | q + 1, v4, v7, k0 => impl_Network_reached_l1_r p v0 v1 v2 v3 (fun v4 v7 => impl_Network_reached_l1_go p v0 v1 v2 v3 q v4 v7 k0) v4 v7 k0
def impl_Network_reached_l1_sh : Sh := ⟨[⟨2, false, [.sl (.int .i64)]⟩, ⟨3, false, [.lit (.ptr 0 0)]⟩, ⟨7, false, [.lit (.own 1 0)]⟩, ⟨8, false, [.int .i64]⟩, ⟨22, false, [.sl TPipe]⟩, ⟨23, false, [.int .i64]⟩, ⟨24, false, [.int .i64]⟩], 2, [(0, .box [.sl (.int .i64), .sl TPipe]), (1, .arr 0 (.int .i64))]⟩
noncomputable def impl_Network_reached_l0_r {α : Type} (p : Nat) (v0 : List Int) (v3 : List (Ty.T TPipe)) (rec : (Int) → (List Int) → Option α) (v1 : Int) (v4 : List Int) (k0 : (List Int) → Option α) : Option α :=
  (bif (decide (v1 < (v4.length : Int))) then (impl_Network_reached_l1_go p v0 v1 v3 (v3.length : Int) p (0 : Int) v4 (fun o5 => (rec (IntKind.wrap .i64 (v1 + (1 : Int))) o5)))
 else (k0 v4))
noncomputable def impl_Network_reached_l0_go {α : Type} (p : Nat) (v0 : List Int) (v3 : List (Ty.T TPipe)) : Nat → (Int) → (List Int) → ((List Int) → Option α) → Option α
  | 0, _, _, _ => none
  | q + 1, v1, v4, k0 => impl_Network_reached_l0_r p v0 v3 (fun v1 v4 => impl_Network_reached_l0_go p v0 v3 q v1 v4 k0) v1 v4 k0
def impl_Network_reached_l0_sh : Sh := ⟨[⟨2, false, [.sl (.int .i64)]⟩, ⟨3, false, [.lit (.ptr 0 0)]⟩, ⟨7, false, [.lit (.own 1 0)]⟩, ⟨8, false, [.int .i64]⟩], 2, [(0, .box [.sl (.int .i64), .sl TPipe]), (1, .arr 0 (.int .i64))]⟩
noncomputable def impl_Network_reached_lc0 (p : Nat) : LC := LC.alts 0 [⟨0, impl_Network_reached_l1_sh, fun x {α} k => impl_Network_reached_l1_go p x.1.1.1 x.1.2.2.2.1.1 x.1.2.2.2.2.1.1 x.1.2.2.2.2.2.1.1 p x.1.2.2.2.2.2.2.1.1 x.2.2.1 (fun o4 => k (.exit 2) ⟨[(2, .one ⟨false, [.sl (.int .i64) x.1.1.1]⟩), (3, .one ⟨false, [.ptr 0 0]⟩), (7, .one ⟨false, [.own 1 0]⟩), (8, .one ⟨false, [.int .i64 x.1.2.2.2.1.1]⟩)], 2, [(0, .box [.sl (.int .i64) x.2.1.1, .sl TPipe x.2.1.2.1]), (1, .arr 0 (.int .i64) o4)]⟩)⟩]
noncomputable def impl_Network_reached_lc1 (p : Nat) : LC := LC.alts 0 [⟨0, impl_Network_reached_l0_sh, fun x {α} k => impl_Network_reached_l0_go p x.1.1.1 x.2.1.2.1 p x.1.2.2.2.1.1 x.2.2.1 (fun o0 => k (.exit 0) ⟨[(7, .one ⟨false, [.own 0 0]⟩)], 1, [(0, .arr 0 (.int .i64) o0)]⟩)⟩]
noncomputable def impl_Network_reached_lt (p : Nat) : LT := (.node .leaf (.node .leaf (.node (.node .leaf (.loop [2, 3, 7, 8] [7] (some (impl_Network_reached_lc1 p)) (.node .leaf (.node (.node .leaf (.loop [2, 3, 7, 8, 22, 23, 24] [2, 3, 7, 8] (some (impl_Network_reached_lc0 p)) .leaf)) .leaf)))) .leaf)))
noncomputable def impl_Network_reached_G (p : Nat) : FuncId → Option CE := glist [(49, .pure (slices_Contains_int64_int64_c p)), (68, .pure (impl_Pipe_other_c p)), (83, .gen gcSort)]
noncomputable def impl_Network_reached_c0 : Code := codeAt [1, 1, 0, 1, 0, 0, 1, 0, 0, 1, 0, 0] (bodyOf Try.f82)
noncomputable def impl_Network_reached_it0 {α : Type} (p n b : Nat) (k : Ex → St → Option α) (q : Nat) (st : St) : Option α :=
  iter (fun s q => aexec Try.prog (impl_Network_reached_G p) (fun g lt args st (k : D → St → Option α) => acall Try.prog (impl_Network_reached_G p) 5 (n + 0) g lt args st k) 5 b 59 impl_Network_reached_c0 .leaf s q) (canon b [2, 3, 7, 8, 22, 23, 24]) q st (fun e s => k e (canon b [2, 3, 7, 8] s))
theorem impl_Network_reached_l1_step {α : Type} (p n : Nat) (k : Ex → St → Option α) (v0 : List Int) (v1 : Int) (v2 : List (Ty.T TPipe)) (v3 : Int) (v5 : List Int) (v6 : List (Ty.T TPipe)) (q : Nat) (v4 : Int) (v7 : List Int) : impl_Network_reached_it0 p n 0 k (q + 1) (impl_Network_reached_l1_sh.mk' (((v0, ()), ((), ()), ((), ()), (v1, ()), (v2, ()), (v3, ()), (v4, ()), ()), ((v5, v6, ()), v7, ()))) =
  impl_Network_reached_l1_r p v0 v1 v2 v3 (fun v4 v7 => impl_Network_reached_it0 p n 0 k q (impl_Network_reached_l1_sh.mk' (((v0, ()), ((), ()), ((), ()), (v1, ()), (v2, ()), (v3, ()), (v4, ()), ()), ((v5, v6, ()), v7, ())))) v4 v7 (fun o4 => k (.exit 2) ⟨[(2, .one ⟨false, [.sl (.int .i64) v0]⟩), (3, .one ⟨false, [.ptr 0 0]⟩), (7, .one ⟨false, [.own 1 0]⟩), (8, .one ⟨false, [.int .i64 v1]⟩)], 2, [(0, .box [.sl (.int .i64) v5, .sl TPipe v6]), (1, .arr 0 (.int .i64) o4)]⟩) := by kernel_rfl
theorem impl_Network_reached_l1_ok {α : Type} (p n : Nat) (k : Ex → St → Option α) (v0 : List Int) (v1 : Int) (v2 : List (Ty.T TPipe)) (v3 : Int) (v5 : List Int) (v6 : List (Ty.T TPipe)) : ∀ (q : Nat) (v4 : Int) (v7 : List Int), impl_Network_reached_it0 p n 0 k q (impl_Network_reached_l1_sh.mk' (((v0, ()), ((), ()), ((), ()), (v1, ()), (v2, ()), (v3, ()), (v4, ()), ()), ((v5, v6, ()), v7, ()))) =
  impl_Network_reached_l1_go p v0 v1 v2 v3 q v4 v7 (fun o4 => k (.exit 2) ⟨[(2, .one ⟨false, [.sl (.int .i64) v0]⟩), (3, .one ⟨false, [.ptr 0 0]⟩), (7, .one ⟨false, [.own 1 0]⟩), (8, .one ⟨false, [.int .i64 v1]⟩)], 2, [(0, .box [.sl (.int .i64) v5, .sl TPipe v6]), (1, .arr 0 (.int .i64) o4)]⟩) := by
  intro q
  induction q with
  | zero => intros; rfl
  | succ q ih => intro v4 v7; rw [impl_Network_reached_l1_step]; simp only [ih]; rfl
noncomputable def impl_Network_reached_c1 : Code := codeAt [1, 1, 0, 1, 0, 0] (bodyOf Try.f82)
noncomputable def impl_Network_reached_it1 {α : Type} (p n b : Nat) (k : Ex → St → Option α) (q : Nat) (st : St) : Option α :=
  iter (fun s q => aexec Try.prog (impl_Network_reached_G p) (fun g lt args st (k : D → St → Option α) => acall Try.prog (impl_Network_reached_G p) 5 (n + 0) g lt args st k) 5 b 59 impl_Network_reached_c1 (.node .leaf (.node (.node .leaf (.loop [2, 3, 7, 8, 22, 23, 24] [2, 3, 7, 8] (some (impl_Network_reached_lc0 p)) .leaf)) .leaf)) s q) (canon b [2, 3, 7, 8]) q st (fun e s => k e (canon b [7] s))
theorem impl_Network_reached_l0_step {α : Type} (p n : Nat) (k : Ex → St → Option α) (v0 : List Int) (v2 : List Int) (v3 : List (Ty.T TPipe)) (q : Nat) (v1 : Int) (v4 : List Int) : impl_Network_reached_it1 p n 0 k (q + 1) (impl_Network_reached_l0_sh.mk' (((v0, ()), ((), ()), ((), ()), (v1, ()), ()), ((v2, v3, ()), v4, ()))) =
  impl_Network_reached_l0_r p v0 v3 (fun v1 v4 => impl_Network_reached_it1 p n 0 k q (impl_Network_reached_l0_sh.mk' (((v0, ()), ((), ()), ((), ()), (v1, ()), ()), ((v2, v3, ()), v4, ())))) v1 v4 (fun o0 => k (.exit 0) ⟨[(7, .one ⟨false, [.own 0 0]⟩)], 1, [(0, .arr 0 (.int .i64) o0)]⟩) := by kernel_rfl
theorem impl_Network_reached_l0_ok {α : Type} (p n : Nat) (k : Ex → St → Option α) (v0 : List Int) (v2 : List Int) (v3 : List (Ty.T TPipe)) : ∀ (q : Nat) (v1 : Int) (v4 : List Int), impl_Network_reached_it1 p n 0 k q (impl_Network_reached_l0_sh.mk' (((v0, ()), ((), ()), ((), ()), (v1, ()), ()), ((v2, v3, ()), v4, ()))) =
  impl_Network_reached_l0_go p v0 v3 q v1 v4 (fun o0 => k (.exit 0) ⟨[(7, .one ⟨false, [.own 0 0]⟩)], 1, [(0, .arr 0 (.int .i64) o0)]⟩) := by
  intro q
  induction q with
  | zero => intros; rfl
  | succ q ih => intro v1 v4; rw [impl_Network_reached_l0_step]; simp only [ih]; rfl
theorem impl_Network_reached_ltok_82_ls (p : Nat) : loopsOf (bodyOf Try.f82) (impl_Network_reached_lt p) = [⟨impl_Network_reached_c1, [2, 3, 7, 8], [7], impl_Network_reached_lc1 p, (.node .leaf (.node (.node .leaf (.loop [2, 3, 7, 8, 22, 23, 24] [2, 3, 7, 8] (some (impl_Network_reached_lc0 p)) .leaf)) .leaf))⟩, ⟨impl_Network_reached_c0, [2, 3, 7, 8, 22, 23, 24], [2, 3, 7, 8], impl_Network_reached_lc0 p, .leaf⟩] := by kernel_rfl
theorem impl_Network_reached_ltok_82_dep (p : Nat) : LT.dep (impl_Network_reached_lt p) = 0 := by kernel_rfl
theorem impl_Network_reached_ltok_82 (p : Nat) : LTok Try.prog (impl_Network_reached_G p) 5 82 (impl_Network_reached_lt p) := by
  intro α n base fn c hd hfn hc
  have hfn' : some fn = some Try.f82 := hfn.symm.trans Try.func82
  cases hfn'
  have hc' : c = bodyOf Try.f82 := by unfold bodyOf; rw [hc]; rfl
  subst hc'
  rw [impl_Network_reached_ltok_82_dep] at hd
  obtain ⟨n, rfl⟩ := Nat.exists_eq_add_of_le' hd
  apply LTS_of_loops
  rw [impl_Network_reached_ltok_82_ls]
  intro e he st k r h
  simp only [List.mem_cons, List.not_mem_nil, or_false] at he
  rcases he with rfl | rfl
  · obtain ⟨a, ha, hb, x, rfl, h⟩ := altRun_ok h
    simp only [List.mem_cons, List.not_mem_nil, or_false] at ha
    subst ha
    · cases hb; exact ⟨p, (impl_Network_reached_l0_ok p n k _ _ _ p _ _).trans h⟩
  · obtain ⟨a, ha, hb, x, rfl, h⟩ := altRun_ok h
    simp only [List.mem_cons, List.not_mem_nil, or_false] at ha
    subst ha
    · cases hb; exact ⟨p, (impl_Network_reached_l1_ok p n k _ _ _ _ _ _ p _ _).trans h⟩
theorem impl_Network_reached_E (p : Nat) : EnvS Try.prog (impl_Network_reached_G p) := by
  apply glist_env; intro f ce h
  simp only [List.mem_cons, List.not_mem_nil, or_false, Prod.mk.injEq] at h
  rcases h with ⟨rfl, rfl⟩ | ⟨rfl, rfl⟩ | ⟨rfl, rfl⟩
  · exact slices_Contains_int64_int64_s p
  · exact impl_Pipe_other_s p
  · exact sort_given
theorem impl_Network_reached_I (p : Nat) : ∀ f lt, impl_Network_reached_G p f = some (.inl lt) → LTok Try.prog (impl_Network_reached_G p) 5 f lt := by
  apply glist_inl; intro f lt h
  simp only [List.mem_cons, List.not_mem_nil, or_false, Prod.mk.injEq, CE.inl.injEq, and_false, or_false, false_or, reduceCtorEq] at h
  
noncomputable def impl_Network_reached_p (p : Nat) (a0 : (Ty.T TNetwork)) (a1 : Int) (a2 : (List Int)) : Option ((List Int) × Unit) :=
  (impl_Network_reached_l0_go p a2 a0.2 p (0 : Int) ((List.replicate 1 (Ty.zero (.int .i64))).set 0 a1) (fun o6 => (if 0 < o6.length ∧ o6.length < 4611686018427387904 then some ((sortI o6), ()) else none)))
theorem impl_Network_reached_run (p : Nat) (x : (parsT [.val TNetwork, .val (.int .i64), .val (.slice (.int .i64))]).T) : acall Try.prog (impl_Network_reached_G p) 5 1 82 (impl_Network_reached_lt p) (argAVs [.val TNetwork, .val (.int .i64), .val (.slice (.int .i64))] x) ⟨[], 0, []⟩ (outO [(.slice (.int .i64))]) = impl_Network_reached_p p x.1 x.2.1 x.2.2.1 := by kernel_rfl
noncomputable def impl_Network_reached_c (p : Nat) : PC := PC.fnO true [.val TNetwork, .val (.int .i64), .val (.slice (.int .i64))] [(.slice (.int .i64))] fun x => impl_Network_reached_p p x.1 x.2.1 x.2.2.1
theorem impl_Network_reached_s (p : Nat) : PSound Try.prog 82 (impl_Network_reached_c p) := own_sound (impl_Network_reached_E p) Try.checked.mixed (impl_Network_reached_I p) (impl_Network_reached_ltok_82 p) (fun _ => rfl) fun x y h => (impl_Network_reached_run p x).trans h
/-! (impl.Network).isTree -/
noncomputable def impl_Network_isTree_G (p : Nat) : FuncId → Option CE := glist [(82, .pure (impl_Network_reached_c p))]
theorem impl_Network_isTree_E (p : Nat) : EnvS Try.prog (impl_Network_isTree_G p) := by
  apply glist_env; intro f ce h
  simp only [List.mem_cons, List.not_mem_nil, or_false, Prod.mk.injEq] at h
  rcases h with ⟨rfl, rfl⟩
  · exact impl_Network_reached_s p
theorem impl_Network_isTree_I (p : Nat) : ∀ f lt, impl_Network_isTree_G p f = some (.inl lt) → LTok Try.prog (impl_Network_isTree_G p) 5 f lt := by
  apply glist_inl; intro f lt h
  simp only [List.mem_cons, List.not_mem_nil, or_false, Prod.mk.injEq, CE.inl.injEq, and_false, or_false, false_or, reduceCtorEq] at h
  
noncomputable def impl_Network_isTree_p (p : Nat) (a0 : (Ty.T TNetwork)) : Option (Bool × Unit) :=
  (bif ((a0.2.length : Int) == (IntKind.wrap .i64 ((a0.1.length : Int) - (1 : Int)))) then ((impl_Network_reached_p p a0 (0 : Int) ([] : List (Ty.T (.int .i64)))).bind fun r1 => some (((r1.1.length : Int) == (a0.1.length : Int)), ()))
 else some (false, ()))
theorem impl_Network_isTree_run (p : Nat) (x : (parsT [.val TNetwork]).T) : acall Try.prog (impl_Network_isTree_G p) 5 1 98 .leaf (argAVs [.val TNetwork] x) ⟨[], 0, []⟩ (outR [.bool]) = impl_Network_isTree_p p x.1 := by kernel_rfl
noncomputable def impl_Network_isTree_c (p : Nat) : PC := PC.fn true [.val TNetwork] [.bool] fun x => impl_Network_isTree_p p x.1
theorem impl_Network_isTree_s (p : Nat) : PSound Try.prog 98 (impl_Network_isTree_c p) := pure_sound (impl_Network_isTree_E p) Try.checked.mixed (impl_Network_isTree_I p) LTok_leaf (fun _ => rfl) fun x y h => (impl_Network_isTree_run p x).trans h
/-! impl.treeCode -/
noncomputable def impl_treeCode_G (p : Nat) : FuncId → Option CE := glist [(31, .pure (impl_ValidNetwork_c p)), (32, .pure (impl_Network_hasNode_c p)), (63, .pure (impl_allWithin_c p)), (96, .pure (impl_pressureOk_c p)), (97, .pure (impl_Network_flowsOk_c p)), (98, .pure (impl_Network_isTree_c p))]
theorem impl_treeCode_E (p : Nat) : EnvS Try.prog (impl_treeCode_G p) := by
  apply glist_env; intro f ce h
  simp only [List.mem_cons, List.not_mem_nil, or_false, Prod.mk.injEq] at h
  rcases h with ⟨rfl, rfl⟩ | ⟨rfl, rfl⟩ | ⟨rfl, rfl⟩ | ⟨rfl, rfl⟩ | ⟨rfl, rfl⟩ | ⟨rfl, rfl⟩
  · exact impl_ValidNetwork_s p
  · exact impl_Network_hasNode_s p
  · exact impl_allWithin_s p
  · exact impl_pressureOk_s p
  · exact impl_Network_flowsOk_s p
  · exact impl_Network_isTree_s p
theorem impl_treeCode_I (p : Nat) : ∀ f lt, impl_treeCode_G p f = some (.inl lt) → LTok Try.prog (impl_treeCode_G p) 5 f lt := by
  apply glist_inl; intro f lt h
  simp only [List.mem_cons, List.not_mem_nil, or_false, Prod.mk.injEq, CE.inl.injEq, and_false, or_false, false_or, reduceCtorEq] at h
  
noncomputable def impl_treeCode_p (p : Nat) (a0 : (Ty.T TNetwork)) (a1 : Int) (a2 : Int) (a3 : (List Int)) (a4 : (List Int)) (a5 : Bool) : Option (Int × Unit) :=
  ((impl_ValidNetwork_p p a0).bind fun r1 => (bif (!r1.1) then some ((1 : Int), ())
 else ((impl_Network_hasNode_p p a0 a1).bind fun r2 => (bif (!r2.1) then some ((2 : Int), ())
 else ((impl_pressureOk_p p a2).bind fun r3 => (bif (!r3.1) then some ((2 : Int), ())
 else (bif a5 then (bif ((a3.length : Int) != (a0.1.length : Int)) then some ((7 : Int), ())
 else ((impl_allWithin_p p a3 (0 : Int) (100000 : Int)).bind fun r4 => (bif (!r4.1) then some ((7 : Int), ())
 else (bif (!a5) then ((impl_Network_flowsOk_p p a0 a4).bind fun r5 => (bif (!r5.1) then some ((7 : Int), ())
 else ((impl_Network_isTree_p p a0).bind fun r6 => (bif (!r6.1) then some ((6 : Int), ())
 else some ((0 : Int), ())))))
 else ((impl_Network_isTree_p p a0).bind fun r7 => (bif (!r7.1) then some ((6 : Int), ())
 else some ((0 : Int), ())))))))
 else (bif (!a5) then ((impl_Network_flowsOk_p p a0 a4).bind fun r8 => (bif (!r8.1) then some ((7 : Int), ())
 else ((impl_Network_isTree_p p a0).bind fun r9 => (bif (!r9.1) then some ((6 : Int), ())
 else some ((0 : Int), ())))))
 else ((impl_Network_isTree_p p a0).bind fun r10 => (bif (!r10.1) then some ((6 : Int), ())
 else some ((0 : Int), ())))))))))))
theorem impl_treeCode_run (p : Nat) (x : (parsT [.val TNetwork, .val (.int .i64), .val (.int .i64), .val (.slice (.int .i64)), .val (.slice (.int .i64)), .val .bool]).T) : acall Try.prog (impl_treeCode_G p) 5 1 67 .leaf (argAVs [.val TNetwork, .val (.int .i64), .val (.int .i64), .val (.slice (.int .i64)), .val (.slice (.int .i64)), .val .bool] x) ⟨[], 0, []⟩ (outR [(.int .i64)]) = impl_treeCode_p p x.1 x.2.1 x.2.2.1 x.2.2.2.1 x.2.2.2.2.1 x.2.2.2.2.2.1 := by kernel_rfl
noncomputable def impl_treeCode_c (p : Nat) : PC := PC.fn true [.val TNetwork, .val (.int .i64), .val (.int .i64), .val (.slice (.int .i64)), .val (.slice (.int .i64)), .val .bool] [(.int .i64)] fun x => impl_treeCode_p p x.1 x.2.1 x.2.2.1 x.2.2.2.1 x.2.2.2.2.1 x.2.2.2.2.2.1
theorem impl_treeCode_s (p : Nat) : PSound Try.prog 67 (impl_treeCode_c p) := pure_sound (impl_treeCode_E p) Try.checked.mixed (impl_treeCode_I p) LTok_leaf (fun _ => rfl) fun x y h => (impl_treeCode_run p x).trans h
/-! impl.flowsCode -/
noncomputable def impl_flowsCode_G (p : Nat) : FuncId → Option CE := glist [(67, .pure (impl_treeCode_c p))]
theorem impl_flowsCode_E (p : Nat) : EnvS Try.prog (impl_flowsCode_G p) := by
  apply glist_env; intro f ce h
  simp only [List.mem_cons, List.not_mem_nil, or_false, Prod.mk.injEq] at h
  rcases h with ⟨rfl, rfl⟩
  · exact impl_treeCode_s p
theorem impl_flowsCode_I (p : Nat) : ∀ f lt, impl_flowsCode_G p f = some (.inl lt) → LTok Try.prog (impl_flowsCode_G p) 5 f lt := by
  apply glist_inl; intro f lt h
  simp only [List.mem_cons, List.not_mem_nil, or_false, Prod.mk.injEq, CE.inl.injEq, and_false, or_false, false_or, reduceCtorEq] at h
  
noncomputable def impl_flowsCode_p (p : Nat) (a0 : (Ty.T TNetwork)) (a1 : Int) (a2 : (List Int)) (a3 : Int) : Option (Int × Unit) :=
  ((impl_treeCode_p p a0 a1 a3 ([] : List (Ty.T (.int .i64))) a2 false).bind fun r1 => some (r1.1, ()))
theorem impl_flowsCode_run (p : Nat) (x : (parsT [.val TNetwork, .val (.int .i64), .val (.slice (.int .i64)), .val (.int .i64)]).T) : acall Try.prog (impl_flowsCode_G p) 5 1 33 .leaf (argAVs [.val TNetwork, .val (.int .i64), .val (.slice (.int .i64)), .val (.int .i64)] x) ⟨[], 0, []⟩ (outR [(.int .i64)]) = impl_flowsCode_p p x.1 x.2.1 x.2.2.1 x.2.2.2.1 := by kernel_rfl
noncomputable def impl_flowsCode_c (p : Nat) : PC := PC.fn true [.val TNetwork, .val (.int .i64), .val (.slice (.int .i64)), .val (.int .i64)] [(.int .i64)] fun x => impl_flowsCode_p p x.1 x.2.1 x.2.2.1 x.2.2.2.1
theorem impl_flowsCode_s (p : Nat) : PSound Try.prog 33 (impl_flowsCode_c p) := pure_sound (impl_flowsCode_E p) Try.checked.mixed (impl_flowsCode_I p) LTok_leaf (fun _ => rfl) fun x y h => (impl_flowsCode_run p x).trans h
/-! (impl.Network).ways -/
noncomputable def impl_Network_ways_l1_r {α : Type} (p : Nat) (v0 : Int) (v1 : List (Ty.T TPipe)) (v2 : Int) (rec : (Int) → (List (Ty.T Tway)) → (List Int) → Option α) (v3 : Int) (v6 : List (Ty.T Tway)) (v7 : List Int) (k0 : (List (Ty.T Tway)) → (List Int) → Option α) : Option α :=
  (bif (decide (v3 < v2)) then (if 0 ≤ v3 then (v1[v3.toNat]?).bind fun y1 => (if 0 ≤ v0 ∧ v0 < (v7.length : Int) then ((impl_Pipe_other_p p y1 (v7.getD v0.toNat (Ty.zero (.int .i64)))).bind fun r2 => (bif r2.2.1 then ((slices_Contains_int64_int64_p p v7 r2.1).bind fun r3 => (bif (!r3.1) then (bif capOk (v7.length + ((List.replicate 1 (Ty.zero (.int .i64))).set 0 r2.1).length) 8 then (if 0 ≤ v0 ∧ v0 < ((v7 ++ ((List.replicate 1 (Ty.zero (.int .i64))).set 0 r2.1)).length : Int) then (bif capOk (v6.length + ((List.replicate 1 (Ty.zero Tway)).set 0 (r2.1, (((v7 ++ ((List.replicate 1 (Ty.zero (.int .i64))).set 0 r2.1)).getD v0.toNat (Ty.zero (.int .i64))), v3))).length) 24 then (rec (IntKind.wrap .i64 (v3 + (1 : Int))) (v6 ++ ((List.replicate 1 (Ty.zero Tway)).set 0 (r2.1, (((v7 ++ ((List.replicate 1 (Ty.zero (.int .i64))).set 0 r2.1)).getD v0.toNat (Ty.zero (.int .i64))), v3)))) (v7 ++ ((List.replicate 1 (Ty.zero (.int .i64))).set 0 r2.1))) else none) else none) else none)
 else (rec (IntKind.wrap .i64 (v3 + (1 : Int))) v6 v7)))
 else (rec (IntKind.wrap .i64 (v3 + (1 : Int))) v6 v7))) else none) else none)
 else (k0 v6 v7))
noncomputable def impl_Network_ways_l1_go {α : Type} (p : Nat) (v0 : Int) (v1 : List (Ty.T TPipe)) (v2 : Int) : Nat → (Int) → (List (Ty.T Tway)) → (List Int) → ((List (Ty.T Tway)) → (List Int) → Option α) → Option α
  | 0, _, _, _, _ => none
  | q + 1, v3, v6, v7, k0 => impl_Network_ways_l1_r p v0 v1 v2 (fun v3 v6 v7 => impl_Network_ways_l1_go p v0 v1 v2 q v3 v6 v7 k0) v3 v6 v7 k0
def impl_Network_ways_l1_sh : Sh := ⟨[⟨2, false, [.lit (.ptr 0 0)]⟩, ⟨5, false, [.lit (.own 1 0)]⟩, ⟨6, false, [.lit (.own 2 0)]⟩, ⟨7, false, [.int .i64]⟩, ⟨21, false, [.sl TPipe]⟩, ⟨22, false, [.int .i64]⟩, ⟨23, false, [.int .i64]⟩], 3, [(0, .box [.sl (.int .i64), .sl TPipe]), (1, .arr 0 Tway), (2, .arr 0 (.int .i64))]⟩
noncomputable def impl_Network_ways_l0_r {α : Type} (p : Nat) (v2 : List (Ty.T TPipe)) (rec : (Int) → (List (Ty.T Tway)) → (List Int) → Option α) (v0 : Int) (v3 : List (Ty.T Tway)) (v4 : List Int) (k0 : (List (Ty.T Tway)) → Option α) : Option α :=
  (bif (decide (v0 < (v4.length : Int))) then (impl_Network_ways_l1_go p v0 v2 (v2.length : Int) p (0 : Int) v3 v4 (fun o4 o5 => (rec (IntKind.wrap .i64 (v0 + (1 : Int))) o4 o5)))
 else (k0 v3))
noncomputable def impl_Network_ways_l0_go {α : Type} (p : Nat) (v2 : List (Ty.T TPipe)) : Nat → (Int) → (List (Ty.T Tway)) → (List Int) → ((List (Ty.T Tway)) → Option α) → Option α
  | 0, _, _, _, _ => none
  | q + 1, v0, v3, v4, k0 => impl_Network_ways_l0_r p v2 (fun v0 v3 v4 => impl_Network_ways_l0_go p v2 q v0 v3 v4 k0) v0 v3 v4 k0
def impl_Network_ways_l0_sh : Sh := ⟨[⟨2, false, [.lit (.ptr 0 0)]⟩, ⟨5, false, [.lit (.own 1 0)]⟩, ⟨6, false, [.lit (.own 2 0)]⟩, ⟨7, false, [.int .i64]⟩], 3, [(0, .box [.sl (.int .i64), .sl TPipe]), (1, .arr 0 Tway), (2, .arr 0 (.int .i64))]⟩
noncomputable def impl_Network_ways_lc0 (p : Nat) : LC := LC.alts 0 [⟨0, impl_Network_ways_l1_sh, fun x {α} k => impl_Network_ways_l1_go p x.1.2.2.2.1.1 x.1.2.2.2.2.1.1 x.1.2.2.2.2.2.1.1 p x.1.2.2.2.2.2.2.1.1 x.2.2.1 x.2.2.2.1 (fun o3 o4 => k (.exit 2) ⟨[(2, .one ⟨false, [.ptr 0 0]⟩), (5, .one ⟨false, [.own 1 0]⟩), (6, .one ⟨false, [.own 2 0]⟩), (7, .one ⟨false, [.int .i64 x.1.2.2.2.1.1]⟩)], 3, [(0, .box [.sl (.int .i64) x.2.1.1, .sl TPipe x.2.1.2.1]), (1, .arr 0 Tway o3), (2, .arr 0 (.int .i64) o4)]⟩)⟩]
noncomputable def impl_Network_ways_lc1 (p : Nat) : LC := LC.alts 0 [⟨0, impl_Network_ways_l0_sh, fun x {α} k => impl_Network_ways_l0_go p x.2.1.2.1 p x.1.2.2.2.1.1 x.2.2.1 x.2.2.2.1 (fun o0 => k (.exit 0) ⟨[(5, .one ⟨false, [.own 0 0]⟩)], 1, [(0, .arr 0 Tway o0)]⟩)⟩]
noncomputable def impl_Network_ways_lt (p : Nat) : LT := (.node .leaf (.node .leaf (.node .leaf (.node (.node .leaf (.loop [2, 5, 6, 7] [5] (some (impl_Network_ways_lc1 p)) (.node .leaf (.node (.node .leaf (.loop [2, 5, 6, 7, 21, 22, 23] [2, 5, 6, 7] (some (impl_Network_ways_lc0 p)) .leaf)) .leaf)))) .leaf))))
noncomputable def impl_Network_ways_G (p : Nat) : FuncId → Option CE := glist [(49, .pure (slices_Contains_int64_int64_c p)), (68, .pure (impl_Pipe_other_c p))]
noncomputable def impl_Network_ways_c0 : Code := codeAt [1, 1, 1, 0, 1, 0, 0, 1, 0, 0, 1, 0, 0] (bodyOf Try.f34)
noncomputable def impl_Network_ways_it0 {α : Type} (p n b : Nat) (k : Ex → St → Option α) (q : Nat) (st : St) : Option α :=
  iter (fun s q => aexec Try.prog (impl_Network_ways_G p) (fun g lt args st (k : D → St → Option α) => acall Try.prog (impl_Network_ways_G p) 5 (n + 0) g lt args st k) 5 b 60 impl_Network_ways_c0 .leaf s q) (canon b [2, 5, 6, 7, 21, 22, 23]) q st (fun e s => k e (canon b [2, 5, 6, 7] s))
theorem impl_Network_ways_l1_step {α : Type} (p n : Nat) (k : Ex → St → Option α) (v0 : Int) (v1 : List (Ty.T TPipe)) (v2 : Int) (v4 : List Int) (v5 : List (Ty.T TPipe)) (q : Nat) (v3 : Int) (v6 : List (Ty.T Tway)) (v7 : List Int) : impl_Network_ways_it0 p n 0 k (q + 1) (impl_Network_ways_l1_sh.mk' ((((), ()), ((), ()), ((), ()), (v0, ()), (v1, ()), (v2, ()), (v3, ()), ()), ((v4, v5, ()), v6, v7, ()))) =
  impl_Network_ways_l1_r p v0 v1 v2 (fun v3 v6 v7 => impl_Network_ways_it0 p n 0 k q (impl_Network_ways_l1_sh.mk' ((((), ()), ((), ()), ((), ()), (v0, ()), (v1, ()), (v2, ()), (v3, ()), ()), ((v4, v5, ()), v6, v7, ())))) v3 v6 v7 (fun o3 o4 => k (.exit 2) ⟨[(2, .one ⟨false, [.ptr 0 0]⟩), (5, .one ⟨false, [.own 1 0]⟩), (6, .one ⟨false, [.own 2 0]⟩), (7, .one ⟨false, [.int .i64 v0]⟩)], 3, [(0, .box [.sl (.int .i64) v4, .sl TPipe v5]), (1, .arr 0 Tway o3), (2, .arr 0 (.int .i64) o4)]⟩) := by kernel_rfl
theorem impl_Network_ways_l1_ok {α : Type} (p n : Nat) (k : Ex → St → Option α) (v0 : Int) (v1 : List (Ty.T TPipe)) (v2 : Int) (v4 : List Int) (v5 : List (Ty.T TPipe)) : ∀ (q : Nat) (v3 : Int) (v6 : List (Ty.T Tway)) (v7 : List Int), impl_Network_ways_it0 p n 0 k q (impl_Network_ways_l1_sh.mk' ((((), ()), ((), ()), ((), ()), (v0, ()), (v1, ()), (v2, ()), (v3, ()), ()), ((v4, v5, ()), v6, v7, ()))) =
  impl_Network_ways_l1_go p v0 v1 v2 q v3 v6 v7 (fun o3 o4 => k (.exit 2) ⟨[(2, .one ⟨false, [.ptr 0 0]⟩), (5, .one ⟨false, [.own 1 0]⟩), (6, .one ⟨false, [.own 2 0]⟩), (7, .one ⟨false, [.int .i64 v0]⟩)], 3, [(0, .box [.sl (.int .i64) v4, .sl TPipe v5]), (1, .arr 0 Tway o3), (2, .arr 0 (.int .i64) o4)]⟩) := by
  intro q
  induction q with
  | zero => intros; rfl
  | succ q ih => intro v3 v6 v7; rw [impl_Network_ways_l1_step]; simp only [ih]; rfl
noncomputable def impl_Network_ways_c1 : Code := codeAt [1, 1, 1, 0, 1, 0, 0] (bodyOf Try.f34)
noncomputable def impl_Network_ways_it1 {α : Type} (p n b : Nat) (k : Ex → St → Option α) (q : Nat) (st : St) : Option α :=
  iter (fun s q => aexec Try.prog (impl_Network_ways_G p) (fun g lt args st (k : D → St → Option α) => acall Try.prog (impl_Network_ways_G p) 5 (n + 0) g lt args st k) 5 b 60 impl_Network_ways_c1 (.node .leaf (.node (.node .leaf (.loop [2, 5, 6, 7, 21, 22, 23] [2, 5, 6, 7] (some (impl_Network_ways_lc0 p)) .leaf)) .leaf)) s q) (canon b [2, 5, 6, 7]) q st (fun e s => k e (canon b [5] s))
theorem impl_Network_ways_l0_step {α : Type} (p n : Nat) (k : Ex → St → Option α) (v1 : List Int) (v2 : List (Ty.T TPipe)) (q : Nat) (v0 : Int) (v3 : List (Ty.T Tway)) (v4 : List Int) : impl_Network_ways_it1 p n 0 k (q + 1) (impl_Network_ways_l0_sh.mk' ((((), ()), ((), ()), ((), ()), (v0, ()), ()), ((v1, v2, ()), v3, v4, ()))) =
  impl_Network_ways_l0_r p v2 (fun v0 v3 v4 => impl_Network_ways_it1 p n 0 k q (impl_Network_ways_l0_sh.mk' ((((), ()), ((), ()), ((), ()), (v0, ()), ()), ((v1, v2, ()), v3, v4, ())))) v0 v3 v4 (fun o0 => k (.exit 0) ⟨[(5, .one ⟨false, [.own 0 0]⟩)], 1, [(0, .arr 0 Tway o0)]⟩) := by kernel_rfl
theorem impl_Network_ways_l0_ok {α : Type} (p n : Nat) (k : Ex → St → Option α) (v1 : List Int) (v2 : List (Ty.T TPipe)) : ∀ (q : Nat) (v0 : Int) (v3 : List (Ty.T Tway)) (v4 : List Int), impl_Network_ways_it1 p n 0 k q (impl_Network_ways_l0_sh.mk' ((((), ()), ((), ()), ((), ()), (v0, ()), ()), ((v1, v2, ()), v3, v4, ()))) =
  impl_Network_ways_l0_go p v2 q v0 v3 v4 (fun o0 => k (.exit 0) ⟨[(5, .one ⟨false, [.own 0 0]⟩)], 1, [(0, .arr 0 Tway o0)]⟩) := by
  intro q
  induction q with
  | zero => intros; rfl
  | succ q ih => intro v0 v3 v4; rw [impl_Network_ways_l0_step]; simp only [ih]; rfl
theorem impl_Network_ways_ltok_34_ls (p : Nat) : loopsOf (bodyOf Try.f34) (impl_Network_ways_lt p) = [⟨impl_Network_ways_c1, [2, 5, 6, 7], [5], impl_Network_ways_lc1 p, (.node .leaf (.node (.node .leaf (.loop [2, 5, 6, 7, 21, 22, 23] [2, 5, 6, 7] (some (impl_Network_ways_lc0 p)) .leaf)) .leaf))⟩, ⟨impl_Network_ways_c0, [2, 5, 6, 7, 21, 22, 23], [2, 5, 6, 7], impl_Network_ways_lc0 p, .leaf⟩] := by kernel_rfl
theorem impl_Network_ways_ltok_34_dep (p : Nat) : LT.dep (impl_Network_ways_lt p) = 0 := by kernel_rfl
theorem impl_Network_ways_ltok_34 (p : Nat) : LTok Try.prog (impl_Network_ways_G p) 5 34 (impl_Network_ways_lt p) := by
  intro α n base fn c hd hfn hc
  have hfn' : some fn = some Try.f34 := hfn.symm.trans Try.func34
  cases hfn'
  have hc' : c = bodyOf Try.f34 := by unfold bodyOf; rw [hc]; rfl
  subst hc'
  rw [impl_Network_ways_ltok_34_dep] at hd
  obtain ⟨n, rfl⟩ := Nat.exists_eq_add_of_le' hd
  apply LTS_of_loops
  rw [impl_Network_ways_ltok_34_ls]
  intro e he st k r h
  simp only [List.mem_cons, List.not_mem_nil, or_false] at he
  rcases he with rfl | rfl
  · obtain ⟨a, ha, hb, x, rfl, h⟩ := altRun_ok h
    simp only [List.mem_cons, List.not_mem_nil, or_false] at ha
    subst ha
    · cases hb; exact ⟨p, (impl_Network_ways_l0_ok p n k _ _ p _ _ _).trans h⟩
  · obtain ⟨a, ha, hb, x, rfl, h⟩ := altRun_ok h
    simp only [List.mem_cons, List.not_mem_nil, or_false] at ha
    subst ha
    · cases hb; exact ⟨p, (impl_Network_ways_l1_ok p n k _ _ _ _ _ p _ _ _).trans h⟩
theorem impl_Network_ways_E (p : Nat) : EnvS Try.prog (impl_Network_ways_G p) := by
  apply glist_env; intro f ce h
  simp only [List.mem_cons, List.not_mem_nil, or_false, Prod.mk.injEq] at h
  rcases h with ⟨rfl, rfl⟩ | ⟨rfl, rfl⟩
  · exact slices_Contains_int64_int64_s p
  · exact impl_Pipe_other_s p
theorem impl_Network_ways_I (p : Nat) : ∀ f lt, impl_Network_ways_G p f = some (.inl lt) → LTok Try.prog (impl_Network_ways_G p) 5 f lt := by
  apply glist_inl; intro f lt h
  simp only [List.mem_cons, List.not_mem_nil, or_false, Prod.mk.injEq, CE.inl.injEq, and_false, or_false, false_or, reduceCtorEq] at h
  
noncomputable def impl_Network_ways_p (p : Nat) (a0 : (Ty.T TNetwork)) (a1 : Int) : Option ((List (Ty.T Tway)) × Unit) :=
  (impl_Network_ways_l0_go p a0.2 p (0 : Int) ([] : List (Ty.T Tway)) ((List.replicate 1 (Ty.zero (.int .i64))).set 0 a1) (fun o6 => some (o6, ())))
theorem impl_Network_ways_run (p : Nat) (x : (parsT [.val TNetwork, .val (.int .i64)]).T) : acall Try.prog (impl_Network_ways_G p) 5 1 34 (impl_Network_ways_lt p) (argAVs [.val TNetwork, .val (.int .i64)] x) ⟨[], 0, []⟩ (outO [(.slice Tway)]) = impl_Network_ways_p p x.1 x.2.1 := by kernel_rfl
noncomputable def impl_Network_ways_c (p : Nat) : PC := PC.fnO true [.val TNetwork, .val (.int .i64)] [(.slice Tway)] fun x => impl_Network_ways_p p x.1 x.2.1
theorem impl_Network_ways_s (p : Nat) : PSound Try.prog 34 (impl_Network_ways_c p) := own_sound (impl_Network_ways_E p) Try.checked.mixed (impl_Network_ways_I p) (impl_Network_ways_ltok_34 p) (fun _ => rfl) fun x y h => (impl_Network_ways_run p x).trans h
/-! (impl.way).along -/
noncomputable def impl_way_along_G (p : Nat) : FuncId → Option CE := glist []
theorem impl_way_along_E (p : Nat) : EnvS Try.prog (impl_way_along_G p) := by
  apply glist_env; intro f ce h
  simp only [List.mem_cons, List.not_mem_nil, or_false, Prod.mk.injEq] at h
  
theorem impl_way_along_I (p : Nat) : ∀ f lt, impl_way_along_G p f = some (.inl lt) → LTok Try.prog (impl_way_along_G p) 5 f lt := by
  apply glist_inl; intro f lt h
  simp only [List.mem_cons, List.not_mem_nil, or_false, Prod.mk.injEq, CE.inl.injEq, and_false, or_false, false_or, reduceCtorEq] at h
  
noncomputable def impl_way_along_p (p : Nat) (a0 : (Ty.T Tway)) (a1 : (Ty.T TNetwork)) (a2 : (List Int)) : Option (Int × Unit) :=
  (if 0 ≤ a0.2.2 then (a1.2[a0.2.2.toNat]?).bind fun y1 => (bif (y1.2.2.1 == a0.1) then (if 0 ≤ a0.2.2 then (a2[a0.2.2.toNat]?).bind fun y2 => some (y2, ()) else none)
 else (if 0 ≤ a0.2.2 then (a2[a0.2.2.toNat]?).bind fun y3 => some ((IntKind.wrap .i64 (0 - y3)), ()) else none)) else none)
theorem impl_way_along_run (p : Nat) (x : (parsT [.val Tway, .val TNetwork, .val (.slice (.int .i64))]).T) : acall Try.prog (impl_way_along_G p) 5 1 35 .leaf (argAVs [.val Tway, .val TNetwork, .val (.slice (.int .i64))] x) ⟨[], 0, []⟩ (outR [(.int .i64)]) = impl_way_along_p p x.1 x.2.1 x.2.2.1 := by kernel_rfl
noncomputable def impl_way_along_c (p : Nat) : PC := PC.fn true [.val Tway, .val TNetwork, .val (.slice (.int .i64))] [(.int .i64)] fun x => impl_way_along_p p x.1 x.2.1 x.2.2.1
theorem impl_way_along_s (p : Nat) : PSound Try.prog 35 (impl_way_along_c p) := pure_sound (impl_way_along_E p) Try.checked.mixed (impl_way_along_I p) LTok_leaf (fun _ => rfl) fun x y h => (impl_way_along_run p x).trans h
/-! impl.abs -/
noncomputable def impl_abs_G (p : Nat) : FuncId → Option CE := glist []
theorem impl_abs_E (p : Nat) : EnvS Try.prog (impl_abs_G p) := by
  apply glist_env; intro f ce h
  simp only [List.mem_cons, List.not_mem_nil, or_false, Prod.mk.injEq] at h
  
theorem impl_abs_I (p : Nat) : ∀ f lt, impl_abs_G p f = some (.inl lt) → LTok Try.prog (impl_abs_G p) 5 f lt := by
  apply glist_inl; intro f lt h
  simp only [List.mem_cons, List.not_mem_nil, or_false, Prod.mk.injEq, CE.inl.injEq, and_false, or_false, false_or, reduceCtorEq] at h
  
noncomputable def impl_abs_p (p : Nat) (a0 : Int) : Option (Int × Unit) :=
  some ((if (IntKind.wrap .i64 (0 - a0)) > a0 then (IntKind.wrap .i64 (0 - a0)) else a0), ())
theorem impl_abs_run (p : Nat) (x : (parsT [.val (.int .i64)]).T) : acall Try.prog (impl_abs_G p) 5 1 71 .leaf (argAVs [.val (.int .i64)] x) ⟨[], 0, []⟩ (outR [(.int .i64)]) = impl_abs_p p x.1 := by kernel_rfl
noncomputable def impl_abs_c (p : Nat) : PC := PC.fn true [.val (.int .i64)] [(.int .i64)] fun x => impl_abs_p p x.1
theorem impl_abs_s (p : Nat) : PSound Try.prog 71 (impl_abs_c p) := pure_sound (impl_abs_E p) Try.checked.mixed (impl_abs_I p) LTok_leaf (fun _ => rfl) fun x y h => (impl_abs_run p x).trans h
/-! impl.divRound -/
noncomputable def impl_divRound_G (p : Nat) : FuncId → Option CE := glist [(71, .pure (impl_abs_c p))]
theorem impl_divRound_E (p : Nat) : EnvS Try.prog (impl_divRound_G p) := by
  apply glist_env; intro f ce h
  simp only [List.mem_cons, List.not_mem_nil, or_false, Prod.mk.injEq] at h
  rcases h with ⟨rfl, rfl⟩
  · exact impl_abs_s p
theorem impl_divRound_I (p : Nat) : ∀ f lt, impl_divRound_G p f = some (.inl lt) → LTok Try.prog (impl_divRound_G p) 5 f lt := by
  apply glist_inl; intro f lt h
  simp only [List.mem_cons, List.not_mem_nil, or_false, Prod.mk.injEq, CE.inl.injEq, and_false, or_false, false_or, reduceCtorEq] at h
  
noncomputable def impl_divRound_p (p : Nat) (a0 : Int) (a1 : Int) : Option (Int × Unit) :=
  (if a1 = 0 then none else (if a1 = 0 then none else ((impl_abs_p p (a0.tmod a1)).bind fun r1 => ((impl_abs_p p a1).bind fun r2 => (bif (decide (r1.1 ≥ (IntKind.wrap .i64 (r2.1 - r1.1)))) then (bif ((decide (a0 < (0 : Int))) == (decide (a1 < (0 : Int)))) then some ((IntKind.wrap .i64 ((IntKind.wrap .i64 (a0.tdiv a1)) + (1 : Int))), ())
 else some ((IntKind.wrap .i64 ((IntKind.wrap .i64 (a0.tdiv a1)) - (1 : Int))), ()))
 else some ((IntKind.wrap .i64 (a0.tdiv a1)), ()))))))
theorem impl_divRound_run (p : Nat) (x : (parsT [.val (.int .i64), .val (.int .i64)]).T) : acall Try.prog (impl_divRound_G p) 5 1 99 .leaf (argAVs [.val (.int .i64), .val (.int .i64)] x) ⟨[], 0, []⟩ (outR [(.int .i64)]) = impl_divRound_p p x.1 x.2.1 := by kernel_rfl
noncomputable def impl_divRound_c (p : Nat) : PC := PC.fn true [.val (.int .i64), .val (.int .i64)] [(.int .i64)] fun x => impl_divRound_p p x.1 x.2.1
theorem impl_divRound_s (p : Nat) : PSound Try.prog 99 (impl_divRound_c p) := pure_sound (impl_divRound_E p) Try.checked.mixed (impl_divRound_I p) LTok_leaf (fun _ => rfl) fun x y h => (impl_divRound_run p x).trans h
/-! (impl.Pipe).water -/
noncomputable def impl_Pipe_water_G (p : Nat) : FuncId → Option CE := glist [(99, .pure (impl_divRound_c p))]
theorem impl_Pipe_water_E (p : Nat) : EnvS Try.prog (impl_Pipe_water_G p) := by
  apply glist_env; intro f ce h
  simp only [List.mem_cons, List.not_mem_nil, or_false, Prod.mk.injEq] at h
  rcases h with ⟨rfl, rfl⟩
  · exact impl_divRound_s p
theorem impl_Pipe_water_I (p : Nat) : ∀ f lt, impl_Pipe_water_G p f = some (.inl lt) → LTok Try.prog (impl_Pipe_water_G p) 5 f lt := by
  apply glist_inl; intro f lt h
  simp only [List.mem_cons, List.not_mem_nil, or_false, Prod.mk.injEq, CE.inl.injEq, and_false, or_false, false_or, reduceCtorEq] at h
  
noncomputable def impl_Pipe_water_p (p : Nat) (a0 : (Ty.T TPipe)) : Option (Int × Unit) :=
  ((impl_divRound_p p (IntKind.wrap .i64 ((IntKind.wrap .i64 ((IntKind.wrap .i64 (a0.2.2.2.1 * a0.2.2.2.2.1)) * a0.2.2.2.2.1)) * (7854 : Int))) (10000 : Int)).bind fun r1 => some (r1.1, ()))
theorem impl_Pipe_water_run (p : Nat) (x : (parsT [.val TPipe]).T) : acall Try.prog (impl_Pipe_water_G p) 5 1 70 .leaf (argAVs [.val TPipe] x) ⟨[], 0, []⟩ (outR [(.int .i64)]) = impl_Pipe_water_p p x.1 := by kernel_rfl
noncomputable def impl_Pipe_water_c (p : Nat) : PC := PC.fn true [.val TPipe] [(.int .i64)] fun x => impl_Pipe_water_p p x.1
theorem impl_Pipe_water_s (p : Nat) : PSound Try.prog 70 (impl_Pipe_water_c p) := pure_sound (impl_Pipe_water_E p) Try.checked.mixed (impl_Pipe_water_I p) LTok_leaf (fun _ => rfl) fun x y h => (impl_Pipe_water_run p x).trans h
/-! impl.divUp -/
noncomputable def impl_divUp_G (p : Nat) : FuncId → Option CE := glist []
theorem impl_divUp_E (p : Nat) : EnvS Try.prog (impl_divUp_G p) := by
  apply glist_env; intro f ce h
  simp only [List.mem_cons, List.not_mem_nil, or_false, Prod.mk.injEq] at h
  
theorem impl_divUp_I (p : Nat) : ∀ f lt, impl_divUp_G p f = some (.inl lt) → LTok Try.prog (impl_divUp_G p) 5 f lt := by
  apply glist_inl; intro f lt h
  simp only [List.mem_cons, List.not_mem_nil, or_false, Prod.mk.injEq, CE.inl.injEq, and_false, or_false, false_or, reduceCtorEq] at h
  
noncomputable def impl_divUp_p (p : Nat) (a0 : Int) (a1 : Int) : Option (Int × Unit) :=
  (if a1 = 0 then none else some ((IntKind.wrap .i64 ((IntKind.wrap .i64 ((IntKind.wrap .i64 (a0 + a1)) - (1 : Int))).tdiv a1)), ()))
theorem impl_divUp_run (p : Nat) (x : (parsT [.val (.int .i64), .val (.int .i64)]).T) : acall Try.prog (impl_divUp_G p) 5 1 69 .leaf (argAVs [.val (.int .i64), .val (.int .i64)] x) ⟨[], 0, []⟩ (outR [(.int .i64)]) = impl_divUp_p p x.1 x.2.1 := by kernel_rfl
noncomputable def impl_divUp_c (p : Nat) : PC := PC.fn true [.val (.int .i64), .val (.int .i64)] [(.int .i64)] fun x => impl_divUp_p p x.1 x.2.1
theorem impl_divUp_s (p : Nat) : PSound Try.prog 69 (impl_divUp_c p) := pure_sound (impl_divUp_E p) Try.checked.mixed (impl_divUp_I p) LTok_leaf (fun _ => rfl) fun x y h => (impl_divUp_run p x).trans h
/-! (impl.Pipe).delay -/
noncomputable def impl_Pipe_delay_G (p : Nat) : FuncId → Option CE := glist [(69, .pure (impl_divUp_c p)), (70, .pure (impl_Pipe_water_c p)), (71, .pure (impl_abs_c p))]
theorem impl_Pipe_delay_E (p : Nat) : EnvS Try.prog (impl_Pipe_delay_G p) := by
  apply glist_env; intro f ce h
  simp only [List.mem_cons, List.not_mem_nil, or_false, Prod.mk.injEq] at h
  rcases h with ⟨rfl, rfl⟩ | ⟨rfl, rfl⟩ | ⟨rfl, rfl⟩
  · exact impl_divUp_s p
  · exact impl_Pipe_water_s p
  · exact impl_abs_s p
theorem impl_Pipe_delay_I (p : Nat) : ∀ f lt, impl_Pipe_delay_G p f = some (.inl lt) → LTok Try.prog (impl_Pipe_delay_G p) 5 f lt := by
  apply glist_inl; intro f lt h
  simp only [List.mem_cons, List.not_mem_nil, or_false, Prod.mk.injEq, CE.inl.injEq, and_false, or_false, false_or, reduceCtorEq] at h
  
noncomputable def impl_Pipe_delay_p (p : Nat) (a0 : (Ty.T TPipe)) (a1 : Int) : Option (Int × Unit) :=
  ((impl_Pipe_water_p p a0).bind fun r1 => ((impl_abs_p p a1).bind fun r2 => ((impl_divUp_p p r1.1 r2.1).bind fun r3 => some (r3.1, ()))))
theorem impl_Pipe_delay_run (p : Nat) (x : (parsT [.val TPipe, .val (.int .i64)]).T) : acall Try.prog (impl_Pipe_delay_G p) 5 1 36 .leaf (argAVs [.val TPipe, .val (.int .i64)] x) ⟨[], 0, []⟩ (outR [(.int .i64)]) = impl_Pipe_delay_p p x.1 x.2.1 := by kernel_rfl
noncomputable def impl_Pipe_delay_c (p : Nat) : PC := PC.fn true [.val TPipe, .val (.int .i64)] [(.int .i64)] fun x => impl_Pipe_delay_p p x.1 x.2.1
theorem impl_Pipe_delay_s (p : Nat) : PSound Try.prog 36 (impl_Pipe_delay_c p) := pure_sound (impl_Pipe_delay_E p) Try.checked.mixed (impl_Pipe_delay_I p) LTok_leaf (fun _ => rfl) fun x y h => (impl_Pipe_delay_run p x).trans h
/-! impl.orNotFound -/
noncomputable def impl_orNotFound_G (p : Nat) : FuncId → Option CE := glist []
theorem impl_orNotFound_E (p : Nat) : EnvS Try.prog (impl_orNotFound_G p) := by
  apply glist_env; intro f ce h
  simp only [List.mem_cons, List.not_mem_nil, or_false, Prod.mk.injEq] at h
  
theorem impl_orNotFound_I (p : Nat) : ∀ f lt, impl_orNotFound_G p f = some (.inl lt) → LTok Try.prog (impl_orNotFound_G p) 5 f lt := by
  apply glist_inl; intro f lt h
  simp only [List.mem_cons, List.not_mem_nil, or_false, Prod.mk.injEq, CE.inl.injEq, and_false, or_false, false_or, reduceCtorEq] at h
  
noncomputable def impl_orNotFound_p (p : Nat) (a0 : Int) (a1 : Bool) : Option (Int × Int × Unit) :=
  (bif (!a1) then some ((0 : Int), (3 : Int), ())
 else some (a0, (0 : Int), ()))
theorem impl_orNotFound_run (p : Nat) (x : (parsT [.val (.int .i64), .val .bool]).T) : acall Try.prog (impl_orNotFound_G p) 5 1 37 .leaf (argAVs [.val (.int .i64), .val .bool] x) ⟨[], 0, []⟩ (outR [(.int .i64), (.int .i64)]) = impl_orNotFound_p p x.1 x.2.1 := by kernel_rfl
noncomputable def impl_orNotFound_c (p : Nat) : PC := PC.fn true [.val (.int .i64), .val .bool] [(.int .i64), (.int .i64)] fun x => impl_orNotFound_p p x.1 x.2.1
theorem impl_orNotFound_s (p : Nat) : PSound Try.prog 37 (impl_orNotFound_c p) := pure_sound (impl_orNotFound_E p) Try.checked.mixed (impl_orNotFound_I p) LTok_leaf (fun _ => rfl) fun x y h => (impl_orNotFound_run p x).trans h
end Go.Proofs.Ytgmcefnlcalagaa.W
