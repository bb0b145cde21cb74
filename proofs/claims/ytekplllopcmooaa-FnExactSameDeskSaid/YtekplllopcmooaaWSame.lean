/- The walk of functions of the program: typed texts, loops, runs, contracts; printed by walk.py. No condition. -/
import Derived.Test.YtekplllopcmooaaAm31
import Derived.Test.YtekplllopcmooaaProg
import Derived.Test.YtekplllopcmooaaChecked
namespace Go.Proofs.Ytekplllopcmooaa.W
open Go Go.RowKit Go.Proofs.Ytekplllopcmooaa.AM
set_option maxRecDepth 100000
set_option linter.unusedVariables false
set_option linter.unusedSimpArgs false
abbrev TNetwork : Ty := (.prod (.slice (.int .i64)) (.slice (.prod .str (.prod (.int .i64) (.prod (.int .i64) (.prod (.int .i64) (.prod (.int .i64) (.int .i64))))))))
abbrev TTank : Ty := (.prod (.int .i64) (.prod (.int .i64) (.int .i64)))
abbrev TDesk : Ty := (.prod (.prod (.slice (.int .i64)) (.slice (.prod .str (.prod (.int .i64) (.prod (.int .i64) (.prod (.int .i64) (.prod (.int .i64) (.int .i64)))))))) (.prod (.slice (.int .i64)) (.prod (.slice (.prod .str (.prod .str .bool))) (.prod (.slice (.prod .str (.slice (.slice (.int .i64))))) (.prod (.slice (.prod .str (.prod (.int .i64) (.prod (.int .i64) (.prod (.int .i64) (.int .i64)))))) (.prod (.prod (.int .i64) (.prod (.int .i64) (.int .i64))) (.prod (.slice (.prod .str (.prod (.int .i64) (.prod (.int .i64) (.int .i64))))) (.prod (.slice (.prod .str (.prod (.int .i64) (.prod (.int .i64) (.int .i64))))) (.prod (.slice (.prod .str (.prod (.int .i64) (.int .i64)))) (.slice (.prod .str (.prod (.int .i64) (.prod (.int .i64) .bool)))))))))))))
abbrev TValve : Ty := (.prod .str (.prod .str .bool))
abbrev TPump : Ty := (.prod .str (.slice (.slice (.int .i64))))
abbrev TSubstation : Ty := (.prod .str (.prod (.int .i64) (.prod (.int .i64) (.prod (.int .i64) (.int .i64)))))
abbrev TFuel : Ty := (.prod .str (.prod (.int .i64) (.prod (.int .i64) (.int .i64))))
abbrev TTenant : Ty := (.prod .str (.prod (.int .i64) (.int .i64)))
abbrev TDuty : Ty := (.prod .str (.prod (.int .i64) (.prod (.int .i64) .bool)))
abbrev TPipe : Ty := (.prod .str (.prod (.int .i64) (.prod (.int .i64) (.prod (.int .i64) (.prod (.int .i64) (.int .i64))))))
/-! laws.szInt64S -/
noncomputable def laws_szInt64S_G (p : Nat) : FuncId → Option CE := glist []
theorem laws_szInt64S_E (p : Nat) : EnvS Try.prog (laws_szInt64S_G p) := by
  apply glist_env; intro f ce h
  simp only [List.mem_cons, List.not_mem_nil, or_false, Prod.mk.injEq] at h
  
theorem laws_szInt64S_I (p : Nat) : ∀ f lt, laws_szInt64S_G p f = some (.inl lt) → LTok Try.prog (laws_szInt64S_G p) 5 f lt := by
  apply glist_inl; intro f lt h
  simp only [List.mem_cons, List.not_mem_nil, or_false, Prod.mk.injEq, CE.inl.injEq, and_false, or_false, false_or, reduceCtorEq] at h
  
noncomputable def laws_szInt64S_p (p : Nat) (a0 : (List Int)) (a1 : Int) : Option (Int × Unit) :=
  (bif (decide ((IntKind.wrap .i64 (a1 - (a0.length : Int))) < (0 : Int))) then some ((-1 : Int), ())
 else some ((IntKind.wrap .i64 (a1 - (a0.length : Int))), ()))
theorem laws_szInt64S_run (p : Nat) (x : (parsT [.val (.slice (.int .i64)), .val (.int .i64)]).T) : acall Try.prog (laws_szInt64S_G p) 5 1 44 .leaf (argAVs [.val (.slice (.int .i64)), .val (.int .i64)] x) ⟨[], 0, []⟩ (outR [(.int .i64)]) = laws_szInt64S_p p x.1 x.2.1 := by kernel_rfl
noncomputable def laws_szInt64S_c (p : Nat) : PC := PC.fn true [.val (.slice (.int .i64)), .val (.int .i64)] [(.int .i64)] fun x => laws_szInt64S_p p x.1 x.2.1
theorem laws_szInt64S_s (p : Nat) : PSound Try.prog 44 (laws_szInt64S_c p) := pure_sound (laws_szInt64S_E p) Try.checked.mixed (laws_szInt64S_I p) LTok_leaf (fun _ => rfl) fun x y h => (laws_szInt64S_run p x).trans h
/-! laws.szPipe -/
noncomputable def laws_szPipe_G (p : Nat) : FuncId → Option CE := glist []
theorem laws_szPipe_E (p : Nat) : EnvS Try.prog (laws_szPipe_G p) := by
  apply glist_env; intro f ce h
  simp only [List.mem_cons, List.not_mem_nil, or_false, Prod.mk.injEq] at h
  
theorem laws_szPipe_I (p : Nat) : ∀ f lt, laws_szPipe_G p f = some (.inl lt) → LTok Try.prog (laws_szPipe_G p) 5 f lt := by
  apply glist_inl; intro f lt h
  simp only [List.mem_cons, List.not_mem_nil, or_false, Prod.mk.injEq, CE.inl.injEq, and_false, or_false, false_or, reduceCtorEq] at h
  
noncomputable def laws_szPipe_p (p : Nat) (a0 : (Ty.T TPipe)) (a1 : Int) : Option (Int × Unit) :=
  (bif (decide ((IntKind.wrap .i64 (a1 - (a0.1.size : Int))) < (0 : Int))) then some ((-1 : Int), ())
 else some ((IntKind.wrap .i64 (a1 - (a0.1.size : Int))), ()))
theorem laws_szPipe_run (p : Nat) (x : (parsT [.val TPipe, .val (.int .i64)]).T) : acall Try.prog (laws_szPipe_G p) 5 1 108 .leaf (argAVs [.val TPipe, .val (.int .i64)] x) ⟨[], 0, []⟩ (outR [(.int .i64)]) = laws_szPipe_p p x.1 x.2.1 := by kernel_rfl
noncomputable def laws_szPipe_c (p : Nat) : PC := PC.fn true [.val TPipe, .val (.int .i64)] [(.int .i64)] fun x => laws_szPipe_p p x.1 x.2.1
theorem laws_szPipe_s (p : Nat) : PSound Try.prog 108 (laws_szPipe_c p) := pure_sound (laws_szPipe_E p) Try.checked.mixed (laws_szPipe_I p) LTok_leaf (fun _ => rfl) fun x y h => (laws_szPipe_run p x).trans h
/-! laws.szPipeS -/
noncomputable def laws_szPipeS_l0_r {α : Type} (p : Nat) (v0 : List (Ty.T TPipe)) (rec : (Int) → (Int) → Option α) (v1 : Int) (v2 : Int) (k0 : (Int) → (Int) → Option α) (k1 : (Int) → Option α) : Option α :=
  (bif (decide (v2 < (v0.length : Int))) then (if 0 ≤ v2 then (v0[v2.toNat]?).bind fun y1 => ((laws_szPipe_p p y1 v1).bind fun r2 => (bif (decide (r2.1 < (0 : Int))) then (k0 r2.1 (-1 : Int))
 else (rec r2.1 (IntKind.wrap .i64 (v2 + (1 : Int)))))) else none)
 else (k1 v1))
noncomputable def laws_szPipeS_l0_go {α : Type} (p : Nat) (v0 : List (Ty.T TPipe)) : Nat → (Int) → (Int) → ((Int) → (Int) → Option α) → ((Int) → Option α) → Option α
  | 0, _, _, _, _ => none
  | q + 1, v1, v2, k0, k1 => laws_szPipeS_l0_r p v0 (fun v1 v2 => laws_szPipeS_l0_go p v0 q v1 v2 k0 k1) v1 v2 k0 k1
def laws_szPipeS_l0_sh : Sh := ⟨[⟨0, false, [.sl TPipe]⟩, ⟨1, false, [.int .i64]⟩, ⟨5, false, [.int .i64]⟩], 0, []⟩
noncomputable def laws_szPipeS_lc0 (p : Nat) : LC := LC.alts 0 [⟨0, laws_szPipeS_l0_sh, fun x {α} k => laws_szPipeS_l0_go p x.1.1.1 p x.1.2.1.1 x.1.2.2.1.1 (fun o0 o1 => k .ret ⟨[(1, .one ⟨false, [.int .i64 o0]⟩), (4, .one ⟨false, [.int .i64 o1]⟩)], 0, []⟩) (fun o0 => k (.exit 0) ⟨[(1, .one ⟨false, [.int .i64 o0]⟩)], 0, []⟩)⟩]
noncomputable def laws_szPipeS_lt (p : Nat) : LT := (.node .leaf (.node .leaf (.node .leaf (.node (.node .leaf (.loop [0, 1, 5] [1, 4] (some (laws_szPipeS_lc0 p)) .leaf)) .leaf))))
noncomputable def laws_szPipeS_G (p : Nat) : FuncId → Option CE := glist [(108, .pure (laws_szPipe_c p))]
noncomputable def laws_szPipeS_c0 : Code := codeAt [1, 1, 1, 0, 1, 0, 0] (bodyOf Try.f88)
noncomputable def laws_szPipeS_it0 {α : Type} (p n b : Nat) (k : Ex → St → Option α) (q : Nat) (st : St) : Option α :=
  iter (fun s q => aexec Try.prog (laws_szPipeS_G p) (fun g lt args st (k : D → St → Option α) => acall Try.prog (laws_szPipeS_G p) 5 (n + 0) g lt args st k) 5 b 27 laws_szPipeS_c0 .leaf s q) (canon b [0, 1, 5]) q st (fun e s => k e (canon b [1, 4] s))
theorem laws_szPipeS_l0_step {α : Type} (p n : Nat) (k : Ex → St → Option α) (v0 : List (Ty.T TPipe)) (q : Nat) (v1 : Int) (v2 : Int) : laws_szPipeS_it0 p n 0 k (q + 1) (laws_szPipeS_l0_sh.mk' (((v0, ()), (v1, ()), (v2, ()), ()), (()))) =
  laws_szPipeS_l0_r p v0 (fun v1 v2 => laws_szPipeS_it0 p n 0 k q (laws_szPipeS_l0_sh.mk' (((v0, ()), (v1, ()), (v2, ()), ()), (())))) v1 v2 (fun o0 o1 => k .ret ⟨[(1, .one ⟨false, [.int .i64 o0]⟩), (4, .one ⟨false, [.int .i64 o1]⟩)], 0, []⟩) (fun o0 => k (.exit 0) ⟨[(1, .one ⟨false, [.int .i64 o0]⟩)], 0, []⟩) := by kernel_rfl
theorem laws_szPipeS_l0_ok {α : Type} (p n : Nat) (k : Ex → St → Option α) (v0 : List (Ty.T TPipe)) : ∀ (q : Nat) (v1 : Int) (v2 : Int), laws_szPipeS_it0 p n 0 k q (laws_szPipeS_l0_sh.mk' (((v0, ()), (v1, ()), (v2, ()), ()), (()))) =
  laws_szPipeS_l0_go p v0 q v1 v2 (fun o0 o1 => k .ret ⟨[(1, .one ⟨false, [.int .i64 o0]⟩), (4, .one ⟨false, [.int .i64 o1]⟩)], 0, []⟩) (fun o0 => k (.exit 0) ⟨[(1, .one ⟨false, [.int .i64 o0]⟩)], 0, []⟩) := by
  intro q
  induction q with
  | zero => intros; rfl
  | succ q ih => intro v1 v2; rw [laws_szPipeS_l0_step]; simp only [ih]; rfl
theorem laws_szPipeS_ltok_88_ls (p : Nat) : loopsOf (bodyOf Try.f88) (laws_szPipeS_lt p) = [⟨laws_szPipeS_c0, [0, 1, 5], [1, 4], laws_szPipeS_lc0 p, .leaf⟩] := by kernel_rfl
theorem laws_szPipeS_ltok_88_dep (p : Nat) : LT.dep (laws_szPipeS_lt p) = 0 := by kernel_rfl
theorem laws_szPipeS_ltok_88 (p : Nat) : LTok Try.prog (laws_szPipeS_G p) 5 88 (laws_szPipeS_lt p) := by
  intro α n base fn c hd hfn hc
  have hfn' : some fn = some Try.f88 := hfn.symm.trans Try.func88
  cases hfn'
  have hc' : c = bodyOf Try.f88 := by unfold bodyOf; rw [hc]; rfl
  subst hc'
  rw [laws_szPipeS_ltok_88_dep] at hd
  obtain ⟨n, rfl⟩ := Nat.exists_eq_add_of_le' hd
  apply LTS_of_loops
  rw [laws_szPipeS_ltok_88_ls]
  intro e he st k r h
  simp only [List.mem_cons, List.not_mem_nil, or_false] at he
  subst he
  · obtain ⟨a, ha, hb, x, rfl, h⟩ := altRun_ok h
    simp only [List.mem_cons, List.not_mem_nil, or_false] at ha
    subst ha
    · cases hb; exact ⟨p, (laws_szPipeS_l0_ok p n k _ p _ _).trans h⟩
theorem laws_szPipeS_E (p : Nat) : EnvS Try.prog (laws_szPipeS_G p) := by
  apply glist_env; intro f ce h
  simp only [List.mem_cons, List.not_mem_nil, or_false, Prod.mk.injEq] at h
  rcases h with ⟨rfl, rfl⟩
  · exact laws_szPipe_s p
theorem laws_szPipeS_I (p : Nat) : ∀ f lt, laws_szPipeS_G p f = some (.inl lt) → LTok Try.prog (laws_szPipeS_G p) 5 f lt := by
  apply glist_inl; intro f lt h
  simp only [List.mem_cons, List.not_mem_nil, or_false, Prod.mk.injEq, CE.inl.injEq, and_false, or_false, false_or, reduceCtorEq] at h
  
noncomputable def laws_szPipeS_p (p : Nat) (a0 : (List (Ty.T TPipe))) (a1 : Int) : Option (Int × Unit) :=
  (bif (decide ((IntKind.wrap .i64 (a1 - (a0.length : Int))) < (0 : Int))) then some ((-1 : Int), ())
 else (laws_szPipeS_l0_go p a0 p (IntKind.wrap .i64 (a1 - (a0.length : Int))) (0 : Int) (fun o3 o4 => some (o4, ())) (fun o5 => some (o5, ()))))
theorem laws_szPipeS_run (p : Nat) (x : (parsT [.val (.slice TPipe), .val (.int .i64)]).T) : acall Try.prog (laws_szPipeS_G p) 5 1 88 (laws_szPipeS_lt p) (argAVs [.val (.slice TPipe), .val (.int .i64)] x) ⟨[], 0, []⟩ (outR [(.int .i64)]) = laws_szPipeS_p p x.1 x.2.1 := by kernel_rfl
noncomputable def laws_szPipeS_c (p : Nat) : PC := PC.fn true [.val (.slice TPipe), .val (.int .i64)] [(.int .i64)] fun x => laws_szPipeS_p p x.1 x.2.1
theorem laws_szPipeS_s (p : Nat) : PSound Try.prog 88 (laws_szPipeS_c p) := pure_sound (laws_szPipeS_E p) Try.checked.mixed (laws_szPipeS_I p) (laws_szPipeS_ltok_88 p) (fun _ => rfl) fun x y h => (laws_szPipeS_run p x).trans h
/-! laws.szNetwork -/
noncomputable def laws_szNetwork_G (p : Nat) : FuncId → Option CE := glist [(44, .pure (laws_szInt64S_c p)), (88, .pure (laws_szPipeS_c p))]
theorem laws_szNetwork_E (p : Nat) : EnvS Try.prog (laws_szNetwork_G p) := by
  apply glist_env; intro f ce h
  simp only [List.mem_cons, List.not_mem_nil, or_false, Prod.mk.injEq] at h
  rcases h with ⟨rfl, rfl⟩ | ⟨rfl, rfl⟩
  · exact laws_szInt64S_s p
  · exact laws_szPipeS_s p
theorem laws_szNetwork_I (p : Nat) : ∀ f lt, laws_szNetwork_G p f = some (.inl lt) → LTok Try.prog (laws_szNetwork_G p) 5 f lt := by
  apply glist_inl; intro f lt h
  simp only [List.mem_cons, List.not_mem_nil, or_false, Prod.mk.injEq, CE.inl.injEq, and_false, or_false, false_or, reduceCtorEq] at h
  
noncomputable def laws_szNetwork_p (p : Nat) (a0 : (Ty.T TNetwork)) (a1 : Int) : Option (Int × Unit) :=
  ((laws_szInt64S_p p a0.1 a1).bind fun r1 => (bif (decide (r1.1 < (0 : Int))) then some ((-1 : Int), ())
 else ((laws_szPipeS_p p a0.2 r1.1).bind fun r2 => (bif (decide (r2.1 < (0 : Int))) then some ((-1 : Int), ())
 else some (r2.1, ())))))
theorem laws_szNetwork_run (p : Nat) (x : (parsT [.val TNetwork, .val (.int .i64)]).T) : acall Try.prog (laws_szNetwork_G p) 5 1 43 .leaf (argAVs [.val TNetwork, .val (.int .i64)] x) ⟨[], 0, []⟩ (outR [(.int .i64)]) = laws_szNetwork_p p x.1 x.2.1 := by kernel_rfl
noncomputable def laws_szNetwork_c (p : Nat) : PC := PC.fn true [.val TNetwork, .val (.int .i64)] [(.int .i64)] fun x => laws_szNetwork_p p x.1 x.2.1
theorem laws_szNetwork_s (p : Nat) : PSound Try.prog 43 (laws_szNetwork_c p) := pure_sound (laws_szNetwork_E p) Try.checked.mixed (laws_szNetwork_I p) LTok_leaf (fun _ => rfl) fun x y h => (laws_szNetwork_run p x).trans h
/-! laws.szValve -/
noncomputable def laws_szValve_G (p : Nat) : FuncId → Option CE := glist []
theorem laws_szValve_E (p : Nat) : EnvS Try.prog (laws_szValve_G p) := by
  apply glist_env; intro f ce h
  simp only [List.mem_cons, List.not_mem_nil, or_false, Prod.mk.injEq] at h
  
theorem laws_szValve_I (p : Nat) : ∀ f lt, laws_szValve_G p f = some (.inl lt) → LTok Try.prog (laws_szValve_G p) 5 f lt := by
  apply glist_inl; intro f lt h
  simp only [List.mem_cons, List.not_mem_nil, or_false, Prod.mk.injEq, CE.inl.injEq, and_false, or_false, false_or, reduceCtorEq] at h
  
noncomputable def laws_szValve_p (p : Nat) (a0 : (Ty.T TValve)) (a1 : Int) : Option (Int × Unit) :=
  (bif (decide ((IntKind.wrap .i64 (a1 - (a0.1.size : Int))) < (0 : Int))) then some ((-1 : Int), ())
 else (bif (decide ((IntKind.wrap .i64 ((IntKind.wrap .i64 (a1 - (a0.1.size : Int))) - (a0.2.1.size : Int))) < (0 : Int))) then some ((-1 : Int), ())
 else some ((IntKind.wrap .i64 ((IntKind.wrap .i64 (a1 - (a0.1.size : Int))) - (a0.2.1.size : Int))), ())))
theorem laws_szValve_run (p : Nat) (x : (parsT [.val TValve, .val (.int .i64)]).T) : acall Try.prog (laws_szValve_G p) 5 1 89 .leaf (argAVs [.val TValve, .val (.int .i64)] x) ⟨[], 0, []⟩ (outR [(.int .i64)]) = laws_szValve_p p x.1 x.2.1 := by kernel_rfl
noncomputable def laws_szValve_c (p : Nat) : PC := PC.fn true [.val TValve, .val (.int .i64)] [(.int .i64)] fun x => laws_szValve_p p x.1 x.2.1
theorem laws_szValve_s (p : Nat) : PSound Try.prog 89 (laws_szValve_c p) := pure_sound (laws_szValve_E p) Try.checked.mixed (laws_szValve_I p) LTok_leaf (fun _ => rfl) fun x y h => (laws_szValve_run p x).trans h
/-! laws.szValveS -/
noncomputable def laws_szValveS_l0_r {α : Type} (p : Nat) (v0 : List (Ty.T TValve)) (rec : (Int) → (Int) → Option α) (v1 : Int) (v2 : Int) (k0 : (Int) → (Int) → Option α) (k1 : (Int) → Option α) : Option α :=
  (bif (decide (v2 < (v0.length : Int))) then (if 0 ≤ v2 then (v0[v2.toNat]?).bind fun y1 => ((laws_szValve_p p y1 v1).bind fun r2 => (bif (decide (r2.1 < (0 : Int))) then (k0 r2.1 (-1 : Int))
 else (rec r2.1 (IntKind.wrap .i64 (v2 + (1 : Int)))))) else none)
 else (k1 v1))
noncomputable def laws_szValveS_l0_go {α : Type} (p : Nat) (v0 : List (Ty.T TValve)) : Nat → (Int) → (Int) → ((Int) → (Int) → Option α) → ((Int) → Option α) → Option α
  | 0, _, _, _, _ => none
  | q + 1, v1, v2, k0, k1 => laws_szValveS_l0_r p v0 (fun v1 v2 => laws_szValveS_l0_go p v0 q v1 v2 k0 k1) v1 v2 k0 k1
def laws_szValveS_l0_sh : Sh := ⟨[⟨0, false, [.sl TValve]⟩, ⟨1, false, [.int .i64]⟩, ⟨5, false, [.int .i64]⟩], 0, []⟩
noncomputable def laws_szValveS_lc0 (p : Nat) : LC := LC.alts 0 [⟨0, laws_szValveS_l0_sh, fun x {α} k => laws_szValveS_l0_go p x.1.1.1 p x.1.2.1.1 x.1.2.2.1.1 (fun o0 o1 => k .ret ⟨[(1, .one ⟨false, [.int .i64 o0]⟩), (4, .one ⟨false, [.int .i64 o1]⟩)], 0, []⟩) (fun o0 => k (.exit 0) ⟨[(1, .one ⟨false, [.int .i64 o0]⟩)], 0, []⟩)⟩]
noncomputable def laws_szValveS_lt (p : Nat) : LT := (.node .leaf (.node .leaf (.node .leaf (.node (.node .leaf (.loop [0, 1, 5] [1, 4] (some (laws_szValveS_lc0 p)) .leaf)) .leaf))))
noncomputable def laws_szValveS_G (p : Nat) : FuncId → Option CE := glist [(89, .pure (laws_szValve_c p))]
noncomputable def laws_szValveS_c0 : Code := codeAt [1, 1, 1, 0, 1, 0, 0] (bodyOf Try.f45)
noncomputable def laws_szValveS_it0 {α : Type} (p n b : Nat) (k : Ex → St → Option α) (q : Nat) (st : St) : Option α :=
  iter (fun s q => aexec Try.prog (laws_szValveS_G p) (fun g lt args st (k : D → St → Option α) => acall Try.prog (laws_szValveS_G p) 5 (n + 0) g lt args st k) 5 b 27 laws_szValveS_c0 .leaf s q) (canon b [0, 1, 5]) q st (fun e s => k e (canon b [1, 4] s))
theorem laws_szValveS_l0_step {α : Type} (p n : Nat) (k : Ex → St → Option α) (v0 : List (Ty.T TValve)) (q : Nat) (v1 : Int) (v2 : Int) : laws_szValveS_it0 p n 0 k (q + 1) (laws_szValveS_l0_sh.mk' (((v0, ()), (v1, ()), (v2, ()), ()), (()))) =
  laws_szValveS_l0_r p v0 (fun v1 v2 => laws_szValveS_it0 p n 0 k q (laws_szValveS_l0_sh.mk' (((v0, ()), (v1, ()), (v2, ()), ()), (())))) v1 v2 (fun o0 o1 => k .ret ⟨[(1, .one ⟨false, [.int .i64 o0]⟩), (4, .one ⟨false, [.int .i64 o1]⟩)], 0, []⟩) (fun o0 => k (.exit 0) ⟨[(1, .one ⟨false, [.int .i64 o0]⟩)], 0, []⟩) := by kernel_rfl
theorem laws_szValveS_l0_ok {α : Type} (p n : Nat) (k : Ex → St → Option α) (v0 : List (Ty.T TValve)) : ∀ (q : Nat) (v1 : Int) (v2 : Int), laws_szValveS_it0 p n 0 k q (laws_szValveS_l0_sh.mk' (((v0, ()), (v1, ()), (v2, ()), ()), (()))) =
  laws_szValveS_l0_go p v0 q v1 v2 (fun o0 o1 => k .ret ⟨[(1, .one ⟨false, [.int .i64 o0]⟩), (4, .one ⟨false, [.int .i64 o1]⟩)], 0, []⟩) (fun o0 => k (.exit 0) ⟨[(1, .one ⟨false, [.int .i64 o0]⟩)], 0, []⟩) := by
  intro q
  induction q with
  | zero => intros; rfl
  | succ q ih => intro v1 v2; rw [laws_szValveS_l0_step]; simp only [ih]; rfl
theorem laws_szValveS_ltok_45_ls (p : Nat) : loopsOf (bodyOf Try.f45) (laws_szValveS_lt p) = [⟨laws_szValveS_c0, [0, 1, 5], [1, 4], laws_szValveS_lc0 p, .leaf⟩] := by kernel_rfl
theorem laws_szValveS_ltok_45_dep (p : Nat) : LT.dep (laws_szValveS_lt p) = 0 := by kernel_rfl
theorem laws_szValveS_ltok_45 (p : Nat) : LTok Try.prog (laws_szValveS_G p) 5 45 (laws_szValveS_lt p) := by
  intro α n base fn c hd hfn hc
  have hfn' : some fn = some Try.f45 := hfn.symm.trans Try.func45
  cases hfn'
  have hc' : c = bodyOf Try.f45 := by unfold bodyOf; rw [hc]; rfl
  subst hc'
  rw [laws_szValveS_ltok_45_dep] at hd
  obtain ⟨n, rfl⟩ := Nat.exists_eq_add_of_le' hd
  apply LTS_of_loops
  rw [laws_szValveS_ltok_45_ls]
  intro e he st k r h
  simp only [List.mem_cons, List.not_mem_nil, or_false] at he
  subst he
  · obtain ⟨a, ha, hb, x, rfl, h⟩ := altRun_ok h
    simp only [List.mem_cons, List.not_mem_nil, or_false] at ha
    subst ha
    · cases hb; exact ⟨p, (laws_szValveS_l0_ok p n k _ p _ _).trans h⟩
theorem laws_szValveS_E (p : Nat) : EnvS Try.prog (laws_szValveS_G p) := by
  apply glist_env; intro f ce h
  simp only [List.mem_cons, List.not_mem_nil, or_false, Prod.mk.injEq] at h
  rcases h with ⟨rfl, rfl⟩
  · exact laws_szValve_s p
theorem laws_szValveS_I (p : Nat) : ∀ f lt, laws_szValveS_G p f = some (.inl lt) → LTok Try.prog (laws_szValveS_G p) 5 f lt := by
  apply glist_inl; intro f lt h
  simp only [List.mem_cons, List.not_mem_nil, or_false, Prod.mk.injEq, CE.inl.injEq, and_false, or_false, false_or, reduceCtorEq] at h
  
noncomputable def laws_szValveS_p (p : Nat) (a0 : (List (Ty.T TValve))) (a1 : Int) : Option (Int × Unit) :=
  (bif (decide ((IntKind.wrap .i64 (a1 - (a0.length : Int))) < (0 : Int))) then some ((-1 : Int), ())
 else (laws_szValveS_l0_go p a0 p (IntKind.wrap .i64 (a1 - (a0.length : Int))) (0 : Int) (fun o3 o4 => some (o4, ())) (fun o5 => some (o5, ()))))
theorem laws_szValveS_run (p : Nat) (x : (parsT [.val (.slice TValve), .val (.int .i64)]).T) : acall Try.prog (laws_szValveS_G p) 5 1 45 (laws_szValveS_lt p) (argAVs [.val (.slice TValve), .val (.int .i64)] x) ⟨[], 0, []⟩ (outR [(.int .i64)]) = laws_szValveS_p p x.1 x.2.1 := by kernel_rfl
noncomputable def laws_szValveS_c (p : Nat) : PC := PC.fn true [.val (.slice TValve), .val (.int .i64)] [(.int .i64)] fun x => laws_szValveS_p p x.1 x.2.1
theorem laws_szValveS_s (p : Nat) : PSound Try.prog 45 (laws_szValveS_c p) := pure_sound (laws_szValveS_E p) Try.checked.mixed (laws_szValveS_I p) (laws_szValveS_ltok_45 p) (fun _ => rfl) fun x y h => (laws_szValveS_run p x).trans h
/-! laws.szInt64SS -/
noncomputable def laws_szInt64SS_l0_r {α : Type} (p : Nat) (v0 : List (List Int)) (rec : (Int) → (Int) → Option α) (v1 : Int) (v2 : Int) (k0 : (Int) → (Int) → Option α) (k1 : (Int) → Option α) : Option α :=
  (bif (decide (v2 < (v0.length : Int))) then (if 0 ≤ v2 then (v0[v2.toNat]?).bind fun y1 => ((laws_szInt64S_p p y1 v1).bind fun r2 => (bif (decide (r2.1 < (0 : Int))) then (k0 r2.1 (-1 : Int))
 else (rec r2.1 (IntKind.wrap .i64 (v2 + (1 : Int)))))) else none)
 else (k1 v1))
noncomputable def laws_szInt64SS_l0_go {α : Type} (p : Nat) (v0 : List (List Int)) : Nat → (Int) → (Int) → ((Int) → (Int) → Option α) → ((Int) → Option α) → Option α
  | 0, _, _, _, _ => none
  | q + 1, v1, v2, k0, k1 => laws_szInt64SS_l0_r p v0 (fun v1 v2 => laws_szInt64SS_l0_go p v0 q v1 v2 k0 k1) v1 v2 k0 k1
def laws_szInt64SS_l0_sh : Sh := ⟨[⟨0, false, [.sl (.slice (.int .i64))]⟩, ⟨1, false, [.int .i64]⟩, ⟨5, false, [.int .i64]⟩], 0, []⟩
noncomputable def laws_szInt64SS_lc0 (p : Nat) : LC := LC.alts 0 [⟨0, laws_szInt64SS_l0_sh, fun x {α} k => laws_szInt64SS_l0_go p x.1.1.1 p x.1.2.1.1 x.1.2.2.1.1 (fun o0 o1 => k .ret ⟨[(1, .one ⟨false, [.int .i64 o0]⟩), (4, .one ⟨false, [.int .i64 o1]⟩)], 0, []⟩) (fun o0 => k (.exit 0) ⟨[(1, .one ⟨false, [.int .i64 o0]⟩)], 0, []⟩)⟩]
noncomputable def laws_szInt64SS_lt (p : Nat) : LT := (.node .leaf (.node .leaf (.node .leaf (.node (.node .leaf (.loop [0, 1, 5] [1, 4] (some (laws_szInt64SS_lc0 p)) .leaf)) .leaf))))
noncomputable def laws_szInt64SS_G (p : Nat) : FuncId → Option CE := glist [(44, .pure (laws_szInt64S_c p))]
noncomputable def laws_szInt64SS_c0 : Code := codeAt [1, 1, 1, 0, 1, 0, 0] (bodyOf Try.f109)
noncomputable def laws_szInt64SS_it0 {α : Type} (p n b : Nat) (k : Ex → St → Option α) (q : Nat) (st : St) : Option α :=
  iter (fun s q => aexec Try.prog (laws_szInt64SS_G p) (fun g lt args st (k : D → St → Option α) => acall Try.prog (laws_szInt64SS_G p) 5 (n + 0) g lt args st k) 5 b 27 laws_szInt64SS_c0 .leaf s q) (canon b [0, 1, 5]) q st (fun e s => k e (canon b [1, 4] s))
theorem laws_szInt64SS_l0_step {α : Type} (p n : Nat) (k : Ex → St → Option α) (v0 : List (List Int)) (q : Nat) (v1 : Int) (v2 : Int) : laws_szInt64SS_it0 p n 0 k (q + 1) (laws_szInt64SS_l0_sh.mk' (((v0, ()), (v1, ()), (v2, ()), ()), (()))) =
  laws_szInt64SS_l0_r p v0 (fun v1 v2 => laws_szInt64SS_it0 p n 0 k q (laws_szInt64SS_l0_sh.mk' (((v0, ()), (v1, ()), (v2, ()), ()), (())))) v1 v2 (fun o0 o1 => k .ret ⟨[(1, .one ⟨false, [.int .i64 o0]⟩), (4, .one ⟨false, [.int .i64 o1]⟩)], 0, []⟩) (fun o0 => k (.exit 0) ⟨[(1, .one ⟨false, [.int .i64 o0]⟩)], 0, []⟩) := by kernel_rfl
theorem laws_szInt64SS_l0_ok {α : Type} (p n : Nat) (k : Ex → St → Option α) (v0 : List (List Int)) : ∀ (q : Nat) (v1 : Int) (v2 : Int), laws_szInt64SS_it0 p n 0 k q (laws_szInt64SS_l0_sh.mk' (((v0, ()), (v1, ()), (v2, ()), ()), (()))) =
  laws_szInt64SS_l0_go p v0 q v1 v2 (fun o0 o1 => k .ret ⟨[(1, .one ⟨false, [.int .i64 o0]⟩), (4, .one ⟨false, [.int .i64 o1]⟩)], 0, []⟩) (fun o0 => k (.exit 0) ⟨[(1, .one ⟨false, [.int .i64 o0]⟩)], 0, []⟩) := by
  intro q
  induction q with
  | zero => intros; rfl
  | succ q ih => intro v1 v2; rw [laws_szInt64SS_l0_step]; simp only [ih]; rfl
theorem laws_szInt64SS_ltok_109_ls (p : Nat) : loopsOf (bodyOf Try.f109) (laws_szInt64SS_lt p) = [⟨laws_szInt64SS_c0, [0, 1, 5], [1, 4], laws_szInt64SS_lc0 p, .leaf⟩] := by kernel_rfl
theorem laws_szInt64SS_ltok_109_dep (p : Nat) : LT.dep (laws_szInt64SS_lt p) = 0 := by kernel_rfl
theorem laws_szInt64SS_ltok_109 (p : Nat) : LTok Try.prog (laws_szInt64SS_G p) 5 109 (laws_szInt64SS_lt p) := by
  intro α n base fn c hd hfn hc
  have hfn' : some fn = some Try.f109 := hfn.symm.trans Try.func109
  cases hfn'
  have hc' : c = bodyOf Try.f109 := by unfold bodyOf; rw [hc]; rfl
  subst hc'
  rw [laws_szInt64SS_ltok_109_dep] at hd
  obtain ⟨n, rfl⟩ := Nat.exists_eq_add_of_le' hd
  apply LTS_of_loops
  rw [laws_szInt64SS_ltok_109_ls]
  intro e he st k r h
  simp only [List.mem_cons, List.not_mem_nil, or_false] at he
  subst he
  · obtain ⟨a, ha, hb, x, rfl, h⟩ := altRun_ok h
    simp only [List.mem_cons, List.not_mem_nil, or_false] at ha
    subst ha
    · cases hb; exact ⟨p, (laws_szInt64SS_l0_ok p n k _ p _ _).trans h⟩
theorem laws_szInt64SS_E (p : Nat) : EnvS Try.prog (laws_szInt64SS_G p) := by
  apply glist_env; intro f ce h
  simp only [List.mem_cons, List.not_mem_nil, or_false, Prod.mk.injEq] at h
  rcases h with ⟨rfl, rfl⟩
  · exact laws_szInt64S_s p
theorem laws_szInt64SS_I (p : Nat) : ∀ f lt, laws_szInt64SS_G p f = some (.inl lt) → LTok Try.prog (laws_szInt64SS_G p) 5 f lt := by
  apply glist_inl; intro f lt h
  simp only [List.mem_cons, List.not_mem_nil, or_false, Prod.mk.injEq, CE.inl.injEq, and_false, or_false, false_or, reduceCtorEq] at h
  
noncomputable def laws_szInt64SS_p (p : Nat) (a0 : (List (List Int))) (a1 : Int) : Option (Int × Unit) :=
  (bif (decide ((IntKind.wrap .i64 (a1 - (a0.length : Int))) < (0 : Int))) then some ((-1 : Int), ())
 else (laws_szInt64SS_l0_go p a0 p (IntKind.wrap .i64 (a1 - (a0.length : Int))) (0 : Int) (fun o3 o4 => some (o4, ())) (fun o5 => some (o5, ()))))
theorem laws_szInt64SS_run (p : Nat) (x : (parsT [.val (.slice (.slice (.int .i64))), .val (.int .i64)]).T) : acall Try.prog (laws_szInt64SS_G p) 5 1 109 (laws_szInt64SS_lt p) (argAVs [.val (.slice (.slice (.int .i64))), .val (.int .i64)] x) ⟨[], 0, []⟩ (outR [(.int .i64)]) = laws_szInt64SS_p p x.1 x.2.1 := by kernel_rfl
noncomputable def laws_szInt64SS_c (p : Nat) : PC := PC.fn true [.val (.slice (.slice (.int .i64))), .val (.int .i64)] [(.int .i64)] fun x => laws_szInt64SS_p p x.1 x.2.1
theorem laws_szInt64SS_s (p : Nat) : PSound Try.prog 109 (laws_szInt64SS_c p) := pure_sound (laws_szInt64SS_E p) Try.checked.mixed (laws_szInt64SS_I p) (laws_szInt64SS_ltok_109 p) (fun _ => rfl) fun x y h => (laws_szInt64SS_run p x).trans h
/-! laws.szPump -/
noncomputable def laws_szPump_G (p : Nat) : FuncId → Option CE := glist [(109, .pure (laws_szInt64SS_c p))]
theorem laws_szPump_E (p : Nat) : EnvS Try.prog (laws_szPump_G p) := by
  apply glist_env; intro f ce h
  simp only [List.mem_cons, List.not_mem_nil, or_false, Prod.mk.injEq] at h
  rcases h with ⟨rfl, rfl⟩
  · exact laws_szInt64SS_s p
theorem laws_szPump_I (p : Nat) : ∀ f lt, laws_szPump_G p f = some (.inl lt) → LTok Try.prog (laws_szPump_G p) 5 f lt := by
  apply glist_inl; intro f lt h
  simp only [List.mem_cons, List.not_mem_nil, or_false, Prod.mk.injEq, CE.inl.injEq, and_false, or_false, false_or, reduceCtorEq] at h
  
noncomputable def laws_szPump_p (p : Nat) (a0 : (Ty.T TPump)) (a1 : Int) : Option (Int × Unit) :=
  (bif (decide ((IntKind.wrap .i64 (a1 - (a0.1.size : Int))) < (0 : Int))) then some ((-1 : Int), ())
 else ((laws_szInt64SS_p p a0.2 (IntKind.wrap .i64 (a1 - (a0.1.size : Int)))).bind fun r1 => (bif (decide (r1.1 < (0 : Int))) then some ((-1 : Int), ())
 else some (r1.1, ()))))
theorem laws_szPump_run (p : Nat) (x : (parsT [.val TPump, .val (.int .i64)]).T) : acall Try.prog (laws_szPump_G p) 5 1 90 .leaf (argAVs [.val TPump, .val (.int .i64)] x) ⟨[], 0, []⟩ (outR [(.int .i64)]) = laws_szPump_p p x.1 x.2.1 := by kernel_rfl
noncomputable def laws_szPump_c (p : Nat) : PC := PC.fn true [.val TPump, .val (.int .i64)] [(.int .i64)] fun x => laws_szPump_p p x.1 x.2.1
theorem laws_szPump_s (p : Nat) : PSound Try.prog 90 (laws_szPump_c p) := pure_sound (laws_szPump_E p) Try.checked.mixed (laws_szPump_I p) LTok_leaf (fun _ => rfl) fun x y h => (laws_szPump_run p x).trans h
/-! laws.szPumpS -/
noncomputable def laws_szPumpS_l0_r {α : Type} (p : Nat) (v0 : List (Ty.T TPump)) (rec : (Int) → (Int) → Option α) (v1 : Int) (v2 : Int) (k0 : (Int) → (Int) → Option α) (k1 : (Int) → Option α) : Option α :=
  (bif (decide (v2 < (v0.length : Int))) then (if 0 ≤ v2 then (v0[v2.toNat]?).bind fun y1 => ((laws_szPump_p p y1 v1).bind fun r2 => (bif (decide (r2.1 < (0 : Int))) then (k0 r2.1 (-1 : Int))
 else (rec r2.1 (IntKind.wrap .i64 (v2 + (1 : Int)))))) else none)
 else (k1 v1))
noncomputable def laws_szPumpS_l0_go {α : Type} (p : Nat) (v0 : List (Ty.T TPump)) : Nat → (Int) → (Int) → ((Int) → (Int) → Option α) → ((Int) → Option α) → Option α
  | 0, _, _, _, _ => none
  | q + 1, v1, v2, k0, k1 => laws_szPumpS_l0_r p v0 (fun v1 v2 => laws_szPumpS_l0_go p v0 q v1 v2 k0 k1) v1 v2 k0 k1
def laws_szPumpS_l0_sh : Sh := ⟨[⟨0, false, [.sl TPump]⟩, ⟨1, false, [.int .i64]⟩, ⟨5, false, [.int .i64]⟩], 0, []⟩
noncomputable def laws_szPumpS_lc0 (p : Nat) : LC := LC.alts 0 [⟨0, laws_szPumpS_l0_sh, fun x {α} k => laws_szPumpS_l0_go p x.1.1.1 p x.1.2.1.1 x.1.2.2.1.1 (fun o0 o1 => k .ret ⟨[(1, .one ⟨false, [.int .i64 o0]⟩), (4, .one ⟨false, [.int .i64 o1]⟩)], 0, []⟩) (fun o0 => k (.exit 0) ⟨[(1, .one ⟨false, [.int .i64 o0]⟩)], 0, []⟩)⟩]
noncomputable def laws_szPumpS_lt (p : Nat) : LT := (.node .leaf (.node .leaf (.node .leaf (.node (.node .leaf (.loop [0, 1, 5] [1, 4] (some (laws_szPumpS_lc0 p)) .leaf)) .leaf))))
noncomputable def laws_szPumpS_G (p : Nat) : FuncId → Option CE := glist [(90, .pure (laws_szPump_c p))]
noncomputable def laws_szPumpS_c0 : Code := codeAt [1, 1, 1, 0, 1, 0, 0] (bodyOf Try.f46)
noncomputable def laws_szPumpS_it0 {α : Type} (p n b : Nat) (k : Ex → St → Option α) (q : Nat) (st : St) : Option α :=
  iter (fun s q => aexec Try.prog (laws_szPumpS_G p) (fun g lt args st (k : D → St → Option α) => acall Try.prog (laws_szPumpS_G p) 5 (n + 0) g lt args st k) 5 b 27 laws_szPumpS_c0 .leaf s q) (canon b [0, 1, 5]) q st (fun e s => k e (canon b [1, 4] s))
theorem laws_szPumpS_l0_step {α : Type} (p n : Nat) (k : Ex → St → Option α) (v0 : List (Ty.T TPump)) (q : Nat) (v1 : Int) (v2 : Int) : laws_szPumpS_it0 p n 0 k (q + 1) (laws_szPumpS_l0_sh.mk' (((v0, ()), (v1, ()), (v2, ()), ()), (()))) =
  laws_szPumpS_l0_r p v0 (fun v1 v2 => laws_szPumpS_it0 p n 0 k q (laws_szPumpS_l0_sh.mk' (((v0, ()), (v1, ()), (v2, ()), ()), (())))) v1 v2 (fun o0 o1 => k .ret ⟨[(1, .one ⟨false, [.int .i64 o0]⟩), (4, .one ⟨false, [.int .i64 o1]⟩)], 0, []⟩) (fun o0 => k (.exit 0) ⟨[(1, .one ⟨false, [.int .i64 o0]⟩)], 0, []⟩) := by kernel_rfl
theorem laws_szPumpS_l0_ok {α : Type} (p n : Nat) (k : Ex → St → Option α) (v0 : List (Ty.T TPump)) : ∀ (q : Nat) (v1 : Int) (v2 : Int), laws_szPumpS_it0 p n 0 k q (laws_szPumpS_l0_sh.mk' (((v0, ()), (v1, ()), (v2, ()), ()), (()))) =
  laws_szPumpS_l0_go p v0 q v1 v2 (fun o0 o1 => k .ret ⟨[(1, .one ⟨false, [.int .i64 o0]⟩), (4, .one ⟨false, [.int .i64 o1]⟩)], 0, []⟩) (fun o0 => k (.exit 0) ⟨[(1, .one ⟨false, [.int .i64 o0]⟩)], 0, []⟩) := by
  intro q
  induction q with
  | zero => intros; rfl
  | succ q ih => intro v1 v2; rw [laws_szPumpS_l0_step]; simp only [ih]; rfl
theorem laws_szPumpS_ltok_46_ls (p : Nat) : loopsOf (bodyOf Try.f46) (laws_szPumpS_lt p) = [⟨laws_szPumpS_c0, [0, 1, 5], [1, 4], laws_szPumpS_lc0 p, .leaf⟩] := by kernel_rfl
theorem laws_szPumpS_ltok_46_dep (p : Nat) : LT.dep (laws_szPumpS_lt p) = 0 := by kernel_rfl
theorem laws_szPumpS_ltok_46 (p : Nat) : LTok Try.prog (laws_szPumpS_G p) 5 46 (laws_szPumpS_lt p) := by
  intro α n base fn c hd hfn hc
  have hfn' : some fn = some Try.f46 := hfn.symm.trans Try.func46
  cases hfn'
  have hc' : c = bodyOf Try.f46 := by unfold bodyOf; rw [hc]; rfl
  subst hc'
  rw [laws_szPumpS_ltok_46_dep] at hd
  obtain ⟨n, rfl⟩ := Nat.exists_eq_add_of_le' hd
  apply LTS_of_loops
  rw [laws_szPumpS_ltok_46_ls]
  intro e he st k r h
  simp only [List.mem_cons, List.not_mem_nil, or_false] at he
  subst he
  · obtain ⟨a, ha, hb, x, rfl, h⟩ := altRun_ok h
    simp only [List.mem_cons, List.not_mem_nil, or_false] at ha
    subst ha
    · cases hb; exact ⟨p, (laws_szPumpS_l0_ok p n k _ p _ _).trans h⟩
theorem laws_szPumpS_E (p : Nat) : EnvS Try.prog (laws_szPumpS_G p) := by
  apply glist_env; intro f ce h
  simp only [List.mem_cons, List.not_mem_nil, or_false, Prod.mk.injEq] at h
  rcases h with ⟨rfl, rfl⟩
  · exact laws_szPump_s p
theorem laws_szPumpS_I (p : Nat) : ∀ f lt, laws_szPumpS_G p f = some (.inl lt) → LTok Try.prog (laws_szPumpS_G p) 5 f lt := by
  apply glist_inl; intro f lt h
  simp only [List.mem_cons, List.not_mem_nil, or_false, Prod.mk.injEq, CE.inl.injEq, and_false, or_false, false_or, reduceCtorEq] at h
  
noncomputable def laws_szPumpS_p (p : Nat) (a0 : (List (Ty.T TPump))) (a1 : Int) : Option (Int × Unit) :=
  (bif (decide ((IntKind.wrap .i64 (a1 - (a0.length : Int))) < (0 : Int))) then some ((-1 : Int), ())
 else (laws_szPumpS_l0_go p a0 p (IntKind.wrap .i64 (a1 - (a0.length : Int))) (0 : Int) (fun o3 o4 => some (o4, ())) (fun o5 => some (o5, ()))))
theorem laws_szPumpS_run (p : Nat) (x : (parsT [.val (.slice TPump), .val (.int .i64)]).T) : acall Try.prog (laws_szPumpS_G p) 5 1 46 (laws_szPumpS_lt p) (argAVs [.val (.slice TPump), .val (.int .i64)] x) ⟨[], 0, []⟩ (outR [(.int .i64)]) = laws_szPumpS_p p x.1 x.2.1 := by kernel_rfl
noncomputable def laws_szPumpS_c (p : Nat) : PC := PC.fn true [.val (.slice TPump), .val (.int .i64)] [(.int .i64)] fun x => laws_szPumpS_p p x.1 x.2.1
theorem laws_szPumpS_s (p : Nat) : PSound Try.prog 46 (laws_szPumpS_c p) := pure_sound (laws_szPumpS_E p) Try.checked.mixed (laws_szPumpS_I p) (laws_szPumpS_ltok_46 p) (fun _ => rfl) fun x y h => (laws_szPumpS_run p x).trans h
/-! laws.szSubstation -/
noncomputable def laws_szSubstation_G (p : Nat) : FuncId → Option CE := glist []
theorem laws_szSubstation_E (p : Nat) : EnvS Try.prog (laws_szSubstation_G p) := by
  apply glist_env; intro f ce h
  simp only [List.mem_cons, List.not_mem_nil, or_false, Prod.mk.injEq] at h
  
theorem laws_szSubstation_I (p : Nat) : ∀ f lt, laws_szSubstation_G p f = some (.inl lt) → LTok Try.prog (laws_szSubstation_G p) 5 f lt := by
  apply glist_inl; intro f lt h
  simp only [List.mem_cons, List.not_mem_nil, or_false, Prod.mk.injEq, CE.inl.injEq, and_false, or_false, false_or, reduceCtorEq] at h
  
noncomputable def laws_szSubstation_p (p : Nat) (a0 : (Ty.T TSubstation)) (a1 : Int) : Option (Int × Unit) :=
  (bif (decide ((IntKind.wrap .i64 (a1 - (a0.1.size : Int))) < (0 : Int))) then some ((-1 : Int), ())
 else some ((IntKind.wrap .i64 (a1 - (a0.1.size : Int))), ()))
theorem laws_szSubstation_run (p : Nat) (x : (parsT [.val TSubstation, .val (.int .i64)]).T) : acall Try.prog (laws_szSubstation_G p) 5 1 91 .leaf (argAVs [.val TSubstation, .val (.int .i64)] x) ⟨[], 0, []⟩ (outR [(.int .i64)]) = laws_szSubstation_p p x.1 x.2.1 := by kernel_rfl
noncomputable def laws_szSubstation_c (p : Nat) : PC := PC.fn true [.val TSubstation, .val (.int .i64)] [(.int .i64)] fun x => laws_szSubstation_p p x.1 x.2.1
theorem laws_szSubstation_s (p : Nat) : PSound Try.prog 91 (laws_szSubstation_c p) := pure_sound (laws_szSubstation_E p) Try.checked.mixed (laws_szSubstation_I p) LTok_leaf (fun _ => rfl) fun x y h => (laws_szSubstation_run p x).trans h
/-! laws.szSubstationS -/
noncomputable def laws_szSubstationS_l0_r {α : Type} (p : Nat) (v0 : List (Ty.T TSubstation)) (rec : (Int) → (Int) → Option α) (v1 : Int) (v2 : Int) (k0 : (Int) → (Int) → Option α) (k1 : (Int) → Option α) : Option α :=
  (bif (decide (v2 < (v0.length : Int))) then (if 0 ≤ v2 then (v0[v2.toNat]?).bind fun y1 => ((laws_szSubstation_p p y1 v1).bind fun r2 => (bif (decide (r2.1 < (0 : Int))) then (k0 r2.1 (-1 : Int))
 else (rec r2.1 (IntKind.wrap .i64 (v2 + (1 : Int)))))) else none)
 else (k1 v1))
noncomputable def laws_szSubstationS_l0_go {α : Type} (p : Nat) (v0 : List (Ty.T TSubstation)) : Nat → (Int) → (Int) → ((Int) → (Int) → Option α) → ((Int) → Option α) → Option α
  | 0, _, _, _, _ => none
  | q + 1, v1, v2, k0, k1 => laws_szSubstationS_l0_r p v0 (fun v1 v2 => laws_szSubstationS_l0_go p v0 q v1 v2 k0 k1) v1 v2 k0 k1
def laws_szSubstationS_l0_sh : Sh := ⟨[⟨0, false, [.sl TSubstation]⟩, ⟨1, false, [.int .i64]⟩, ⟨5, false, [.int .i64]⟩], 0, []⟩
noncomputable def laws_szSubstationS_lc0 (p : Nat) : LC := LC.alts 0 [⟨0, laws_szSubstationS_l0_sh, fun x {α} k => laws_szSubstationS_l0_go p x.1.1.1 p x.1.2.1.1 x.1.2.2.1.1 (fun o0 o1 => k .ret ⟨[(1, .one ⟨false, [.int .i64 o0]⟩), (4, .one ⟨false, [.int .i64 o1]⟩)], 0, []⟩) (fun o0 => k (.exit 0) ⟨[(1, .one ⟨false, [.int .i64 o0]⟩)], 0, []⟩)⟩]
noncomputable def laws_szSubstationS_lt (p : Nat) : LT := (.node .leaf (.node .leaf (.node .leaf (.node (.node .leaf (.loop [0, 1, 5] [1, 4] (some (laws_szSubstationS_lc0 p)) .leaf)) .leaf))))
noncomputable def laws_szSubstationS_G (p : Nat) : FuncId → Option CE := glist [(91, .pure (laws_szSubstation_c p))]
noncomputable def laws_szSubstationS_c0 : Code := codeAt [1, 1, 1, 0, 1, 0, 0] (bodyOf Try.f47)
noncomputable def laws_szSubstationS_it0 {α : Type} (p n b : Nat) (k : Ex → St → Option α) (q : Nat) (st : St) : Option α :=
  iter (fun s q => aexec Try.prog (laws_szSubstationS_G p) (fun g lt args st (k : D → St → Option α) => acall Try.prog (laws_szSubstationS_G p) 5 (n + 0) g lt args st k) 5 b 27 laws_szSubstationS_c0 .leaf s q) (canon b [0, 1, 5]) q st (fun e s => k e (canon b [1, 4] s))
theorem laws_szSubstationS_l0_step {α : Type} (p n : Nat) (k : Ex → St → Option α) (v0 : List (Ty.T TSubstation)) (q : Nat) (v1 : Int) (v2 : Int) : laws_szSubstationS_it0 p n 0 k (q + 1) (laws_szSubstationS_l0_sh.mk' (((v0, ()), (v1, ()), (v2, ()), ()), (()))) =
  laws_szSubstationS_l0_r p v0 (fun v1 v2 => laws_szSubstationS_it0 p n 0 k q (laws_szSubstationS_l0_sh.mk' (((v0, ()), (v1, ()), (v2, ()), ()), (())))) v1 v2 (fun o0 o1 => k .ret ⟨[(1, .one ⟨false, [.int .i64 o0]⟩), (4, .one ⟨false, [.int .i64 o1]⟩)], 0, []⟩) (fun o0 => k (.exit 0) ⟨[(1, .one ⟨false, [.int .i64 o0]⟩)], 0, []⟩) := by kernel_rfl
theorem laws_szSubstationS_l0_ok {α : Type} (p n : Nat) (k : Ex → St → Option α) (v0 : List (Ty.T TSubstation)) : ∀ (q : Nat) (v1 : Int) (v2 : Int), laws_szSubstationS_it0 p n 0 k q (laws_szSubstationS_l0_sh.mk' (((v0, ()), (v1, ()), (v2, ()), ()), (()))) =
  laws_szSubstationS_l0_go p v0 q v1 v2 (fun o0 o1 => k .ret ⟨[(1, .one ⟨false, [.int .i64 o0]⟩), (4, .one ⟨false, [.int .i64 o1]⟩)], 0, []⟩) (fun o0 => k (.exit 0) ⟨[(1, .one ⟨false, [.int .i64 o0]⟩)], 0, []⟩) := by
  intro q
  induction q with
  | zero => intros; rfl
  | succ q ih => intro v1 v2; rw [laws_szSubstationS_l0_step]; simp only [ih]; rfl
theorem laws_szSubstationS_ltok_47_ls (p : Nat) : loopsOf (bodyOf Try.f47) (laws_szSubstationS_lt p) = [⟨laws_szSubstationS_c0, [0, 1, 5], [1, 4], laws_szSubstationS_lc0 p, .leaf⟩] := by kernel_rfl
theorem laws_szSubstationS_ltok_47_dep (p : Nat) : LT.dep (laws_szSubstationS_lt p) = 0 := by kernel_rfl
theorem laws_szSubstationS_ltok_47 (p : Nat) : LTok Try.prog (laws_szSubstationS_G p) 5 47 (laws_szSubstationS_lt p) := by
  intro α n base fn c hd hfn hc
  have hfn' : some fn = some Try.f47 := hfn.symm.trans Try.func47
  cases hfn'
  have hc' : c = bodyOf Try.f47 := by unfold bodyOf; rw [hc]; rfl
  subst hc'
  rw [laws_szSubstationS_ltok_47_dep] at hd
  obtain ⟨n, rfl⟩ := Nat.exists_eq_add_of_le' hd
  apply LTS_of_loops
  rw [laws_szSubstationS_ltok_47_ls]
  intro e he st k r h
  simp only [List.mem_cons, List.not_mem_nil, or_false] at he
  subst he
  · obtain ⟨a, ha, hb, x, rfl, h⟩ := altRun_ok h
    simp only [List.mem_cons, List.not_mem_nil, or_false] at ha
    subst ha
    · cases hb; exact ⟨p, (laws_szSubstationS_l0_ok p n k _ p _ _).trans h⟩
theorem laws_szSubstationS_E (p : Nat) : EnvS Try.prog (laws_szSubstationS_G p) := by
  apply glist_env; intro f ce h
  simp only [List.mem_cons, List.not_mem_nil, or_false, Prod.mk.injEq] at h
  rcases h with ⟨rfl, rfl⟩
  · exact laws_szSubstation_s p
theorem laws_szSubstationS_I (p : Nat) : ∀ f lt, laws_szSubstationS_G p f = some (.inl lt) → LTok Try.prog (laws_szSubstationS_G p) 5 f lt := by
  apply glist_inl; intro f lt h
  simp only [List.mem_cons, List.not_mem_nil, or_false, Prod.mk.injEq, CE.inl.injEq, and_false, or_false, false_or, reduceCtorEq] at h
  
noncomputable def laws_szSubstationS_p (p : Nat) (a0 : (List (Ty.T TSubstation))) (a1 : Int) : Option (Int × Unit) :=
  (bif (decide ((IntKind.wrap .i64 (a1 - (a0.length : Int))) < (0 : Int))) then some ((-1 : Int), ())
 else (laws_szSubstationS_l0_go p a0 p (IntKind.wrap .i64 (a1 - (a0.length : Int))) (0 : Int) (fun o3 o4 => some (o4, ())) (fun o5 => some (o5, ()))))
theorem laws_szSubstationS_run (p : Nat) (x : (parsT [.val (.slice TSubstation), .val (.int .i64)]).T) : acall Try.prog (laws_szSubstationS_G p) 5 1 47 (laws_szSubstationS_lt p) (argAVs [.val (.slice TSubstation), .val (.int .i64)] x) ⟨[], 0, []⟩ (outR [(.int .i64)]) = laws_szSubstationS_p p x.1 x.2.1 := by kernel_rfl
noncomputable def laws_szSubstationS_c (p : Nat) : PC := PC.fn true [.val (.slice TSubstation), .val (.int .i64)] [(.int .i64)] fun x => laws_szSubstationS_p p x.1 x.2.1
theorem laws_szSubstationS_s (p : Nat) : PSound Try.prog 47 (laws_szSubstationS_c p) := pure_sound (laws_szSubstationS_E p) Try.checked.mixed (laws_szSubstationS_I p) (laws_szSubstationS_ltok_47 p) (fun _ => rfl) fun x y h => (laws_szSubstationS_run p x).trans h
/-! laws.szFuel -/
noncomputable def laws_szFuel_G (p : Nat) : FuncId → Option CE := glist []
theorem laws_szFuel_E (p : Nat) : EnvS Try.prog (laws_szFuel_G p) := by
  apply glist_env; intro f ce h
  simp only [List.mem_cons, List.not_mem_nil, or_false, Prod.mk.injEq] at h
  
theorem laws_szFuel_I (p : Nat) : ∀ f lt, laws_szFuel_G p f = some (.inl lt) → LTok Try.prog (laws_szFuel_G p) 5 f lt := by
  apply glist_inl; intro f lt h
  simp only [List.mem_cons, List.not_mem_nil, or_false, Prod.mk.injEq, CE.inl.injEq, and_false, or_false, false_or, reduceCtorEq] at h
  
noncomputable def laws_szFuel_p (p : Nat) (a0 : (Ty.T TFuel)) (a1 : Int) : Option (Int × Unit) :=
  (bif (decide ((IntKind.wrap .i64 (a1 - (a0.1.size : Int))) < (0 : Int))) then some ((-1 : Int), ())
 else some ((IntKind.wrap .i64 (a1 - (a0.1.size : Int))), ()))
theorem laws_szFuel_run (p : Nat) (x : (parsT [.val TFuel, .val (.int .i64)]).T) : acall Try.prog (laws_szFuel_G p) 5 1 92 .leaf (argAVs [.val TFuel, .val (.int .i64)] x) ⟨[], 0, []⟩ (outR [(.int .i64)]) = laws_szFuel_p p x.1 x.2.1 := by kernel_rfl
noncomputable def laws_szFuel_c (p : Nat) : PC := PC.fn true [.val TFuel, .val (.int .i64)] [(.int .i64)] fun x => laws_szFuel_p p x.1 x.2.1
theorem laws_szFuel_s (p : Nat) : PSound Try.prog 92 (laws_szFuel_c p) := pure_sound (laws_szFuel_E p) Try.checked.mixed (laws_szFuel_I p) LTok_leaf (fun _ => rfl) fun x y h => (laws_szFuel_run p x).trans h
/-! laws.szFuelS -/
noncomputable def laws_szFuelS_l0_r {α : Type} (p : Nat) (v0 : List (Ty.T TFuel)) (rec : (Int) → (Int) → Option α) (v1 : Int) (v2 : Int) (k0 : (Int) → (Int) → Option α) (k1 : (Int) → Option α) : Option α :=
  (bif (decide (v2 < (v0.length : Int))) then (if 0 ≤ v2 then (v0[v2.toNat]?).bind fun y1 => ((laws_szFuel_p p y1 v1).bind fun r2 => (bif (decide (r2.1 < (0 : Int))) then (k0 r2.1 (-1 : Int))
 else (rec r2.1 (IntKind.wrap .i64 (v2 + (1 : Int)))))) else none)
 else (k1 v1))
noncomputable def laws_szFuelS_l0_go {α : Type} (p : Nat) (v0 : List (Ty.T TFuel)) : Nat → (Int) → (Int) → ((Int) → (Int) → Option α) → ((Int) → Option α) → Option α
  | 0, _, _, _, _ => none
  | q + 1, v1, v2, k0, k1 => laws_szFuelS_l0_r p v0 (fun v1 v2 => laws_szFuelS_l0_go p v0 q v1 v2 k0 k1) v1 v2 k0 k1
def laws_szFuelS_l0_sh : Sh := ⟨[⟨0, false, [.sl TFuel]⟩, ⟨1, false, [.int .i64]⟩, ⟨5, false, [.int .i64]⟩], 0, []⟩
noncomputable def laws_szFuelS_lc0 (p : Nat) : LC := LC.alts 0 [⟨0, laws_szFuelS_l0_sh, fun x {α} k => laws_szFuelS_l0_go p x.1.1.1 p x.1.2.1.1 x.1.2.2.1.1 (fun o0 o1 => k .ret ⟨[(1, .one ⟨false, [.int .i64 o0]⟩), (4, .one ⟨false, [.int .i64 o1]⟩)], 0, []⟩) (fun o0 => k (.exit 0) ⟨[(1, .one ⟨false, [.int .i64 o0]⟩)], 0, []⟩)⟩]
noncomputable def laws_szFuelS_lt (p : Nat) : LT := (.node .leaf (.node .leaf (.node .leaf (.node (.node .leaf (.loop [0, 1, 5] [1, 4] (some (laws_szFuelS_lc0 p)) .leaf)) .leaf))))
noncomputable def laws_szFuelS_G (p : Nat) : FuncId → Option CE := glist [(92, .pure (laws_szFuel_c p))]
noncomputable def laws_szFuelS_c0 : Code := codeAt [1, 1, 1, 0, 1, 0, 0] (bodyOf Try.f48)
noncomputable def laws_szFuelS_it0 {α : Type} (p n b : Nat) (k : Ex → St → Option α) (q : Nat) (st : St) : Option α :=
  iter (fun s q => aexec Try.prog (laws_szFuelS_G p) (fun g lt args st (k : D → St → Option α) => acall Try.prog (laws_szFuelS_G p) 5 (n + 0) g lt args st k) 5 b 27 laws_szFuelS_c0 .leaf s q) (canon b [0, 1, 5]) q st (fun e s => k e (canon b [1, 4] s))
theorem laws_szFuelS_l0_step {α : Type} (p n : Nat) (k : Ex → St → Option α) (v0 : List (Ty.T TFuel)) (q : Nat) (v1 : Int) (v2 : Int) : laws_szFuelS_it0 p n 0 k (q + 1) (laws_szFuelS_l0_sh.mk' (((v0, ()), (v1, ()), (v2, ()), ()), (()))) =
  laws_szFuelS_l0_r p v0 (fun v1 v2 => laws_szFuelS_it0 p n 0 k q (laws_szFuelS_l0_sh.mk' (((v0, ()), (v1, ()), (v2, ()), ()), (())))) v1 v2 (fun o0 o1 => k .ret ⟨[(1, .one ⟨false, [.int .i64 o0]⟩), (4, .one ⟨false, [.int .i64 o1]⟩)], 0, []⟩) (fun o0 => k (.exit 0) ⟨[(1, .one ⟨false, [.int .i64 o0]⟩)], 0, []⟩) := by kernel_rfl
theorem laws_szFuelS_l0_ok {α : Type} (p n : Nat) (k : Ex → St → Option α) (v0 : List (Ty.T TFuel)) : ∀ (q : Nat) (v1 : Int) (v2 : Int), laws_szFuelS_it0 p n 0 k q (laws_szFuelS_l0_sh.mk' (((v0, ()), (v1, ()), (v2, ()), ()), (()))) =
  laws_szFuelS_l0_go p v0 q v1 v2 (fun o0 o1 => k .ret ⟨[(1, .one ⟨false, [.int .i64 o0]⟩), (4, .one ⟨false, [.int .i64 o1]⟩)], 0, []⟩) (fun o0 => k (.exit 0) ⟨[(1, .one ⟨false, [.int .i64 o0]⟩)], 0, []⟩) := by
  intro q
  induction q with
  | zero => intros; rfl
  | succ q ih => intro v1 v2; rw [laws_szFuelS_l0_step]; simp only [ih]; rfl
theorem laws_szFuelS_ltok_48_ls (p : Nat) : loopsOf (bodyOf Try.f48) (laws_szFuelS_lt p) = [⟨laws_szFuelS_c0, [0, 1, 5], [1, 4], laws_szFuelS_lc0 p, .leaf⟩] := by kernel_rfl
theorem laws_szFuelS_ltok_48_dep (p : Nat) : LT.dep (laws_szFuelS_lt p) = 0 := by kernel_rfl
theorem laws_szFuelS_ltok_48 (p : Nat) : LTok Try.prog (laws_szFuelS_G p) 5 48 (laws_szFuelS_lt p) := by
  intro α n base fn c hd hfn hc
  have hfn' : some fn = some Try.f48 := hfn.symm.trans Try.func48
  cases hfn'
  have hc' : c = bodyOf Try.f48 := by unfold bodyOf; rw [hc]; rfl
  subst hc'
  rw [laws_szFuelS_ltok_48_dep] at hd
  obtain ⟨n, rfl⟩ := Nat.exists_eq_add_of_le' hd
  apply LTS_of_loops
  rw [laws_szFuelS_ltok_48_ls]
  intro e he st k r h
  simp only [List.mem_cons, List.not_mem_nil, or_false] at he
  subst he
  · obtain ⟨a, ha, hb, x, rfl, h⟩ := altRun_ok h
    simp only [List.mem_cons, List.not_mem_nil, or_false] at ha
    subst ha
    · cases hb; exact ⟨p, (laws_szFuelS_l0_ok p n k _ p _ _).trans h⟩
theorem laws_szFuelS_E (p : Nat) : EnvS Try.prog (laws_szFuelS_G p) := by
  apply glist_env; intro f ce h
  simp only [List.mem_cons, List.not_mem_nil, or_false, Prod.mk.injEq] at h
  rcases h with ⟨rfl, rfl⟩
  · exact laws_szFuel_s p
theorem laws_szFuelS_I (p : Nat) : ∀ f lt, laws_szFuelS_G p f = some (.inl lt) → LTok Try.prog (laws_szFuelS_G p) 5 f lt := by
  apply glist_inl; intro f lt h
  simp only [List.mem_cons, List.not_mem_nil, or_false, Prod.mk.injEq, CE.inl.injEq, and_false, or_false, false_or, reduceCtorEq] at h
  
noncomputable def laws_szFuelS_p (p : Nat) (a0 : (List (Ty.T TFuel))) (a1 : Int) : Option (Int × Unit) :=
  (bif (decide ((IntKind.wrap .i64 (a1 - (a0.length : Int))) < (0 : Int))) then some ((-1 : Int), ())
 else (laws_szFuelS_l0_go p a0 p (IntKind.wrap .i64 (a1 - (a0.length : Int))) (0 : Int) (fun o3 o4 => some (o4, ())) (fun o5 => some (o5, ()))))
theorem laws_szFuelS_run (p : Nat) (x : (parsT [.val (.slice TFuel), .val (.int .i64)]).T) : acall Try.prog (laws_szFuelS_G p) 5 1 48 (laws_szFuelS_lt p) (argAVs [.val (.slice TFuel), .val (.int .i64)] x) ⟨[], 0, []⟩ (outR [(.int .i64)]) = laws_szFuelS_p p x.1 x.2.1 := by kernel_rfl
noncomputable def laws_szFuelS_c (p : Nat) : PC := PC.fn true [.val (.slice TFuel), .val (.int .i64)] [(.int .i64)] fun x => laws_szFuelS_p p x.1 x.2.1
theorem laws_szFuelS_s (p : Nat) : PSound Try.prog 48 (laws_szFuelS_c p) := pure_sound (laws_szFuelS_E p) Try.checked.mixed (laws_szFuelS_I p) (laws_szFuelS_ltok_48 p) (fun _ => rfl) fun x y h => (laws_szFuelS_run p x).trans h
/-! laws.szRepair -/
noncomputable def laws_szRepair_G (p : Nat) : FuncId → Option CE := glist []
theorem laws_szRepair_E (p : Nat) : EnvS Try.prog (laws_szRepair_G p) := by
  apply glist_env; intro f ce h
  simp only [List.mem_cons, List.not_mem_nil, or_false, Prod.mk.injEq] at h
  
theorem laws_szRepair_I (p : Nat) : ∀ f lt, laws_szRepair_G p f = some (.inl lt) → LTok Try.prog (laws_szRepair_G p) 5 f lt := by
  apply glist_inl; intro f lt h
  simp only [List.mem_cons, List.not_mem_nil, or_false, Prod.mk.injEq, CE.inl.injEq, and_false, or_false, false_or, reduceCtorEq] at h
  
noncomputable def laws_szRepair_p (p : Nat) (a0 : (Ty.T TFuel)) (a1 : Int) : Option (Int × Unit) :=
  (bif (decide ((IntKind.wrap .i64 (a1 - (a0.1.size : Int))) < (0 : Int))) then some ((-1 : Int), ())
 else some ((IntKind.wrap .i64 (a1 - (a0.1.size : Int))), ()))
theorem laws_szRepair_run (p : Nat) (x : (parsT [.val TFuel, .val (.int .i64)]).T) : acall Try.prog (laws_szRepair_G p) 5 1 93 .leaf (argAVs [.val TFuel, .val (.int .i64)] x) ⟨[], 0, []⟩ (outR [(.int .i64)]) = laws_szRepair_p p x.1 x.2.1 := by kernel_rfl
noncomputable def laws_szRepair_c (p : Nat) : PC := PC.fn true [.val TFuel, .val (.int .i64)] [(.int .i64)] fun x => laws_szRepair_p p x.1 x.2.1
theorem laws_szRepair_s (p : Nat) : PSound Try.prog 93 (laws_szRepair_c p) := pure_sound (laws_szRepair_E p) Try.checked.mixed (laws_szRepair_I p) LTok_leaf (fun _ => rfl) fun x y h => (laws_szRepair_run p x).trans h
/-! laws.szRepairS -/
noncomputable def laws_szRepairS_l0_r {α : Type} (p : Nat) (v0 : List (Ty.T TFuel)) (rec : (Int) → (Int) → Option α) (v1 : Int) (v2 : Int) (k0 : (Int) → (Int) → Option α) (k1 : (Int) → Option α) : Option α :=
  (bif (decide (v2 < (v0.length : Int))) then (if 0 ≤ v2 then (v0[v2.toNat]?).bind fun y1 => ((laws_szRepair_p p y1 v1).bind fun r2 => (bif (decide (r2.1 < (0 : Int))) then (k0 r2.1 (-1 : Int))
 else (rec r2.1 (IntKind.wrap .i64 (v2 + (1 : Int)))))) else none)
 else (k1 v1))
noncomputable def laws_szRepairS_l0_go {α : Type} (p : Nat) (v0 : List (Ty.T TFuel)) : Nat → (Int) → (Int) → ((Int) → (Int) → Option α) → ((Int) → Option α) → Option α
  | 0, _, _, _, _ => none
  | q + 1, v1, v2, k0, k1 => laws_szRepairS_l0_r p v0 (fun v1 v2 => laws_szRepairS_l0_go p v0 q v1 v2 k0 k1) v1 v2 k0 k1
def laws_szRepairS_l0_sh : Sh := ⟨[⟨0, false, [.sl TFuel]⟩, ⟨1, false, [.int .i64]⟩, ⟨5, false, [.int .i64]⟩], 0, []⟩
noncomputable def laws_szRepairS_lc0 (p : Nat) : LC := LC.alts 0 [⟨0, laws_szRepairS_l0_sh, fun x {α} k => laws_szRepairS_l0_go p x.1.1.1 p x.1.2.1.1 x.1.2.2.1.1 (fun o0 o1 => k .ret ⟨[(1, .one ⟨false, [.int .i64 o0]⟩), (4, .one ⟨false, [.int .i64 o1]⟩)], 0, []⟩) (fun o0 => k (.exit 0) ⟨[(1, .one ⟨false, [.int .i64 o0]⟩)], 0, []⟩)⟩]
noncomputable def laws_szRepairS_lt (p : Nat) : LT := (.node .leaf (.node .leaf (.node .leaf (.node (.node .leaf (.loop [0, 1, 5] [1, 4] (some (laws_szRepairS_lc0 p)) .leaf)) .leaf))))
noncomputable def laws_szRepairS_G (p : Nat) : FuncId → Option CE := glist [(93, .pure (laws_szRepair_c p))]
noncomputable def laws_szRepairS_c0 : Code := codeAt [1, 1, 1, 0, 1, 0, 0] (bodyOf Try.f49)
noncomputable def laws_szRepairS_it0 {α : Type} (p n b : Nat) (k : Ex → St → Option α) (q : Nat) (st : St) : Option α :=
  iter (fun s q => aexec Try.prog (laws_szRepairS_G p) (fun g lt args st (k : D → St → Option α) => acall Try.prog (laws_szRepairS_G p) 5 (n + 0) g lt args st k) 5 b 27 laws_szRepairS_c0 .leaf s q) (canon b [0, 1, 5]) q st (fun e s => k e (canon b [1, 4] s))
theorem laws_szRepairS_l0_step {α : Type} (p n : Nat) (k : Ex → St → Option α) (v0 : List (Ty.T TFuel)) (q : Nat) (v1 : Int) (v2 : Int) : laws_szRepairS_it0 p n 0 k (q + 1) (laws_szRepairS_l0_sh.mk' (((v0, ()), (v1, ()), (v2, ()), ()), (()))) =
  laws_szRepairS_l0_r p v0 (fun v1 v2 => laws_szRepairS_it0 p n 0 k q (laws_szRepairS_l0_sh.mk' (((v0, ()), (v1, ()), (v2, ()), ()), (())))) v1 v2 (fun o0 o1 => k .ret ⟨[(1, .one ⟨false, [.int .i64 o0]⟩), (4, .one ⟨false, [.int .i64 o1]⟩)], 0, []⟩) (fun o0 => k (.exit 0) ⟨[(1, .one ⟨false, [.int .i64 o0]⟩)], 0, []⟩) := by kernel_rfl
theorem laws_szRepairS_l0_ok {α : Type} (p n : Nat) (k : Ex → St → Option α) (v0 : List (Ty.T TFuel)) : ∀ (q : Nat) (v1 : Int) (v2 : Int), laws_szRepairS_it0 p n 0 k q (laws_szRepairS_l0_sh.mk' (((v0, ()), (v1, ()), (v2, ()), ()), (()))) =
  laws_szRepairS_l0_go p v0 q v1 v2 (fun o0 o1 => k .ret ⟨[(1, .one ⟨false, [.int .i64 o0]⟩), (4, .one ⟨false, [.int .i64 o1]⟩)], 0, []⟩) (fun o0 => k (.exit 0) ⟨[(1, .one ⟨false, [.int .i64 o0]⟩)], 0, []⟩) := by
  intro q
  induction q with
  | zero => intros; rfl
  | succ q ih => intro v1 v2; rw [laws_szRepairS_l0_step]; simp only [ih]; rfl
theorem laws_szRepairS_ltok_49_ls (p : Nat) : loopsOf (bodyOf Try.f49) (laws_szRepairS_lt p) = [⟨laws_szRepairS_c0, [0, 1, 5], [1, 4], laws_szRepairS_lc0 p, .leaf⟩] := by kernel_rfl
theorem laws_szRepairS_ltok_49_dep (p : Nat) : LT.dep (laws_szRepairS_lt p) = 0 := by kernel_rfl
theorem laws_szRepairS_ltok_49 (p : Nat) : LTok Try.prog (laws_szRepairS_G p) 5 49 (laws_szRepairS_lt p) := by
  intro α n base fn c hd hfn hc
  have hfn' : some fn = some Try.f49 := hfn.symm.trans Try.func49
  cases hfn'
  have hc' : c = bodyOf Try.f49 := by unfold bodyOf; rw [hc]; rfl
  subst hc'
  rw [laws_szRepairS_ltok_49_dep] at hd
  obtain ⟨n, rfl⟩ := Nat.exists_eq_add_of_le' hd
  apply LTS_of_loops
  rw [laws_szRepairS_ltok_49_ls]
  intro e he st k r h
  simp only [List.mem_cons, List.not_mem_nil, or_false] at he
  subst he
  · obtain ⟨a, ha, hb, x, rfl, h⟩ := altRun_ok h
    simp only [List.mem_cons, List.not_mem_nil, or_false] at ha
    subst ha
    · cases hb; exact ⟨p, (laws_szRepairS_l0_ok p n k _ p _ _).trans h⟩
theorem laws_szRepairS_E (p : Nat) : EnvS Try.prog (laws_szRepairS_G p) := by
  apply glist_env; intro f ce h
  simp only [List.mem_cons, List.not_mem_nil, or_false, Prod.mk.injEq] at h
  rcases h with ⟨rfl, rfl⟩
  · exact laws_szRepair_s p
theorem laws_szRepairS_I (p : Nat) : ∀ f lt, laws_szRepairS_G p f = some (.inl lt) → LTok Try.prog (laws_szRepairS_G p) 5 f lt := by
  apply glist_inl; intro f lt h
  simp only [List.mem_cons, List.not_mem_nil, or_false, Prod.mk.injEq, CE.inl.injEq, and_false, or_false, false_or, reduceCtorEq] at h
  
noncomputable def laws_szRepairS_p (p : Nat) (a0 : (List (Ty.T TFuel))) (a1 : Int) : Option (Int × Unit) :=
  (bif (decide ((IntKind.wrap .i64 (a1 - (a0.length : Int))) < (0 : Int))) then some ((-1 : Int), ())
 else (laws_szRepairS_l0_go p a0 p (IntKind.wrap .i64 (a1 - (a0.length : Int))) (0 : Int) (fun o3 o4 => some (o4, ())) (fun o5 => some (o5, ()))))
theorem laws_szRepairS_run (p : Nat) (x : (parsT [.val (.slice TFuel), .val (.int .i64)]).T) : acall Try.prog (laws_szRepairS_G p) 5 1 49 (laws_szRepairS_lt p) (argAVs [.val (.slice TFuel), .val (.int .i64)] x) ⟨[], 0, []⟩ (outR [(.int .i64)]) = laws_szRepairS_p p x.1 x.2.1 := by kernel_rfl
noncomputable def laws_szRepairS_c (p : Nat) : PC := PC.fn true [.val (.slice TFuel), .val (.int .i64)] [(.int .i64)] fun x => laws_szRepairS_p p x.1 x.2.1
theorem laws_szRepairS_s (p : Nat) : PSound Try.prog 49 (laws_szRepairS_c p) := pure_sound (laws_szRepairS_E p) Try.checked.mixed (laws_szRepairS_I p) (laws_szRepairS_ltok_49 p) (fun _ => rfl) fun x y h => (laws_szRepairS_run p x).trans h
/-! laws.szTenant -/
noncomputable def laws_szTenant_G (p : Nat) : FuncId → Option CE := glist []
theorem laws_szTenant_E (p : Nat) : EnvS Try.prog (laws_szTenant_G p) := by
  apply glist_env; intro f ce h
  simp only [List.mem_cons, List.not_mem_nil, or_false, Prod.mk.injEq] at h
  
theorem laws_szTenant_I (p : Nat) : ∀ f lt, laws_szTenant_G p f = some (.inl lt) → LTok Try.prog (laws_szTenant_G p) 5 f lt := by
  apply glist_inl; intro f lt h
  simp only [List.mem_cons, List.not_mem_nil, or_false, Prod.mk.injEq, CE.inl.injEq, and_false, or_false, false_or, reduceCtorEq] at h
  
noncomputable def laws_szTenant_p (p : Nat) (a0 : (Ty.T TTenant)) (a1 : Int) : Option (Int × Unit) :=
  (bif (decide ((IntKind.wrap .i64 (a1 - (a0.1.size : Int))) < (0 : Int))) then some ((-1 : Int), ())
 else some ((IntKind.wrap .i64 (a1 - (a0.1.size : Int))), ()))
theorem laws_szTenant_run (p : Nat) (x : (parsT [.val TTenant, .val (.int .i64)]).T) : acall Try.prog (laws_szTenant_G p) 5 1 94 .leaf (argAVs [.val TTenant, .val (.int .i64)] x) ⟨[], 0, []⟩ (outR [(.int .i64)]) = laws_szTenant_p p x.1 x.2.1 := by kernel_rfl
noncomputable def laws_szTenant_c (p : Nat) : PC := PC.fn true [.val TTenant, .val (.int .i64)] [(.int .i64)] fun x => laws_szTenant_p p x.1 x.2.1
theorem laws_szTenant_s (p : Nat) : PSound Try.prog 94 (laws_szTenant_c p) := pure_sound (laws_szTenant_E p) Try.checked.mixed (laws_szTenant_I p) LTok_leaf (fun _ => rfl) fun x y h => (laws_szTenant_run p x).trans h
/-! laws.szTenantS -/
noncomputable def laws_szTenantS_l0_r {α : Type} (p : Nat) (v0 : List (Ty.T TTenant)) (rec : (Int) → (Int) → Option α) (v1 : Int) (v2 : Int) (k0 : (Int) → (Int) → Option α) (k1 : (Int) → Option α) : Option α :=
  (bif (decide (v2 < (v0.length : Int))) then (if 0 ≤ v2 then (v0[v2.toNat]?).bind fun y1 => ((laws_szTenant_p p y1 v1).bind fun r2 => (bif (decide (r2.1 < (0 : Int))) then (k0 r2.1 (-1 : Int))
 else (rec r2.1 (IntKind.wrap .i64 (v2 + (1 : Int)))))) else none)
 else (k1 v1))
noncomputable def laws_szTenantS_l0_go {α : Type} (p : Nat) (v0 : List (Ty.T TTenant)) : Nat → (Int) → (Int) → ((Int) → (Int) → Option α) → ((Int) → Option α) → Option α
  | 0, _, _, _, _ => none
  | q + 1, v1, v2, k0, k1 => laws_szTenantS_l0_r p v0 (fun v1 v2 => laws_szTenantS_l0_go p v0 q v1 v2 k0 k1) v1 v2 k0 k1
def laws_szTenantS_l0_sh : Sh := ⟨[⟨0, false, [.sl TTenant]⟩, ⟨1, false, [.int .i64]⟩, ⟨5, false, [.int .i64]⟩], 0, []⟩
noncomputable def laws_szTenantS_lc0 (p : Nat) : LC := LC.alts 0 [⟨0, laws_szTenantS_l0_sh, fun x {α} k => laws_szTenantS_l0_go p x.1.1.1 p x.1.2.1.1 x.1.2.2.1.1 (fun o0 o1 => k .ret ⟨[(1, .one ⟨false, [.int .i64 o0]⟩), (4, .one ⟨false, [.int .i64 o1]⟩)], 0, []⟩) (fun o0 => k (.exit 0) ⟨[(1, .one ⟨false, [.int .i64 o0]⟩)], 0, []⟩)⟩]
noncomputable def laws_szTenantS_lt (p : Nat) : LT := (.node .leaf (.node .leaf (.node .leaf (.node (.node .leaf (.loop [0, 1, 5] [1, 4] (some (laws_szTenantS_lc0 p)) .leaf)) .leaf))))
noncomputable def laws_szTenantS_G (p : Nat) : FuncId → Option CE := glist [(94, .pure (laws_szTenant_c p))]
noncomputable def laws_szTenantS_c0 : Code := codeAt [1, 1, 1, 0, 1, 0, 0] (bodyOf Try.f50)
noncomputable def laws_szTenantS_it0 {α : Type} (p n b : Nat) (k : Ex → St → Option α) (q : Nat) (st : St) : Option α :=
  iter (fun s q => aexec Try.prog (laws_szTenantS_G p) (fun g lt args st (k : D → St → Option α) => acall Try.prog (laws_szTenantS_G p) 5 (n + 0) g lt args st k) 5 b 27 laws_szTenantS_c0 .leaf s q) (canon b [0, 1, 5]) q st (fun e s => k e (canon b [1, 4] s))
theorem laws_szTenantS_l0_step {α : Type} (p n : Nat) (k : Ex → St → Option α) (v0 : List (Ty.T TTenant)) (q : Nat) (v1 : Int) (v2 : Int) : laws_szTenantS_it0 p n 0 k (q + 1) (laws_szTenantS_l0_sh.mk' (((v0, ()), (v1, ()), (v2, ()), ()), (()))) =
  laws_szTenantS_l0_r p v0 (fun v1 v2 => laws_szTenantS_it0 p n 0 k q (laws_szTenantS_l0_sh.mk' (((v0, ()), (v1, ()), (v2, ()), ()), (())))) v1 v2 (fun o0 o1 => k .ret ⟨[(1, .one ⟨false, [.int .i64 o0]⟩), (4, .one ⟨false, [.int .i64 o1]⟩)], 0, []⟩) (fun o0 => k (.exit 0) ⟨[(1, .one ⟨false, [.int .i64 o0]⟩)], 0, []⟩) := by kernel_rfl
theorem laws_szTenantS_l0_ok {α : Type} (p n : Nat) (k : Ex → St → Option α) (v0 : List (Ty.T TTenant)) : ∀ (q : Nat) (v1 : Int) (v2 : Int), laws_szTenantS_it0 p n 0 k q (laws_szTenantS_l0_sh.mk' (((v0, ()), (v1, ()), (v2, ()), ()), (()))) =
  laws_szTenantS_l0_go p v0 q v1 v2 (fun o0 o1 => k .ret ⟨[(1, .one ⟨false, [.int .i64 o0]⟩), (4, .one ⟨false, [.int .i64 o1]⟩)], 0, []⟩) (fun o0 => k (.exit 0) ⟨[(1, .one ⟨false, [.int .i64 o0]⟩)], 0, []⟩) := by
  intro q
  induction q with
  | zero => intros; rfl
  | succ q ih => intro v1 v2; rw [laws_szTenantS_l0_step]; simp only [ih]; rfl
theorem laws_szTenantS_ltok_50_ls (p : Nat) : loopsOf (bodyOf Try.f50) (laws_szTenantS_lt p) = [⟨laws_szTenantS_c0, [0, 1, 5], [1, 4], laws_szTenantS_lc0 p, .leaf⟩] := by kernel_rfl
theorem laws_szTenantS_ltok_50_dep (p : Nat) : LT.dep (laws_szTenantS_lt p) = 0 := by kernel_rfl
theorem laws_szTenantS_ltok_50 (p : Nat) : LTok Try.prog (laws_szTenantS_G p) 5 50 (laws_szTenantS_lt p) := by
  intro α n base fn c hd hfn hc
  have hfn' : some fn = some Try.f50 := hfn.symm.trans Try.func50
  cases hfn'
  have hc' : c = bodyOf Try.f50 := by unfold bodyOf; rw [hc]; rfl
  subst hc'
  rw [laws_szTenantS_ltok_50_dep] at hd
  obtain ⟨n, rfl⟩ := Nat.exists_eq_add_of_le' hd
  apply LTS_of_loops
  rw [laws_szTenantS_ltok_50_ls]
  intro e he st k r h
  simp only [List.mem_cons, List.not_mem_nil, or_false] at he
  subst he
  · obtain ⟨a, ha, hb, x, rfl, h⟩ := altRun_ok h
    simp only [List.mem_cons, List.not_mem_nil, or_false] at ha
    subst ha
    · cases hb; exact ⟨p, (laws_szTenantS_l0_ok p n k _ p _ _).trans h⟩
theorem laws_szTenantS_E (p : Nat) : EnvS Try.prog (laws_szTenantS_G p) := by
  apply glist_env; intro f ce h
  simp only [List.mem_cons, List.not_mem_nil, or_false, Prod.mk.injEq] at h
  rcases h with ⟨rfl, rfl⟩
  · exact laws_szTenant_s p
theorem laws_szTenantS_I (p : Nat) : ∀ f lt, laws_szTenantS_G p f = some (.inl lt) → LTok Try.prog (laws_szTenantS_G p) 5 f lt := by
  apply glist_inl; intro f lt h
  simp only [List.mem_cons, List.not_mem_nil, or_false, Prod.mk.injEq, CE.inl.injEq, and_false, or_false, false_or, reduceCtorEq] at h
  
noncomputable def laws_szTenantS_p (p : Nat) (a0 : (List (Ty.T TTenant))) (a1 : Int) : Option (Int × Unit) :=
  (bif (decide ((IntKind.wrap .i64 (a1 - (a0.length : Int))) < (0 : Int))) then some ((-1 : Int), ())
 else (laws_szTenantS_l0_go p a0 p (IntKind.wrap .i64 (a1 - (a0.length : Int))) (0 : Int) (fun o3 o4 => some (o4, ())) (fun o5 => some (o5, ()))))
theorem laws_szTenantS_run (p : Nat) (x : (parsT [.val (.slice TTenant), .val (.int .i64)]).T) : acall Try.prog (laws_szTenantS_G p) 5 1 50 (laws_szTenantS_lt p) (argAVs [.val (.slice TTenant), .val (.int .i64)] x) ⟨[], 0, []⟩ (outR [(.int .i64)]) = laws_szTenantS_p p x.1 x.2.1 := by kernel_rfl
noncomputable def laws_szTenantS_c (p : Nat) : PC := PC.fn true [.val (.slice TTenant), .val (.int .i64)] [(.int .i64)] fun x => laws_szTenantS_p p x.1 x.2.1
theorem laws_szTenantS_s (p : Nat) : PSound Try.prog 50 (laws_szTenantS_c p) := pure_sound (laws_szTenantS_E p) Try.checked.mixed (laws_szTenantS_I p) (laws_szTenantS_ltok_50 p) (fun _ => rfl) fun x y h => (laws_szTenantS_run p x).trans h
/-! laws.szDuty -/
noncomputable def laws_szDuty_G (p : Nat) : FuncId → Option CE := glist []
theorem laws_szDuty_E (p : Nat) : EnvS Try.prog (laws_szDuty_G p) := by
  apply glist_env; intro f ce h
  simp only [List.mem_cons, List.not_mem_nil, or_false, Prod.mk.injEq] at h
  
theorem laws_szDuty_I (p : Nat) : ∀ f lt, laws_szDuty_G p f = some (.inl lt) → LTok Try.prog (laws_szDuty_G p) 5 f lt := by
  apply glist_inl; intro f lt h
  simp only [List.mem_cons, List.not_mem_nil, or_false, Prod.mk.injEq, CE.inl.injEq, and_false, or_false, false_or, reduceCtorEq] at h
  
noncomputable def laws_szDuty_p (p : Nat) (a0 : (Ty.T TDuty)) (a1 : Int) : Option (Int × Unit) :=
  (bif (decide ((IntKind.wrap .i64 (a1 - (a0.1.size : Int))) < (0 : Int))) then some ((-1 : Int), ())
 else some ((IntKind.wrap .i64 (a1 - (a0.1.size : Int))), ()))
theorem laws_szDuty_run (p : Nat) (x : (parsT [.val TDuty, .val (.int .i64)]).T) : acall Try.prog (laws_szDuty_G p) 5 1 95 .leaf (argAVs [.val TDuty, .val (.int .i64)] x) ⟨[], 0, []⟩ (outR [(.int .i64)]) = laws_szDuty_p p x.1 x.2.1 := by kernel_rfl
noncomputable def laws_szDuty_c (p : Nat) : PC := PC.fn true [.val TDuty, .val (.int .i64)] [(.int .i64)] fun x => laws_szDuty_p p x.1 x.2.1
theorem laws_szDuty_s (p : Nat) : PSound Try.prog 95 (laws_szDuty_c p) := pure_sound (laws_szDuty_E p) Try.checked.mixed (laws_szDuty_I p) LTok_leaf (fun _ => rfl) fun x y h => (laws_szDuty_run p x).trans h
/-! laws.szDutyS -/
noncomputable def laws_szDutyS_l0_r {α : Type} (p : Nat) (v0 : List (Ty.T TDuty)) (rec : (Int) → (Int) → Option α) (v1 : Int) (v2 : Int) (k0 : (Int) → (Int) → Option α) (k1 : (Int) → Option α) : Option α :=
  (bif (decide (v2 < (v0.length : Int))) then (if 0 ≤ v2 then (v0[v2.toNat]?).bind fun y1 => ((laws_szDuty_p p y1 v1).bind fun r2 => (bif (decide (r2.1 < (0 : Int))) then (k0 r2.1 (-1 : Int))
 else (rec r2.1 (IntKind.wrap .i64 (v2 + (1 : Int)))))) else none)
 else (k1 v1))
noncomputable def laws_szDutyS_l0_go {α : Type} (p : Nat) (v0 : List (Ty.T TDuty)) : Nat → (Int) → (Int) → ((Int) → (Int) → Option α) → ((Int) → Option α) → Option α
  | 0, _, _, _, _ => none
  | q + 1, v1, v2, k0, k1 => laws_szDutyS_l0_r p v0 (fun v1 v2 => laws_szDutyS_l0_go p v0 q v1 v2 k0 k1) v1 v2 k0 k1
def laws_szDutyS_l0_sh : Sh := ⟨[⟨0, false, [.sl TDuty]⟩, ⟨1, false, [.int .i64]⟩, ⟨5, false, [.int .i64]⟩], 0, []⟩
noncomputable def laws_szDutyS_lc0 (p : Nat) : LC := LC.alts 0 [⟨0, laws_szDutyS_l0_sh, fun x {α} k => laws_szDutyS_l0_go p x.1.1.1 p x.1.2.1.1 x.1.2.2.1.1 (fun o0 o1 => k .ret ⟨[(1, .one ⟨false, [.int .i64 o0]⟩), (4, .one ⟨false, [.int .i64 o1]⟩)], 0, []⟩) (fun o0 => k (.exit 0) ⟨[(1, .one ⟨false, [.int .i64 o0]⟩)], 0, []⟩)⟩]
noncomputable def laws_szDutyS_lt (p : Nat) : LT := (.node .leaf (.node .leaf (.node .leaf (.node (.node .leaf (.loop [0, 1, 5] [1, 4] (some (laws_szDutyS_lc0 p)) .leaf)) .leaf))))
noncomputable def laws_szDutyS_G (p : Nat) : FuncId → Option CE := glist [(95, .pure (laws_szDuty_c p))]
noncomputable def laws_szDutyS_c0 : Code := codeAt [1, 1, 1, 0, 1, 0, 0] (bodyOf Try.f51)
noncomputable def laws_szDutyS_it0 {α : Type} (p n b : Nat) (k : Ex → St → Option α) (q : Nat) (st : St) : Option α :=
  iter (fun s q => aexec Try.prog (laws_szDutyS_G p) (fun g lt args st (k : D → St → Option α) => acall Try.prog (laws_szDutyS_G p) 5 (n + 0) g lt args st k) 5 b 27 laws_szDutyS_c0 .leaf s q) (canon b [0, 1, 5]) q st (fun e s => k e (canon b [1, 4] s))
theorem laws_szDutyS_l0_step {α : Type} (p n : Nat) (k : Ex → St → Option α) (v0 : List (Ty.T TDuty)) (q : Nat) (v1 : Int) (v2 : Int) : laws_szDutyS_it0 p n 0 k (q + 1) (laws_szDutyS_l0_sh.mk' (((v0, ()), (v1, ()), (v2, ()), ()), (()))) =
  laws_szDutyS_l0_r p v0 (fun v1 v2 => laws_szDutyS_it0 p n 0 k q (laws_szDutyS_l0_sh.mk' (((v0, ()), (v1, ()), (v2, ()), ()), (())))) v1 v2 (fun o0 o1 => k .ret ⟨[(1, .one ⟨false, [.int .i64 o0]⟩), (4, .one ⟨false, [.int .i64 o1]⟩)], 0, []⟩) (fun o0 => k (.exit 0) ⟨[(1, .one ⟨false, [.int .i64 o0]⟩)], 0, []⟩) := by kernel_rfl
theorem laws_szDutyS_l0_ok {α : Type} (p n : Nat) (k : Ex → St → Option α) (v0 : List (Ty.T TDuty)) : ∀ (q : Nat) (v1 : Int) (v2 : Int), laws_szDutyS_it0 p n 0 k q (laws_szDutyS_l0_sh.mk' (((v0, ()), (v1, ()), (v2, ()), ()), (()))) =
  laws_szDutyS_l0_go p v0 q v1 v2 (fun o0 o1 => k .ret ⟨[(1, .one ⟨false, [.int .i64 o0]⟩), (4, .one ⟨false, [.int .i64 o1]⟩)], 0, []⟩) (fun o0 => k (.exit 0) ⟨[(1, .one ⟨false, [.int .i64 o0]⟩)], 0, []⟩) := by
  intro q
  induction q with
  | zero => intros; rfl
  | succ q ih => intro v1 v2; rw [laws_szDutyS_l0_step]; simp only [ih]; rfl
theorem laws_szDutyS_ltok_51_ls (p : Nat) : loopsOf (bodyOf Try.f51) (laws_szDutyS_lt p) = [⟨laws_szDutyS_c0, [0, 1, 5], [1, 4], laws_szDutyS_lc0 p, .leaf⟩] := by kernel_rfl
theorem laws_szDutyS_ltok_51_dep (p : Nat) : LT.dep (laws_szDutyS_lt p) = 0 := by kernel_rfl
theorem laws_szDutyS_ltok_51 (p : Nat) : LTok Try.prog (laws_szDutyS_G p) 5 51 (laws_szDutyS_lt p) := by
  intro α n base fn c hd hfn hc
  have hfn' : some fn = some Try.f51 := hfn.symm.trans Try.func51
  cases hfn'
  have hc' : c = bodyOf Try.f51 := by unfold bodyOf; rw [hc]; rfl
  subst hc'
  rw [laws_szDutyS_ltok_51_dep] at hd
  obtain ⟨n, rfl⟩ := Nat.exists_eq_add_of_le' hd
  apply LTS_of_loops
  rw [laws_szDutyS_ltok_51_ls]
  intro e he st k r h
  simp only [List.mem_cons, List.not_mem_nil, or_false] at he
  subst he
  · obtain ⟨a, ha, hb, x, rfl, h⟩ := altRun_ok h
    simp only [List.mem_cons, List.not_mem_nil, or_false] at ha
    subst ha
    · cases hb; exact ⟨p, (laws_szDutyS_l0_ok p n k _ p _ _).trans h⟩
theorem laws_szDutyS_E (p : Nat) : EnvS Try.prog (laws_szDutyS_G p) := by
  apply glist_env; intro f ce h
  simp only [List.mem_cons, List.not_mem_nil, or_false, Prod.mk.injEq] at h
  rcases h with ⟨rfl, rfl⟩
  · exact laws_szDuty_s p
theorem laws_szDutyS_I (p : Nat) : ∀ f lt, laws_szDutyS_G p f = some (.inl lt) → LTok Try.prog (laws_szDutyS_G p) 5 f lt := by
  apply glist_inl; intro f lt h
  simp only [List.mem_cons, List.not_mem_nil, or_false, Prod.mk.injEq, CE.inl.injEq, and_false, or_false, false_or, reduceCtorEq] at h
  
noncomputable def laws_szDutyS_p (p : Nat) (a0 : (List (Ty.T TDuty))) (a1 : Int) : Option (Int × Unit) :=
  (bif (decide ((IntKind.wrap .i64 (a1 - (a0.length : Int))) < (0 : Int))) then some ((-1 : Int), ())
 else (laws_szDutyS_l0_go p a0 p (IntKind.wrap .i64 (a1 - (a0.length : Int))) (0 : Int) (fun o3 o4 => some (o4, ())) (fun o5 => some (o5, ()))))
theorem laws_szDutyS_run (p : Nat) (x : (parsT [.val (.slice TDuty), .val (.int .i64)]).T) : acall Try.prog (laws_szDutyS_G p) 5 1 51 (laws_szDutyS_lt p) (argAVs [.val (.slice TDuty), .val (.int .i64)] x) ⟨[], 0, []⟩ (outR [(.int .i64)]) = laws_szDutyS_p p x.1 x.2.1 := by kernel_rfl
noncomputable def laws_szDutyS_c (p : Nat) : PC := PC.fn true [.val (.slice TDuty), .val (.int .i64)] [(.int .i64)] fun x => laws_szDutyS_p p x.1 x.2.1
theorem laws_szDutyS_s (p : Nat) : PSound Try.prog 51 (laws_szDutyS_c p) := pure_sound (laws_szDutyS_E p) Try.checked.mixed (laws_szDutyS_I p) (laws_szDutyS_ltok_51 p) (fun _ => rfl) fun x y h => (laws_szDutyS_run p x).trans h
/-! laws.szDesk -/
noncomputable def laws_szDesk_G (p : Nat) : FuncId → Option CE := glist [(43, .pure (laws_szNetwork_c p)), (44, .pure (laws_szInt64S_c p)), (45, .pure (laws_szValveS_c p)), (46, .pure (laws_szPumpS_c p)), (47, .pure (laws_szSubstationS_c p)), (48, .pure (laws_szFuelS_c p)), (49, .pure (laws_szRepairS_c p)), (50, .pure (laws_szTenantS_c p)), (51, .pure (laws_szDutyS_c p))]
theorem laws_szDesk_E (p : Nat) : EnvS Try.prog (laws_szDesk_G p) := by
  apply glist_env; intro f ce h
  simp only [List.mem_cons, List.not_mem_nil, or_false, Prod.mk.injEq] at h
  rcases h with ⟨rfl, rfl⟩ | ⟨rfl, rfl⟩ | ⟨rfl, rfl⟩ | ⟨rfl, rfl⟩ | ⟨rfl, rfl⟩ | ⟨rfl, rfl⟩ | ⟨rfl, rfl⟩ | ⟨rfl, rfl⟩ | ⟨rfl, rfl⟩
  · exact laws_szNetwork_s p
  · exact laws_szInt64S_s p
  · exact laws_szValveS_s p
  · exact laws_szPumpS_s p
  · exact laws_szSubstationS_s p
  · exact laws_szFuelS_s p
  · exact laws_szRepairS_s p
  · exact laws_szTenantS_s p
  · exact laws_szDutyS_s p
theorem laws_szDesk_I (p : Nat) : ∀ f lt, laws_szDesk_G p f = some (.inl lt) → LTok Try.prog (laws_szDesk_G p) 5 f lt := by
  apply glist_inl; intro f lt h
  simp only [List.mem_cons, List.not_mem_nil, or_false, Prod.mk.injEq, CE.inl.injEq, and_false, or_false, false_or, reduceCtorEq] at h
  
noncomputable def laws_szDesk_p (p : Nat) (a0 : (Ty.T TDesk)) (a1 : Int) : Option (Int × Unit) :=
  ((laws_szNetwork_p p a0.1 a1).bind fun r1 => (bif (decide (r1.1 < (0 : Int))) then some ((-1 : Int), ())
 else ((laws_szInt64S_p p a0.2.1 r1.1).bind fun r2 => (bif (decide (r2.1 < (0 : Int))) then some ((-1 : Int), ())
 else ((laws_szValveS_p p a0.2.2.1 r2.1).bind fun r3 => (bif (decide (r3.1 < (0 : Int))) then some ((-1 : Int), ())
 else ((laws_szPumpS_p p a0.2.2.2.1 r3.1).bind fun r4 => (bif (decide (r4.1 < (0 : Int))) then some ((-1 : Int), ())
 else ((laws_szSubstationS_p p a0.2.2.2.2.1 r4.1).bind fun r5 => (bif (decide (r5.1 < (0 : Int))) then some ((-1 : Int), ())
 else ((laws_szFuelS_p p a0.2.2.2.2.2.2.1 r5.1).bind fun r6 => (bif (decide (r6.1 < (0 : Int))) then some ((-1 : Int), ())
 else ((laws_szRepairS_p p a0.2.2.2.2.2.2.2.1 r6.1).bind fun r7 => (bif (decide (r7.1 < (0 : Int))) then some ((-1 : Int), ())
 else ((laws_szTenantS_p p a0.2.2.2.2.2.2.2.2.1 r7.1).bind fun r8 => (bif (decide (r8.1 < (0 : Int))) then some ((-1 : Int), ())
 else ((laws_szDutyS_p p a0.2.2.2.2.2.2.2.2.2 r8.1).bind fun r9 => (bif (decide (r9.1 < (0 : Int))) then some ((-1 : Int), ())
 else some (r9.1, ())))))))))))))))))))
theorem laws_szDesk_run (p : Nat) (x : (parsT [.val TDesk, .val (.int .i64)]).T) : acall Try.prog (laws_szDesk_G p) 5 1 10 .leaf (argAVs [.val TDesk, .val (.int .i64)] x) ⟨[], 0, []⟩ (outR [(.int .i64)]) = laws_szDesk_p p x.1 x.2.1 := by kernel_rfl
noncomputable def laws_szDesk_c (p : Nat) : PC := PC.fn true [.val TDesk, .val (.int .i64)] [(.int .i64)] fun x => laws_szDesk_p p x.1 x.2.1
theorem laws_szDesk_s (p : Nat) : PSound Try.prog 10 (laws_szDesk_c p) := pure_sound (laws_szDesk_E p) Try.checked.mixed (laws_szDesk_I p) LTok_leaf (fun _ => rfl) fun x y h => (laws_szDesk_run p x).trans h
/-! laws.toInt64S -/
noncomputable def laws_toInt64S_l0_r {α : Type} (p : Nat) (v0 : List Int) (rec : (Int) → (List Int) → Option α) (v1 : Int) (v2 : List Int) (k0 : (List Int) → Option α) : Option α :=
  (bif (decide (v1 < (v0.length : Int))) then (if 0 ≤ v1 then (v0[v1.toNat]?).bind fun y1 => (if 0 ≤ v1 ∧ v1 < (v2.length : Int) then (rec (IntKind.wrap .i64 (v1 + (1 : Int))) (v2.set v1.toNat y1)) else none) else none)
 else (k0 v2))
noncomputable def laws_toInt64S_l0_go {α : Type} (p : Nat) (v0 : List Int) : Nat → (Int) → (List Int) → ((List Int) → Option α) → Option α
  | 0, _, _, _ => none
  | q + 1, v1, v2, k0 => laws_toInt64S_l0_r p v0 (fun v1 v2 => laws_toInt64S_l0_go p v0 q v1 v2 k0) v1 v2 k0
def laws_toInt64S_l0_sh : Sh := ⟨[⟨0, false, [.sl (.int .i64)]⟩, ⟨3, false, [.lit (.own 0 0)]⟩, ⟨4, false, [.int .i64]⟩], 1, [(0, .arr 0 (.int .i64))]⟩
noncomputable def laws_toInt64S_lc0 (p : Nat) : LC := LC.alts 0 [⟨0, laws_toInt64S_l0_sh, fun x {α} k => laws_toInt64S_l0_go p x.1.1.1 p x.1.2.2.1.1 x.2.1 (fun o0 => k (.exit 0) ⟨[(3, .one ⟨false, [.own 0 0]⟩)], 1, [(0, .arr 0 (.int .i64) o0)]⟩)⟩]
noncomputable def laws_toInt64S_lt (p : Nat) : LT := (.node .leaf (.node .leaf (.node (.node .leaf (.loop [0, 3, 4] [3] (some (laws_toInt64S_lc0 p)) .leaf)) .leaf)))
noncomputable def laws_toInt64S_G (p : Nat) : FuncId → Option CE := glist []
noncomputable def laws_toInt64S_c0 : Code := codeAt [1, 1, 0, 1, 0, 0] (bodyOf Try.f56)
noncomputable def laws_toInt64S_it0 {α : Type} (p n b : Nat) (k : Ex → St → Option α) (q : Nat) (st : St) : Option α :=
  iter (fun s q => aexec Try.prog (laws_toInt64S_G p) (fun g lt args st (k : D → St → Option α) => acall Try.prog (laws_toInt64S_G p) 5 (n + 0) g lt args st k) 5 b 22 laws_toInt64S_c0 .leaf s q) (canon b [0, 3, 4]) q st (fun e s => k e (canon b [3] s))
theorem laws_toInt64S_l0_step {α : Type} (p n : Nat) (k : Ex → St → Option α) (v0 : List Int) (q : Nat) (v1 : Int) (v2 : List Int) : laws_toInt64S_it0 p n 0 k (q + 1) (laws_toInt64S_l0_sh.mk' (((v0, ()), ((), ()), (v1, ()), ()), (v2, ()))) =
  laws_toInt64S_l0_r p v0 (fun v1 v2 => laws_toInt64S_it0 p n 0 k q (laws_toInt64S_l0_sh.mk' (((v0, ()), ((), ()), (v1, ()), ()), (v2, ())))) v1 v2 (fun o0 => k (.exit 0) ⟨[(3, .one ⟨false, [.own 0 0]⟩)], 1, [(0, .arr 0 (.int .i64) o0)]⟩) := by kernel_rfl
theorem laws_toInt64S_l0_ok {α : Type} (p n : Nat) (k : Ex → St → Option α) (v0 : List Int) : ∀ (q : Nat) (v1 : Int) (v2 : List Int), laws_toInt64S_it0 p n 0 k q (laws_toInt64S_l0_sh.mk' (((v0, ()), ((), ()), (v1, ()), ()), (v2, ()))) =
  laws_toInt64S_l0_go p v0 q v1 v2 (fun o0 => k (.exit 0) ⟨[(3, .one ⟨false, [.own 0 0]⟩)], 1, [(0, .arr 0 (.int .i64) o0)]⟩) := by
  intro q
  induction q with
  | zero => intros; rfl
  | succ q ih => intro v1 v2; rw [laws_toInt64S_l0_step]; simp only [ih]; rfl
theorem laws_toInt64S_ltok_56_ls (p : Nat) : loopsOf (bodyOf Try.f56) (laws_toInt64S_lt p) = [⟨laws_toInt64S_c0, [0, 3, 4], [3], laws_toInt64S_lc0 p, .leaf⟩] := by kernel_rfl
theorem laws_toInt64S_ltok_56_dep (p : Nat) : LT.dep (laws_toInt64S_lt p) = 0 := by kernel_rfl
theorem laws_toInt64S_ltok_56 (p : Nat) : LTok Try.prog (laws_toInt64S_G p) 5 56 (laws_toInt64S_lt p) := by
  intro α n base fn c hd hfn hc
  have hfn' : some fn = some Try.f56 := hfn.symm.trans Try.func56
  cases hfn'
  have hc' : c = bodyOf Try.f56 := by unfold bodyOf; rw [hc]; rfl
  subst hc'
  rw [laws_toInt64S_ltok_56_dep] at hd
  obtain ⟨n, rfl⟩ := Nat.exists_eq_add_of_le' hd
  apply LTS_of_loops
  rw [laws_toInt64S_ltok_56_ls]
  intro e he st k r h
  simp only [List.mem_cons, List.not_mem_nil, or_false] at he
  subst he
  · obtain ⟨a, ha, hb, x, rfl, h⟩ := altRun_ok h
    simp only [List.mem_cons, List.not_mem_nil, or_false] at ha
    subst ha
    · cases hb; exact ⟨p, (laws_toInt64S_l0_ok p n k _ p _ _).trans h⟩
theorem laws_toInt64S_E (p : Nat) : EnvS Try.prog (laws_toInt64S_G p) := by
  apply glist_env; intro f ce h
  simp only [List.mem_cons, List.not_mem_nil, or_false, Prod.mk.injEq] at h
  
theorem laws_toInt64S_I (p : Nat) : ∀ f lt, laws_toInt64S_G p f = some (.inl lt) → LTok Try.prog (laws_toInt64S_G p) 5 f lt := by
  apply glist_inl; intro f lt h
  simp only [List.mem_cons, List.not_mem_nil, or_false, Prod.mk.injEq, CE.inl.injEq, and_false, or_false, false_or, reduceCtorEq] at h
  
noncomputable def laws_toInt64S_p (p : Nat) (a0 : (List Int)) : Option ((List Int) × Unit) :=
  (if 0 ≤ (a0.length : Int) ∧ (a0.length : Int) ≤ (a0.length : Int) ∧ (a0.length : Int) * (8 : Int) ≤ 140737488355328 ∧ (a0.length : Int) ≤ 140737488355328 then (laws_toInt64S_l0_go p a0 p (0 : Int) (List.replicate (a0.length : Int).toNat (Ty.zero (.int .i64))) (fun o2 => some (o2, ()))) else none)
theorem laws_toInt64S_run (p : Nat) (x : (parsT [.val (.slice (.int .i64))]).T) : acall Try.prog (laws_toInt64S_G p) 5 1 56 (laws_toInt64S_lt p) (argAVs [.val (.slice (.int .i64))] x) ⟨[], 0, []⟩ (outO [(.slice (.int .i64))]) = laws_toInt64S_p p x.1 := by kernel_rfl
noncomputable def laws_toInt64S_c (p : Nat) : PC := PC.fnO true [.val (.slice (.int .i64))] [(.slice (.int .i64))] fun x => laws_toInt64S_p p x.1
theorem laws_toInt64S_s (p : Nat) : PSound Try.prog 56 (laws_toInt64S_c p) := own_sound (laws_toInt64S_E p) Try.checked.mixed (laws_toInt64S_I p) (laws_toInt64S_ltok_56 p) (fun _ => rfl) fun x y h => (laws_toInt64S_run p x).trans h
/-! laws.toPipe -/
noncomputable def laws_toPipe_G (p : Nat) : FuncId → Option CE := glist []
theorem laws_toPipe_E (p : Nat) : EnvS Try.prog (laws_toPipe_G p) := by
  apply glist_env; intro f ce h
  simp only [List.mem_cons, List.not_mem_nil, or_false, Prod.mk.injEq] at h
  
theorem laws_toPipe_I (p : Nat) : ∀ f lt, laws_toPipe_G p f = some (.inl lt) → LTok Try.prog (laws_toPipe_G p) 5 f lt := by
  apply glist_inl; intro f lt h
  simp only [List.mem_cons, List.not_mem_nil, or_false, Prod.mk.injEq, CE.inl.injEq, and_false, or_false, false_or, reduceCtorEq] at h
  
noncomputable def laws_toPipe_p (p : Nat) (a0 : (Ty.T TPipe)) : Option ((Ty.T TPipe) × Unit) :=
  some (a0, ())
theorem laws_toPipe_run (p : Nat) (x : (parsT [.val TPipe]).T) : acall Try.prog (laws_toPipe_G p) 5 1 110 .leaf (argAVs [.val TPipe] x) ⟨[], 0, []⟩ (outR [TPipe]) = laws_toPipe_p p x.1 := by kernel_rfl
noncomputable def laws_toPipe_c (p : Nat) : PC := PC.fn true [.val TPipe] [TPipe] fun x => laws_toPipe_p p x.1
theorem laws_toPipe_s (p : Nat) : PSound Try.prog 110 (laws_toPipe_c p) := pure_sound (laws_toPipe_E p) Try.checked.mixed (laws_toPipe_I p) LTok_leaf (fun _ => rfl) fun x y h => (laws_toPipe_run p x).trans h
/-! laws.toPipeS -/
noncomputable def laws_toPipeS_l0_r {α : Type} (p : Nat) (v0 : List (Ty.T TPipe)) (rec : (Int) → (List (Ty.T TPipe)) → Option α) (v1 : Int) (v2 : List (Ty.T TPipe)) (k0 : (List (Ty.T TPipe)) → Option α) : Option α :=
  (bif (decide (v1 < (v0.length : Int))) then (if 0 ≤ v1 then (v0[v1.toNat]?).bind fun y1 => ((laws_toPipe_p p y1).bind fun r2 => (if 0 ≤ v1 ∧ v1 < (v2.length : Int) then (rec (IntKind.wrap .i64 (v1 + (1 : Int))) (v2.set v1.toNat r2.1)) else none)) else none)
 else (k0 v2))
noncomputable def laws_toPipeS_l0_go {α : Type} (p : Nat) (v0 : List (Ty.T TPipe)) : Nat → (Int) → (List (Ty.T TPipe)) → ((List (Ty.T TPipe)) → Option α) → Option α
  | 0, _, _, _ => none
  | q + 1, v1, v2, k0 => laws_toPipeS_l0_r p v0 (fun v1 v2 => laws_toPipeS_l0_go p v0 q v1 v2 k0) v1 v2 k0
def laws_toPipeS_l0_sh : Sh := ⟨[⟨0, false, [.sl TPipe]⟩, ⟨3, false, [.lit (.own 0 0)]⟩, ⟨4, false, [.int .i64]⟩], 1, [(0, .arr 0 TPipe)]⟩
noncomputable def laws_toPipeS_lc0 (p : Nat) : LC := LC.alts 0 [⟨0, laws_toPipeS_l0_sh, fun x {α} k => laws_toPipeS_l0_go p x.1.1.1 p x.1.2.2.1.1 x.2.1 (fun o0 => k (.exit 0) ⟨[(3, .one ⟨false, [.own 0 0]⟩)], 1, [(0, .arr 0 TPipe o0)]⟩)⟩]
noncomputable def laws_toPipeS_lt (p : Nat) : LT := (.node .leaf (.node .leaf (.node (.node .leaf (.loop [0, 3, 4] [3] (some (laws_toPipeS_lc0 p)) .leaf)) .leaf)))
noncomputable def laws_toPipeS_G (p : Nat) : FuncId → Option CE := glist [(110, .pure (laws_toPipe_c p))]
noncomputable def laws_toPipeS_c0 : Code := codeAt [1, 1, 0, 1, 0, 0] (bodyOf Try.f96)
noncomputable def laws_toPipeS_it0 {α : Type} (p n b : Nat) (k : Ex → St → Option α) (q : Nat) (st : St) : Option α :=
  iter (fun s q => aexec Try.prog (laws_toPipeS_G p) (fun g lt args st (k : D → St → Option α) => acall Try.prog (laws_toPipeS_G p) 5 (n + 0) g lt args st k) 5 b 23 laws_toPipeS_c0 .leaf s q) (canon b [0, 3, 4]) q st (fun e s => k e (canon b [3] s))
theorem laws_toPipeS_l0_step {α : Type} (p n : Nat) (k : Ex → St → Option α) (v0 : List (Ty.T TPipe)) (q : Nat) (v1 : Int) (v2 : List (Ty.T TPipe)) : laws_toPipeS_it0 p n 0 k (q + 1) (laws_toPipeS_l0_sh.mk' (((v0, ()), ((), ()), (v1, ()), ()), (v2, ()))) =
  laws_toPipeS_l0_r p v0 (fun v1 v2 => laws_toPipeS_it0 p n 0 k q (laws_toPipeS_l0_sh.mk' (((v0, ()), ((), ()), (v1, ()), ()), (v2, ())))) v1 v2 (fun o0 => k (.exit 0) ⟨[(3, .one ⟨false, [.own 0 0]⟩)], 1, [(0, .arr 0 TPipe o0)]⟩) := by kernel_rfl
theorem laws_toPipeS_l0_ok {α : Type} (p n : Nat) (k : Ex → St → Option α) (v0 : List (Ty.T TPipe)) : ∀ (q : Nat) (v1 : Int) (v2 : List (Ty.T TPipe)), laws_toPipeS_it0 p n 0 k q (laws_toPipeS_l0_sh.mk' (((v0, ()), ((), ()), (v1, ()), ()), (v2, ()))) =
  laws_toPipeS_l0_go p v0 q v1 v2 (fun o0 => k (.exit 0) ⟨[(3, .one ⟨false, [.own 0 0]⟩)], 1, [(0, .arr 0 TPipe o0)]⟩) := by
  intro q
  induction q with
  | zero => intros; rfl
  | succ q ih => intro v1 v2; rw [laws_toPipeS_l0_step]; simp only [ih]; rfl
theorem laws_toPipeS_ltok_96_ls (p : Nat) : loopsOf (bodyOf Try.f96) (laws_toPipeS_lt p) = [⟨laws_toPipeS_c0, [0, 3, 4], [3], laws_toPipeS_lc0 p, .leaf⟩] := by kernel_rfl
theorem laws_toPipeS_ltok_96_dep (p : Nat) : LT.dep (laws_toPipeS_lt p) = 0 := by kernel_rfl
theorem laws_toPipeS_ltok_96 (p : Nat) : LTok Try.prog (laws_toPipeS_G p) 5 96 (laws_toPipeS_lt p) := by
  intro α n base fn c hd hfn hc
  have hfn' : some fn = some Try.f96 := hfn.symm.trans Try.func96
  cases hfn'
  have hc' : c = bodyOf Try.f96 := by unfold bodyOf; rw [hc]; rfl
  subst hc'
  rw [laws_toPipeS_ltok_96_dep] at hd
  obtain ⟨n, rfl⟩ := Nat.exists_eq_add_of_le' hd
  apply LTS_of_loops
  rw [laws_toPipeS_ltok_96_ls]
  intro e he st k r h
  simp only [List.mem_cons, List.not_mem_nil, or_false] at he
  subst he
  · obtain ⟨a, ha, hb, x, rfl, h⟩ := altRun_ok h
    simp only [List.mem_cons, List.not_mem_nil, or_false] at ha
    subst ha
    · cases hb; exact ⟨p, (laws_toPipeS_l0_ok p n k _ p _ _).trans h⟩
theorem laws_toPipeS_E (p : Nat) : EnvS Try.prog (laws_toPipeS_G p) := by
  apply glist_env; intro f ce h
  simp only [List.mem_cons, List.not_mem_nil, or_false, Prod.mk.injEq] at h
  rcases h with ⟨rfl, rfl⟩
  · exact laws_toPipe_s p
theorem laws_toPipeS_I (p : Nat) : ∀ f lt, laws_toPipeS_G p f = some (.inl lt) → LTok Try.prog (laws_toPipeS_G p) 5 f lt := by
  apply glist_inl; intro f lt h
  simp only [List.mem_cons, List.not_mem_nil, or_false, Prod.mk.injEq, CE.inl.injEq, and_false, or_false, false_or, reduceCtorEq] at h
  
noncomputable def laws_toPipeS_p (p : Nat) (a0 : (List (Ty.T TPipe))) : Option ((List (Ty.T TPipe)) × Unit) :=
  (if 0 ≤ (a0.length : Int) ∧ (a0.length : Int) ≤ (a0.length : Int) ∧ (a0.length : Int) * (56 : Int) ≤ 140737488355328 ∧ (a0.length : Int) ≤ 140737488355328 then (laws_toPipeS_l0_go p a0 p (0 : Int) (List.replicate (a0.length : Int).toNat (Ty.zero TPipe)) (fun o3 => some (o3, ()))) else none)
theorem laws_toPipeS_run (p : Nat) (x : (parsT [.val (.slice TPipe)]).T) : acall Try.prog (laws_toPipeS_G p) 5 1 96 (laws_toPipeS_lt p) (argAVs [.val (.slice TPipe)] x) ⟨[], 0, []⟩ (outO [(.slice TPipe)]) = laws_toPipeS_p p x.1 := by kernel_rfl
noncomputable def laws_toPipeS_c (p : Nat) : PC := PC.fnO true [.val (.slice TPipe)] [(.slice TPipe)] fun x => laws_toPipeS_p p x.1
theorem laws_toPipeS_s (p : Nat) : PSound Try.prog 96 (laws_toPipeS_c p) := own_sound (laws_toPipeS_E p) Try.checked.mixed (laws_toPipeS_I p) (laws_toPipeS_ltok_96 p) (fun _ => rfl) fun x y h => (laws_toPipeS_run p x).trans h
/-! laws.toNetwork -/
noncomputable def laws_toNetwork_G (p : Nat) : FuncId → Option CE := glist [(56, .pure (laws_toInt64S_c p)), (96, .pure (laws_toPipeS_c p))]
theorem laws_toNetwork_E (p : Nat) : EnvS Try.prog (laws_toNetwork_G p) := by
  apply glist_env; intro f ce h
  simp only [List.mem_cons, List.not_mem_nil, or_false, Prod.mk.injEq] at h
  rcases h with ⟨rfl, rfl⟩ | ⟨rfl, rfl⟩
  · exact laws_toInt64S_s p
  · exact laws_toPipeS_s p
theorem laws_toNetwork_I (p : Nat) : ∀ f lt, laws_toNetwork_G p f = some (.inl lt) → LTok Try.prog (laws_toNetwork_G p) 5 f lt := by
  apply glist_inl; intro f lt h
  simp only [List.mem_cons, List.not_mem_nil, or_false, Prod.mk.injEq, CE.inl.injEq, and_false, or_false, false_or, reduceCtorEq] at h
  
noncomputable def laws_toNetwork_p (p : Nat) (a0 : (Ty.T TNetwork)) : Option ((Ty.T TNetwork) × Unit) :=
  ((laws_toInt64S_p p a0.1).bind fun r1 => ((laws_toPipeS_p p a0.2).bind fun r2 => some ((r1.1, r2.1), ())))
theorem laws_toNetwork_run (p : Nat) (x : (parsT [.val TNetwork]).T) : acall Try.prog (laws_toNetwork_G p) 5 1 55 .leaf (argAVs [.val TNetwork] x) ⟨[], 0, []⟩ (outO [TNetwork]) = laws_toNetwork_p p x.1 := by kernel_rfl
noncomputable def laws_toNetwork_c (p : Nat) : PC := PC.fnO true [.val TNetwork] [TNetwork] fun x => laws_toNetwork_p p x.1
theorem laws_toNetwork_s (p : Nat) : PSound Try.prog 55 (laws_toNetwork_c p) := own_sound (laws_toNetwork_E p) Try.checked.mixed (laws_toNetwork_I p) LTok_leaf (fun _ => rfl) fun x y h => (laws_toNetwork_run p x).trans h
/-! laws.toValve -/
noncomputable def laws_toValve_G (p : Nat) : FuncId → Option CE := glist []
theorem laws_toValve_E (p : Nat) : EnvS Try.prog (laws_toValve_G p) := by
  apply glist_env; intro f ce h
  simp only [List.mem_cons, List.not_mem_nil, or_false, Prod.mk.injEq] at h
  
theorem laws_toValve_I (p : Nat) : ∀ f lt, laws_toValve_G p f = some (.inl lt) → LTok Try.prog (laws_toValve_G p) 5 f lt := by
  apply glist_inl; intro f lt h
  simp only [List.mem_cons, List.not_mem_nil, or_false, Prod.mk.injEq, CE.inl.injEq, and_false, or_false, false_or, reduceCtorEq] at h
  
noncomputable def laws_toValve_p (p : Nat) (a0 : (Ty.T TValve)) : Option ((Ty.T TValve) × Unit) :=
  some (a0, ())
theorem laws_toValve_run (p : Nat) (x : (parsT [.val TValve]).T) : acall Try.prog (laws_toValve_G p) 5 1 97 .leaf (argAVs [.val TValve] x) ⟨[], 0, []⟩ (outR [TValve]) = laws_toValve_p p x.1 := by kernel_rfl
noncomputable def laws_toValve_c (p : Nat) : PC := PC.fn true [.val TValve] [TValve] fun x => laws_toValve_p p x.1
theorem laws_toValve_s (p : Nat) : PSound Try.prog 97 (laws_toValve_c p) := pure_sound (laws_toValve_E p) Try.checked.mixed (laws_toValve_I p) LTok_leaf (fun _ => rfl) fun x y h => (laws_toValve_run p x).trans h
/-! laws.toValveS -/
noncomputable def laws_toValveS_l0_r {α : Type} (p : Nat) (v0 : List (Ty.T TValve)) (rec : (Int) → (List (Ty.T TValve)) → Option α) (v1 : Int) (v2 : List (Ty.T TValve)) (k0 : (List (Ty.T TValve)) → Option α) : Option α :=
  (bif (decide (v1 < (v0.length : Int))) then (if 0 ≤ v1 then (v0[v1.toNat]?).bind fun y1 => ((laws_toValve_p p y1).bind fun r2 => (if 0 ≤ v1 ∧ v1 < (v2.length : Int) then (rec (IntKind.wrap .i64 (v1 + (1 : Int))) (v2.set v1.toNat r2.1)) else none)) else none)
 else (k0 v2))
noncomputable def laws_toValveS_l0_go {α : Type} (p : Nat) (v0 : List (Ty.T TValve)) : Nat → (Int) → (List (Ty.T TValve)) → ((List (Ty.T TValve)) → Option α) → Option α
  | 0, _, _, _ => none
  | q + 1, v1, v2, k0 => laws_toValveS_l0_r p v0 (fun v1 v2 => laws_toValveS_l0_go p v0 q v1 v2 k0) v1 v2 k0
def laws_toValveS_l0_sh : Sh := ⟨[⟨0, false, [.sl TValve]⟩, ⟨3, false, [.lit (.own 0 0)]⟩, ⟨4, false, [.int .i64]⟩], 1, [(0, .arr 0 TValve)]⟩
noncomputable def laws_toValveS_lc0 (p : Nat) : LC := LC.alts 0 [⟨0, laws_toValveS_l0_sh, fun x {α} k => laws_toValveS_l0_go p x.1.1.1 p x.1.2.2.1.1 x.2.1 (fun o0 => k (.exit 0) ⟨[(3, .one ⟨false, [.own 0 0]⟩)], 1, [(0, .arr 0 TValve o0)]⟩)⟩]
noncomputable def laws_toValveS_lt (p : Nat) : LT := (.node .leaf (.node .leaf (.node (.node .leaf (.loop [0, 3, 4] [3] (some (laws_toValveS_lc0 p)) .leaf)) .leaf)))
noncomputable def laws_toValveS_G (p : Nat) : FuncId → Option CE := glist [(97, .pure (laws_toValve_c p))]
noncomputable def laws_toValveS_c0 : Code := codeAt [1, 1, 0, 1, 0, 0] (bodyOf Try.f57)
noncomputable def laws_toValveS_it0 {α : Type} (p n b : Nat) (k : Ex → St → Option α) (q : Nat) (st : St) : Option α :=
  iter (fun s q => aexec Try.prog (laws_toValveS_G p) (fun g lt args st (k : D → St → Option α) => acall Try.prog (laws_toValveS_G p) 5 (n + 0) g lt args st k) 5 b 23 laws_toValveS_c0 .leaf s q) (canon b [0, 3, 4]) q st (fun e s => k e (canon b [3] s))
theorem laws_toValveS_l0_step {α : Type} (p n : Nat) (k : Ex → St → Option α) (v0 : List (Ty.T TValve)) (q : Nat) (v1 : Int) (v2 : List (Ty.T TValve)) : laws_toValveS_it0 p n 0 k (q + 1) (laws_toValveS_l0_sh.mk' (((v0, ()), ((), ()), (v1, ()), ()), (v2, ()))) =
  laws_toValveS_l0_r p v0 (fun v1 v2 => laws_toValveS_it0 p n 0 k q (laws_toValveS_l0_sh.mk' (((v0, ()), ((), ()), (v1, ()), ()), (v2, ())))) v1 v2 (fun o0 => k (.exit 0) ⟨[(3, .one ⟨false, [.own 0 0]⟩)], 1, [(0, .arr 0 TValve o0)]⟩) := by kernel_rfl
theorem laws_toValveS_l0_ok {α : Type} (p n : Nat) (k : Ex → St → Option α) (v0 : List (Ty.T TValve)) : ∀ (q : Nat) (v1 : Int) (v2 : List (Ty.T TValve)), laws_toValveS_it0 p n 0 k q (laws_toValveS_l0_sh.mk' (((v0, ()), ((), ()), (v1, ()), ()), (v2, ()))) =
  laws_toValveS_l0_go p v0 q v1 v2 (fun o0 => k (.exit 0) ⟨[(3, .one ⟨false, [.own 0 0]⟩)], 1, [(0, .arr 0 TValve o0)]⟩) := by
  intro q
  induction q with
  | zero => intros; rfl
  | succ q ih => intro v1 v2; rw [laws_toValveS_l0_step]; simp only [ih]; rfl
theorem laws_toValveS_ltok_57_ls (p : Nat) : loopsOf (bodyOf Try.f57) (laws_toValveS_lt p) = [⟨laws_toValveS_c0, [0, 3, 4], [3], laws_toValveS_lc0 p, .leaf⟩] := by kernel_rfl
theorem laws_toValveS_ltok_57_dep (p : Nat) : LT.dep (laws_toValveS_lt p) = 0 := by kernel_rfl
theorem laws_toValveS_ltok_57 (p : Nat) : LTok Try.prog (laws_toValveS_G p) 5 57 (laws_toValveS_lt p) := by
  intro α n base fn c hd hfn hc
  have hfn' : some fn = some Try.f57 := hfn.symm.trans Try.func57
  cases hfn'
  have hc' : c = bodyOf Try.f57 := by unfold bodyOf; rw [hc]; rfl
  subst hc'
  rw [laws_toValveS_ltok_57_dep] at hd
  obtain ⟨n, rfl⟩ := Nat.exists_eq_add_of_le' hd
  apply LTS_of_loops
  rw [laws_toValveS_ltok_57_ls]
  intro e he st k r h
  simp only [List.mem_cons, List.not_mem_nil, or_false] at he
  subst he
  · obtain ⟨a, ha, hb, x, rfl, h⟩ := altRun_ok h
    simp only [List.mem_cons, List.not_mem_nil, or_false] at ha
    subst ha
    · cases hb; exact ⟨p, (laws_toValveS_l0_ok p n k _ p _ _).trans h⟩
theorem laws_toValveS_E (p : Nat) : EnvS Try.prog (laws_toValveS_G p) := by
  apply glist_env; intro f ce h
  simp only [List.mem_cons, List.not_mem_nil, or_false, Prod.mk.injEq] at h
  rcases h with ⟨rfl, rfl⟩
  · exact laws_toValve_s p
theorem laws_toValveS_I (p : Nat) : ∀ f lt, laws_toValveS_G p f = some (.inl lt) → LTok Try.prog (laws_toValveS_G p) 5 f lt := by
  apply glist_inl; intro f lt h
  simp only [List.mem_cons, List.not_mem_nil, or_false, Prod.mk.injEq, CE.inl.injEq, and_false, or_false, false_or, reduceCtorEq] at h
  
noncomputable def laws_toValveS_p (p : Nat) (a0 : (List (Ty.T TValve))) : Option ((List (Ty.T TValve)) × Unit) :=
  (if 0 ≤ (a0.length : Int) ∧ (a0.length : Int) ≤ (a0.length : Int) ∧ (a0.length : Int) * (40 : Int) ≤ 140737488355328 ∧ (a0.length : Int) ≤ 140737488355328 then (laws_toValveS_l0_go p a0 p (0 : Int) (List.replicate (a0.length : Int).toNat (Ty.zero TValve)) (fun o3 => some (o3, ()))) else none)
theorem laws_toValveS_run (p : Nat) (x : (parsT [.val (.slice TValve)]).T) : acall Try.prog (laws_toValveS_G p) 5 1 57 (laws_toValveS_lt p) (argAVs [.val (.slice TValve)] x) ⟨[], 0, []⟩ (outO [(.slice TValve)]) = laws_toValveS_p p x.1 := by kernel_rfl
noncomputable def laws_toValveS_c (p : Nat) : PC := PC.fnO true [.val (.slice TValve)] [(.slice TValve)] fun x => laws_toValveS_p p x.1
theorem laws_toValveS_s (p : Nat) : PSound Try.prog 57 (laws_toValveS_c p) := own_sound (laws_toValveS_E p) Try.checked.mixed (laws_toValveS_I p) (laws_toValveS_ltok_57 p) (fun _ => rfl) fun x y h => (laws_toValveS_run p x).trans h
/-! laws.toInt64SS -/
noncomputable def laws_toInt64SS_l0_r {α : Type} (p : Nat) (v0 : List (List Int)) (rec : (Int) → (List (List Int)) → Option α) (v1 : Int) (v2 : List (List Int)) (k0 : (List (List Int)) → Option α) : Option α :=
  (bif (decide (v1 < (v0.length : Int))) then (if 0 ≤ v1 then (v0[v1.toNat]?).bind fun y1 => ((laws_toInt64S_p p y1).bind fun r2 => (if 0 ≤ v1 ∧ v1 < (v2.length : Int) then (rec (IntKind.wrap .i64 (v1 + (1 : Int))) (v2.set v1.toNat r2.1)) else none)) else none)
 else (k0 v2))
noncomputable def laws_toInt64SS_l0_go {α : Type} (p : Nat) (v0 : List (List Int)) : Nat → (Int) → (List (List Int)) → ((List (List Int)) → Option α) → Option α
  | 0, _, _, _ => none
  | q + 1, v1, v2, k0 => laws_toInt64SS_l0_r p v0 (fun v1 v2 => laws_toInt64SS_l0_go p v0 q v1 v2 k0) v1 v2 k0
def laws_toInt64SS_l0_sh : Sh := ⟨[⟨0, false, [.sl (.slice (.int .i64))]⟩, ⟨3, false, [.lit (.own 0 0)]⟩, ⟨4, false, [.int .i64]⟩], 1, [(0, .arr 0 (.slice (.int .i64)))]⟩
noncomputable def laws_toInt64SS_lc0 (p : Nat) : LC := LC.alts 0 [⟨0, laws_toInt64SS_l0_sh, fun x {α} k => laws_toInt64SS_l0_go p x.1.1.1 p x.1.2.2.1.1 x.2.1 (fun o0 => k (.exit 0) ⟨[(3, .one ⟨false, [.own 0 0]⟩)], 1, [(0, .arr 0 (.slice (.int .i64)) o0)]⟩)⟩]
noncomputable def laws_toInt64SS_lt (p : Nat) : LT := (.node .leaf (.node .leaf (.node (.node .leaf (.loop [0, 3, 4] [3] (some (laws_toInt64SS_lc0 p)) .leaf)) .leaf)))
noncomputable def laws_toInt64SS_G (p : Nat) : FuncId → Option CE := glist [(56, .pure (laws_toInt64S_c p))]
noncomputable def laws_toInt64SS_c0 : Code := codeAt [1, 1, 0, 1, 0, 0] (bodyOf Try.f111)
noncomputable def laws_toInt64SS_it0 {α : Type} (p n b : Nat) (k : Ex → St → Option α) (q : Nat) (st : St) : Option α :=
  iter (fun s q => aexec Try.prog (laws_toInt64SS_G p) (fun g lt args st (k : D → St → Option α) => acall Try.prog (laws_toInt64SS_G p) 5 (n + 0) g lt args st k) 5 b 23 laws_toInt64SS_c0 .leaf s q) (canon b [0, 3, 4]) q st (fun e s => k e (canon b [3] s))
theorem laws_toInt64SS_l0_step {α : Type} (p n : Nat) (k : Ex → St → Option α) (v0 : List (List Int)) (q : Nat) (v1 : Int) (v2 : List (List Int)) : laws_toInt64SS_it0 p n 0 k (q + 1) (laws_toInt64SS_l0_sh.mk' (((v0, ()), ((), ()), (v1, ()), ()), (v2, ()))) =
  laws_toInt64SS_l0_r p v0 (fun v1 v2 => laws_toInt64SS_it0 p n 0 k q (laws_toInt64SS_l0_sh.mk' (((v0, ()), ((), ()), (v1, ()), ()), (v2, ())))) v1 v2 (fun o0 => k (.exit 0) ⟨[(3, .one ⟨false, [.own 0 0]⟩)], 1, [(0, .arr 0 (.slice (.int .i64)) o0)]⟩) := by kernel_rfl
theorem laws_toInt64SS_l0_ok {α : Type} (p n : Nat) (k : Ex → St → Option α) (v0 : List (List Int)) : ∀ (q : Nat) (v1 : Int) (v2 : List (List Int)), laws_toInt64SS_it0 p n 0 k q (laws_toInt64SS_l0_sh.mk' (((v0, ()), ((), ()), (v1, ()), ()), (v2, ()))) =
  laws_toInt64SS_l0_go p v0 q v1 v2 (fun o0 => k (.exit 0) ⟨[(3, .one ⟨false, [.own 0 0]⟩)], 1, [(0, .arr 0 (.slice (.int .i64)) o0)]⟩) := by
  intro q
  induction q with
  | zero => intros; rfl
  | succ q ih => intro v1 v2; rw [laws_toInt64SS_l0_step]; simp only [ih]; rfl
theorem laws_toInt64SS_ltok_111_ls (p : Nat) : loopsOf (bodyOf Try.f111) (laws_toInt64SS_lt p) = [⟨laws_toInt64SS_c0, [0, 3, 4], [3], laws_toInt64SS_lc0 p, .leaf⟩] := by kernel_rfl
theorem laws_toInt64SS_ltok_111_dep (p : Nat) : LT.dep (laws_toInt64SS_lt p) = 0 := by kernel_rfl
theorem laws_toInt64SS_ltok_111 (p : Nat) : LTok Try.prog (laws_toInt64SS_G p) 5 111 (laws_toInt64SS_lt p) := by
  intro α n base fn c hd hfn hc
  have hfn' : some fn = some Try.f111 := hfn.symm.trans Try.func111
  cases hfn'
  have hc' : c = bodyOf Try.f111 := by unfold bodyOf; rw [hc]; rfl
  subst hc'
  rw [laws_toInt64SS_ltok_111_dep] at hd
  obtain ⟨n, rfl⟩ := Nat.exists_eq_add_of_le' hd
  apply LTS_of_loops
  rw [laws_toInt64SS_ltok_111_ls]
  intro e he st k r h
  simp only [List.mem_cons, List.not_mem_nil, or_false] at he
  subst he
  · obtain ⟨a, ha, hb, x, rfl, h⟩ := altRun_ok h
    simp only [List.mem_cons, List.not_mem_nil, or_false] at ha
    subst ha
    · cases hb; exact ⟨p, (laws_toInt64SS_l0_ok p n k _ p _ _).trans h⟩
theorem laws_toInt64SS_E (p : Nat) : EnvS Try.prog (laws_toInt64SS_G p) := by
  apply glist_env; intro f ce h
  simp only [List.mem_cons, List.not_mem_nil, or_false, Prod.mk.injEq] at h
  rcases h with ⟨rfl, rfl⟩
  · exact laws_toInt64S_s p
theorem laws_toInt64SS_I (p : Nat) : ∀ f lt, laws_toInt64SS_G p f = some (.inl lt) → LTok Try.prog (laws_toInt64SS_G p) 5 f lt := by
  apply glist_inl; intro f lt h
  simp only [List.mem_cons, List.not_mem_nil, or_false, Prod.mk.injEq, CE.inl.injEq, and_false, or_false, false_or, reduceCtorEq] at h
  
noncomputable def laws_toInt64SS_p (p : Nat) (a0 : (List (List Int))) : Option ((List (List Int)) × Unit) :=
  (if 0 ≤ (a0.length : Int) ∧ (a0.length : Int) ≤ (a0.length : Int) ∧ (a0.length : Int) * (24 : Int) ≤ 140737488355328 ∧ (a0.length : Int) ≤ 140737488355328 then (laws_toInt64SS_l0_go p a0 p (0 : Int) (List.replicate (a0.length : Int).toNat (Ty.zero (.slice (.int .i64)))) (fun o3 => some (o3, ()))) else none)
theorem laws_toInt64SS_run (p : Nat) (x : (parsT [.val (.slice (.slice (.int .i64)))]).T) : acall Try.prog (laws_toInt64SS_G p) 5 1 111 (laws_toInt64SS_lt p) (argAVs [.val (.slice (.slice (.int .i64)))] x) ⟨[], 0, []⟩ (outO [(.slice (.slice (.int .i64)))]) = laws_toInt64SS_p p x.1 := by kernel_rfl
noncomputable def laws_toInt64SS_c (p : Nat) : PC := PC.fnO false [.val (.slice (.slice (.int .i64)))] [(.slice (.slice (.int .i64)))] fun x => laws_toInt64SS_p p x.1
theorem laws_toInt64SS_s (p : Nat) : PSound Try.prog 111 (laws_toInt64SS_c p) := own_sound (laws_toInt64SS_E p) Try.checked.mixed (laws_toInt64SS_I p) (laws_toInt64SS_ltok_111 p) (fun h => by cases h) fun x y h => (laws_toInt64SS_run p x).trans h
/-! laws.toPump -/
noncomputable def laws_toPump_G (p : Nat) : FuncId → Option CE := glist [(111, .pure (laws_toInt64SS_c p))]
theorem laws_toPump_E (p : Nat) : EnvS Try.prog (laws_toPump_G p) := by
  apply glist_env; intro f ce h
  simp only [List.mem_cons, List.not_mem_nil, or_false, Prod.mk.injEq] at h
  rcases h with ⟨rfl, rfl⟩
  · exact laws_toInt64SS_s p
theorem laws_toPump_I (p : Nat) : ∀ f lt, laws_toPump_G p f = some (.inl lt) → LTok Try.prog (laws_toPump_G p) 5 f lt := by
  apply glist_inl; intro f lt h
  simp only [List.mem_cons, List.not_mem_nil, or_false, Prod.mk.injEq, CE.inl.injEq, and_false, or_false, false_or, reduceCtorEq] at h
  
noncomputable def laws_toPump_p (p : Nat) (a0 : (Ty.T TPump)) : Option ((Ty.T TPump) × Unit) :=
  ((laws_toInt64SS_p p a0.2).bind fun r1 => some ((a0.1, r1.1), ()))
theorem laws_toPump_run (p : Nat) (x : (parsT [.val TPump]).T) : acall Try.prog (laws_toPump_G p) 5 1 98 .leaf (argAVs [.val TPump] x) ⟨[], 0, []⟩ (outO [TPump]) = laws_toPump_p p x.1 := by kernel_rfl
noncomputable def laws_toPump_c (p : Nat) : PC := PC.fnO false [.val TPump] [TPump] fun x => laws_toPump_p p x.1
theorem laws_toPump_s (p : Nat) : PSound Try.prog 98 (laws_toPump_c p) := own_sound (laws_toPump_E p) Try.checked.mixed (laws_toPump_I p) LTok_leaf (fun h => by cases h) fun x y h => (laws_toPump_run p x).trans h
/-! laws.toPumpS -/
noncomputable def laws_toPumpS_l0_r {α : Type} (p : Nat) (v0 : List (Ty.T TPump)) (rec : (Int) → (List (Ty.T TPump)) → Option α) (v1 : Int) (v2 : List (Ty.T TPump)) (k0 : (List (Ty.T TPump)) → Option α) : Option α :=
  (bif (decide (v1 < (v0.length : Int))) then (if 0 ≤ v1 then (v0[v1.toNat]?).bind fun y1 => ((laws_toPump_p p y1).bind fun r2 => (if 0 ≤ v1 ∧ v1 < (v2.length : Int) then (rec (IntKind.wrap .i64 (v1 + (1 : Int))) (v2.set v1.toNat r2.1)) else none)) else none)
 else (k0 v2))
noncomputable def laws_toPumpS_l0_go {α : Type} (p : Nat) (v0 : List (Ty.T TPump)) : Nat → (Int) → (List (Ty.T TPump)) → ((List (Ty.T TPump)) → Option α) → Option α
  | 0, _, _, _ => none
  | q + 1, v1, v2, k0 => laws_toPumpS_l0_r p v0 (fun v1 v2 => laws_toPumpS_l0_go p v0 q v1 v2 k0) v1 v2 k0
def laws_toPumpS_l0_sh : Sh := ⟨[⟨0, false, [.sl TPump]⟩, ⟨3, false, [.lit (.own 0 0)]⟩, ⟨4, false, [.int .i64]⟩], 1, [(0, .arr 0 TPump)]⟩
noncomputable def laws_toPumpS_lc0 (p : Nat) : LC := LC.alts 0 [⟨0, laws_toPumpS_l0_sh, fun x {α} k => laws_toPumpS_l0_go p x.1.1.1 p x.1.2.2.1.1 x.2.1 (fun o0 => k (.exit 0) ⟨[(3, .one ⟨false, [.own 0 0]⟩)], 1, [(0, .arr 0 TPump o0)]⟩)⟩]
noncomputable def laws_toPumpS_lt (p : Nat) : LT := (.node .leaf (.node .leaf (.node (.node .leaf (.loop [0, 3, 4] [3] (some (laws_toPumpS_lc0 p)) .leaf)) .leaf)))
noncomputable def laws_toPumpS_G (p : Nat) : FuncId → Option CE := glist [(98, .pure (laws_toPump_c p))]
noncomputable def laws_toPumpS_c0 : Code := codeAt [1, 1, 0, 1, 0, 0] (bodyOf Try.f58)
noncomputable def laws_toPumpS_it0 {α : Type} (p n b : Nat) (k : Ex → St → Option α) (q : Nat) (st : St) : Option α :=
  iter (fun s q => aexec Try.prog (laws_toPumpS_G p) (fun g lt args st (k : D → St → Option α) => acall Try.prog (laws_toPumpS_G p) 5 (n + 0) g lt args st k) 5 b 23 laws_toPumpS_c0 .leaf s q) (canon b [0, 3, 4]) q st (fun e s => k e (canon b [3] s))
theorem laws_toPumpS_l0_step {α : Type} (p n : Nat) (k : Ex → St → Option α) (v0 : List (Ty.T TPump)) (q : Nat) (v1 : Int) (v2 : List (Ty.T TPump)) : laws_toPumpS_it0 p n 0 k (q + 1) (laws_toPumpS_l0_sh.mk' (((v0, ()), ((), ()), (v1, ()), ()), (v2, ()))) =
  laws_toPumpS_l0_r p v0 (fun v1 v2 => laws_toPumpS_it0 p n 0 k q (laws_toPumpS_l0_sh.mk' (((v0, ()), ((), ()), (v1, ()), ()), (v2, ())))) v1 v2 (fun o0 => k (.exit 0) ⟨[(3, .one ⟨false, [.own 0 0]⟩)], 1, [(0, .arr 0 TPump o0)]⟩) := by kernel_rfl
theorem laws_toPumpS_l0_ok {α : Type} (p n : Nat) (k : Ex → St → Option α) (v0 : List (Ty.T TPump)) : ∀ (q : Nat) (v1 : Int) (v2 : List (Ty.T TPump)), laws_toPumpS_it0 p n 0 k q (laws_toPumpS_l0_sh.mk' (((v0, ()), ((), ()), (v1, ()), ()), (v2, ()))) =
  laws_toPumpS_l0_go p v0 q v1 v2 (fun o0 => k (.exit 0) ⟨[(3, .one ⟨false, [.own 0 0]⟩)], 1, [(0, .arr 0 TPump o0)]⟩) := by
  intro q
  induction q with
  | zero => intros; rfl
  | succ q ih => intro v1 v2; rw [laws_toPumpS_l0_step]; simp only [ih]; rfl
theorem laws_toPumpS_ltok_58_ls (p : Nat) : loopsOf (bodyOf Try.f58) (laws_toPumpS_lt p) = [⟨laws_toPumpS_c0, [0, 3, 4], [3], laws_toPumpS_lc0 p, .leaf⟩] := by kernel_rfl
theorem laws_toPumpS_ltok_58_dep (p : Nat) : LT.dep (laws_toPumpS_lt p) = 0 := by kernel_rfl
theorem laws_toPumpS_ltok_58 (p : Nat) : LTok Try.prog (laws_toPumpS_G p) 5 58 (laws_toPumpS_lt p) := by
  intro α n base fn c hd hfn hc
  have hfn' : some fn = some Try.f58 := hfn.symm.trans Try.func58
  cases hfn'
  have hc' : c = bodyOf Try.f58 := by unfold bodyOf; rw [hc]; rfl
  subst hc'
  rw [laws_toPumpS_ltok_58_dep] at hd
  obtain ⟨n, rfl⟩ := Nat.exists_eq_add_of_le' hd
  apply LTS_of_loops
  rw [laws_toPumpS_ltok_58_ls]
  intro e he st k r h
  simp only [List.mem_cons, List.not_mem_nil, or_false] at he
  subst he
  · obtain ⟨a, ha, hb, x, rfl, h⟩ := altRun_ok h
    simp only [List.mem_cons, List.not_mem_nil, or_false] at ha
    subst ha
    · cases hb; exact ⟨p, (laws_toPumpS_l0_ok p n k _ p _ _).trans h⟩
theorem laws_toPumpS_E (p : Nat) : EnvS Try.prog (laws_toPumpS_G p) := by
  apply glist_env; intro f ce h
  simp only [List.mem_cons, List.not_mem_nil, or_false, Prod.mk.injEq] at h
  rcases h with ⟨rfl, rfl⟩
  · exact laws_toPump_s p
theorem laws_toPumpS_I (p : Nat) : ∀ f lt, laws_toPumpS_G p f = some (.inl lt) → LTok Try.prog (laws_toPumpS_G p) 5 f lt := by
  apply glist_inl; intro f lt h
  simp only [List.mem_cons, List.not_mem_nil, or_false, Prod.mk.injEq, CE.inl.injEq, and_false, or_false, false_or, reduceCtorEq] at h
  
noncomputable def laws_toPumpS_p (p : Nat) (a0 : (List (Ty.T TPump))) : Option ((List (Ty.T TPump)) × Unit) :=
  (if 0 ≤ (a0.length : Int) ∧ (a0.length : Int) ≤ (a0.length : Int) ∧ (a0.length : Int) * (40 : Int) ≤ 140737488355328 ∧ (a0.length : Int) ≤ 140737488355328 then (laws_toPumpS_l0_go p a0 p (0 : Int) (List.replicate (a0.length : Int).toNat (Ty.zero TPump)) (fun o3 => some (o3, ()))) else none)
theorem laws_toPumpS_run (p : Nat) (x : (parsT [.val (.slice TPump)]).T) : acall Try.prog (laws_toPumpS_G p) 5 1 58 (laws_toPumpS_lt p) (argAVs [.val (.slice TPump)] x) ⟨[], 0, []⟩ (outO [(.slice TPump)]) = laws_toPumpS_p p x.1 := by kernel_rfl
noncomputable def laws_toPumpS_c (p : Nat) : PC := PC.fnO false [.val (.slice TPump)] [(.slice TPump)] fun x => laws_toPumpS_p p x.1
theorem laws_toPumpS_s (p : Nat) : PSound Try.prog 58 (laws_toPumpS_c p) := own_sound (laws_toPumpS_E p) Try.checked.mixed (laws_toPumpS_I p) (laws_toPumpS_ltok_58 p) (fun h => by cases h) fun x y h => (laws_toPumpS_run p x).trans h
/-! laws.toSubstation -/
noncomputable def laws_toSubstation_G (p : Nat) : FuncId → Option CE := glist []
theorem laws_toSubstation_E (p : Nat) : EnvS Try.prog (laws_toSubstation_G p) := by
  apply glist_env; intro f ce h
  simp only [List.mem_cons, List.not_mem_nil, or_false, Prod.mk.injEq] at h
  
theorem laws_toSubstation_I (p : Nat) : ∀ f lt, laws_toSubstation_G p f = some (.inl lt) → LTok Try.prog (laws_toSubstation_G p) 5 f lt := by
  apply glist_inl; intro f lt h
  simp only [List.mem_cons, List.not_mem_nil, or_false, Prod.mk.injEq, CE.inl.injEq, and_false, or_false, false_or, reduceCtorEq] at h
  
noncomputable def laws_toSubstation_p (p : Nat) (a0 : (Ty.T TSubstation)) : Option ((Ty.T TSubstation) × Unit) :=
  some (a0, ())
theorem laws_toSubstation_run (p : Nat) (x : (parsT [.val TSubstation]).T) : acall Try.prog (laws_toSubstation_G p) 5 1 99 .leaf (argAVs [.val TSubstation] x) ⟨[], 0, []⟩ (outR [TSubstation]) = laws_toSubstation_p p x.1 := by kernel_rfl
noncomputable def laws_toSubstation_c (p : Nat) : PC := PC.fn true [.val TSubstation] [TSubstation] fun x => laws_toSubstation_p p x.1
theorem laws_toSubstation_s (p : Nat) : PSound Try.prog 99 (laws_toSubstation_c p) := pure_sound (laws_toSubstation_E p) Try.checked.mixed (laws_toSubstation_I p) LTok_leaf (fun _ => rfl) fun x y h => (laws_toSubstation_run p x).trans h
/-! laws.toSubstationS -/
noncomputable def laws_toSubstationS_l0_r {α : Type} (p : Nat) (v0 : List (Ty.T TSubstation)) (rec : (Int) → (List (Ty.T TSubstation)) → Option α) (v1 : Int) (v2 : List (Ty.T TSubstation)) (k0 : (List (Ty.T TSubstation)) → Option α) : Option α :=
  (bif (decide (v1 < (v0.length : Int))) then (if 0 ≤ v1 then (v0[v1.toNat]?).bind fun y1 => ((laws_toSubstation_p p y1).bind fun r2 => (if 0 ≤ v1 ∧ v1 < (v2.length : Int) then (rec (IntKind.wrap .i64 (v1 + (1 : Int))) (v2.set v1.toNat r2.1)) else none)) else none)
 else (k0 v2))
noncomputable def laws_toSubstationS_l0_go {α : Type} (p : Nat) (v0 : List (Ty.T TSubstation)) : Nat → (Int) → (List (Ty.T TSubstation)) → ((List (Ty.T TSubstation)) → Option α) → Option α
  | 0, _, _, _ => none
  | q + 1, v1, v2, k0 => laws_toSubstationS_l0_r p v0 (fun v1 v2 => laws_toSubstationS_l0_go p v0 q v1 v2 k0) v1 v2 k0
def laws_toSubstationS_l0_sh : Sh := ⟨[⟨0, false, [.sl TSubstation]⟩, ⟨3, false, [.lit (.own 0 0)]⟩, ⟨4, false, [.int .i64]⟩], 1, [(0, .arr 0 TSubstation)]⟩
noncomputable def laws_toSubstationS_lc0 (p : Nat) : LC := LC.alts 0 [⟨0, laws_toSubstationS_l0_sh, fun x {α} k => laws_toSubstationS_l0_go p x.1.1.1 p x.1.2.2.1.1 x.2.1 (fun o0 => k (.exit 0) ⟨[(3, .one ⟨false, [.own 0 0]⟩)], 1, [(0, .arr 0 TSubstation o0)]⟩)⟩]
noncomputable def laws_toSubstationS_lt (p : Nat) : LT := (.node .leaf (.node .leaf (.node (.node .leaf (.loop [0, 3, 4] [3] (some (laws_toSubstationS_lc0 p)) .leaf)) .leaf)))
noncomputable def laws_toSubstationS_G (p : Nat) : FuncId → Option CE := glist [(99, .pure (laws_toSubstation_c p))]
noncomputable def laws_toSubstationS_c0 : Code := codeAt [1, 1, 0, 1, 0, 0] (bodyOf Try.f59)
noncomputable def laws_toSubstationS_it0 {α : Type} (p n b : Nat) (k : Ex → St → Option α) (q : Nat) (st : St) : Option α :=
  iter (fun s q => aexec Try.prog (laws_toSubstationS_G p) (fun g lt args st (k : D → St → Option α) => acall Try.prog (laws_toSubstationS_G p) 5 (n + 0) g lt args st k) 5 b 23 laws_toSubstationS_c0 .leaf s q) (canon b [0, 3, 4]) q st (fun e s => k e (canon b [3] s))
theorem laws_toSubstationS_l0_step {α : Type} (p n : Nat) (k : Ex → St → Option α) (v0 : List (Ty.T TSubstation)) (q : Nat) (v1 : Int) (v2 : List (Ty.T TSubstation)) : laws_toSubstationS_it0 p n 0 k (q + 1) (laws_toSubstationS_l0_sh.mk' (((v0, ()), ((), ()), (v1, ()), ()), (v2, ()))) =
  laws_toSubstationS_l0_r p v0 (fun v1 v2 => laws_toSubstationS_it0 p n 0 k q (laws_toSubstationS_l0_sh.mk' (((v0, ()), ((), ()), (v1, ()), ()), (v2, ())))) v1 v2 (fun o0 => k (.exit 0) ⟨[(3, .one ⟨false, [.own 0 0]⟩)], 1, [(0, .arr 0 TSubstation o0)]⟩) := by kernel_rfl
theorem laws_toSubstationS_l0_ok {α : Type} (p n : Nat) (k : Ex → St → Option α) (v0 : List (Ty.T TSubstation)) : ∀ (q : Nat) (v1 : Int) (v2 : List (Ty.T TSubstation)), laws_toSubstationS_it0 p n 0 k q (laws_toSubstationS_l0_sh.mk' (((v0, ()), ((), ()), (v1, ()), ()), (v2, ()))) =
  laws_toSubstationS_l0_go p v0 q v1 v2 (fun o0 => k (.exit 0) ⟨[(3, .one ⟨false, [.own 0 0]⟩)], 1, [(0, .arr 0 TSubstation o0)]⟩) := by
  intro q
  induction q with
  | zero => intros; rfl
  | succ q ih => intro v1 v2; rw [laws_toSubstationS_l0_step]; simp only [ih]; rfl
theorem laws_toSubstationS_ltok_59_ls (p : Nat) : loopsOf (bodyOf Try.f59) (laws_toSubstationS_lt p) = [⟨laws_toSubstationS_c0, [0, 3, 4], [3], laws_toSubstationS_lc0 p, .leaf⟩] := by kernel_rfl
theorem laws_toSubstationS_ltok_59_dep (p : Nat) : LT.dep (laws_toSubstationS_lt p) = 0 := by kernel_rfl
theorem laws_toSubstationS_ltok_59 (p : Nat) : LTok Try.prog (laws_toSubstationS_G p) 5 59 (laws_toSubstationS_lt p) := by
  intro α n base fn c hd hfn hc
  have hfn' : some fn = some Try.f59 := hfn.symm.trans Try.func59
  cases hfn'
  have hc' : c = bodyOf Try.f59 := by unfold bodyOf; rw [hc]; rfl
  subst hc'
  rw [laws_toSubstationS_ltok_59_dep] at hd
  obtain ⟨n, rfl⟩ := Nat.exists_eq_add_of_le' hd
  apply LTS_of_loops
  rw [laws_toSubstationS_ltok_59_ls]
  intro e he st k r h
  simp only [List.mem_cons, List.not_mem_nil, or_false] at he
  subst he
  · obtain ⟨a, ha, hb, x, rfl, h⟩ := altRun_ok h
    simp only [List.mem_cons, List.not_mem_nil, or_false] at ha
    subst ha
    · cases hb; exact ⟨p, (laws_toSubstationS_l0_ok p n k _ p _ _).trans h⟩
theorem laws_toSubstationS_E (p : Nat) : EnvS Try.prog (laws_toSubstationS_G p) := by
  apply glist_env; intro f ce h
  simp only [List.mem_cons, List.not_mem_nil, or_false, Prod.mk.injEq] at h
  rcases h with ⟨rfl, rfl⟩
  · exact laws_toSubstation_s p
theorem laws_toSubstationS_I (p : Nat) : ∀ f lt, laws_toSubstationS_G p f = some (.inl lt) → LTok Try.prog (laws_toSubstationS_G p) 5 f lt := by
  apply glist_inl; intro f lt h
  simp only [List.mem_cons, List.not_mem_nil, or_false, Prod.mk.injEq, CE.inl.injEq, and_false, or_false, false_or, reduceCtorEq] at h
  
noncomputable def laws_toSubstationS_p (p : Nat) (a0 : (List (Ty.T TSubstation))) : Option ((List (Ty.T TSubstation)) × Unit) :=
  (if 0 ≤ (a0.length : Int) ∧ (a0.length : Int) ≤ (a0.length : Int) ∧ (a0.length : Int) * (48 : Int) ≤ 140737488355328 ∧ (a0.length : Int) ≤ 140737488355328 then (laws_toSubstationS_l0_go p a0 p (0 : Int) (List.replicate (a0.length : Int).toNat (Ty.zero TSubstation)) (fun o3 => some (o3, ()))) else none)
theorem laws_toSubstationS_run (p : Nat) (x : (parsT [.val (.slice TSubstation)]).T) : acall Try.prog (laws_toSubstationS_G p) 5 1 59 (laws_toSubstationS_lt p) (argAVs [.val (.slice TSubstation)] x) ⟨[], 0, []⟩ (outO [(.slice TSubstation)]) = laws_toSubstationS_p p x.1 := by kernel_rfl
noncomputable def laws_toSubstationS_c (p : Nat) : PC := PC.fnO true [.val (.slice TSubstation)] [(.slice TSubstation)] fun x => laws_toSubstationS_p p x.1
theorem laws_toSubstationS_s (p : Nat) : PSound Try.prog 59 (laws_toSubstationS_c p) := own_sound (laws_toSubstationS_E p) Try.checked.mixed (laws_toSubstationS_I p) (laws_toSubstationS_ltok_59 p) (fun _ => rfl) fun x y h => (laws_toSubstationS_run p x).trans h
/-! laws.toTank -/
noncomputable def laws_toTank_G (p : Nat) : FuncId → Option CE := glist []
theorem laws_toTank_E (p : Nat) : EnvS Try.prog (laws_toTank_G p) := by
  apply glist_env; intro f ce h
  simp only [List.mem_cons, List.not_mem_nil, or_false, Prod.mk.injEq] at h
  
theorem laws_toTank_I (p : Nat) : ∀ f lt, laws_toTank_G p f = some (.inl lt) → LTok Try.prog (laws_toTank_G p) 5 f lt := by
  apply glist_inl; intro f lt h
  simp only [List.mem_cons, List.not_mem_nil, or_false, Prod.mk.injEq, CE.inl.injEq, and_false, or_false, false_or, reduceCtorEq] at h
  
noncomputable def laws_toTank_p (p : Nat) (a0 : (Ty.T TTank)) : Option ((Ty.T TTank) × Unit) :=
  some (a0, ())
theorem laws_toTank_run (p : Nat) (x : (parsT [.val TTank]).T) : acall Try.prog (laws_toTank_G p) 5 1 60 .leaf (argAVs [.val TTank] x) ⟨[], 0, []⟩ (outR [TTank]) = laws_toTank_p p x.1 := by kernel_rfl
noncomputable def laws_toTank_c (p : Nat) : PC := PC.fn true [.val TTank] [TTank] fun x => laws_toTank_p p x.1
theorem laws_toTank_s (p : Nat) : PSound Try.prog 60 (laws_toTank_c p) := pure_sound (laws_toTank_E p) Try.checked.mixed (laws_toTank_I p) LTok_leaf (fun _ => rfl) fun x y h => (laws_toTank_run p x).trans h
/-! laws.toFuel -/
noncomputable def laws_toFuel_G (p : Nat) : FuncId → Option CE := glist []
theorem laws_toFuel_E (p : Nat) : EnvS Try.prog (laws_toFuel_G p) := by
  apply glist_env; intro f ce h
  simp only [List.mem_cons, List.not_mem_nil, or_false, Prod.mk.injEq] at h
  
theorem laws_toFuel_I (p : Nat) : ∀ f lt, laws_toFuel_G p f = some (.inl lt) → LTok Try.prog (laws_toFuel_G p) 5 f lt := by
  apply glist_inl; intro f lt h
  simp only [List.mem_cons, List.not_mem_nil, or_false, Prod.mk.injEq, CE.inl.injEq, and_false, or_false, false_or, reduceCtorEq] at h
  
noncomputable def laws_toFuel_p (p : Nat) (a0 : (Ty.T TFuel)) : Option ((Ty.T TFuel) × Unit) :=
  some (a0, ())
theorem laws_toFuel_run (p : Nat) (x : (parsT [.val TFuel]).T) : acall Try.prog (laws_toFuel_G p) 5 1 100 .leaf (argAVs [.val TFuel] x) ⟨[], 0, []⟩ (outR [TFuel]) = laws_toFuel_p p x.1 := by kernel_rfl
noncomputable def laws_toFuel_c (p : Nat) : PC := PC.fn true [.val TFuel] [TFuel] fun x => laws_toFuel_p p x.1
theorem laws_toFuel_s (p : Nat) : PSound Try.prog 100 (laws_toFuel_c p) := pure_sound (laws_toFuel_E p) Try.checked.mixed (laws_toFuel_I p) LTok_leaf (fun _ => rfl) fun x y h => (laws_toFuel_run p x).trans h
/-! laws.toFuelS -/
noncomputable def laws_toFuelS_l0_r {α : Type} (p : Nat) (v0 : List (Ty.T TFuel)) (rec : (Int) → (List (Ty.T TFuel)) → Option α) (v1 : Int) (v2 : List (Ty.T TFuel)) (k0 : (List (Ty.T TFuel)) → Option α) : Option α :=
  (bif (decide (v1 < (v0.length : Int))) then (if 0 ≤ v1 then (v0[v1.toNat]?).bind fun y1 => ((laws_toFuel_p p y1).bind fun r2 => (if 0 ≤ v1 ∧ v1 < (v2.length : Int) then (rec (IntKind.wrap .i64 (v1 + (1 : Int))) (v2.set v1.toNat r2.1)) else none)) else none)
 else (k0 v2))
noncomputable def laws_toFuelS_l0_go {α : Type} (p : Nat) (v0 : List (Ty.T TFuel)) : Nat → (Int) → (List (Ty.T TFuel)) → ((List (Ty.T TFuel)) → Option α) → Option α
  | 0, _, _, _ => none
  | q + 1, v1, v2, k0 => laws_toFuelS_l0_r p v0 (fun v1 v2 => laws_toFuelS_l0_go p v0 q v1 v2 k0) v1 v2 k0
def laws_toFuelS_l0_sh : Sh := ⟨[⟨0, false, [.sl TFuel]⟩, ⟨3, false, [.lit (.own 0 0)]⟩, ⟨4, false, [.int .i64]⟩], 1, [(0, .arr 0 TFuel)]⟩
noncomputable def laws_toFuelS_lc0 (p : Nat) : LC := LC.alts 0 [⟨0, laws_toFuelS_l0_sh, fun x {α} k => laws_toFuelS_l0_go p x.1.1.1 p x.1.2.2.1.1 x.2.1 (fun o0 => k (.exit 0) ⟨[(3, .one ⟨false, [.own 0 0]⟩)], 1, [(0, .arr 0 TFuel o0)]⟩)⟩]
noncomputable def laws_toFuelS_lt (p : Nat) : LT := (.node .leaf (.node .leaf (.node (.node .leaf (.loop [0, 3, 4] [3] (some (laws_toFuelS_lc0 p)) .leaf)) .leaf)))
noncomputable def laws_toFuelS_G (p : Nat) : FuncId → Option CE := glist [(100, .pure (laws_toFuel_c p))]
noncomputable def laws_toFuelS_c0 : Code := codeAt [1, 1, 0, 1, 0, 0] (bodyOf Try.f61)
noncomputable def laws_toFuelS_it0 {α : Type} (p n b : Nat) (k : Ex → St → Option α) (q : Nat) (st : St) : Option α :=
  iter (fun s q => aexec Try.prog (laws_toFuelS_G p) (fun g lt args st (k : D → St → Option α) => acall Try.prog (laws_toFuelS_G p) 5 (n + 0) g lt args st k) 5 b 23 laws_toFuelS_c0 .leaf s q) (canon b [0, 3, 4]) q st (fun e s => k e (canon b [3] s))
theorem laws_toFuelS_l0_step {α : Type} (p n : Nat) (k : Ex → St → Option α) (v0 : List (Ty.T TFuel)) (q : Nat) (v1 : Int) (v2 : List (Ty.T TFuel)) : laws_toFuelS_it0 p n 0 k (q + 1) (laws_toFuelS_l0_sh.mk' (((v0, ()), ((), ()), (v1, ()), ()), (v2, ()))) =
  laws_toFuelS_l0_r p v0 (fun v1 v2 => laws_toFuelS_it0 p n 0 k q (laws_toFuelS_l0_sh.mk' (((v0, ()), ((), ()), (v1, ()), ()), (v2, ())))) v1 v2 (fun o0 => k (.exit 0) ⟨[(3, .one ⟨false, [.own 0 0]⟩)], 1, [(0, .arr 0 TFuel o0)]⟩) := by kernel_rfl
theorem laws_toFuelS_l0_ok {α : Type} (p n : Nat) (k : Ex → St → Option α) (v0 : List (Ty.T TFuel)) : ∀ (q : Nat) (v1 : Int) (v2 : List (Ty.T TFuel)), laws_toFuelS_it0 p n 0 k q (laws_toFuelS_l0_sh.mk' (((v0, ()), ((), ()), (v1, ()), ()), (v2, ()))) =
  laws_toFuelS_l0_go p v0 q v1 v2 (fun o0 => k (.exit 0) ⟨[(3, .one ⟨false, [.own 0 0]⟩)], 1, [(0, .arr 0 TFuel o0)]⟩) := by
  intro q
  induction q with
  | zero => intros; rfl
  | succ q ih => intro v1 v2; rw [laws_toFuelS_l0_step]; simp only [ih]; rfl
theorem laws_toFuelS_ltok_61_ls (p : Nat) : loopsOf (bodyOf Try.f61) (laws_toFuelS_lt p) = [⟨laws_toFuelS_c0, [0, 3, 4], [3], laws_toFuelS_lc0 p, .leaf⟩] := by kernel_rfl
theorem laws_toFuelS_ltok_61_dep (p : Nat) : LT.dep (laws_toFuelS_lt p) = 0 := by kernel_rfl
theorem laws_toFuelS_ltok_61 (p : Nat) : LTok Try.prog (laws_toFuelS_G p) 5 61 (laws_toFuelS_lt p) := by
  intro α n base fn c hd hfn hc
  have hfn' : some fn = some Try.f61 := hfn.symm.trans Try.func61
  cases hfn'
  have hc' : c = bodyOf Try.f61 := by unfold bodyOf; rw [hc]; rfl
  subst hc'
  rw [laws_toFuelS_ltok_61_dep] at hd
  obtain ⟨n, rfl⟩ := Nat.exists_eq_add_of_le' hd
  apply LTS_of_loops
  rw [laws_toFuelS_ltok_61_ls]
  intro e he st k r h
  simp only [List.mem_cons, List.not_mem_nil, or_false] at he
  subst he
  · obtain ⟨a, ha, hb, x, rfl, h⟩ := altRun_ok h
    simp only [List.mem_cons, List.not_mem_nil, or_false] at ha
    subst ha
    · cases hb; exact ⟨p, (laws_toFuelS_l0_ok p n k _ p _ _).trans h⟩
theorem laws_toFuelS_E (p : Nat) : EnvS Try.prog (laws_toFuelS_G p) := by
  apply glist_env; intro f ce h
  simp only [List.mem_cons, List.not_mem_nil, or_false, Prod.mk.injEq] at h
  rcases h with ⟨rfl, rfl⟩
  · exact laws_toFuel_s p
theorem laws_toFuelS_I (p : Nat) : ∀ f lt, laws_toFuelS_G p f = some (.inl lt) → LTok Try.prog (laws_toFuelS_G p) 5 f lt := by
  apply glist_inl; intro f lt h
  simp only [List.mem_cons, List.not_mem_nil, or_false, Prod.mk.injEq, CE.inl.injEq, and_false, or_false, false_or, reduceCtorEq] at h
  
noncomputable def laws_toFuelS_p (p : Nat) (a0 : (List (Ty.T TFuel))) : Option ((List (Ty.T TFuel)) × Unit) :=
  (if 0 ≤ (a0.length : Int) ∧ (a0.length : Int) ≤ (a0.length : Int) ∧ (a0.length : Int) * (40 : Int) ≤ 140737488355328 ∧ (a0.length : Int) ≤ 140737488355328 then (laws_toFuelS_l0_go p a0 p (0 : Int) (List.replicate (a0.length : Int).toNat (Ty.zero TFuel)) (fun o3 => some (o3, ()))) else none)
theorem laws_toFuelS_run (p : Nat) (x : (parsT [.val (.slice TFuel)]).T) : acall Try.prog (laws_toFuelS_G p) 5 1 61 (laws_toFuelS_lt p) (argAVs [.val (.slice TFuel)] x) ⟨[], 0, []⟩ (outO [(.slice TFuel)]) = laws_toFuelS_p p x.1 := by kernel_rfl
noncomputable def laws_toFuelS_c (p : Nat) : PC := PC.fnO true [.val (.slice TFuel)] [(.slice TFuel)] fun x => laws_toFuelS_p p x.1
theorem laws_toFuelS_s (p : Nat) : PSound Try.prog 61 (laws_toFuelS_c p) := own_sound (laws_toFuelS_E p) Try.checked.mixed (laws_toFuelS_I p) (laws_toFuelS_ltok_61 p) (fun _ => rfl) fun x y h => (laws_toFuelS_run p x).trans h
/-! laws.toRepair -/
noncomputable def laws_toRepair_G (p : Nat) : FuncId → Option CE := glist []
theorem laws_toRepair_E (p : Nat) : EnvS Try.prog (laws_toRepair_G p) := by
  apply glist_env; intro f ce h
  simp only [List.mem_cons, List.not_mem_nil, or_false, Prod.mk.injEq] at h
  
theorem laws_toRepair_I (p : Nat) : ∀ f lt, laws_toRepair_G p f = some (.inl lt) → LTok Try.prog (laws_toRepair_G p) 5 f lt := by
  apply glist_inl; intro f lt h
  simp only [List.mem_cons, List.not_mem_nil, or_false, Prod.mk.injEq, CE.inl.injEq, and_false, or_false, false_or, reduceCtorEq] at h
  
noncomputable def laws_toRepair_p (p : Nat) (a0 : (Ty.T TFuel)) : Option ((Ty.T TFuel) × Unit) :=
  some (a0, ())
theorem laws_toRepair_run (p : Nat) (x : (parsT [.val TFuel]).T) : acall Try.prog (laws_toRepair_G p) 5 1 101 .leaf (argAVs [.val TFuel] x) ⟨[], 0, []⟩ (outR [TFuel]) = laws_toRepair_p p x.1 := by kernel_rfl
noncomputable def laws_toRepair_c (p : Nat) : PC := PC.fn true [.val TFuel] [TFuel] fun x => laws_toRepair_p p x.1
theorem laws_toRepair_s (p : Nat) : PSound Try.prog 101 (laws_toRepair_c p) := pure_sound (laws_toRepair_E p) Try.checked.mixed (laws_toRepair_I p) LTok_leaf (fun _ => rfl) fun x y h => (laws_toRepair_run p x).trans h
/-! laws.toRepairS -/
noncomputable def laws_toRepairS_l0_r {α : Type} (p : Nat) (v0 : List (Ty.T TFuel)) (rec : (Int) → (List (Ty.T TFuel)) → Option α) (v1 : Int) (v2 : List (Ty.T TFuel)) (k0 : (List (Ty.T TFuel)) → Option α) : Option α :=
  (bif (decide (v1 < (v0.length : Int))) then (if 0 ≤ v1 then (v0[v1.toNat]?).bind fun y1 => ((laws_toRepair_p p y1).bind fun r2 => (if 0 ≤ v1 ∧ v1 < (v2.length : Int) then (rec (IntKind.wrap .i64 (v1 + (1 : Int))) (v2.set v1.toNat r2.1)) else none)) else none)
 else (k0 v2))
noncomputable def laws_toRepairS_l0_go {α : Type} (p : Nat) (v0 : List (Ty.T TFuel)) : Nat → (Int) → (List (Ty.T TFuel)) → ((List (Ty.T TFuel)) → Option α) → Option α
  | 0, _, _, _ => none
  | q + 1, v1, v2, k0 => laws_toRepairS_l0_r p v0 (fun v1 v2 => laws_toRepairS_l0_go p v0 q v1 v2 k0) v1 v2 k0
def laws_toRepairS_l0_sh : Sh := ⟨[⟨0, false, [.sl TFuel]⟩, ⟨3, false, [.lit (.own 0 0)]⟩, ⟨4, false, [.int .i64]⟩], 1, [(0, .arr 0 TFuel)]⟩
noncomputable def laws_toRepairS_lc0 (p : Nat) : LC := LC.alts 0 [⟨0, laws_toRepairS_l0_sh, fun x {α} k => laws_toRepairS_l0_go p x.1.1.1 p x.1.2.2.1.1 x.2.1 (fun o0 => k (.exit 0) ⟨[(3, .one ⟨false, [.own 0 0]⟩)], 1, [(0, .arr 0 TFuel o0)]⟩)⟩]
noncomputable def laws_toRepairS_lt (p : Nat) : LT := (.node .leaf (.node .leaf (.node (.node .leaf (.loop [0, 3, 4] [3] (some (laws_toRepairS_lc0 p)) .leaf)) .leaf)))
noncomputable def laws_toRepairS_G (p : Nat) : FuncId → Option CE := glist [(101, .pure (laws_toRepair_c p))]
noncomputable def laws_toRepairS_c0 : Code := codeAt [1, 1, 0, 1, 0, 0] (bodyOf Try.f62)
noncomputable def laws_toRepairS_it0 {α : Type} (p n b : Nat) (k : Ex → St → Option α) (q : Nat) (st : St) : Option α :=
  iter (fun s q => aexec Try.prog (laws_toRepairS_G p) (fun g lt args st (k : D → St → Option α) => acall Try.prog (laws_toRepairS_G p) 5 (n + 0) g lt args st k) 5 b 23 laws_toRepairS_c0 .leaf s q) (canon b [0, 3, 4]) q st (fun e s => k e (canon b [3] s))
theorem laws_toRepairS_l0_step {α : Type} (p n : Nat) (k : Ex → St → Option α) (v0 : List (Ty.T TFuel)) (q : Nat) (v1 : Int) (v2 : List (Ty.T TFuel)) : laws_toRepairS_it0 p n 0 k (q + 1) (laws_toRepairS_l0_sh.mk' (((v0, ()), ((), ()), (v1, ()), ()), (v2, ()))) =
  laws_toRepairS_l0_r p v0 (fun v1 v2 => laws_toRepairS_it0 p n 0 k q (laws_toRepairS_l0_sh.mk' (((v0, ()), ((), ()), (v1, ()), ()), (v2, ())))) v1 v2 (fun o0 => k (.exit 0) ⟨[(3, .one ⟨false, [.own 0 0]⟩)], 1, [(0, .arr 0 TFuel o0)]⟩) := by kernel_rfl
theorem laws_toRepairS_l0_ok {α : Type} (p n : Nat) (k : Ex → St → Option α) (v0 : List (Ty.T TFuel)) : ∀ (q : Nat) (v1 : Int) (v2 : List (Ty.T TFuel)), laws_toRepairS_it0 p n 0 k q (laws_toRepairS_l0_sh.mk' (((v0, ()), ((), ()), (v1, ()), ()), (v2, ()))) =
  laws_toRepairS_l0_go p v0 q v1 v2 (fun o0 => k (.exit 0) ⟨[(3, .one ⟨false, [.own 0 0]⟩)], 1, [(0, .arr 0 TFuel o0)]⟩) := by
  intro q
  induction q with
  | zero => intros; rfl
  | succ q ih => intro v1 v2; rw [laws_toRepairS_l0_step]; simp only [ih]; rfl
theorem laws_toRepairS_ltok_62_ls (p : Nat) : loopsOf (bodyOf Try.f62) (laws_toRepairS_lt p) = [⟨laws_toRepairS_c0, [0, 3, 4], [3], laws_toRepairS_lc0 p, .leaf⟩] := by kernel_rfl
theorem laws_toRepairS_ltok_62_dep (p : Nat) : LT.dep (laws_toRepairS_lt p) = 0 := by kernel_rfl
theorem laws_toRepairS_ltok_62 (p : Nat) : LTok Try.prog (laws_toRepairS_G p) 5 62 (laws_toRepairS_lt p) := by
  intro α n base fn c hd hfn hc
  have hfn' : some fn = some Try.f62 := hfn.symm.trans Try.func62
  cases hfn'
  have hc' : c = bodyOf Try.f62 := by unfold bodyOf; rw [hc]; rfl
  subst hc'
  rw [laws_toRepairS_ltok_62_dep] at hd
  obtain ⟨n, rfl⟩ := Nat.exists_eq_add_of_le' hd
  apply LTS_of_loops
  rw [laws_toRepairS_ltok_62_ls]
  intro e he st k r h
  simp only [List.mem_cons, List.not_mem_nil, or_false] at he
  subst he
  · obtain ⟨a, ha, hb, x, rfl, h⟩ := altRun_ok h
    simp only [List.mem_cons, List.not_mem_nil, or_false] at ha
    subst ha
    · cases hb; exact ⟨p, (laws_toRepairS_l0_ok p n k _ p _ _).trans h⟩
theorem laws_toRepairS_E (p : Nat) : EnvS Try.prog (laws_toRepairS_G p) := by
  apply glist_env; intro f ce h
  simp only [List.mem_cons, List.not_mem_nil, or_false, Prod.mk.injEq] at h
  rcases h with ⟨rfl, rfl⟩
  · exact laws_toRepair_s p
theorem laws_toRepairS_I (p : Nat) : ∀ f lt, laws_toRepairS_G p f = some (.inl lt) → LTok Try.prog (laws_toRepairS_G p) 5 f lt := by
  apply glist_inl; intro f lt h
  simp only [List.mem_cons, List.not_mem_nil, or_false, Prod.mk.injEq, CE.inl.injEq, and_false, or_false, false_or, reduceCtorEq] at h
  
noncomputable def laws_toRepairS_p (p : Nat) (a0 : (List (Ty.T TFuel))) : Option ((List (Ty.T TFuel)) × Unit) :=
  (if 0 ≤ (a0.length : Int) ∧ (a0.length : Int) ≤ (a0.length : Int) ∧ (a0.length : Int) * (40 : Int) ≤ 140737488355328 ∧ (a0.length : Int) ≤ 140737488355328 then (laws_toRepairS_l0_go p a0 p (0 : Int) (List.replicate (a0.length : Int).toNat (Ty.zero TFuel)) (fun o3 => some (o3, ()))) else none)
theorem laws_toRepairS_run (p : Nat) (x : (parsT [.val (.slice TFuel)]).T) : acall Try.prog (laws_toRepairS_G p) 5 1 62 (laws_toRepairS_lt p) (argAVs [.val (.slice TFuel)] x) ⟨[], 0, []⟩ (outO [(.slice TFuel)]) = laws_toRepairS_p p x.1 := by kernel_rfl
noncomputable def laws_toRepairS_c (p : Nat) : PC := PC.fnO true [.val (.slice TFuel)] [(.slice TFuel)] fun x => laws_toRepairS_p p x.1
theorem laws_toRepairS_s (p : Nat) : PSound Try.prog 62 (laws_toRepairS_c p) := own_sound (laws_toRepairS_E p) Try.checked.mixed (laws_toRepairS_I p) (laws_toRepairS_ltok_62 p) (fun _ => rfl) fun x y h => (laws_toRepairS_run p x).trans h
/-! laws.toTenant -/
noncomputable def laws_toTenant_G (p : Nat) : FuncId → Option CE := glist []
theorem laws_toTenant_E (p : Nat) : EnvS Try.prog (laws_toTenant_G p) := by
  apply glist_env; intro f ce h
  simp only [List.mem_cons, List.not_mem_nil, or_false, Prod.mk.injEq] at h
  
theorem laws_toTenant_I (p : Nat) : ∀ f lt, laws_toTenant_G p f = some (.inl lt) → LTok Try.prog (laws_toTenant_G p) 5 f lt := by
  apply glist_inl; intro f lt h
  simp only [List.mem_cons, List.not_mem_nil, or_false, Prod.mk.injEq, CE.inl.injEq, and_false, or_false, false_or, reduceCtorEq] at h
  
noncomputable def laws_toTenant_p (p : Nat) (a0 : (Ty.T TTenant)) : Option ((Ty.T TTenant) × Unit) :=
  some (a0, ())
theorem laws_toTenant_run (p : Nat) (x : (parsT [.val TTenant]).T) : acall Try.prog (laws_toTenant_G p) 5 1 102 .leaf (argAVs [.val TTenant] x) ⟨[], 0, []⟩ (outR [TTenant]) = laws_toTenant_p p x.1 := by kernel_rfl
noncomputable def laws_toTenant_c (p : Nat) : PC := PC.fn true [.val TTenant] [TTenant] fun x => laws_toTenant_p p x.1
theorem laws_toTenant_s (p : Nat) : PSound Try.prog 102 (laws_toTenant_c p) := pure_sound (laws_toTenant_E p) Try.checked.mixed (laws_toTenant_I p) LTok_leaf (fun _ => rfl) fun x y h => (laws_toTenant_run p x).trans h
/-! laws.toTenantS -/
noncomputable def laws_toTenantS_l0_r {α : Type} (p : Nat) (v0 : List (Ty.T TTenant)) (rec : (Int) → (List (Ty.T TTenant)) → Option α) (v1 : Int) (v2 : List (Ty.T TTenant)) (k0 : (List (Ty.T TTenant)) → Option α) : Option α :=
  (bif (decide (v1 < (v0.length : Int))) then (if 0 ≤ v1 then (v0[v1.toNat]?).bind fun y1 => ((laws_toTenant_p p y1).bind fun r2 => (if 0 ≤ v1 ∧ v1 < (v2.length : Int) then (rec (IntKind.wrap .i64 (v1 + (1 : Int))) (v2.set v1.toNat r2.1)) else none)) else none)
 else (k0 v2))
noncomputable def laws_toTenantS_l0_go {α : Type} (p : Nat) (v0 : List (Ty.T TTenant)) : Nat → (Int) → (List (Ty.T TTenant)) → ((List (Ty.T TTenant)) → Option α) → Option α
  | 0, _, _, _ => none
  | q + 1, v1, v2, k0 => laws_toTenantS_l0_r p v0 (fun v1 v2 => laws_toTenantS_l0_go p v0 q v1 v2 k0) v1 v2 k0
def laws_toTenantS_l0_sh : Sh := ⟨[⟨0, false, [.sl TTenant]⟩, ⟨3, false, [.lit (.own 0 0)]⟩, ⟨4, false, [.int .i64]⟩], 1, [(0, .arr 0 TTenant)]⟩
noncomputable def laws_toTenantS_lc0 (p : Nat) : LC := LC.alts 0 [⟨0, laws_toTenantS_l0_sh, fun x {α} k => laws_toTenantS_l0_go p x.1.1.1 p x.1.2.2.1.1 x.2.1 (fun o0 => k (.exit 0) ⟨[(3, .one ⟨false, [.own 0 0]⟩)], 1, [(0, .arr 0 TTenant o0)]⟩)⟩]
noncomputable def laws_toTenantS_lt (p : Nat) : LT := (.node .leaf (.node .leaf (.node (.node .leaf (.loop [0, 3, 4] [3] (some (laws_toTenantS_lc0 p)) .leaf)) .leaf)))
noncomputable def laws_toTenantS_G (p : Nat) : FuncId → Option CE := glist [(102, .pure (laws_toTenant_c p))]
noncomputable def laws_toTenantS_c0 : Code := codeAt [1, 1, 0, 1, 0, 0] (bodyOf Try.f63)
noncomputable def laws_toTenantS_it0 {α : Type} (p n b : Nat) (k : Ex → St → Option α) (q : Nat) (st : St) : Option α :=
  iter (fun s q => aexec Try.prog (laws_toTenantS_G p) (fun g lt args st (k : D → St → Option α) => acall Try.prog (laws_toTenantS_G p) 5 (n + 0) g lt args st k) 5 b 23 laws_toTenantS_c0 .leaf s q) (canon b [0, 3, 4]) q st (fun e s => k e (canon b [3] s))
theorem laws_toTenantS_l0_step {α : Type} (p n : Nat) (k : Ex → St → Option α) (v0 : List (Ty.T TTenant)) (q : Nat) (v1 : Int) (v2 : List (Ty.T TTenant)) : laws_toTenantS_it0 p n 0 k (q + 1) (laws_toTenantS_l0_sh.mk' (((v0, ()), ((), ()), (v1, ()), ()), (v2, ()))) =
  laws_toTenantS_l0_r p v0 (fun v1 v2 => laws_toTenantS_it0 p n 0 k q (laws_toTenantS_l0_sh.mk' (((v0, ()), ((), ()), (v1, ()), ()), (v2, ())))) v1 v2 (fun o0 => k (.exit 0) ⟨[(3, .one ⟨false, [.own 0 0]⟩)], 1, [(0, .arr 0 TTenant o0)]⟩) := by kernel_rfl
theorem laws_toTenantS_l0_ok {α : Type} (p n : Nat) (k : Ex → St → Option α) (v0 : List (Ty.T TTenant)) : ∀ (q : Nat) (v1 : Int) (v2 : List (Ty.T TTenant)), laws_toTenantS_it0 p n 0 k q (laws_toTenantS_l0_sh.mk' (((v0, ()), ((), ()), (v1, ()), ()), (v2, ()))) =
  laws_toTenantS_l0_go p v0 q v1 v2 (fun o0 => k (.exit 0) ⟨[(3, .one ⟨false, [.own 0 0]⟩)], 1, [(0, .arr 0 TTenant o0)]⟩) := by
  intro q
  induction q with
  | zero => intros; rfl
  | succ q ih => intro v1 v2; rw [laws_toTenantS_l0_step]; simp only [ih]; rfl
theorem laws_toTenantS_ltok_63_ls (p : Nat) : loopsOf (bodyOf Try.f63) (laws_toTenantS_lt p) = [⟨laws_toTenantS_c0, [0, 3, 4], [3], laws_toTenantS_lc0 p, .leaf⟩] := by kernel_rfl
theorem laws_toTenantS_ltok_63_dep (p : Nat) : LT.dep (laws_toTenantS_lt p) = 0 := by kernel_rfl
theorem laws_toTenantS_ltok_63 (p : Nat) : LTok Try.prog (laws_toTenantS_G p) 5 63 (laws_toTenantS_lt p) := by
  intro α n base fn c hd hfn hc
  have hfn' : some fn = some Try.f63 := hfn.symm.trans Try.func63
  cases hfn'
  have hc' : c = bodyOf Try.f63 := by unfold bodyOf; rw [hc]; rfl
  subst hc'
  rw [laws_toTenantS_ltok_63_dep] at hd
  obtain ⟨n, rfl⟩ := Nat.exists_eq_add_of_le' hd
  apply LTS_of_loops
  rw [laws_toTenantS_ltok_63_ls]
  intro e he st k r h
  simp only [List.mem_cons, List.not_mem_nil, or_false] at he
  subst he
  · obtain ⟨a, ha, hb, x, rfl, h⟩ := altRun_ok h
    simp only [List.mem_cons, List.not_mem_nil, or_false] at ha
    subst ha
    · cases hb; exact ⟨p, (laws_toTenantS_l0_ok p n k _ p _ _).trans h⟩
theorem laws_toTenantS_E (p : Nat) : EnvS Try.prog (laws_toTenantS_G p) := by
  apply glist_env; intro f ce h
  simp only [List.mem_cons, List.not_mem_nil, or_false, Prod.mk.injEq] at h
  rcases h with ⟨rfl, rfl⟩
  · exact laws_toTenant_s p
theorem laws_toTenantS_I (p : Nat) : ∀ f lt, laws_toTenantS_G p f = some (.inl lt) → LTok Try.prog (laws_toTenantS_G p) 5 f lt := by
  apply glist_inl; intro f lt h
  simp only [List.mem_cons, List.not_mem_nil, or_false, Prod.mk.injEq, CE.inl.injEq, and_false, or_false, false_or, reduceCtorEq] at h
  
noncomputable def laws_toTenantS_p (p : Nat) (a0 : (List (Ty.T TTenant))) : Option ((List (Ty.T TTenant)) × Unit) :=
  (if 0 ≤ (a0.length : Int) ∧ (a0.length : Int) ≤ (a0.length : Int) ∧ (a0.length : Int) * (32 : Int) ≤ 140737488355328 ∧ (a0.length : Int) ≤ 140737488355328 then (laws_toTenantS_l0_go p a0 p (0 : Int) (List.replicate (a0.length : Int).toNat (Ty.zero TTenant)) (fun o3 => some (o3, ()))) else none)
theorem laws_toTenantS_run (p : Nat) (x : (parsT [.val (.slice TTenant)]).T) : acall Try.prog (laws_toTenantS_G p) 5 1 63 (laws_toTenantS_lt p) (argAVs [.val (.slice TTenant)] x) ⟨[], 0, []⟩ (outO [(.slice TTenant)]) = laws_toTenantS_p p x.1 := by kernel_rfl
noncomputable def laws_toTenantS_c (p : Nat) : PC := PC.fnO true [.val (.slice TTenant)] [(.slice TTenant)] fun x => laws_toTenantS_p p x.1
theorem laws_toTenantS_s (p : Nat) : PSound Try.prog 63 (laws_toTenantS_c p) := own_sound (laws_toTenantS_E p) Try.checked.mixed (laws_toTenantS_I p) (laws_toTenantS_ltok_63 p) (fun _ => rfl) fun x y h => (laws_toTenantS_run p x).trans h
/-! laws.toDuty -/
noncomputable def laws_toDuty_G (p : Nat) : FuncId → Option CE := glist []
theorem laws_toDuty_E (p : Nat) : EnvS Try.prog (laws_toDuty_G p) := by
  apply glist_env; intro f ce h
  simp only [List.mem_cons, List.not_mem_nil, or_false, Prod.mk.injEq] at h
  
theorem laws_toDuty_I (p : Nat) : ∀ f lt, laws_toDuty_G p f = some (.inl lt) → LTok Try.prog (laws_toDuty_G p) 5 f lt := by
  apply glist_inl; intro f lt h
  simp only [List.mem_cons, List.not_mem_nil, or_false, Prod.mk.injEq, CE.inl.injEq, and_false, or_false, false_or, reduceCtorEq] at h
  
noncomputable def laws_toDuty_p (p : Nat) (a0 : (Ty.T TDuty)) : Option ((Ty.T TDuty) × Unit) :=
  some (a0, ())
theorem laws_toDuty_run (p : Nat) (x : (parsT [.val TDuty]).T) : acall Try.prog (laws_toDuty_G p) 5 1 103 .leaf (argAVs [.val TDuty] x) ⟨[], 0, []⟩ (outR [TDuty]) = laws_toDuty_p p x.1 := by kernel_rfl
noncomputable def laws_toDuty_c (p : Nat) : PC := PC.fn true [.val TDuty] [TDuty] fun x => laws_toDuty_p p x.1
theorem laws_toDuty_s (p : Nat) : PSound Try.prog 103 (laws_toDuty_c p) := pure_sound (laws_toDuty_E p) Try.checked.mixed (laws_toDuty_I p) LTok_leaf (fun _ => rfl) fun x y h => (laws_toDuty_run p x).trans h
/-! laws.toDutyS -/
noncomputable def laws_toDutyS_l0_r {α : Type} (p : Nat) (v0 : List (Ty.T TDuty)) (rec : (Int) → (List (Ty.T TDuty)) → Option α) (v1 : Int) (v2 : List (Ty.T TDuty)) (k0 : (List (Ty.T TDuty)) → Option α) : Option α :=
  (bif (decide (v1 < (v0.length : Int))) then (if 0 ≤ v1 then (v0[v1.toNat]?).bind fun y1 => ((laws_toDuty_p p y1).bind fun r2 => (if 0 ≤ v1 ∧ v1 < (v2.length : Int) then (rec (IntKind.wrap .i64 (v1 + (1 : Int))) (v2.set v1.toNat r2.1)) else none)) else none)
 else (k0 v2))
noncomputable def laws_toDutyS_l0_go {α : Type} (p : Nat) (v0 : List (Ty.T TDuty)) : Nat → (Int) → (List (Ty.T TDuty)) → ((List (Ty.T TDuty)) → Option α) → Option α
  | 0, _, _, _ => none
  | q + 1, v1, v2, k0 => laws_toDutyS_l0_r p v0 (fun v1 v2 => laws_toDutyS_l0_go p v0 q v1 v2 k0) v1 v2 k0
def laws_toDutyS_l0_sh : Sh := ⟨[⟨0, false, [.sl TDuty]⟩, ⟨3, false, [.lit (.own 0 0)]⟩, ⟨4, false, [.int .i64]⟩], 1, [(0, .arr 0 TDuty)]⟩
noncomputable def laws_toDutyS_lc0 (p : Nat) : LC := LC.alts 0 [⟨0, laws_toDutyS_l0_sh, fun x {α} k => laws_toDutyS_l0_go p x.1.1.1 p x.1.2.2.1.1 x.2.1 (fun o0 => k (.exit 0) ⟨[(3, .one ⟨false, [.own 0 0]⟩)], 1, [(0, .arr 0 TDuty o0)]⟩)⟩]
noncomputable def laws_toDutyS_lt (p : Nat) : LT := (.node .leaf (.node .leaf (.node (.node .leaf (.loop [0, 3, 4] [3] (some (laws_toDutyS_lc0 p)) .leaf)) .leaf)))
noncomputable def laws_toDutyS_G (p : Nat) : FuncId → Option CE := glist [(103, .pure (laws_toDuty_c p))]
noncomputable def laws_toDutyS_c0 : Code := codeAt [1, 1, 0, 1, 0, 0] (bodyOf Try.f64)
noncomputable def laws_toDutyS_it0 {α : Type} (p n b : Nat) (k : Ex → St → Option α) (q : Nat) (st : St) : Option α :=
  iter (fun s q => aexec Try.prog (laws_toDutyS_G p) (fun g lt args st (k : D → St → Option α) => acall Try.prog (laws_toDutyS_G p) 5 (n + 0) g lt args st k) 5 b 23 laws_toDutyS_c0 .leaf s q) (canon b [0, 3, 4]) q st (fun e s => k e (canon b [3] s))
theorem laws_toDutyS_l0_step {α : Type} (p n : Nat) (k : Ex → St → Option α) (v0 : List (Ty.T TDuty)) (q : Nat) (v1 : Int) (v2 : List (Ty.T TDuty)) : laws_toDutyS_it0 p n 0 k (q + 1) (laws_toDutyS_l0_sh.mk' (((v0, ()), ((), ()), (v1, ()), ()), (v2, ()))) =
  laws_toDutyS_l0_r p v0 (fun v1 v2 => laws_toDutyS_it0 p n 0 k q (laws_toDutyS_l0_sh.mk' (((v0, ()), ((), ()), (v1, ()), ()), (v2, ())))) v1 v2 (fun o0 => k (.exit 0) ⟨[(3, .one ⟨false, [.own 0 0]⟩)], 1, [(0, .arr 0 TDuty o0)]⟩) := by kernel_rfl
theorem laws_toDutyS_l0_ok {α : Type} (p n : Nat) (k : Ex → St → Option α) (v0 : List (Ty.T TDuty)) : ∀ (q : Nat) (v1 : Int) (v2 : List (Ty.T TDuty)), laws_toDutyS_it0 p n 0 k q (laws_toDutyS_l0_sh.mk' (((v0, ()), ((), ()), (v1, ()), ()), (v2, ()))) =
  laws_toDutyS_l0_go p v0 q v1 v2 (fun o0 => k (.exit 0) ⟨[(3, .one ⟨false, [.own 0 0]⟩)], 1, [(0, .arr 0 TDuty o0)]⟩) := by
  intro q
  induction q with
  | zero => intros; rfl
  | succ q ih => intro v1 v2; rw [laws_toDutyS_l0_step]; simp only [ih]; rfl
theorem laws_toDutyS_ltok_64_ls (p : Nat) : loopsOf (bodyOf Try.f64) (laws_toDutyS_lt p) = [⟨laws_toDutyS_c0, [0, 3, 4], [3], laws_toDutyS_lc0 p, .leaf⟩] := by kernel_rfl
theorem laws_toDutyS_ltok_64_dep (p : Nat) : LT.dep (laws_toDutyS_lt p) = 0 := by kernel_rfl
theorem laws_toDutyS_ltok_64 (p : Nat) : LTok Try.prog (laws_toDutyS_G p) 5 64 (laws_toDutyS_lt p) := by
  intro α n base fn c hd hfn hc
  have hfn' : some fn = some Try.f64 := hfn.symm.trans Try.func64
  cases hfn'
  have hc' : c = bodyOf Try.f64 := by unfold bodyOf; rw [hc]; rfl
  subst hc'
  rw [laws_toDutyS_ltok_64_dep] at hd
  obtain ⟨n, rfl⟩ := Nat.exists_eq_add_of_le' hd
  apply LTS_of_loops
  rw [laws_toDutyS_ltok_64_ls]
  intro e he st k r h
  simp only [List.mem_cons, List.not_mem_nil, or_false] at he
  subst he
  · obtain ⟨a, ha, hb, x, rfl, h⟩ := altRun_ok h
    simp only [List.mem_cons, List.not_mem_nil, or_false] at ha
    subst ha
    · cases hb; exact ⟨p, (laws_toDutyS_l0_ok p n k _ p _ _).trans h⟩
theorem laws_toDutyS_E (p : Nat) : EnvS Try.prog (laws_toDutyS_G p) := by
  apply glist_env; intro f ce h
  simp only [List.mem_cons, List.not_mem_nil, or_false, Prod.mk.injEq] at h
  rcases h with ⟨rfl, rfl⟩
  · exact laws_toDuty_s p
theorem laws_toDutyS_I (p : Nat) : ∀ f lt, laws_toDutyS_G p f = some (.inl lt) → LTok Try.prog (laws_toDutyS_G p) 5 f lt := by
  apply glist_inl; intro f lt h
  simp only [List.mem_cons, List.not_mem_nil, or_false, Prod.mk.injEq, CE.inl.injEq, and_false, or_false, false_or, reduceCtorEq] at h
  
noncomputable def laws_toDutyS_p (p : Nat) (a0 : (List (Ty.T TDuty))) : Option ((List (Ty.T TDuty)) × Unit) :=
  (if 0 ≤ (a0.length : Int) ∧ (a0.length : Int) ≤ (a0.length : Int) ∧ (a0.length : Int) * (40 : Int) ≤ 140737488355328 ∧ (a0.length : Int) ≤ 140737488355328 then (laws_toDutyS_l0_go p a0 p (0 : Int) (List.replicate (a0.length : Int).toNat (Ty.zero TDuty)) (fun o3 => some (o3, ()))) else none)
theorem laws_toDutyS_run (p : Nat) (x : (parsT [.val (.slice TDuty)]).T) : acall Try.prog (laws_toDutyS_G p) 5 1 64 (laws_toDutyS_lt p) (argAVs [.val (.slice TDuty)] x) ⟨[], 0, []⟩ (outO [(.slice TDuty)]) = laws_toDutyS_p p x.1 := by kernel_rfl
noncomputable def laws_toDutyS_c (p : Nat) : PC := PC.fnO true [.val (.slice TDuty)] [(.slice TDuty)] fun x => laws_toDutyS_p p x.1
theorem laws_toDutyS_s (p : Nat) : PSound Try.prog 64 (laws_toDutyS_c p) := own_sound (laws_toDutyS_E p) Try.checked.mixed (laws_toDutyS_I p) (laws_toDutyS_ltok_64 p) (fun _ => rfl) fun x y h => (laws_toDutyS_run p x).trans h
/-! laws.toDesk -/
noncomputable def laws_toDesk_G (p : Nat) : FuncId → Option CE := glist [(55, .pure (laws_toNetwork_c p)), (56, .pure (laws_toInt64S_c p)), (57, .pure (laws_toValveS_c p)), (58, .pure (laws_toPumpS_c p)), (59, .pure (laws_toSubstationS_c p)), (60, .pure (laws_toTank_c p)), (61, .pure (laws_toFuelS_c p)), (62, .pure (laws_toRepairS_c p)), (63, .pure (laws_toTenantS_c p)), (64, .pure (laws_toDutyS_c p))]
theorem laws_toDesk_E (p : Nat) : EnvS Try.prog (laws_toDesk_G p) := by
  apply glist_env; intro f ce h
  simp only [List.mem_cons, List.not_mem_nil, or_false, Prod.mk.injEq] at h
  rcases h with ⟨rfl, rfl⟩ | ⟨rfl, rfl⟩ | ⟨rfl, rfl⟩ | ⟨rfl, rfl⟩ | ⟨rfl, rfl⟩ | ⟨rfl, rfl⟩ | ⟨rfl, rfl⟩ | ⟨rfl, rfl⟩ | ⟨rfl, rfl⟩ | ⟨rfl, rfl⟩
  · exact laws_toNetwork_s p
  · exact laws_toInt64S_s p
  · exact laws_toValveS_s p
  · exact laws_toPumpS_s p
  · exact laws_toSubstationS_s p
  · exact laws_toTank_s p
  · exact laws_toFuelS_s p
  · exact laws_toRepairS_s p
  · exact laws_toTenantS_s p
  · exact laws_toDutyS_s p
theorem laws_toDesk_I (p : Nat) : ∀ f lt, laws_toDesk_G p f = some (.inl lt) → LTok Try.prog (laws_toDesk_G p) 5 f lt := by
  apply glist_inl; intro f lt h
  simp only [List.mem_cons, List.not_mem_nil, or_false, Prod.mk.injEq, CE.inl.injEq, and_false, or_false, false_or, reduceCtorEq] at h
  
noncomputable def laws_toDesk_p (p : Nat) (a0 : (Ty.T TDesk)) : Option ((Ty.T TDesk) × Unit) :=
  ((laws_toNetwork_p p a0.1).bind fun r1 => ((laws_toInt64S_p p a0.2.1).bind fun r2 => ((laws_toValveS_p p a0.2.2.1).bind fun r3 => ((laws_toPumpS_p p a0.2.2.2.1).bind fun r4 => ((laws_toSubstationS_p p a0.2.2.2.2.1).bind fun r5 => ((laws_toTank_p p a0.2.2.2.2.2.1).bind fun r6 => ((laws_toFuelS_p p a0.2.2.2.2.2.2.1).bind fun r7 => ((laws_toRepairS_p p a0.2.2.2.2.2.2.2.1).bind fun r8 => ((laws_toTenantS_p p a0.2.2.2.2.2.2.2.2.1).bind fun r9 => ((laws_toDutyS_p p a0.2.2.2.2.2.2.2.2.2).bind fun r10 => some ((r1.1, (r2.1, (r3.1, (r4.1, (r5.1, (r6.1, (r7.1, (r8.1, (r9.1, r10.1))))))))), ())))))))))))
theorem laws_toDesk_run (p : Nat) (x : (parsT [.val TDesk]).T) : acall Try.prog (laws_toDesk_G p) 5 1 12 .leaf (argAVs [.val TDesk] x) ⟨[], 0, []⟩ (outO [TDesk]) = laws_toDesk_p p x.1 := by kernel_rfl
noncomputable def laws_toDesk_c (p : Nat) : PC := PC.fnO false [.val TDesk] [TDesk] fun x => laws_toDesk_p p x.1
theorem laws_toDesk_s (p : Nat) : PSound Try.prog 12 (laws_toDesk_c p) := own_sound (laws_toDesk_E p) Try.checked.mixed (laws_toDesk_I p) LTok_leaf (fun h => by cases h) fun x y h => (laws_toDesk_run p x).trans h
/-! spec.l00Same -/
noncomputable def spec_l00Same_l0_r {α : Type} (p : Nat) (v0 : List Int) (v1 : List Int) (rec : (Int) → Option α) (v2 : Int) (k0 : (Bool) → Option α) (k1 : Unit → Option α) : Option α :=
  (bif (decide (v2 < (v0.length : Int))) then (if 0 ≤ v2 then (v0[v2.toNat]?).bind fun y1 => (if 0 ≤ v2 then (v1[v2.toNat]?).bind fun y2 => (bif (y1 != y2) then (k0 false)
 else (rec (IntKind.wrap .i64 (v2 + (1 : Int))))) else none) else none)
 else (k1 ()))
noncomputable def spec_l00Same_l0_go {α : Type} (p : Nat) (v0 : List Int) (v1 : List Int) : Nat → (Int) → ((Bool) → Option α) → (Unit → Option α) → Option α
  | 0, _, _, _ => none
  | q + 1, v2, k0, k1 => spec_l00Same_l0_r p v0 v1 (fun v2 => spec_l00Same_l0_go p v0 v1 q v2 k0 k1) v2 k0 k1
def spec_l00Same_l0_sh : Sh := ⟨[⟨0, false, [.sl (.int .i64)]⟩, ⟨1, false, [.sl (.int .i64)]⟩, ⟨5, false, [.int .i64]⟩], 0, []⟩
noncomputable def spec_l00Same_lc0 (p : Nat) : LC := LC.alts 0 [⟨0, spec_l00Same_l0_sh, fun x {α} k => spec_l00Same_l0_go p x.1.1.1 x.1.2.1.1 p x.1.2.2.1.1 (fun o0 => k .ret ⟨[(4, .one ⟨false, [.bool o0]⟩)], 0, []⟩) (fun _ => k (.exit 0) ⟨[], 0, []⟩)⟩]
noncomputable def spec_l00Same_lt (p : Nat) : LT := (.node .leaf (.node .leaf (.node (.node .leaf (.loop [0, 1, 5] [4] (some (spec_l00Same_lc0 p)) .leaf)) .leaf)))
noncomputable def spec_l00Same_G (p : Nat) : FuncId → Option CE := glist []
noncomputable def spec_l00Same_c0 : Code := codeAt [1, 1, 0, 1, 0, 0] (bodyOf Try.f53)
noncomputable def spec_l00Same_it0 {α : Type} (p n b : Nat) (k : Ex → St → Option α) (q : Nat) (st : St) : Option α :=
  iter (fun s q => aexec Try.prog (spec_l00Same_G p) (fun g lt args st (k : D → St → Option α) => acall Try.prog (spec_l00Same_G p) 5 (n + 0) g lt args st k) 5 b 26 spec_l00Same_c0 .leaf s q) (canon b [0, 1, 5]) q st (fun e s => k e (canon b [4] s))
theorem spec_l00Same_l0_step {α : Type} (p n : Nat) (k : Ex → St → Option α) (v0 : List Int) (v1 : List Int) (q : Nat) (v2 : Int) : spec_l00Same_it0 p n 0 k (q + 1) (spec_l00Same_l0_sh.mk' (((v0, ()), (v1, ()), (v2, ()), ()), (()))) =
  spec_l00Same_l0_r p v0 v1 (fun v2 => spec_l00Same_it0 p n 0 k q (spec_l00Same_l0_sh.mk' (((v0, ()), (v1, ()), (v2, ()), ()), (())))) v2 (fun o0 => k .ret ⟨[(4, .one ⟨false, [.bool o0]⟩)], 0, []⟩) (fun _ => k (.exit 0) ⟨[], 0, []⟩) := by kernel_rfl
theorem spec_l00Same_l0_ok {α : Type} (p n : Nat) (k : Ex → St → Option α) (v0 : List Int) (v1 : List Int) : ∀ (q : Nat) (v2 : Int), spec_l00Same_it0 p n 0 k q (spec_l00Same_l0_sh.mk' (((v0, ()), (v1, ()), (v2, ()), ()), (()))) =
  spec_l00Same_l0_go p v0 v1 q v2 (fun o0 => k .ret ⟨[(4, .one ⟨false, [.bool o0]⟩)], 0, []⟩) (fun _ => k (.exit 0) ⟨[], 0, []⟩) := by
  intro q
  induction q with
  | zero => intros; rfl
  | succ q ih => intro v2; rw [spec_l00Same_l0_step]; simp only [ih]; rfl
theorem spec_l00Same_ltok_53_ls (p : Nat) : loopsOf (bodyOf Try.f53) (spec_l00Same_lt p) = [⟨spec_l00Same_c0, [0, 1, 5], [4], spec_l00Same_lc0 p, .leaf⟩] := by kernel_rfl
theorem spec_l00Same_ltok_53_dep (p : Nat) : LT.dep (spec_l00Same_lt p) = 0 := by kernel_rfl
theorem spec_l00Same_ltok_53 (p : Nat) : LTok Try.prog (spec_l00Same_G p) 5 53 (spec_l00Same_lt p) := by
  intro α n base fn c hd hfn hc
  have hfn' : some fn = some Try.f53 := hfn.symm.trans Try.func53
  cases hfn'
  have hc' : c = bodyOf Try.f53 := by unfold bodyOf; rw [hc]; rfl
  subst hc'
  rw [spec_l00Same_ltok_53_dep] at hd
  obtain ⟨n, rfl⟩ := Nat.exists_eq_add_of_le' hd
  apply LTS_of_loops
  rw [spec_l00Same_ltok_53_ls]
  intro e he st k r h
  simp only [List.mem_cons, List.not_mem_nil, or_false] at he
  subst he
  · obtain ⟨a, ha, hb, x, rfl, h⟩ := altRun_ok h
    simp only [List.mem_cons, List.not_mem_nil, or_false] at ha
    subst ha
    · cases hb; exact ⟨p, (spec_l00Same_l0_ok p n k _ _ p _).trans h⟩
theorem spec_l00Same_E (p : Nat) : EnvS Try.prog (spec_l00Same_G p) := by
  apply glist_env; intro f ce h
  simp only [List.mem_cons, List.not_mem_nil, or_false, Prod.mk.injEq] at h
  
theorem spec_l00Same_I (p : Nat) : ∀ f lt, spec_l00Same_G p f = some (.inl lt) → LTok Try.prog (spec_l00Same_G p) 5 f lt := by
  apply glist_inl; intro f lt h
  simp only [List.mem_cons, List.not_mem_nil, or_false, Prod.mk.injEq, CE.inl.injEq, and_false, or_false, false_or, reduceCtorEq] at h
  
noncomputable def spec_l00Same_p (p : Nat) (a0 : (List Int)) (a1 : (List Int)) : Option (Bool × Unit) :=
  (bif ((a0.length : Int) != (a1.length : Int)) then some (false, ())
 else (spec_l00Same_l0_go p a0 a1 p (0 : Int) (fun o3 => some (o3, ())) (fun _ => some (true, ()))))
theorem spec_l00Same_run (p : Nat) (x : (parsT [.val (.slice (.int .i64)), .val (.slice (.int .i64))]).T) : acall Try.prog (spec_l00Same_G p) 5 1 53 (spec_l00Same_lt p) (argAVs [.val (.slice (.int .i64)), .val (.slice (.int .i64))] x) ⟨[], 0, []⟩ (outR [.bool]) = spec_l00Same_p p x.1 x.2.1 := by kernel_rfl
noncomputable def spec_l00Same_c (p : Nat) : PC := PC.fn true [.val (.slice (.int .i64)), .val (.slice (.int .i64))] [.bool] fun x => spec_l00Same_p p x.1 x.2.1
theorem spec_l00Same_s (p : Nat) : PSound Try.prog 53 (spec_l00Same_c p) := pure_sound (spec_l00Same_E p) Try.checked.mixed (spec_l00Same_I p) (spec_l00Same_ltok_53 p) (fun _ => rfl) fun x y h => (spec_l00Same_run p x).trans h
/-! spec.SameNetwork -/
noncomputable def spec_SameNetwork_l0_r {α : Type} (p : Nat) (v2 : List (Ty.T TPipe)) (v4 : List (Ty.T TPipe)) (rec : (Int) → Option α) (v0 : Int) (k0 : (Bool) → Option α) (k1 : Unit → Option α) : Option α :=
  (bif (decide (v0 < (v2.length : Int))) then (if 0 ≤ v0 then (v2[v0.toNat]?).bind fun y2 => (if 0 ≤ v0 then (v4[v0.toNat]?).bind fun y3 => (bif (!((y2.1.toList == y3.1.toList) && ((y2.2.1 == y3.2.1) && ((y2.2.2.1 == y3.2.2.1) && ((y2.2.2.2.1 == y3.2.2.2.1) && ((y2.2.2.2.2.1 == y3.2.2.2.2.1) && ((y2.2.2.2.2.2 == y3.2.2.2.2.2) && true))))))) then (k0 false)
 else (rec (IntKind.wrap .i64 (v0 + (1 : Int))))) else none) else none)
 else (k1 ()))
noncomputable def spec_SameNetwork_l0_go {α : Type} (p : Nat) (v2 : List (Ty.T TPipe)) (v4 : List (Ty.T TPipe)) : Nat → (Int) → ((Bool) → Option α) → (Unit → Option α) → Option α
  | 0, _, _, _ => none
  | q + 1, v0, k0, k1 => spec_SameNetwork_l0_r p v2 v4 (fun v0 => spec_SameNetwork_l0_go p v2 v4 q v0 k0 k1) v0 k0 k1
def spec_SameNetwork_l0_sh : Sh := ⟨[⟨2, false, [.lit (.ptr 0 0)]⟩, ⟨3, false, [.lit (.ptr 1 0)]⟩, ⟨5, false, [.int .i64]⟩], 2, [(0, .box [.sl (.int .i64), .sl TPipe]), (1, .box [.sl (.int .i64), .sl TPipe])]⟩
noncomputable def spec_SameNetwork_lc0 (p : Nat) : LC := LC.alts 0 [⟨0, spec_SameNetwork_l0_sh, fun x {α} k => spec_SameNetwork_l0_go p x.2.1.2.1 x.2.2.1.2.1 p x.1.2.2.1.1 (fun o0 => k .ret ⟨[(4, .one ⟨false, [.bool o0]⟩)], 0, []⟩) (fun _ => k (.exit 0) ⟨[], 0, []⟩)⟩]
noncomputable def spec_SameNetwork_lt (p : Nat) : LT := (.node .leaf (.node .leaf (.node (.node .leaf (.loop [2, 3, 5] [4] (some (spec_SameNetwork_lc0 p)) .leaf)) .leaf)))
noncomputable def spec_SameNetwork_G (p : Nat) : FuncId → Option CE := glist [(53, .pure (spec_l00Same_c p))]
noncomputable def spec_SameNetwork_c0 : Code := codeAt [1, 1, 0, 1, 0, 0] (bodyOf Try.f52)
noncomputable def spec_SameNetwork_it0 {α : Type} (p n b : Nat) (k : Ex → St → Option α) (q : Nat) (st : St) : Option α :=
  iter (fun s q => aexec Try.prog (spec_SameNetwork_G p) (fun g lt args st (k : D → St → Option α) => acall Try.prog (spec_SameNetwork_G p) 5 (n + 0) g lt args st k) 5 b 39 spec_SameNetwork_c0 .leaf s q) (canon b [2, 3, 5]) q st (fun e s => k e (canon b [4] s))
theorem spec_SameNetwork_l0_step {α : Type} (p n : Nat) (k : Ex → St → Option α) (v1 : List Int) (v2 : List (Ty.T TPipe)) (v3 : List Int) (v4 : List (Ty.T TPipe)) (q : Nat) (v0 : Int) : spec_SameNetwork_it0 p n 0 k (q + 1) (spec_SameNetwork_l0_sh.mk' ((((), ()), ((), ()), (v0, ()), ()), ((v1, v2, ()), (v3, v4, ()), ()))) =
  spec_SameNetwork_l0_r p v2 v4 (fun v0 => spec_SameNetwork_it0 p n 0 k q (spec_SameNetwork_l0_sh.mk' ((((), ()), ((), ()), (v0, ()), ()), ((v1, v2, ()), (v3, v4, ()), ())))) v0 (fun o0 => k .ret ⟨[(4, .one ⟨false, [.bool o0]⟩)], 0, []⟩) (fun _ => k (.exit 0) ⟨[], 0, []⟩) := by kernel_rfl
theorem spec_SameNetwork_l0_ok {α : Type} (p n : Nat) (k : Ex → St → Option α) (v1 : List Int) (v2 : List (Ty.T TPipe)) (v3 : List Int) (v4 : List (Ty.T TPipe)) : ∀ (q : Nat) (v0 : Int), spec_SameNetwork_it0 p n 0 k q (spec_SameNetwork_l0_sh.mk' ((((), ()), ((), ()), (v0, ()), ()), ((v1, v2, ()), (v3, v4, ()), ()))) =
  spec_SameNetwork_l0_go p v2 v4 q v0 (fun o0 => k .ret ⟨[(4, .one ⟨false, [.bool o0]⟩)], 0, []⟩) (fun _ => k (.exit 0) ⟨[], 0, []⟩) := by
  intro q
  induction q with
  | zero => intros; rfl
  | succ q ih => intro v0; rw [spec_SameNetwork_l0_step]; simp only [ih]; rfl
theorem spec_SameNetwork_ltok_52_ls (p : Nat) : loopsOf (bodyOf Try.f52) (spec_SameNetwork_lt p) = [⟨spec_SameNetwork_c0, [2, 3, 5], [4], spec_SameNetwork_lc0 p, .leaf⟩] := by kernel_rfl
theorem spec_SameNetwork_ltok_52_dep (p : Nat) : LT.dep (spec_SameNetwork_lt p) = 0 := by kernel_rfl
theorem spec_SameNetwork_ltok_52 (p : Nat) : LTok Try.prog (spec_SameNetwork_G p) 5 52 (spec_SameNetwork_lt p) := by
  intro α n base fn c hd hfn hc
  have hfn' : some fn = some Try.f52 := hfn.symm.trans Try.func52
  cases hfn'
  have hc' : c = bodyOf Try.f52 := by unfold bodyOf; rw [hc]; rfl
  subst hc'
  rw [spec_SameNetwork_ltok_52_dep] at hd
  obtain ⟨n, rfl⟩ := Nat.exists_eq_add_of_le' hd
  apply LTS_of_loops
  rw [spec_SameNetwork_ltok_52_ls]
  intro e he st k r h
  simp only [List.mem_cons, List.not_mem_nil, or_false] at he
  subst he
  · obtain ⟨a, ha, hb, x, rfl, h⟩ := altRun_ok h
    simp only [List.mem_cons, List.not_mem_nil, or_false] at ha
    subst ha
    · cases hb; exact ⟨p, (spec_SameNetwork_l0_ok p n k _ _ _ _ p _).trans h⟩
theorem spec_SameNetwork_E (p : Nat) : EnvS Try.prog (spec_SameNetwork_G p) := by
  apply glist_env; intro f ce h
  simp only [List.mem_cons, List.not_mem_nil, or_false, Prod.mk.injEq] at h
  rcases h with ⟨rfl, rfl⟩
  · exact spec_l00Same_s p
theorem spec_SameNetwork_I (p : Nat) : ∀ f lt, spec_SameNetwork_G p f = some (.inl lt) → LTok Try.prog (spec_SameNetwork_G p) 5 f lt := by
  apply glist_inl; intro f lt h
  simp only [List.mem_cons, List.not_mem_nil, or_false, Prod.mk.injEq, CE.inl.injEq, and_false, or_false, false_or, reduceCtorEq] at h
  
noncomputable def spec_SameNetwork_p (p : Nat) (a0 : (Ty.T TNetwork)) (a1 : (Ty.T TNetwork)) : Option (Bool × Unit) :=
  ((spec_l00Same_p p a0.1 a1.1).bind fun r1 => (bif (!r1.1) then some (false, ())
 else (bif ((a0.2.length : Int) != (a1.2.length : Int)) then some (false, ())
 else (spec_SameNetwork_l0_go p a0.2 a1.2 p (0 : Int) (fun o4 => some (o4, ())) (fun _ => some (true, ()))))))
theorem spec_SameNetwork_run (p : Nat) (x : (parsT [.val TNetwork, .val TNetwork]).T) : acall Try.prog (spec_SameNetwork_G p) 5 1 52 (spec_SameNetwork_lt p) (argAVs [.val TNetwork, .val TNetwork] x) ⟨[], 0, []⟩ (outR [.bool]) = spec_SameNetwork_p p x.1 x.2.1 := by kernel_rfl
noncomputable def spec_SameNetwork_c (p : Nat) : PC := PC.fn true [.val TNetwork, .val TNetwork] [.bool] fun x => spec_SameNetwork_p p x.1 x.2.1
theorem spec_SameNetwork_s (p : Nat) : PSound Try.prog 52 (spec_SameNetwork_c p) := pure_sound (spec_SameNetwork_E p) Try.checked.mixed (spec_SameNetwork_I p) (spec_SameNetwork_ltok_52 p) (fun _ => rfl) fun x y h => (spec_SameNetwork_run p x).trans h
/-! spec.l08Same -/
noncomputable def spec_l08Same_l0_r {α : Type} (p : Nat) (v0 : (Ty.T TPump)) (v1 : (Ty.T TPump)) (rec : (Int) → Option α) (v2 : Int) (k0 : (Bool) → Option α) (k1 : Unit → Option α) : Option α :=
  (bif (decide (v2 < (v0.2.length : Int))) then (if 0 ≤ v2 then (v0.2[v2.toNat]?).bind fun y1 => (if 0 ≤ v2 then (v1.2[v2.toNat]?).bind fun y2 => ((spec_l00Same_p p y1 y2).bind fun r3 => (bif (!r3.1) then (k0 false)
 else (rec (IntKind.wrap .i64 (v2 + (1 : Int)))))) else none) else none)
 else (k1 ()))
noncomputable def spec_l08Same_l0_go {α : Type} (p : Nat) (v0 : (Ty.T TPump)) (v1 : (Ty.T TPump)) : Nat → (Int) → ((Bool) → Option α) → (Unit → Option α) → Option α
  | 0, _, _, _ => none
  | q + 1, v2, k0, k1 => spec_l08Same_l0_r p v0 v1 (fun v2 => spec_l08Same_l0_go p v0 v1 q v2 k0 k1) v2 k0 k1
def spec_l08Same_l0_sh : Sh := ⟨[⟨0, false, [.ref TPump 0]⟩, ⟨1, false, [.ref TPump 0]⟩, ⟨5, false, [.int .i64]⟩], 0, []⟩
noncomputable def spec_l08Same_lc0 (p : Nat) : LC := LC.alts 0 [⟨0, spec_l08Same_l0_sh, fun x {α} k => spec_l08Same_l0_go p x.1.1.1 x.1.2.1.1 p x.1.2.2.1.1 (fun o0 => k .ret ⟨[(4, .one ⟨false, [.bool o0]⟩)], 0, []⟩) (fun _ => k (.exit 0) ⟨[], 0, []⟩)⟩]
noncomputable def spec_l08Same_lt (p : Nat) : LT := (.node .leaf (.node .leaf (.node (.node .leaf (.loop [0, 1, 5] [4] (some (spec_l08Same_lc0 p)) .leaf)) .leaf)))
noncomputable def spec_l08Same_G (p : Nat) : FuncId → Option CE := glist [(53, .pure (spec_l00Same_c p))]
noncomputable def spec_l08Same_c0 : Code := codeAt [1, 1, 0, 1, 0, 0] (bodyOf Try.f54)
noncomputable def spec_l08Same_it0 {α : Type} (p n b : Nat) (k : Ex → St → Option α) (q : Nat) (st : St) : Option α :=
  iter (fun s q => aexec Try.prog (spec_l08Same_G p) (fun g lt args st (k : D → St → Option α) => acall Try.prog (spec_l08Same_G p) 5 (n + 0) g lt args st k) 5 b 53 spec_l08Same_c0 .leaf s q) (canon b [0, 1, 5]) q st (fun e s => k e (canon b [4] s))
theorem spec_l08Same_l0_step {α : Type} (p n : Nat) (k : Ex → St → Option α) (v0 : (Ty.T TPump)) (v1 : (Ty.T TPump)) (q : Nat) (v2 : Int) : spec_l08Same_it0 p n 0 k (q + 1) (spec_l08Same_l0_sh.mk' (((v0, ()), (v1, ()), (v2, ()), ()), (()))) =
  spec_l08Same_l0_r p v0 v1 (fun v2 => spec_l08Same_it0 p n 0 k q (spec_l08Same_l0_sh.mk' (((v0, ()), (v1, ()), (v2, ()), ()), (())))) v2 (fun o0 => k .ret ⟨[(4, .one ⟨false, [.bool o0]⟩)], 0, []⟩) (fun _ => k (.exit 0) ⟨[], 0, []⟩) := by kernel_rfl
theorem spec_l08Same_l0_ok {α : Type} (p n : Nat) (k : Ex → St → Option α) (v0 : (Ty.T TPump)) (v1 : (Ty.T TPump)) : ∀ (q : Nat) (v2 : Int), spec_l08Same_it0 p n 0 k q (spec_l08Same_l0_sh.mk' (((v0, ()), (v1, ()), (v2, ()), ()), (()))) =
  spec_l08Same_l0_go p v0 v1 q v2 (fun o0 => k .ret ⟨[(4, .one ⟨false, [.bool o0]⟩)], 0, []⟩) (fun _ => k (.exit 0) ⟨[], 0, []⟩) := by
  intro q
  induction q with
  | zero => intros; rfl
  | succ q ih => intro v2; rw [spec_l08Same_l0_step]; simp only [ih]; rfl
theorem spec_l08Same_ltok_54_ls (p : Nat) : loopsOf (bodyOf Try.f54) (spec_l08Same_lt p) = [⟨spec_l08Same_c0, [0, 1, 5], [4], spec_l08Same_lc0 p, .leaf⟩] := by kernel_rfl
theorem spec_l08Same_ltok_54_dep (p : Nat) : LT.dep (spec_l08Same_lt p) = 0 := by kernel_rfl
theorem spec_l08Same_ltok_54 (p : Nat) : LTok Try.prog (spec_l08Same_G p) 5 54 (spec_l08Same_lt p) := by
  intro α n base fn c hd hfn hc
  have hfn' : some fn = some Try.f54 := hfn.symm.trans Try.func54
  cases hfn'
  have hc' : c = bodyOf Try.f54 := by unfold bodyOf; rw [hc]; rfl
  subst hc'
  rw [spec_l08Same_ltok_54_dep] at hd
  obtain ⟨n, rfl⟩ := Nat.exists_eq_add_of_le' hd
  apply LTS_of_loops
  rw [spec_l08Same_ltok_54_ls]
  intro e he st k r h
  simp only [List.mem_cons, List.not_mem_nil, or_false] at he
  subst he
  · obtain ⟨a, ha, hb, x, rfl, h⟩ := altRun_ok h
    simp only [List.mem_cons, List.not_mem_nil, or_false] at ha
    subst ha
    · cases hb; exact ⟨p, (spec_l08Same_l0_ok p n k _ _ p _).trans h⟩
theorem spec_l08Same_E (p : Nat) : EnvS Try.prog (spec_l08Same_G p) := by
  apply glist_env; intro f ce h
  simp only [List.mem_cons, List.not_mem_nil, or_false, Prod.mk.injEq] at h
  rcases h with ⟨rfl, rfl⟩
  · exact spec_l00Same_s p
theorem spec_l08Same_I (p : Nat) : ∀ f lt, spec_l08Same_G p f = some (.inl lt) → LTok Try.prog (spec_l08Same_G p) 5 f lt := by
  apply glist_inl; intro f lt h
  simp only [List.mem_cons, List.not_mem_nil, or_false, Prod.mk.injEq, CE.inl.injEq, and_false, or_false, false_or, reduceCtorEq] at h
  
noncomputable def spec_l08Same_p (p : Nat) (a0 : (Ty.T TPump)) (a1 : (Ty.T TPump)) : Option (Bool × Unit) :=
  (bif (!(a0.1.toList == a1.1.toList)) then some (false, ())
 else (bif ((a0.2.length : Int) != (a1.2.length : Int)) then some (false, ())
 else (spec_l08Same_l0_go p a0 a1 p (0 : Int) (fun o4 => some (o4, ())) (fun _ => some (true, ())))))
theorem spec_l08Same_run (p : Nat) (x : (parsT [.ptr TPump, .ptr TPump]).T) : acall Try.prog (spec_l08Same_G p) 5 1 54 (spec_l08Same_lt p) (argAVs [.ptr TPump, .ptr TPump] x) ⟨[], 0, []⟩ (outR [.bool]) = spec_l08Same_p p x.1 x.2.1 := by kernel_rfl
noncomputable def spec_l08Same_c (p : Nat) : PC := PC.fn true [.ptr TPump, .ptr TPump] [.bool] fun x => spec_l08Same_p p x.1 x.2.1
theorem spec_l08Same_s (p : Nat) : PSound Try.prog 54 (spec_l08Same_c p) := pure_sound (spec_l08Same_E p) Try.checked.mixed (spec_l08Same_I p) (spec_l08Same_ltok_54 p) (fun _ => rfl) fun x y h => (spec_l08Same_run p x).trans h
end Go.Proofs.Ytekplllopcmooaa.W
