/- The walk of functions of the program: typed texts, loops, runs, contracts; printed by walk.py. No condition. -/
import Derived.Test.YtgmcefnlcalagaaGreatAm31
import Derived.Test.YtgmcefnlcalagaaGreatProg
import Derived.Test.YtgmcefnlcalagaaGreatChecked
import Derived.Test.YtgmcefnlcalagaaGreatWVD
namespace Go.Proofs.YtgmcefnlcalagaaGreat.W
open Go Go.RowKit Go.Proofs.YtgmcefnlcalagaaGreat.AM
set_option maxRecDepth 100000
set_option linter.unusedVariables false
set_option linter.unusedSimpArgs false
/-! spec.l08List -/
noncomputable def spec_l08List_l0_r {α : Type} (p : Nat) (v0 : List (Ty.T TPump)) (rec : (Int) → Option α) (v1 : Int) (k0 : (Bool) → Option α) (k1 : Unit → Option α) : Option α :=
  (bif (decide (v1 < (v0.length : Int))) then (if 0 ≤ v1 then (v0[v1.toNat]?).bind fun y1 => ((spec_l08Ok_p p y1).bind fun r2 => (bif (!r2.1) then (k0 false)
 else (bif (decide (v1 > (0 : Int))) then (if 0 ≤ (IntKind.wrap .i64 (v1 - (1 : Int))) then (v0[(IntKind.wrap .i64 (v1 - (1 : Int))).toNat]?).bind fun y3 => (if 0 ≤ v1 then (v0[v1.toNat]?).bind fun y4 => (bif (!(Op.bytesLess y3.1.toList y4.1.toList)) then (k0 false)
 else (rec (IntKind.wrap .i64 (v1 + (1 : Int))))) else none) else none)
 else (rec (IntKind.wrap .i64 (v1 + (1 : Int))))))) else none)
 else (k1 ()))
noncomputable def spec_l08List_l0_go {α : Type} (p : Nat) (v0 : List (Ty.T TPump)) : Nat → (Int) → ((Bool) → Option α) → (Unit → Option α) → Option α
  | 0, _, _, _ => none
  | q + 1, v1, k0, k1 => spec_l08List_l0_r p v0 (fun v1 => spec_l08List_l0_go p v0 q v1 k0 k1) v1 k0 k1
def spec_l08List_l0_sh : Sh := ⟨[⟨0, false, [.sl TPump]⟩, ⟨3, false, [.int .i64]⟩], 0, []⟩
noncomputable def spec_l08List_lc0 (p : Nat) : LC := LC.alts 0 [⟨0, spec_l08List_l0_sh, fun x {α} k => spec_l08List_l0_go p x.1.1.1 p x.1.2.1.1 (fun o1 => k .ret ⟨[(0, .one ⟨false, [.sl TPump x.1.1.1]⟩), (2, .one ⟨false, [.bool o1]⟩)], 0, []⟩) (fun _ => k (.exit 0) ⟨[(0, .one ⟨false, [.sl TPump x.1.1.1]⟩)], 0, []⟩)⟩]
noncomputable def spec_l08List_lt (p : Nat) : LT := (.node .leaf (.node (.node .leaf (.loop [0, 3] [0, 2] (some (spec_l08List_lc0 p)) .leaf)) .leaf))
noncomputable def spec_l08List_G (p : Nat) : FuncId → Option CE := glist [(104, .pure (spec_l08Ok_c p))]
noncomputable def spec_l08List_c0 : Code := codeAt [1, 0, 1, 0, 0] (bodyOf Tryz.f59)
noncomputable def spec_l08List_it0 {α : Type} (p n b : Nat) (k : Ex → St → Option α) (q : Nat) (st : St) : Option α :=
  iter (fun s q => aexec Tryz.prog (spec_l08List_G p) (fun g lt args st (k : D → St → Option α) => acall Tryz.prog (spec_l08List_G p) 5 (n + 0) g lt args st k) 5 b 36 spec_l08List_c0 .leaf s q) (canon b [0, 3]) q st (fun e s => k e (canon b [0, 2] s))
theorem spec_l08List_l0_step {α : Type} (p n : Nat) (k : Ex → St → Option α) (v0 : List (Ty.T TPump)) (q : Nat) (v1 : Int) : spec_l08List_it0 p n 0 k (q + 1) (spec_l08List_l0_sh.mk' (((v0, ()), (v1, ()), ()), (()))) =
  spec_l08List_l0_r p v0 (fun v1 => spec_l08List_it0 p n 0 k q (spec_l08List_l0_sh.mk' (((v0, ()), (v1, ()), ()), (())))) v1 (fun o1 => k .ret ⟨[(0, .one ⟨false, [.sl TPump v0]⟩), (2, .one ⟨false, [.bool o1]⟩)], 0, []⟩) (fun _ => k (.exit 0) ⟨[(0, .one ⟨false, [.sl TPump v0]⟩)], 0, []⟩) := by kernel_rfl
theorem spec_l08List_l0_ok {α : Type} (p n : Nat) (k : Ex → St → Option α) (v0 : List (Ty.T TPump)) : ∀ (q : Nat) (v1 : Int), spec_l08List_it0 p n 0 k q (spec_l08List_l0_sh.mk' (((v0, ()), (v1, ()), ()), (()))) =
  spec_l08List_l0_go p v0 q v1 (fun o1 => k .ret ⟨[(0, .one ⟨false, [.sl TPump v0]⟩), (2, .one ⟨false, [.bool o1]⟩)], 0, []⟩) (fun _ => k (.exit 0) ⟨[(0, .one ⟨false, [.sl TPump v0]⟩)], 0, []⟩) := by
  intro q
  induction q with
  | zero => intros; rfl
  | succ q ih => intro v1; rw [spec_l08List_l0_step]; simp only [ih]; rfl
theorem spec_l08List_ltok_59_ls (p : Nat) : loopsOf (bodyOf Tryz.f59) (spec_l08List_lt p) = [⟨spec_l08List_c0, [0, 3], [0, 2], spec_l08List_lc0 p, .leaf⟩] := by kernel_rfl
theorem spec_l08List_ltok_59_dep (p : Nat) : LT.dep (spec_l08List_lt p) = 0 := by kernel_rfl
theorem spec_l08List_ltok_59 (p : Nat) : LTok Tryz.prog (spec_l08List_G p) 5 59 (spec_l08List_lt p) := by
  intro α n base fn c hd hfn hc
  have hfn' : some fn = some Tryz.f59 := hfn.symm.trans Tryz.func59
  cases hfn'
  have hc' : c = bodyOf Tryz.f59 := by unfold bodyOf; rw [hc]; rfl
  subst hc'
  rw [spec_l08List_ltok_59_dep] at hd
  obtain ⟨n, rfl⟩ := Nat.exists_eq_add_of_le' hd
  apply LTS_of_loops
  rw [spec_l08List_ltok_59_ls]
  intro e he st k r h
  simp only [List.mem_cons, List.not_mem_nil, or_false] at he
  subst he
  · obtain ⟨a, ha, hb, x, rfl, h⟩ := altRun_ok h
    simp only [List.mem_cons, List.not_mem_nil, or_false] at ha
    subst ha
    · cases hb; exact ⟨p, (spec_l08List_l0_ok p n k _ p _).trans h⟩
theorem spec_l08List_E (p : Nat) : EnvS Tryz.prog (spec_l08List_G p) := by
  apply glist_env; intro f ce h
  simp only [List.mem_cons, List.not_mem_nil, or_false, Prod.mk.injEq] at h
  rcases h with ⟨rfl, rfl⟩
  · exact spec_l08Ok_s p
theorem spec_l08List_I (p : Nat) : ∀ f lt, spec_l08List_G p f = some (.inl lt) → LTok Tryz.prog (spec_l08List_G p) 5 f lt := by
  apply glist_inl; intro f lt h
  simp only [List.mem_cons, List.not_mem_nil, or_false, Prod.mk.injEq, CE.inl.injEq, and_false, or_false, false_or, reduceCtorEq] at h
  
noncomputable def spec_l08List_p (p : Nat) (a0 : (List (Ty.T TPump))) : Option (Bool × Unit) :=
  (spec_l08List_l0_go p a0 p (0 : Int) (fun o5 => some (o5, ())) (fun _ => some ((decide ((a0.length : Int) ≤ (8 : Int))), ())))
theorem spec_l08List_run (p : Nat) (x : (parsT [.val (.slice TPump)]).T) : acall Tryz.prog (spec_l08List_G p) 5 1 59 (spec_l08List_lt p) (argAVs [.val (.slice TPump)] x) ⟨[], 0, []⟩ (outR [.bool]) = spec_l08List_p p x.1 := by kernel_rfl
noncomputable def spec_l08List_c (p : Nat) : PC := PC.fn true [.val (.slice TPump)] [.bool] fun x => spec_l08List_p p x.1
theorem spec_l08List_s (p : Nat) : PSound Tryz.prog 59 (spec_l08List_c p) := pure_sound (spec_l08List_E p) Tryz.checked.mixed (spec_l08List_I p) (spec_l08List_ltok_59 p) (fun _ => rfl) fun x y h => (spec_l08List_run p x).trans h
/-! spec.l02Degrees -/
noncomputable def spec_l02Degrees_G (p : Nat) : FuncId → Option CE := glist [(106, .pure (spec_l00In_c p))]
theorem spec_l02Degrees_E (p : Nat) : EnvS Tryz.prog (spec_l02Degrees_G p) := by
  apply glist_env; intro f ce h
  simp only [List.mem_cons, List.not_mem_nil, or_false, Prod.mk.injEq] at h
  rcases h with ⟨rfl, rfl⟩
  · exact spec_l00In_s p
theorem spec_l02Degrees_I (p : Nat) : ∀ f lt, spec_l02Degrees_G p f = some (.inl lt) → LTok Tryz.prog (spec_l02Degrees_G p) 5 f lt := by
  apply glist_inl; intro f lt h
  simp only [List.mem_cons, List.not_mem_nil, or_false, Prod.mk.injEq, CE.inl.injEq, and_false, or_false, false_or, reduceCtorEq] at h
  
noncomputable def spec_l02Degrees_p (p : Nat) (a0 : Int) : Option (Bool × Unit) :=
  ((spec_l00In_p p a0 (0 : Int) (18000 : Int)).bind fun r1 => some (r1.1, ()))
theorem spec_l02Degrees_run (p : Nat) (x : (parsT [.val (.int .i64)]).T) : acall Tryz.prog (spec_l02Degrees_G p) 5 1 132 .leaf (argAVs [.val (.int .i64)] x) ⟨[], 0, []⟩ (outR [.bool]) = spec_l02Degrees_p p x.1 := by kernel_rfl
noncomputable def spec_l02Degrees_c (p : Nat) : PC := PC.fn true [.val (.int .i64)] [.bool] fun x => spec_l02Degrees_p p x.1
theorem spec_l02Degrees_s (p : Nat) : PSound Tryz.prog 132 (spec_l02Degrees_c p) := pure_sound (spec_l02Degrees_E p) Tryz.checked.mixed (spec_l02Degrees_I p) LTok_leaf (fun _ => rfl) fun x y h => (spec_l02Degrees_run p x).trans h
/-! spec.l12One -/
noncomputable def spec_l12One_G (p : Nat) : FuncId → Option CE := glist [(102, .pure (spec_l01Name_c p)), (106, .pure (spec_l00In_c p)), (132, .pure (spec_l02Degrees_c p))]
theorem spec_l12One_E (p : Nat) : EnvS Tryz.prog (spec_l12One_G p) := by
  apply glist_env; intro f ce h
  simp only [List.mem_cons, List.not_mem_nil, or_false, Prod.mk.injEq] at h
  rcases h with ⟨rfl, rfl⟩ | ⟨rfl, rfl⟩ | ⟨rfl, rfl⟩
  · exact spec_l01Name_s p
  · exact spec_l00In_s p
  · exact spec_l02Degrees_s p
theorem spec_l12One_I (p : Nat) : ∀ f lt, spec_l12One_G p f = some (.inl lt) → LTok Tryz.prog (spec_l12One_G p) 5 f lt := by
  apply glist_inl; intro f lt h
  simp only [List.mem_cons, List.not_mem_nil, or_false, Prod.mk.injEq, CE.inl.injEq, and_false, or_false, false_or, reduceCtorEq] at h
  
noncomputable def spec_l12One_p (p : Nat) (a0 : (Ty.T TSubstation)) : Option (Bool × Unit) :=
  ((spec_l01Name_p p a0.1).bind fun r1 => (bif r1.1 then ((spec_l00In_p p a0.2.1 (0 : Int) (15 : Int)).bind fun r2 => (bif r2.1 then ((spec_l00In_p p a0.2.2.1 (1 : Int) (100000 : Int)).bind fun r3 => (bif r3.1 then ((spec_l02Degrees_p p a0.2.2.2.1).bind fun r4 => (bif r4.1 then ((spec_l00In_p p a0.2.2.2.2 (0 : Int) (IntKind.wrap .i64 (a0.2.2.2.1 - (1 : Int)))).bind fun r5 => some (r5.1, ()))
 else some (false, ())))
 else some (false, ())))
 else some (false, ())))
 else some (false, ())))
theorem spec_l12One_run (p : Nat) (x : (parsT [.ptr TSubstation]).T) : acall Tryz.prog (spec_l12One_G p) 5 1 105 .leaf (argAVs [.ptr TSubstation] x) ⟨[], 0, []⟩ (outR [.bool]) = spec_l12One_p p x.1 := by kernel_rfl
noncomputable def spec_l12One_c (p : Nat) : PC := PC.fn true [.ptr TSubstation] [.bool] fun x => spec_l12One_p p x.1
theorem spec_l12One_s (p : Nat) : PSound Tryz.prog 105 (spec_l12One_c p) := pure_sound (spec_l12One_E p) Tryz.checked.mixed (spec_l12One_I p) LTok_leaf (fun _ => rfl) fun x y h => (spec_l12One_run p x).trans h
/-! spec.l12Ok -/
noncomputable def spec_l12Ok_l0_r {α : Type} (p : Nat) (v0 : List (Ty.T TSubstation)) (rec : (Int) → Option α) (v1 : Int) (k0 : (Bool) → Option α) (k1 : Unit → Option α) : Option α :=
  (bif (decide (v1 < (v0.length : Int))) then (if 0 ≤ v1 then (v0[v1.toNat]?).bind fun y1 => ((spec_l12One_p p y1).bind fun r2 => (bif (!r2.1) then (k0 false)
 else (bif (decide (v1 > (0 : Int))) then (if 0 ≤ (IntKind.wrap .i64 (v1 - (1 : Int))) then (v0[(IntKind.wrap .i64 (v1 - (1 : Int))).toNat]?).bind fun y3 => (if 0 ≤ v1 then (v0[v1.toNat]?).bind fun y4 => (bif (!(Op.bytesLess y3.1.toList y4.1.toList)) then (k0 false)
 else (rec (IntKind.wrap .i64 (v1 + (1 : Int))))) else none) else none)
 else (rec (IntKind.wrap .i64 (v1 + (1 : Int))))))) else none)
 else (k1 ()))
noncomputable def spec_l12Ok_l0_go {α : Type} (p : Nat) (v0 : List (Ty.T TSubstation)) : Nat → (Int) → ((Bool) → Option α) → (Unit → Option α) → Option α
  | 0, _, _, _ => none
  | q + 1, v1, k0, k1 => spec_l12Ok_l0_r p v0 (fun v1 => spec_l12Ok_l0_go p v0 q v1 k0 k1) v1 k0 k1
def spec_l12Ok_l0_sh : Sh := ⟨[⟨0, false, [.sl TSubstation]⟩, ⟨3, false, [.int .i64]⟩], 0, []⟩
noncomputable def spec_l12Ok_lc0 (p : Nat) : LC := LC.alts 0 [⟨0, spec_l12Ok_l0_sh, fun x {α} k => spec_l12Ok_l0_go p x.1.1.1 p x.1.2.1.1 (fun o1 => k .ret ⟨[(0, .one ⟨false, [.sl TSubstation x.1.1.1]⟩), (2, .one ⟨false, [.bool o1]⟩)], 0, []⟩) (fun _ => k (.exit 0) ⟨[(0, .one ⟨false, [.sl TSubstation x.1.1.1]⟩)], 0, []⟩)⟩]
noncomputable def spec_l12Ok_lt (p : Nat) : LT := (.node .leaf (.node (.node .leaf (.loop [0, 3] [0, 2] (some (spec_l12Ok_lc0 p)) .leaf)) .leaf))
noncomputable def spec_l12Ok_G (p : Nat) : FuncId → Option CE := glist [(105, .pure (spec_l12One_c p))]
noncomputable def spec_l12Ok_c0 : Code := codeAt [1, 0, 1, 0, 0] (bodyOf Tryz.f60)
noncomputable def spec_l12Ok_it0 {α : Type} (p n b : Nat) (k : Ex → St → Option α) (q : Nat) (st : St) : Option α :=
  iter (fun s q => aexec Tryz.prog (spec_l12Ok_G p) (fun g lt args st (k : D → St → Option α) => acall Tryz.prog (spec_l12Ok_G p) 5 (n + 0) g lt args st k) 5 b 36 spec_l12Ok_c0 .leaf s q) (canon b [0, 3]) q st (fun e s => k e (canon b [0, 2] s))
theorem spec_l12Ok_l0_step {α : Type} (p n : Nat) (k : Ex → St → Option α) (v0 : List (Ty.T TSubstation)) (q : Nat) (v1 : Int) : spec_l12Ok_it0 p n 0 k (q + 1) (spec_l12Ok_l0_sh.mk' (((v0, ()), (v1, ()), ()), (()))) =
  spec_l12Ok_l0_r p v0 (fun v1 => spec_l12Ok_it0 p n 0 k q (spec_l12Ok_l0_sh.mk' (((v0, ()), (v1, ()), ()), (())))) v1 (fun o1 => k .ret ⟨[(0, .one ⟨false, [.sl TSubstation v0]⟩), (2, .one ⟨false, [.bool o1]⟩)], 0, []⟩) (fun _ => k (.exit 0) ⟨[(0, .one ⟨false, [.sl TSubstation v0]⟩)], 0, []⟩) := by kernel_rfl
theorem spec_l12Ok_l0_ok {α : Type} (p n : Nat) (k : Ex → St → Option α) (v0 : List (Ty.T TSubstation)) : ∀ (q : Nat) (v1 : Int), spec_l12Ok_it0 p n 0 k q (spec_l12Ok_l0_sh.mk' (((v0, ()), (v1, ()), ()), (()))) =
  spec_l12Ok_l0_go p v0 q v1 (fun o1 => k .ret ⟨[(0, .one ⟨false, [.sl TSubstation v0]⟩), (2, .one ⟨false, [.bool o1]⟩)], 0, []⟩) (fun _ => k (.exit 0) ⟨[(0, .one ⟨false, [.sl TSubstation v0]⟩)], 0, []⟩) := by
  intro q
  induction q with
  | zero => intros; rfl
  | succ q ih => intro v1; rw [spec_l12Ok_l0_step]; simp only [ih]; rfl
theorem spec_l12Ok_ltok_60_ls (p : Nat) : loopsOf (bodyOf Tryz.f60) (spec_l12Ok_lt p) = [⟨spec_l12Ok_c0, [0, 3], [0, 2], spec_l12Ok_lc0 p, .leaf⟩] := by kernel_rfl
theorem spec_l12Ok_ltok_60_dep (p : Nat) : LT.dep (spec_l12Ok_lt p) = 0 := by kernel_rfl
theorem spec_l12Ok_ltok_60 (p : Nat) : LTok Tryz.prog (spec_l12Ok_G p) 5 60 (spec_l12Ok_lt p) := by
  intro α n base fn c hd hfn hc
  have hfn' : some fn = some Tryz.f60 := hfn.symm.trans Tryz.func60
  cases hfn'
  have hc' : c = bodyOf Tryz.f60 := by unfold bodyOf; rw [hc]; rfl
  subst hc'
  rw [spec_l12Ok_ltok_60_dep] at hd
  obtain ⟨n, rfl⟩ := Nat.exists_eq_add_of_le' hd
  apply LTS_of_loops
  rw [spec_l12Ok_ltok_60_ls]
  intro e he st k r h
  simp only [List.mem_cons, List.not_mem_nil, or_false] at he
  subst he
  · obtain ⟨a, ha, hb, x, rfl, h⟩ := altRun_ok h
    simp only [List.mem_cons, List.not_mem_nil, or_false] at ha
    subst ha
    · cases hb; exact ⟨p, (spec_l12Ok_l0_ok p n k _ p _).trans h⟩
theorem spec_l12Ok_E (p : Nat) : EnvS Tryz.prog (spec_l12Ok_G p) := by
  apply glist_env; intro f ce h
  simp only [List.mem_cons, List.not_mem_nil, or_false, Prod.mk.injEq] at h
  rcases h with ⟨rfl, rfl⟩
  · exact spec_l12One_s p
theorem spec_l12Ok_I (p : Nat) : ∀ f lt, spec_l12Ok_G p f = some (.inl lt) → LTok Tryz.prog (spec_l12Ok_G p) 5 f lt := by
  apply glist_inl; intro f lt h
  simp only [List.mem_cons, List.not_mem_nil, or_false, Prod.mk.injEq, CE.inl.injEq, and_false, or_false, false_or, reduceCtorEq] at h
  
noncomputable def spec_l12Ok_p (p : Nat) (a0 : (List (Ty.T TSubstation))) : Option (Bool × Unit) :=
  (spec_l12Ok_l0_go p a0 p (0 : Int) (fun o5 => some (o5, ())) (fun _ => some ((decide ((a0.length : Int) ≤ (12 : Int))), ())))
theorem spec_l12Ok_run (p : Nat) (x : (parsT [.val (.slice TSubstation)]).T) : acall Tryz.prog (spec_l12Ok_G p) 5 1 60 (spec_l12Ok_lt p) (argAVs [.val (.slice TSubstation)] x) ⟨[], 0, []⟩ (outR [.bool]) = spec_l12Ok_p p x.1 := by kernel_rfl
noncomputable def spec_l12Ok_c (p : Nat) : PC := PC.fn true [.val (.slice TSubstation)] [.bool] fun x => spec_l12Ok_p p x.1
theorem spec_l12Ok_s (p : Nat) : PSound Tryz.prog 60 (spec_l12Ok_c p) := pure_sound (spec_l12Ok_E p) Tryz.checked.mixed (spec_l12Ok_I p) (spec_l12Ok_ltok_60 p) (fun _ => rfl) fun x y h => (spec_l12Ok_run p x).trans h
/-! spec.l14Ok -/
noncomputable def spec_l14Ok_G (p : Nat) : FuncId → Option CE := glist [(106, .pure (spec_l00In_c p))]
theorem spec_l14Ok_E (p : Nat) : EnvS Tryz.prog (spec_l14Ok_G p) := by
  apply glist_env; intro f ce h
  simp only [List.mem_cons, List.not_mem_nil, or_false, Prod.mk.injEq] at h
  rcases h with ⟨rfl, rfl⟩
  · exact spec_l00In_s p
theorem spec_l14Ok_I (p : Nat) : ∀ f lt, spec_l14Ok_G p f = some (.inl lt) → LTok Tryz.prog (spec_l14Ok_G p) 5 f lt := by
  apply glist_inl; intro f lt h
  simp only [List.mem_cons, List.not_mem_nil, or_false, Prod.mk.injEq, CE.inl.injEq, and_false, or_false, false_or, reduceCtorEq] at h
  
noncomputable def spec_l14Ok_p (p : Nat) (a0 : (Ty.T TTank)) : Option (Bool × Unit) :=
  ((spec_l00In_p p a0.1 (1 : Int) (100 : Int)).bind fun r1 => (bif r1.1 then ((spec_l00In_p p a0.2.1 (1 : Int) (20 : Int)).bind fun r2 => (bif r2.1 then ((spec_l00In_p p a0.2.2 (0 : Int) (1000 : Int)).bind fun r3 => some (r3.1, ()))
 else some (false, ())))
 else some (false, ())))
theorem spec_l14Ok_run (p : Nat) (x : (parsT [.ptr TTank]).T) : acall Tryz.prog (spec_l14Ok_G p) 5 1 61 .leaf (argAVs [.ptr TTank] x) ⟨[], 0, []⟩ (outR [.bool]) = spec_l14Ok_p p x.1 := by kernel_rfl
noncomputable def spec_l14Ok_c (p : Nat) : PC := PC.fn true [.ptr TTank] [.bool] fun x => spec_l14Ok_p p x.1
theorem spec_l14Ok_s (p : Nat) : PSound Tryz.prog 61 (spec_l14Ok_c p) := pure_sound (spec_l14Ok_E p) Tryz.checked.mixed (spec_l14Ok_I p) LTok_leaf (fun _ => rfl) fun x y h => (spec_l14Ok_run p x).trans h
/-! spec.l16One -/
noncomputable def spec_l16One_G (p : Nat) : FuncId → Option CE := glist [(102, .pure (spec_l01Name_c p)), (106, .pure (spec_l00In_c p))]
theorem spec_l16One_E (p : Nat) : EnvS Tryz.prog (spec_l16One_G p) := by
  apply glist_env; intro f ce h
  simp only [List.mem_cons, List.not_mem_nil, or_false, Prod.mk.injEq] at h
  rcases h with ⟨rfl, rfl⟩ | ⟨rfl, rfl⟩
  · exact spec_l01Name_s p
  · exact spec_l00In_s p
theorem spec_l16One_I (p : Nat) : ∀ f lt, spec_l16One_G p f = some (.inl lt) → LTok Tryz.prog (spec_l16One_G p) 5 f lt := by
  apply glist_inl; intro f lt h
  simp only [List.mem_cons, List.not_mem_nil, or_false, Prod.mk.injEq, CE.inl.injEq, and_false, or_false, false_or, reduceCtorEq] at h
  
noncomputable def spec_l16One_p (p : Nat) (a0 : (Ty.T TFuel)) : Option (Bool × Unit) :=
  ((spec_l01Name_p p a0.1).bind fun r1 => (bif r1.1 then ((spec_l00In_p p a0.2.1 (0 : Int) (20 : Int)).bind fun r2 => (bif r2.1 then ((spec_l00In_p p a0.2.2.1 (0 : Int) (1000 : Int)).bind fun r3 => (bif r3.1 then ((spec_l00In_p p a0.2.2.2 (0 : Int) (20 : Int)).bind fun r4 => some (r4.1, ()))
 else some (false, ())))
 else some (false, ())))
 else some (false, ())))
theorem spec_l16One_run (p : Nat) (x : (parsT [.ptr TFuel]).T) : acall Tryz.prog (spec_l16One_G p) 5 1 107 .leaf (argAVs [.ptr TFuel] x) ⟨[], 0, []⟩ (outR [.bool]) = spec_l16One_p p x.1 := by kernel_rfl
noncomputable def spec_l16One_c (p : Nat) : PC := PC.fn true [.ptr TFuel] [.bool] fun x => spec_l16One_p p x.1
theorem spec_l16One_s (p : Nat) : PSound Tryz.prog 107 (spec_l16One_c p) := pure_sound (spec_l16One_E p) Tryz.checked.mixed (spec_l16One_I p) LTok_leaf (fun _ => rfl) fun x y h => (spec_l16One_run p x).trans h
/-! spec.l16Ok -/
noncomputable def spec_l16Ok_l0_r {α : Type} (p : Nat) (v0 : List (Ty.T TFuel)) (rec : (Int) → Option α) (v1 : Int) (k0 : (Bool) → Option α) (k1 : Unit → Option α) : Option α :=
  (bif (decide (v1 < (v0.length : Int))) then (if 0 ≤ v1 then (v0[v1.toNat]?).bind fun y1 => ((spec_l16One_p p y1).bind fun r2 => (bif (!r2.1) then (k0 false)
 else (bif (decide (v1 > (0 : Int))) then (if 0 ≤ (IntKind.wrap .i64 (v1 - (1 : Int))) then (v0[(IntKind.wrap .i64 (v1 - (1 : Int))).toNat]?).bind fun y3 => (if 0 ≤ v1 then (v0[v1.toNat]?).bind fun y4 => (bif (!(Op.bytesLess y3.1.toList y4.1.toList)) then (k0 false)
 else (rec (IntKind.wrap .i64 (v1 + (1 : Int))))) else none) else none)
 else (rec (IntKind.wrap .i64 (v1 + (1 : Int))))))) else none)
 else (k1 ()))
noncomputable def spec_l16Ok_l0_go {α : Type} (p : Nat) (v0 : List (Ty.T TFuel)) : Nat → (Int) → ((Bool) → Option α) → (Unit → Option α) → Option α
  | 0, _, _, _ => none
  | q + 1, v1, k0, k1 => spec_l16Ok_l0_r p v0 (fun v1 => spec_l16Ok_l0_go p v0 q v1 k0 k1) v1 k0 k1
def spec_l16Ok_l0_sh : Sh := ⟨[⟨0, false, [.sl TFuel]⟩, ⟨3, false, [.int .i64]⟩], 0, []⟩
noncomputable def spec_l16Ok_lc0 (p : Nat) : LC := LC.alts 0 [⟨0, spec_l16Ok_l0_sh, fun x {α} k => spec_l16Ok_l0_go p x.1.1.1 p x.1.2.1.1 (fun o1 => k .ret ⟨[(0, .one ⟨false, [.sl TFuel x.1.1.1]⟩), (2, .one ⟨false, [.bool o1]⟩)], 0, []⟩) (fun _ => k (.exit 0) ⟨[(0, .one ⟨false, [.sl TFuel x.1.1.1]⟩)], 0, []⟩)⟩]
noncomputable def spec_l16Ok_lt (p : Nat) : LT := (.node .leaf (.node (.node .leaf (.loop [0, 3] [0, 2] (some (spec_l16Ok_lc0 p)) .leaf)) .leaf))
noncomputable def spec_l16Ok_G (p : Nat) : FuncId → Option CE := glist [(107, .pure (spec_l16One_c p))]
noncomputable def spec_l16Ok_c0 : Code := codeAt [1, 0, 1, 0, 0] (bodyOf Tryz.f62)
noncomputable def spec_l16Ok_it0 {α : Type} (p n b : Nat) (k : Ex → St → Option α) (q : Nat) (st : St) : Option α :=
  iter (fun s q => aexec Tryz.prog (spec_l16Ok_G p) (fun g lt args st (k : D → St → Option α) => acall Tryz.prog (spec_l16Ok_G p) 5 (n + 0) g lt args st k) 5 b 36 spec_l16Ok_c0 .leaf s q) (canon b [0, 3]) q st (fun e s => k e (canon b [0, 2] s))
theorem spec_l16Ok_l0_step {α : Type} (p n : Nat) (k : Ex → St → Option α) (v0 : List (Ty.T TFuel)) (q : Nat) (v1 : Int) : spec_l16Ok_it0 p n 0 k (q + 1) (spec_l16Ok_l0_sh.mk' (((v0, ()), (v1, ()), ()), (()))) =
  spec_l16Ok_l0_r p v0 (fun v1 => spec_l16Ok_it0 p n 0 k q (spec_l16Ok_l0_sh.mk' (((v0, ()), (v1, ()), ()), (())))) v1 (fun o1 => k .ret ⟨[(0, .one ⟨false, [.sl TFuel v0]⟩), (2, .one ⟨false, [.bool o1]⟩)], 0, []⟩) (fun _ => k (.exit 0) ⟨[(0, .one ⟨false, [.sl TFuel v0]⟩)], 0, []⟩) := by kernel_rfl
theorem spec_l16Ok_l0_ok {α : Type} (p n : Nat) (k : Ex → St → Option α) (v0 : List (Ty.T TFuel)) : ∀ (q : Nat) (v1 : Int), spec_l16Ok_it0 p n 0 k q (spec_l16Ok_l0_sh.mk' (((v0, ()), (v1, ()), ()), (()))) =
  spec_l16Ok_l0_go p v0 q v1 (fun o1 => k .ret ⟨[(0, .one ⟨false, [.sl TFuel v0]⟩), (2, .one ⟨false, [.bool o1]⟩)], 0, []⟩) (fun _ => k (.exit 0) ⟨[(0, .one ⟨false, [.sl TFuel v0]⟩)], 0, []⟩) := by
  intro q
  induction q with
  | zero => intros; rfl
  | succ q ih => intro v1; rw [spec_l16Ok_l0_step]; simp only [ih]; rfl
theorem spec_l16Ok_ltok_62_ls (p : Nat) : loopsOf (bodyOf Tryz.f62) (spec_l16Ok_lt p) = [⟨spec_l16Ok_c0, [0, 3], [0, 2], spec_l16Ok_lc0 p, .leaf⟩] := by kernel_rfl
theorem spec_l16Ok_ltok_62_dep (p : Nat) : LT.dep (spec_l16Ok_lt p) = 0 := by kernel_rfl
theorem spec_l16Ok_ltok_62 (p : Nat) : LTok Tryz.prog (spec_l16Ok_G p) 5 62 (spec_l16Ok_lt p) := by
  intro α n base fn c hd hfn hc
  have hfn' : some fn = some Tryz.f62 := hfn.symm.trans Tryz.func62
  cases hfn'
  have hc' : c = bodyOf Tryz.f62 := by unfold bodyOf; rw [hc]; rfl
  subst hc'
  rw [spec_l16Ok_ltok_62_dep] at hd
  obtain ⟨n, rfl⟩ := Nat.exists_eq_add_of_le' hd
  apply LTS_of_loops
  rw [spec_l16Ok_ltok_62_ls]
  intro e he st k r h
  simp only [List.mem_cons, List.not_mem_nil, or_false] at he
  subst he
  · obtain ⟨a, ha, hb, x, rfl, h⟩ := altRun_ok h
    simp only [List.mem_cons, List.not_mem_nil, or_false] at ha
    subst ha
    · cases hb; exact ⟨p, (spec_l16Ok_l0_ok p n k _ p _).trans h⟩
theorem spec_l16Ok_E (p : Nat) : EnvS Tryz.prog (spec_l16Ok_G p) := by
  apply glist_env; intro f ce h
  simp only [List.mem_cons, List.not_mem_nil, or_false, Prod.mk.injEq] at h
  rcases h with ⟨rfl, rfl⟩
  · exact spec_l16One_s p
theorem spec_l16Ok_I (p : Nat) : ∀ f lt, spec_l16Ok_G p f = some (.inl lt) → LTok Tryz.prog (spec_l16Ok_G p) 5 f lt := by
  apply glist_inl; intro f lt h
  simp only [List.mem_cons, List.not_mem_nil, or_false, Prod.mk.injEq, CE.inl.injEq, and_false, or_false, false_or, reduceCtorEq] at h
  
noncomputable def spec_l16Ok_p (p : Nat) (a0 : (List (Ty.T TFuel))) : Option (Bool × Unit) :=
  (spec_l16Ok_l0_go p a0 p (0 : Int) (fun o5 => some (o5, ())) (fun _ => some ((decide ((a0.length : Int) ≤ (6 : Int))), ())))
theorem spec_l16Ok_run (p : Nat) (x : (parsT [.val (.slice TFuel)]).T) : acall Tryz.prog (spec_l16Ok_G p) 5 1 62 (spec_l16Ok_lt p) (argAVs [.val (.slice TFuel)] x) ⟨[], 0, []⟩ (outR [.bool]) = spec_l16Ok_p p x.1 := by kernel_rfl
noncomputable def spec_l16Ok_c (p : Nat) : PC := PC.fn true [.val (.slice TFuel)] [.bool] fun x => spec_l16Ok_p p x.1
theorem spec_l16Ok_s (p : Nat) : PSound Tryz.prog 62 (spec_l16Ok_c p) := pure_sound (spec_l16Ok_E p) Tryz.checked.mixed (spec_l16Ok_I p) (spec_l16Ok_ltok_62 p) (fun _ => rfl) fun x y h => (spec_l16Ok_run p x).trans h
/-! spec.l20One -/
noncomputable def spec_l20One_G (p : Nat) : FuncId → Option CE := glist [(102, .pure (spec_l01Name_c p)), (106, .pure (spec_l00In_c p))]
theorem spec_l20One_E (p : Nat) : EnvS Tryz.prog (spec_l20One_G p) := by
  apply glist_env; intro f ce h
  simp only [List.mem_cons, List.not_mem_nil, or_false, Prod.mk.injEq] at h
  rcases h with ⟨rfl, rfl⟩ | ⟨rfl, rfl⟩
  · exact spec_l01Name_s p
  · exact spec_l00In_s p
theorem spec_l20One_I (p : Nat) : ∀ f lt, spec_l20One_G p f = some (.inl lt) → LTok Tryz.prog (spec_l20One_G p) 5 f lt := by
  apply glist_inl; intro f lt h
  simp only [List.mem_cons, List.not_mem_nil, or_false, Prod.mk.injEq, CE.inl.injEq, and_false, or_false, false_or, reduceCtorEq] at h
  
noncomputable def spec_l20One_p (p : Nat) (a0 : (Ty.T TFuel)) : Option (Bool × Unit) :=
  ((spec_l01Name_p p a0.1).bind fun r1 => (bif r1.1 then ((spec_l00In_p p a0.2.1 (1 : Int) (100 : Int)).bind fun r2 => (bif r2.1 then ((spec_l00In_p p a0.2.2.1 (0 : Int) (100000 : Int)).bind fun r3 => (bif r3.1 then ((spec_l00In_p p a0.2.2.2 (0 : Int) (1000 : Int)).bind fun r4 => some (r4.1, ()))
 else some (false, ())))
 else some (false, ())))
 else some (false, ())))
theorem spec_l20One_run (p : Nat) (x : (parsT [.ptr TFuel]).T) : acall Tryz.prog (spec_l20One_G p) 5 1 108 .leaf (argAVs [.ptr TFuel] x) ⟨[], 0, []⟩ (outR [.bool]) = spec_l20One_p p x.1 := by kernel_rfl
noncomputable def spec_l20One_c (p : Nat) : PC := PC.fn true [.ptr TFuel] [.bool] fun x => spec_l20One_p p x.1
theorem spec_l20One_s (p : Nat) : PSound Tryz.prog 108 (spec_l20One_c p) := pure_sound (spec_l20One_E p) Tryz.checked.mixed (spec_l20One_I p) LTok_leaf (fun _ => rfl) fun x y h => (spec_l20One_run p x).trans h
/-! spec.l20Ok -/
noncomputable def spec_l20Ok_l0_r {α : Type} (p : Nat) (v0 : List (Ty.T TFuel)) (rec : (Int) → Option α) (v1 : Int) (k0 : (Bool) → Option α) (k1 : Unit → Option α) : Option α :=
  (bif (decide (v1 < (v0.length : Int))) then (if 0 ≤ v1 then (v0[v1.toNat]?).bind fun y1 => ((spec_l20One_p p y1).bind fun r2 => (bif (!r2.1) then (k0 false)
 else (bif (decide (v1 > (0 : Int))) then (if 0 ≤ (IntKind.wrap .i64 (v1 - (1 : Int))) then (v0[(IntKind.wrap .i64 (v1 - (1 : Int))).toNat]?).bind fun y3 => (if 0 ≤ v1 then (v0[v1.toNat]?).bind fun y4 => (bif (!(Op.bytesLess y3.1.toList y4.1.toList)) then (k0 false)
 else (rec (IntKind.wrap .i64 (v1 + (1 : Int))))) else none) else none)
 else (rec (IntKind.wrap .i64 (v1 + (1 : Int))))))) else none)
 else (k1 ()))
noncomputable def spec_l20Ok_l0_go {α : Type} (p : Nat) (v0 : List (Ty.T TFuel)) : Nat → (Int) → ((Bool) → Option α) → (Unit → Option α) → Option α
  | 0, _, _, _ => none
  | q + 1, v1, k0, k1 => spec_l20Ok_l0_r p v0 (fun v1 => spec_l20Ok_l0_go p v0 q v1 k0 k1) v1 k0 k1
def spec_l20Ok_l0_sh : Sh := ⟨[⟨0, false, [.sl TFuel]⟩, ⟨3, false, [.int .i64]⟩], 0, []⟩
noncomputable def spec_l20Ok_lc0 (p : Nat) : LC := LC.alts 0 [⟨0, spec_l20Ok_l0_sh, fun x {α} k => spec_l20Ok_l0_go p x.1.1.1 p x.1.2.1.1 (fun o1 => k .ret ⟨[(0, .one ⟨false, [.sl TFuel x.1.1.1]⟩), (2, .one ⟨false, [.bool o1]⟩)], 0, []⟩) (fun _ => k (.exit 0) ⟨[(0, .one ⟨false, [.sl TFuel x.1.1.1]⟩)], 0, []⟩)⟩]
noncomputable def spec_l20Ok_lt (p : Nat) : LT := (.node .leaf (.node (.node .leaf (.loop [0, 3] [0, 2] (some (spec_l20Ok_lc0 p)) .leaf)) .leaf))
noncomputable def spec_l20Ok_G (p : Nat) : FuncId → Option CE := glist [(108, .pure (spec_l20One_c p))]
noncomputable def spec_l20Ok_c0 : Code := codeAt [1, 0, 1, 0, 0] (bodyOf Tryz.f63)
noncomputable def spec_l20Ok_it0 {α : Type} (p n b : Nat) (k : Ex → St → Option α) (q : Nat) (st : St) : Option α :=
  iter (fun s q => aexec Tryz.prog (spec_l20Ok_G p) (fun g lt args st (k : D → St → Option α) => acall Tryz.prog (spec_l20Ok_G p) 5 (n + 0) g lt args st k) 5 b 36 spec_l20Ok_c0 .leaf s q) (canon b [0, 3]) q st (fun e s => k e (canon b [0, 2] s))
theorem spec_l20Ok_l0_step {α : Type} (p n : Nat) (k : Ex → St → Option α) (v0 : List (Ty.T TFuel)) (q : Nat) (v1 : Int) : spec_l20Ok_it0 p n 0 k (q + 1) (spec_l20Ok_l0_sh.mk' (((v0, ()), (v1, ()), ()), (()))) =
  spec_l20Ok_l0_r p v0 (fun v1 => spec_l20Ok_it0 p n 0 k q (spec_l20Ok_l0_sh.mk' (((v0, ()), (v1, ()), ()), (())))) v1 (fun o1 => k .ret ⟨[(0, .one ⟨false, [.sl TFuel v0]⟩), (2, .one ⟨false, [.bool o1]⟩)], 0, []⟩) (fun _ => k (.exit 0) ⟨[(0, .one ⟨false, [.sl TFuel v0]⟩)], 0, []⟩) := by kernel_rfl
theorem spec_l20Ok_l0_ok {α : Type} (p n : Nat) (k : Ex → St → Option α) (v0 : List (Ty.T TFuel)) : ∀ (q : Nat) (v1 : Int), spec_l20Ok_it0 p n 0 k q (spec_l20Ok_l0_sh.mk' (((v0, ()), (v1, ()), ()), (()))) =
  spec_l20Ok_l0_go p v0 q v1 (fun o1 => k .ret ⟨[(0, .one ⟨false, [.sl TFuel v0]⟩), (2, .one ⟨false, [.bool o1]⟩)], 0, []⟩) (fun _ => k (.exit 0) ⟨[(0, .one ⟨false, [.sl TFuel v0]⟩)], 0, []⟩) := by
  intro q
  induction q with
  | zero => intros; rfl
  | succ q ih => intro v1; rw [spec_l20Ok_l0_step]; simp only [ih]; rfl
theorem spec_l20Ok_ltok_63_ls (p : Nat) : loopsOf (bodyOf Tryz.f63) (spec_l20Ok_lt p) = [⟨spec_l20Ok_c0, [0, 3], [0, 2], spec_l20Ok_lc0 p, .leaf⟩] := by kernel_rfl
theorem spec_l20Ok_ltok_63_dep (p : Nat) : LT.dep (spec_l20Ok_lt p) = 0 := by kernel_rfl
theorem spec_l20Ok_ltok_63 (p : Nat) : LTok Tryz.prog (spec_l20Ok_G p) 5 63 (spec_l20Ok_lt p) := by
  intro α n base fn c hd hfn hc
  have hfn' : some fn = some Tryz.f63 := hfn.symm.trans Tryz.func63
  cases hfn'
  have hc' : c = bodyOf Tryz.f63 := by unfold bodyOf; rw [hc]; rfl
  subst hc'
  rw [spec_l20Ok_ltok_63_dep] at hd
  obtain ⟨n, rfl⟩ := Nat.exists_eq_add_of_le' hd
  apply LTS_of_loops
  rw [spec_l20Ok_ltok_63_ls]
  intro e he st k r h
  simp only [List.mem_cons, List.not_mem_nil, or_false] at he
  subst he
  · obtain ⟨a, ha, hb, x, rfl, h⟩ := altRun_ok h
    simp only [List.mem_cons, List.not_mem_nil, or_false] at ha
    subst ha
    · cases hb; exact ⟨p, (spec_l20Ok_l0_ok p n k _ p _).trans h⟩
theorem spec_l20Ok_E (p : Nat) : EnvS Tryz.prog (spec_l20Ok_G p) := by
  apply glist_env; intro f ce h
  simp only [List.mem_cons, List.not_mem_nil, or_false, Prod.mk.injEq] at h
  rcases h with ⟨rfl, rfl⟩
  · exact spec_l20One_s p
theorem spec_l20Ok_I (p : Nat) : ∀ f lt, spec_l20Ok_G p f = some (.inl lt) → LTok Tryz.prog (spec_l20Ok_G p) 5 f lt := by
  apply glist_inl; intro f lt h
  simp only [List.mem_cons, List.not_mem_nil, or_false, Prod.mk.injEq, CE.inl.injEq, and_false, or_false, false_or, reduceCtorEq] at h
  
noncomputable def spec_l20Ok_p (p : Nat) (a0 : (List (Ty.T TFuel))) : Option (Bool × Unit) :=
  (spec_l20Ok_l0_go p a0 p (0 : Int) (fun o5 => some (o5, ())) (fun _ => some ((decide ((a0.length : Int) ≤ (8 : Int))), ())))
theorem spec_l20Ok_run (p : Nat) (x : (parsT [.val (.slice TFuel)]).T) : acall Tryz.prog (spec_l20Ok_G p) 5 1 63 (spec_l20Ok_lt p) (argAVs [.val (.slice TFuel)] x) ⟨[], 0, []⟩ (outR [.bool]) = spec_l20Ok_p p x.1 := by kernel_rfl
noncomputable def spec_l20Ok_c (p : Nat) : PC := PC.fn true [.val (.slice TFuel)] [.bool] fun x => spec_l20Ok_p p x.1
theorem spec_l20Ok_s (p : Nat) : PSound Tryz.prog 63 (spec_l20Ok_c p) := pure_sound (spec_l20Ok_E p) Tryz.checked.mixed (spec_l20Ok_I p) (spec_l20Ok_ltok_63 p) (fun _ => rfl) fun x y h => (spec_l20Ok_run p x).trans h
/-! spec.l22One -/
noncomputable def spec_l22One_G (p : Nat) : FuncId → Option CE := glist [(102, .pure (spec_l01Name_c p)), (106, .pure (spec_l00In_c p))]
theorem spec_l22One_E (p : Nat) : EnvS Tryz.prog (spec_l22One_G p) := by
  apply glist_env; intro f ce h
  simp only [List.mem_cons, List.not_mem_nil, or_false, Prod.mk.injEq] at h
  rcases h with ⟨rfl, rfl⟩ | ⟨rfl, rfl⟩
  · exact spec_l01Name_s p
  · exact spec_l00In_s p
theorem spec_l22One_I (p : Nat) : ∀ f lt, spec_l22One_G p f = some (.inl lt) → LTok Tryz.prog (spec_l22One_G p) 5 f lt := by
  apply glist_inl; intro f lt h
  simp only [List.mem_cons, List.not_mem_nil, or_false, Prod.mk.injEq, CE.inl.injEq, and_false, or_false, false_or, reduceCtorEq] at h
  
noncomputable def spec_l22One_p (p : Nat) (a0 : (Ty.T TTenant)) : Option (Bool × Unit) :=
  ((spec_l01Name_p p a0.1).bind fun r1 => (bif r1.1 then ((spec_l00In_p p a0.2.1 (1 : Int) (10000 : Int)).bind fun r2 => (bif r2.1 then ((spec_l00In_p p a0.2.2 (0 : Int) (1000000 : Int)).bind fun r3 => some (r3.1, ()))
 else some (false, ())))
 else some (false, ())))
theorem spec_l22One_run (p : Nat) (x : (parsT [.ptr TTenant]).T) : acall Tryz.prog (spec_l22One_G p) 5 1 109 .leaf (argAVs [.ptr TTenant] x) ⟨[], 0, []⟩ (outR [.bool]) = spec_l22One_p p x.1 := by kernel_rfl
noncomputable def spec_l22One_c (p : Nat) : PC := PC.fn true [.ptr TTenant] [.bool] fun x => spec_l22One_p p x.1
theorem spec_l22One_s (p : Nat) : PSound Tryz.prog 109 (spec_l22One_c p) := pure_sound (spec_l22One_E p) Tryz.checked.mixed (spec_l22One_I p) LTok_leaf (fun _ => rfl) fun x y h => (spec_l22One_run p x).trans h
/-! spec.l22Ok -/
noncomputable def spec_l22Ok_l0_r {α : Type} (p : Nat) (v0 : List (Ty.T TTenant)) (rec : (Int) → Option α) (v1 : Int) (k0 : (Bool) → Option α) (k1 : Unit → Option α) : Option α :=
  (bif (decide (v1 < (v0.length : Int))) then (if 0 ≤ v1 then (v0[v1.toNat]?).bind fun y1 => ((spec_l22One_p p y1).bind fun r2 => (bif (!r2.1) then (k0 false)
 else (bif (decide (v1 > (0 : Int))) then (if 0 ≤ (IntKind.wrap .i64 (v1 - (1 : Int))) then (v0[(IntKind.wrap .i64 (v1 - (1 : Int))).toNat]?).bind fun y3 => (if 0 ≤ v1 then (v0[v1.toNat]?).bind fun y4 => (bif (!(Op.bytesLess y3.1.toList y4.1.toList)) then (k0 false)
 else (rec (IntKind.wrap .i64 (v1 + (1 : Int))))) else none) else none)
 else (rec (IntKind.wrap .i64 (v1 + (1 : Int))))))) else none)
 else (k1 ()))
noncomputable def spec_l22Ok_l0_go {α : Type} (p : Nat) (v0 : List (Ty.T TTenant)) : Nat → (Int) → ((Bool) → Option α) → (Unit → Option α) → Option α
  | 0, _, _, _ => none
  | q + 1, v1, k0, k1 => spec_l22Ok_l0_r p v0 (fun v1 => spec_l22Ok_l0_go p v0 q v1 k0 k1) v1 k0 k1
def spec_l22Ok_l0_sh : Sh := ⟨[⟨0, false, [.sl TTenant]⟩, ⟨3, false, [.int .i64]⟩], 0, []⟩
noncomputable def spec_l22Ok_lc0 (p : Nat) : LC := LC.alts 0 [⟨0, spec_l22Ok_l0_sh, fun x {α} k => spec_l22Ok_l0_go p x.1.1.1 p x.1.2.1.1 (fun o1 => k .ret ⟨[(0, .one ⟨false, [.sl TTenant x.1.1.1]⟩), (2, .one ⟨false, [.bool o1]⟩)], 0, []⟩) (fun _ => k (.exit 0) ⟨[(0, .one ⟨false, [.sl TTenant x.1.1.1]⟩)], 0, []⟩)⟩]
noncomputable def spec_l22Ok_lt (p : Nat) : LT := (.node .leaf (.node (.node .leaf (.loop [0, 3] [0, 2] (some (spec_l22Ok_lc0 p)) .leaf)) .leaf))
noncomputable def spec_l22Ok_G (p : Nat) : FuncId → Option CE := glist [(109, .pure (spec_l22One_c p))]
noncomputable def spec_l22Ok_c0 : Code := codeAt [1, 0, 1, 0, 0] (bodyOf Tryz.f64)
noncomputable def spec_l22Ok_it0 {α : Type} (p n b : Nat) (k : Ex → St → Option α) (q : Nat) (st : St) : Option α :=
  iter (fun s q => aexec Tryz.prog (spec_l22Ok_G p) (fun g lt args st (k : D → St → Option α) => acall Tryz.prog (spec_l22Ok_G p) 5 (n + 0) g lt args st k) 5 b 36 spec_l22Ok_c0 .leaf s q) (canon b [0, 3]) q st (fun e s => k e (canon b [0, 2] s))
theorem spec_l22Ok_l0_step {α : Type} (p n : Nat) (k : Ex → St → Option α) (v0 : List (Ty.T TTenant)) (q : Nat) (v1 : Int) : spec_l22Ok_it0 p n 0 k (q + 1) (spec_l22Ok_l0_sh.mk' (((v0, ()), (v1, ()), ()), (()))) =
  spec_l22Ok_l0_r p v0 (fun v1 => spec_l22Ok_it0 p n 0 k q (spec_l22Ok_l0_sh.mk' (((v0, ()), (v1, ()), ()), (())))) v1 (fun o1 => k .ret ⟨[(0, .one ⟨false, [.sl TTenant v0]⟩), (2, .one ⟨false, [.bool o1]⟩)], 0, []⟩) (fun _ => k (.exit 0) ⟨[(0, .one ⟨false, [.sl TTenant v0]⟩)], 0, []⟩) := by kernel_rfl
theorem spec_l22Ok_l0_ok {α : Type} (p n : Nat) (k : Ex → St → Option α) (v0 : List (Ty.T TTenant)) : ∀ (q : Nat) (v1 : Int), spec_l22Ok_it0 p n 0 k q (spec_l22Ok_l0_sh.mk' (((v0, ()), (v1, ()), ()), (()))) =
  spec_l22Ok_l0_go p v0 q v1 (fun o1 => k .ret ⟨[(0, .one ⟨false, [.sl TTenant v0]⟩), (2, .one ⟨false, [.bool o1]⟩)], 0, []⟩) (fun _ => k (.exit 0) ⟨[(0, .one ⟨false, [.sl TTenant v0]⟩)], 0, []⟩) := by
  intro q
  induction q with
  | zero => intros; rfl
  | succ q ih => intro v1; rw [spec_l22Ok_l0_step]; simp only [ih]; rfl
theorem spec_l22Ok_ltok_64_ls (p : Nat) : loopsOf (bodyOf Tryz.f64) (spec_l22Ok_lt p) = [⟨spec_l22Ok_c0, [0, 3], [0, 2], spec_l22Ok_lc0 p, .leaf⟩] := by kernel_rfl
theorem spec_l22Ok_ltok_64_dep (p : Nat) : LT.dep (spec_l22Ok_lt p) = 0 := by kernel_rfl
theorem spec_l22Ok_ltok_64 (p : Nat) : LTok Tryz.prog (spec_l22Ok_G p) 5 64 (spec_l22Ok_lt p) := by
  intro α n base fn c hd hfn hc
  have hfn' : some fn = some Tryz.f64 := hfn.symm.trans Tryz.func64
  cases hfn'
  have hc' : c = bodyOf Tryz.f64 := by unfold bodyOf; rw [hc]; rfl
  subst hc'
  rw [spec_l22Ok_ltok_64_dep] at hd
  obtain ⟨n, rfl⟩ := Nat.exists_eq_add_of_le' hd
  apply LTS_of_loops
  rw [spec_l22Ok_ltok_64_ls]
  intro e he st k r h
  simp only [List.mem_cons, List.not_mem_nil, or_false] at he
  subst he
  · obtain ⟨a, ha, hb, x, rfl, h⟩ := altRun_ok h
    simp only [List.mem_cons, List.not_mem_nil, or_false] at ha
    subst ha
    · cases hb; exact ⟨p, (spec_l22Ok_l0_ok p n k _ p _).trans h⟩
theorem spec_l22Ok_E (p : Nat) : EnvS Tryz.prog (spec_l22Ok_G p) := by
  apply glist_env; intro f ce h
  simp only [List.mem_cons, List.not_mem_nil, or_false, Prod.mk.injEq] at h
  rcases h with ⟨rfl, rfl⟩
  · exact spec_l22One_s p
theorem spec_l22Ok_I (p : Nat) : ∀ f lt, spec_l22Ok_G p f = some (.inl lt) → LTok Tryz.prog (spec_l22Ok_G p) 5 f lt := by
  apply glist_inl; intro f lt h
  simp only [List.mem_cons, List.not_mem_nil, or_false, Prod.mk.injEq, CE.inl.injEq, and_false, or_false, false_or, reduceCtorEq] at h
  
noncomputable def spec_l22Ok_p (p : Nat) (a0 : (List (Ty.T TTenant))) : Option (Bool × Unit) :=
  (spec_l22Ok_l0_go p a0 p (0 : Int) (fun o5 => some (o5, ())) (fun _ => some ((decide ((a0.length : Int) ≤ (12 : Int))), ())))
theorem spec_l22Ok_run (p : Nat) (x : (parsT [.val (.slice TTenant)]).T) : acall Tryz.prog (spec_l22Ok_G p) 5 1 64 (spec_l22Ok_lt p) (argAVs [.val (.slice TTenant)] x) ⟨[], 0, []⟩ (outR [.bool]) = spec_l22Ok_p p x.1 := by kernel_rfl
noncomputable def spec_l22Ok_c (p : Nat) : PC := PC.fn true [.val (.slice TTenant)] [.bool] fun x => spec_l22Ok_p p x.1
theorem spec_l22Ok_s (p : Nat) : PSound Tryz.prog 64 (spec_l22Ok_c p) := pure_sound (spec_l22Ok_E p) Tryz.checked.mixed (spec_l22Ok_I p) (spec_l22Ok_ltok_64 p) (fun _ => rfl) fun x y h => (spec_l22Ok_run p x).trans h
/-! spec.l26One -/
noncomputable def spec_l26One_G (p : Nat) : FuncId → Option CE := glist [(102, .pure (spec_l01Name_c p)), (106, .pure (spec_l00In_c p))]
theorem spec_l26One_E (p : Nat) : EnvS Tryz.prog (spec_l26One_G p) := by
  apply glist_env; intro f ce h
  simp only [List.mem_cons, List.not_mem_nil, or_false, Prod.mk.injEq] at h
  rcases h with ⟨rfl, rfl⟩ | ⟨rfl, rfl⟩
  · exact spec_l01Name_s p
  · exact spec_l00In_s p
theorem spec_l26One_I (p : Nat) : ∀ f lt, spec_l26One_G p f = some (.inl lt) → LTok Tryz.prog (spec_l26One_G p) 5 f lt := by
  apply glist_inl; intro f lt h
  simp only [List.mem_cons, List.not_mem_nil, or_false, Prod.mk.injEq, CE.inl.injEq, and_false, or_false, false_or, reduceCtorEq] at h
  
noncomputable def spec_l26One_p (p : Nat) (a0 : (Ty.T TDuty)) : Option (Bool × Unit) :=
  ((spec_l01Name_p p a0.1).bind fun r1 => (bif r1.1 then ((spec_l00In_p p a0.2.1 (0 : Int) (10000 : Int)).bind fun r2 => (bif r2.1 then ((spec_l00In_p p a0.2.2.1 (1 : Int) (48 : Int)).bind fun r3 => some (r3.1, ()))
 else some (false, ())))
 else some (false, ())))
theorem spec_l26One_run (p : Nat) (x : (parsT [.ptr TDuty]).T) : acall Tryz.prog (spec_l26One_G p) 5 1 110 .leaf (argAVs [.ptr TDuty] x) ⟨[], 0, []⟩ (outR [.bool]) = spec_l26One_p p x.1 := by kernel_rfl
noncomputable def spec_l26One_c (p : Nat) : PC := PC.fn true [.ptr TDuty] [.bool] fun x => spec_l26One_p p x.1
theorem spec_l26One_s (p : Nat) : PSound Tryz.prog 110 (spec_l26One_c p) := pure_sound (spec_l26One_E p) Tryz.checked.mixed (spec_l26One_I p) LTok_leaf (fun _ => rfl) fun x y h => (spec_l26One_run p x).trans h
/-! spec.l26Ok -/
noncomputable def spec_l26Ok_l0_r {α : Type} (p : Nat) (v0 : List (Ty.T TDuty)) (rec : (Int) → Option α) (v1 : Int) (k0 : (Bool) → Option α) (k1 : Unit → Option α) : Option α :=
  (bif (decide (v1 < (v0.length : Int))) then (if 0 ≤ v1 then (v0[v1.toNat]?).bind fun y1 => ((spec_l26One_p p y1).bind fun r2 => (bif (!r2.1) then (k0 false)
 else (bif (decide (v1 > (0 : Int))) then (if 0 ≤ (IntKind.wrap .i64 (v1 - (1 : Int))) then (v0[(IntKind.wrap .i64 (v1 - (1 : Int))).toNat]?).bind fun y3 => (if 0 ≤ v1 then (v0[v1.toNat]?).bind fun y4 => (bif (!((Op.bytesLess y3.1.toList y4.1.toList) || (y3.1.toList == y4.1.toList))) then (k0 false)
 else (if 0 ≤ (IntKind.wrap .i64 (v1 - (1 : Int))) then (v0[(IntKind.wrap .i64 (v1 - (1 : Int))).toNat]?).bind fun y5 => (if 0 ≤ v1 then (v0[v1.toNat]?).bind fun y6 => (bif (y5.1.toList == y6.1.toList) then (if 0 ≤ (IntKind.wrap .i64 (v1 - (1 : Int))) then (v0[(IntKind.wrap .i64 (v1 - (1 : Int))).toNat]?).bind fun y7 => (if 0 ≤ (IntKind.wrap .i64 (v1 - (1 : Int))) then (v0[(IntKind.wrap .i64 (v1 - (1 : Int))).toNat]?).bind fun y8 => (if 0 ≤ v1 then (v0[v1.toNat]?).bind fun y9 => (bif (decide ((IntKind.wrap .i64 (y7.2.1 + y8.2.2.1)) > y9.2.1)) then (k0 false)
 else (rec (IntKind.wrap .i64 (v1 + (1 : Int))))) else none) else none) else none)
 else (rec (IntKind.wrap .i64 (v1 + (1 : Int))))) else none) else none)) else none) else none)
 else (rec (IntKind.wrap .i64 (v1 + (1 : Int))))))) else none)
 else (k1 ()))
noncomputable def spec_l26Ok_l0_go {α : Type} (p : Nat) (v0 : List (Ty.T TDuty)) : Nat → (Int) → ((Bool) → Option α) → (Unit → Option α) → Option α
  | 0, _, _, _ => none
  | q + 1, v1, k0, k1 => spec_l26Ok_l0_r p v0 (fun v1 => spec_l26Ok_l0_go p v0 q v1 k0 k1) v1 k0 k1
def spec_l26Ok_l0_sh : Sh := ⟨[⟨0, false, [.sl TDuty]⟩, ⟨3, false, [.int .i64]⟩], 0, []⟩
noncomputable def spec_l26Ok_lc0 (p : Nat) : LC := LC.alts 0 [⟨0, spec_l26Ok_l0_sh, fun x {α} k => spec_l26Ok_l0_go p x.1.1.1 p x.1.2.1.1 (fun o1 => k .ret ⟨[(0, .one ⟨false, [.sl TDuty x.1.1.1]⟩), (2, .one ⟨false, [.bool o1]⟩)], 0, []⟩) (fun _ => k (.exit 0) ⟨[(0, .one ⟨false, [.sl TDuty x.1.1.1]⟩)], 0, []⟩)⟩]
noncomputable def spec_l26Ok_lt (p : Nat) : LT := (.node .leaf (.node (.node .leaf (.loop [0, 3] [0, 2] (some (spec_l26Ok_lc0 p)) .leaf)) .leaf))
noncomputable def spec_l26Ok_G (p : Nat) : FuncId → Option CE := glist [(110, .pure (spec_l26One_c p))]
noncomputable def spec_l26Ok_c0 : Code := codeAt [1, 0, 1, 0, 0] (bodyOf Tryz.f65)
noncomputable def spec_l26Ok_it0 {α : Type} (p n b : Nat) (k : Ex → St → Option α) (q : Nat) (st : St) : Option α :=
  iter (fun s q => aexec Tryz.prog (spec_l26Ok_G p) (fun g lt args st (k : D → St → Option α) => acall Tryz.prog (spec_l26Ok_G p) 5 (n + 0) g lt args st k) 5 b 69 spec_l26Ok_c0 .leaf s q) (canon b [0, 3]) q st (fun e s => k e (canon b [0, 2] s))
theorem spec_l26Ok_l0_step {α : Type} (p n : Nat) (k : Ex → St → Option α) (v0 : List (Ty.T TDuty)) (q : Nat) (v1 : Int) : spec_l26Ok_it0 p n 0 k (q + 1) (spec_l26Ok_l0_sh.mk' (((v0, ()), (v1, ()), ()), (()))) =
  spec_l26Ok_l0_r p v0 (fun v1 => spec_l26Ok_it0 p n 0 k q (spec_l26Ok_l0_sh.mk' (((v0, ()), (v1, ()), ()), (())))) v1 (fun o1 => k .ret ⟨[(0, .one ⟨false, [.sl TDuty v0]⟩), (2, .one ⟨false, [.bool o1]⟩)], 0, []⟩) (fun _ => k (.exit 0) ⟨[(0, .one ⟨false, [.sl TDuty v0]⟩)], 0, []⟩) := by kernel_rfl
theorem spec_l26Ok_l0_ok {α : Type} (p n : Nat) (k : Ex → St → Option α) (v0 : List (Ty.T TDuty)) : ∀ (q : Nat) (v1 : Int), spec_l26Ok_it0 p n 0 k q (spec_l26Ok_l0_sh.mk' (((v0, ()), (v1, ()), ()), (()))) =
  spec_l26Ok_l0_go p v0 q v1 (fun o1 => k .ret ⟨[(0, .one ⟨false, [.sl TDuty v0]⟩), (2, .one ⟨false, [.bool o1]⟩)], 0, []⟩) (fun _ => k (.exit 0) ⟨[(0, .one ⟨false, [.sl TDuty v0]⟩)], 0, []⟩) := by
  intro q
  induction q with
  | zero => intros; rfl
  | succ q ih => intro v1; rw [spec_l26Ok_l0_step]; simp only [ih]; rfl
theorem spec_l26Ok_ltok_65_ls (p : Nat) : loopsOf (bodyOf Tryz.f65) (spec_l26Ok_lt p) = [⟨spec_l26Ok_c0, [0, 3], [0, 2], spec_l26Ok_lc0 p, .leaf⟩] := by kernel_rfl
theorem spec_l26Ok_ltok_65_dep (p : Nat) : LT.dep (spec_l26Ok_lt p) = 0 := by kernel_rfl
theorem spec_l26Ok_ltok_65 (p : Nat) : LTok Tryz.prog (spec_l26Ok_G p) 5 65 (spec_l26Ok_lt p) := by
  intro α n base fn c hd hfn hc
  have hfn' : some fn = some Tryz.f65 := hfn.symm.trans Tryz.func65
  cases hfn'
  have hc' : c = bodyOf Tryz.f65 := by unfold bodyOf; rw [hc]; rfl
  subst hc'
  rw [spec_l26Ok_ltok_65_dep] at hd
  obtain ⟨n, rfl⟩ := Nat.exists_eq_add_of_le' hd
  apply LTS_of_loops
  rw [spec_l26Ok_ltok_65_ls]
  intro e he st k r h
  simp only [List.mem_cons, List.not_mem_nil, or_false] at he
  subst he
  · obtain ⟨a, ha, hb, x, rfl, h⟩ := altRun_ok h
    simp only [List.mem_cons, List.not_mem_nil, or_false] at ha
    subst ha
    · cases hb; exact ⟨p, (spec_l26Ok_l0_ok p n k _ p _).trans h⟩
theorem spec_l26Ok_E (p : Nat) : EnvS Tryz.prog (spec_l26Ok_G p) := by
  apply glist_env; intro f ce h
  simp only [List.mem_cons, List.not_mem_nil, or_false, Prod.mk.injEq] at h
  rcases h with ⟨rfl, rfl⟩
  · exact spec_l26One_s p
theorem spec_l26Ok_I (p : Nat) : ∀ f lt, spec_l26Ok_G p f = some (.inl lt) → LTok Tryz.prog (spec_l26Ok_G p) 5 f lt := by
  apply glist_inl; intro f lt h
  simp only [List.mem_cons, List.not_mem_nil, or_false, Prod.mk.injEq, CE.inl.injEq, and_false, or_false, false_or, reduceCtorEq] at h
  
noncomputable def spec_l26Ok_p (p : Nat) (a0 : (List (Ty.T TDuty))) : Option (Bool × Unit) :=
  (spec_l26Ok_l0_go p a0 p (0 : Int) (fun o10 => some (o10, ())) (fun _ => some ((decide ((a0.length : Int) ≤ (32 : Int))), ())))
theorem spec_l26Ok_run (p : Nat) (x : (parsT [.val (.slice TDuty)]).T) : acall Tryz.prog (spec_l26Ok_G p) 5 1 65 (spec_l26Ok_lt p) (argAVs [.val (.slice TDuty)] x) ⟨[], 0, []⟩ (outR [.bool]) = spec_l26Ok_p p x.1 := by kernel_rfl
noncomputable def spec_l26Ok_c (p : Nat) : PC := PC.fn true [.val (.slice TDuty)] [.bool] fun x => spec_l26Ok_p p x.1
theorem spec_l26Ok_s (p : Nat) : PSound Tryz.prog 65 (spec_l26Ok_c p) := pure_sound (spec_l26Ok_E p) Tryz.checked.mixed (spec_l26Ok_I p) (spec_l26Ok_ltok_65 p) (fun _ => rfl) fun x y h => (spec_l26Ok_run p x).trans h
/-! spec.l32Ok -/
noncomputable def spec_l32Ok_G (p : Nat) : FuncId → Option CE := glist [(57, .pure (spec_l30Flows_c p)), (58, .pure (spec_l18Ok_c p)), (59, .pure (spec_l08List_c p)), (60, .pure (spec_l12Ok_c p)), (61, .pure (spec_l14Ok_c p)), (62, .pure (spec_l16Ok_c p)), (63, .pure (spec_l20Ok_c p)), (64, .pure (spec_l22Ok_c p)), (65, .pure (spec_l26Ok_c p))]
theorem spec_l32Ok_E (p : Nat) : EnvS Tryz.prog (spec_l32Ok_G p) := by
  apply glist_env; intro f ce h
  simp only [List.mem_cons, List.not_mem_nil, or_false, Prod.mk.injEq] at h
  rcases h with ⟨rfl, rfl⟩ | ⟨rfl, rfl⟩ | ⟨rfl, rfl⟩ | ⟨rfl, rfl⟩ | ⟨rfl, rfl⟩ | ⟨rfl, rfl⟩ | ⟨rfl, rfl⟩ | ⟨rfl, rfl⟩ | ⟨rfl, rfl⟩
  · exact spec_l30Flows_s p
  · exact spec_l18Ok_s p
  · exact spec_l08List_s p
  · exact spec_l12Ok_s p
  · exact spec_l14Ok_s p
  · exact spec_l16Ok_s p
  · exact spec_l20Ok_s p
  · exact spec_l22Ok_s p
  · exact spec_l26Ok_s p
theorem spec_l32Ok_I (p : Nat) : ∀ f lt, spec_l32Ok_G p f = some (.inl lt) → LTok Tryz.prog (spec_l32Ok_G p) 5 f lt := by
  apply glist_inl; intro f lt h
  simp only [List.mem_cons, List.not_mem_nil, or_false, Prod.mk.injEq, CE.inl.injEq, and_false, or_false, false_or, reduceCtorEq] at h
  
noncomputable def spec_l32Ok_p (p : Nat) (a0 : (Ty.T TDesk)) : Option (Bool × Unit) :=
  ((spec_l30Flows_p p a0.1 a0.2.1).bind fun r1 => (bif r1.1 then ((spec_l18Ok_p p a0.1 a0.2.2.1).bind fun r2 => (bif r2.1 then ((spec_l08List_p p a0.2.2.2.1).bind fun r3 => (bif r3.1 then ((spec_l12Ok_p p a0.2.2.2.2.1).bind fun r4 => (bif r4.1 then ((spec_l14Ok_p p a0.2.2.2.2.2.1).bind fun r5 => (bif r5.1 then ((spec_l16Ok_p p a0.2.2.2.2.2.2.1).bind fun r6 => (bif r6.1 then ((spec_l20Ok_p p a0.2.2.2.2.2.2.2.1).bind fun r7 => (bif r7.1 then ((spec_l22Ok_p p a0.2.2.2.2.2.2.2.2.1).bind fun r8 => (bif r8.1 then ((spec_l26Ok_p p a0.2.2.2.2.2.2.2.2.2).bind fun r9 => some (r9.1, ()))
 else some (false, ())))
 else some (false, ())))
 else some (false, ())))
 else some (false, ())))
 else some (false, ())))
 else some (false, ())))
 else some (false, ())))
 else some (false, ())))
theorem spec_l32Ok_run (p : Nat) (x : (parsT [.ptr TDesk]).T) : acall Tryz.prog (spec_l32Ok_G p) 5 1 18 .leaf (argAVs [.ptr TDesk] x) ⟨[], 0, []⟩ (outR [.bool]) = spec_l32Ok_p p x.1 := by kernel_rfl
noncomputable def spec_l32Ok_c (p : Nat) : PC := PC.fn true [.ptr TDesk] [.bool] fun x => spec_l32Ok_p p x.1
theorem spec_l32Ok_s (p : Nat) : PSound Tryz.prog 18 (spec_l32Ok_c p) := pure_sound (spec_l32Ok_E p) Tryz.checked.mixed (spec_l32Ok_I p) LTok_leaf (fun _ => rfl) fun x y h => (spec_l32Ok_run p x).trans h
/-! spec.ValidDesk -/
noncomputable def spec_ValidDesk_G (p : Nat) : FuncId → Option CE := glist [(18, .pure (spec_l32Ok_c p))]
theorem spec_ValidDesk_E (p : Nat) : EnvS Tryz.prog (spec_ValidDesk_G p) := by
  apply glist_env; intro f ce h
  simp only [List.mem_cons, List.not_mem_nil, or_false, Prod.mk.injEq] at h
  rcases h with ⟨rfl, rfl⟩
  · exact spec_l32Ok_s p
theorem spec_ValidDesk_I (p : Nat) : ∀ f lt, spec_ValidDesk_G p f = some (.inl lt) → LTok Tryz.prog (spec_ValidDesk_G p) 5 f lt := by
  apply glist_inl; intro f lt h
  simp only [List.mem_cons, List.not_mem_nil, or_false, Prod.mk.injEq, CE.inl.injEq, and_false, or_false, false_or, reduceCtorEq] at h
  
noncomputable def spec_ValidDesk_p (p : Nat) (a0 : (Ty.T TDesk)) : Option (Bool × Unit) :=
  ((spec_l32Ok_p p a0).bind fun r1 => some (r1.1, ()))
theorem spec_ValidDesk_run (p : Nat) (x : (parsT [.val TDesk]).T) : acall Tryz.prog (spec_ValidDesk_G p) 5 1 5 .leaf (argAVs [.val TDesk] x) ⟨[], 0, []⟩ (outR [.bool]) = spec_ValidDesk_p p x.1 := by kernel_rfl
noncomputable def spec_ValidDesk_c (p : Nat) : PC := PC.fn true [.val TDesk] [.bool] fun x => spec_ValidDesk_p p x.1
theorem spec_ValidDesk_s (p : Nat) : PSound Tryz.prog 5 (spec_ValidDesk_c p) := pure_sound (spec_ValidDesk_E p) Tryz.checked.mixed (spec_ValidDesk_I p) LTok_leaf (fun _ => rfl) fun x y h => (spec_ValidDesk_run p x).trans h
/-! impl.allWithin -/
noncomputable def impl_allWithin_l0_r {α : Type} (p : Nat) (v0 : List Int) (v1 : Int) (v3 : Int) (v4 : Int) (rec : (Int) → Option α) (v2 : Int) (k0 : (Int) → Option α) (k1 : Unit → Option α) : Option α :=
  (bif (decide (v2 < v1)) then (if 0 ≤ v2 then (v0[v2.toNat]?).bind fun y1 => (bif (decide (y1 ≥ v4)) then (bif (!(decide (y1 ≤ v3))) then (k0 v2)
 else (rec (IntKind.wrap .i64 (v2 + (1 : Int)))))
 else (bif (!false) then (k0 v2)
 else (rec (IntKind.wrap .i64 (v2 + (1 : Int)))))) else none)
 else (k1 ()))
noncomputable def impl_allWithin_l0_go {α : Type} (p : Nat) (v0 : List Int) (v1 : Int) (v3 : Int) (v4 : Int) : Nat → (Int) → ((Int) → Option α) → (Unit → Option α) → Option α
  | 0, _, _, _ => none
  | q + 1, v2, k0, k1 => impl_allWithin_l0_r p v0 v1 v3 v4 (fun v2 => impl_allWithin_l0_go p v0 v1 v3 v4 q v2 k0 k1) v2 k0 k1
def impl_allWithin_l0_sh : Sh := ⟨[⟨0, false, [.sl (.int .i64)]⟩, ⟨1, false, [.lit (.fn 114 [(0, 0), (1, 0)])]⟩, ⟨7, false, [.int .i64]⟩, ⟨8, false, [.int .i64]⟩], 2, [(1, .box [.int .i64]), (0, .box [.int .i64])]⟩
noncomputable def impl_allWithin_lc0 (p : Nat) : LC := LC.alts 2 [⟨2, impl_allWithin_l0_sh, fun x {α} k => impl_allWithin_l0_go p x.1.1.1 x.1.2.2.1.1 x.2.1.1 x.2.2.1.1 p x.1.2.2.2.1.1 (fun o0 => k .ret ⟨[(4, .one ⟨false, [.int .i64 o0]⟩)], 2, [(1, .box [.int .i64 x.2.1.1]), (0, .box [.int .i64 x.2.2.1.1])]⟩) (fun _ => k (.exit 0) ⟨[], 2, [(1, .box [.int .i64 x.2.1.1]), (0, .box [.int .i64 x.2.2.1.1])]⟩)⟩]
noncomputable def impl_allWithin_lt_133 (p : Nat) : LT := (.node .leaf (.node (.node .leaf (.loop [0, 1, 7, 8] [4] (some (impl_allWithin_lc0 p)) .leaf)) .leaf))
noncomputable def impl_allWithin_G (p : Nat) : FuncId → Option CE := glist [(83, .inl .leaf), (113, .inl .leaf), (114, .inl .leaf), (133, .inl (impl_allWithin_lt_133 p))]
noncomputable def impl_allWithin_c0 : Code := codeAt [1, 0, 1, 0, 0] (bodyOf Tryz.f133)
noncomputable def impl_allWithin_it0 {α : Type} (p n b : Nat) (k : Ex → St → Option α) (q : Nat) (st : St) : Option α :=
  iter (fun s q => aexec Tryz.prog (impl_allWithin_G p) (fun g lt args st (k : D → St → Option α) => acall Tryz.prog (impl_allWithin_G p) 5 (n + 2) g lt args st k) 5 b 19 impl_allWithin_c0 .leaf s q) (canon b [0, 1, 7, 8]) q st (fun e s => k e (canon b [4] s))
theorem impl_allWithin_l0_step {α : Type} (p n : Nat) (k : Ex → St → Option α) (v0 : List Int) (v1 : Int) (v3 : Int) (v4 : Int) (q : Nat) (v2 : Int) : impl_allWithin_it0 p n 2 k (q + 1) (impl_allWithin_l0_sh.mk' (((v0, ()), ((), ()), (v1, ()), (v2, ()), ()), ((v3, ()), (v4, ()), ()))) =
  impl_allWithin_l0_r p v0 v1 v3 v4 (fun v2 => impl_allWithin_it0 p n 2 k q (impl_allWithin_l0_sh.mk' (((v0, ()), ((), ()), (v1, ()), (v2, ()), ()), ((v3, ()), (v4, ()), ())))) v2 (fun o0 => k .ret ⟨[(4, .one ⟨false, [.int .i64 o0]⟩)], 2, [(1, .box [.int .i64 v3]), (0, .box [.int .i64 v4])]⟩) (fun _ => k (.exit 0) ⟨[], 2, [(1, .box [.int .i64 v3]), (0, .box [.int .i64 v4])]⟩) := by kernel_rfl
theorem impl_allWithin_l0_ok {α : Type} (p n : Nat) (k : Ex → St → Option α) (v0 : List Int) (v1 : Int) (v3 : Int) (v4 : Int) : ∀ (q : Nat) (v2 : Int), impl_allWithin_it0 p n 2 k q (impl_allWithin_l0_sh.mk' (((v0, ()), ((), ()), (v1, ()), (v2, ()), ()), ((v3, ()), (v4, ()), ()))) =
  impl_allWithin_l0_go p v0 v1 v3 v4 q v2 (fun o0 => k .ret ⟨[(4, .one ⟨false, [.int .i64 o0]⟩)], 2, [(1, .box [.int .i64 v3]), (0, .box [.int .i64 v4])]⟩) (fun _ => k (.exit 0) ⟨[], 2, [(1, .box [.int .i64 v3]), (0, .box [.int .i64 v4])]⟩) := by
  intro q
  induction q with
  | zero => intros; rfl
  | succ q ih => intro v2; rw [impl_allWithin_l0_step]; simp only [ih]; rfl
theorem impl_allWithin_ltok_133_ls (p : Nat) : loopsOf (bodyOf Tryz.f133) (impl_allWithin_lt_133 p) = [⟨impl_allWithin_c0, [0, 1, 7, 8], [4], impl_allWithin_lc0 p, .leaf⟩] := by kernel_rfl
theorem impl_allWithin_ltok_133_dep (p : Nat) : LT.dep (impl_allWithin_lt_133 p) = 2 := by kernel_rfl
theorem impl_allWithin_ltok_133 (p : Nat) : LTok Tryz.prog (impl_allWithin_G p) 5 133 (impl_allWithin_lt_133 p) := by
  intro α n base fn c hd hfn hc
  have hfn' : some fn = some Tryz.f133 := hfn.symm.trans Tryz.func133
  cases hfn'
  have hc' : c = bodyOf Tryz.f133 := by unfold bodyOf; rw [hc]; rfl
  subst hc'
  rw [impl_allWithin_ltok_133_dep] at hd
  obtain ⟨n, rfl⟩ := Nat.exists_eq_add_of_le' hd
  apply LTS_of_loops
  rw [impl_allWithin_ltok_133_ls]
  intro e he st k r h
  simp only [List.mem_cons, List.not_mem_nil, or_false] at he
  subst he
  · obtain ⟨a, ha, hb, x, rfl, h⟩ := altRun_ok h
    simp only [List.mem_cons, List.not_mem_nil, or_false] at ha
    subst ha
    · cases hb; exact ⟨p, (impl_allWithin_l0_ok p n k _ _ _ _ p _).trans h⟩
theorem impl_allWithin_E (p : Nat) : EnvS Tryz.prog (impl_allWithin_G p) := by
  apply glist_env; intro f ce h
  simp only [List.mem_cons, List.not_mem_nil, or_false, Prod.mk.injEq] at h
  rcases h with ⟨rfl, rfl⟩ | ⟨rfl, rfl⟩ | ⟨rfl, rfl⟩ | ⟨rfl, rfl⟩
  · exact trivial
  · exact trivial
  · exact trivial
  · exact trivial
theorem impl_allWithin_I (p : Nat) : ∀ f lt, impl_allWithin_G p f = some (.inl lt) → LTok Tryz.prog (impl_allWithin_G p) 5 f lt := by
  apply glist_inl; intro f lt h
  simp only [List.mem_cons, List.not_mem_nil, or_false, Prod.mk.injEq, CE.inl.injEq, and_false, or_false, false_or, reduceCtorEq] at h
  rcases h with ⟨rfl, rfl⟩ | ⟨rfl, rfl⟩ | ⟨rfl, rfl⟩ | ⟨rfl, rfl⟩
  · exact LTok_leaf
  · exact LTok_leaf
  · exact LTok_leaf
  · exact (impl_allWithin_ltok_133 p)
noncomputable def impl_allWithin_p (p : Nat) (a0 : (List Int)) (a1 : Int) (a2 : Int) : Option (Bool × Unit) :=
  (impl_allWithin_l0_go p a0 (a0.length : Int) a2 a1 p (0 : Int) (fun o2 => some ((!(decide (o2 ≥ (0 : Int)))), ())) (fun _ => some ((!(decide ((-1 : Int) ≥ (0 : Int)))), ())))
theorem impl_allWithin_run (p : Nat) (x : (parsT [.val (.slice (.int .i64)), .val (.int .i64), .val (.int .i64)]).T) : acall Tryz.prog (impl_allWithin_G p) 5 5 74 .leaf (argAVs [.val (.slice (.int .i64)), .val (.int .i64), .val (.int .i64)] x) ⟨[], 0, []⟩ (outR [.bool]) = impl_allWithin_p p x.1 x.2.1 x.2.2.1 := by kernel_rfl
noncomputable def impl_allWithin_c (p : Nat) : PC := PC.fn true [.val (.slice (.int .i64)), .val (.int .i64), .val (.int .i64)] [.bool] fun x => impl_allWithin_p p x.1 x.2.1 x.2.2.1
theorem impl_allWithin_s (p : Nat) : PSound Tryz.prog 74 (impl_allWithin_c p) := pure_sound (impl_allWithin_E p) Tryz.checked.mixed (impl_allWithin_I p) LTok_leaf (fun _ => rfl) fun x y h => (impl_allWithin_run p x).trans h
/-! impl.onlyNameBytes -/
noncomputable def impl_onlyNameBytes_l0_r {α : Type} (p : Nat) (v0 : ByteArray) (v1 : Int) (rec : (Int) → Option α) (v2 : Int) (k0 : (Bool) → Option α) (k1 : Unit → Option α) : Option α :=
  (bif (decide (v2 < v1)) then (if 0 ≤ v2 ∧ v2 < (v0.size : Int) then (bif (decide (((v0.get! v2.toNat).toNat : Int) < (97 : Int))) then (bif (decide (((v0.get! v2.toNat).toNat : Int) < (48 : Int))) then (k0 false)
 else (bif (decide (((v0.get! v2.toNat).toNat : Int) > (57 : Int))) then (k0 false)
 else (rec (IntKind.wrap .i64 (v2 + (1 : Int))))))
 else (bif (decide (((v0.get! v2.toNat).toNat : Int) > (122 : Int))) then (bif (decide (((v0.get! v2.toNat).toNat : Int) < (48 : Int))) then (k0 false)
 else (bif (decide (((v0.get! v2.toNat).toNat : Int) > (57 : Int))) then (k0 false)
 else (rec (IntKind.wrap .i64 (v2 + (1 : Int))))))
 else (rec (IntKind.wrap .i64 (v2 + (1 : Int)))))) else none)
 else (k1 ()))
noncomputable def impl_onlyNameBytes_l0_go {α : Type} (p : Nat) (v0 : ByteArray) (v1 : Int) : Nat → (Int) → ((Bool) → Option α) → (Unit → Option α) → Option α
  | 0, _, _, _ => none
  | q + 1, v2, k0, k1 => impl_onlyNameBytes_l0_r p v0 v1 (fun v2 => impl_onlyNameBytes_l0_go p v0 v1 q v2 k0 k1) v2 k0 k1
def impl_onlyNameBytes_l0_sh : Sh := ⟨[⟨0, false, [.str]⟩, ⟨6, false, [.int .i64]⟩, ⟨7, false, [.int .i64]⟩], 0, []⟩
noncomputable def impl_onlyNameBytes_lc0 (p : Nat) : LC := LC.alts 0 [⟨0, impl_onlyNameBytes_l0_sh, fun x {α} k => impl_onlyNameBytes_l0_go p x.1.1.1 x.1.2.1.1 p x.1.2.2.1.1 (fun o0 => k .ret ⟨[(2, .one ⟨false, [.bool o0]⟩)], 0, []⟩) (fun _ => k (.exit 0) ⟨[], 0, []⟩)⟩]
noncomputable def impl_onlyNameBytes_lt (p : Nat) : LT := (.node .leaf (.node (.node .leaf (.loop [0, 6, 7] [2] (some (impl_onlyNameBytes_lc0 p)) .leaf)) .leaf))
noncomputable def impl_onlyNameBytes_G (p : Nat) : FuncId → Option CE := glist []
noncomputable def impl_onlyNameBytes_c0 : Code := codeAt [1, 0, 1, 0, 0] (bodyOf Tryz.f117)
noncomputable def impl_onlyNameBytes_it0 {α : Type} (p n b : Nat) (k : Ex → St → Option α) (q : Nat) (st : St) : Option α :=
  iter (fun s q => aexec Tryz.prog (impl_onlyNameBytes_G p) (fun g lt args st (k : D → St → Option α) => acall Tryz.prog (impl_onlyNameBytes_G p) 5 (n + 0) g lt args st k) 5 b 28 impl_onlyNameBytes_c0 .leaf s q) (canon b [0, 6, 7]) q st (fun e s => k e (canon b [2] s))
theorem impl_onlyNameBytes_l0_step {α : Type} (p n : Nat) (k : Ex → St → Option α) (v0 : ByteArray) (v1 : Int) (q : Nat) (v2 : Int) : impl_onlyNameBytes_it0 p n 0 k (q + 1) (impl_onlyNameBytes_l0_sh.mk' (((v0, ()), (v1, ()), (v2, ()), ()), (()))) =
  impl_onlyNameBytes_l0_r p v0 v1 (fun v2 => impl_onlyNameBytes_it0 p n 0 k q (impl_onlyNameBytes_l0_sh.mk' (((v0, ()), (v1, ()), (v2, ()), ()), (())))) v2 (fun o0 => k .ret ⟨[(2, .one ⟨false, [.bool o0]⟩)], 0, []⟩) (fun _ => k (.exit 0) ⟨[], 0, []⟩) := by kernel_rfl
theorem impl_onlyNameBytes_l0_ok {α : Type} (p n : Nat) (k : Ex → St → Option α) (v0 : ByteArray) (v1 : Int) : ∀ (q : Nat) (v2 : Int), impl_onlyNameBytes_it0 p n 0 k q (impl_onlyNameBytes_l0_sh.mk' (((v0, ()), (v1, ()), (v2, ()), ()), (()))) =
  impl_onlyNameBytes_l0_go p v0 v1 q v2 (fun o0 => k .ret ⟨[(2, .one ⟨false, [.bool o0]⟩)], 0, []⟩) (fun _ => k (.exit 0) ⟨[], 0, []⟩) := by
  intro q
  induction q with
  | zero => intros; rfl
  | succ q ih => intro v2; rw [impl_onlyNameBytes_l0_step]; simp only [ih]; rfl
theorem impl_onlyNameBytes_ltok_117_ls (p : Nat) : loopsOf (bodyOf Tryz.f117) (impl_onlyNameBytes_lt p) = [⟨impl_onlyNameBytes_c0, [0, 6, 7], [2], impl_onlyNameBytes_lc0 p, .leaf⟩] := by kernel_rfl
theorem impl_onlyNameBytes_ltok_117_dep (p : Nat) : LT.dep (impl_onlyNameBytes_lt p) = 0 := by kernel_rfl
theorem impl_onlyNameBytes_ltok_117 (p : Nat) : LTok Tryz.prog (impl_onlyNameBytes_G p) 5 117 (impl_onlyNameBytes_lt p) := by
  intro α n base fn c hd hfn hc
  have hfn' : some fn = some Tryz.f117 := hfn.symm.trans Tryz.func117
  cases hfn'
  have hc' : c = bodyOf Tryz.f117 := by unfold bodyOf; rw [hc]; rfl
  subst hc'
  rw [impl_onlyNameBytes_ltok_117_dep] at hd
  obtain ⟨n, rfl⟩ := Nat.exists_eq_add_of_le' hd
  apply LTS_of_loops
  rw [impl_onlyNameBytes_ltok_117_ls]
  intro e he st k r h
  simp only [List.mem_cons, List.not_mem_nil, or_false] at he
  subst he
  · obtain ⟨a, ha, hb, x, rfl, h⟩ := altRun_ok h
    simp only [List.mem_cons, List.not_mem_nil, or_false] at ha
    subst ha
    · cases hb; exact ⟨p, (impl_onlyNameBytes_l0_ok p n k _ _ p _).trans h⟩
theorem impl_onlyNameBytes_E (p : Nat) : EnvS Tryz.prog (impl_onlyNameBytes_G p) := by
  apply glist_env; intro f ce h
  simp only [List.mem_cons, List.not_mem_nil, or_false, Prod.mk.injEq] at h
  
theorem impl_onlyNameBytes_I (p : Nat) : ∀ f lt, impl_onlyNameBytes_G p f = some (.inl lt) → LTok Tryz.prog (impl_onlyNameBytes_G p) 5 f lt := by
  apply glist_inl; intro f lt h
  simp only [List.mem_cons, List.not_mem_nil, or_false, Prod.mk.injEq, CE.inl.injEq, and_false, or_false, false_or, reduceCtorEq] at h
  
noncomputable def impl_onlyNameBytes_p (p : Nat) (a0 : ByteArray) : Option (Bool × Unit) :=
  (impl_onlyNameBytes_l0_go p a0 (a0.size : Int) p (0 : Int) (fun o1 => some (o1, ())) (fun _ => some (true, ())))
theorem impl_onlyNameBytes_run (p : Nat) (x : (parsT [.val .str]).T) : acall Tryz.prog (impl_onlyNameBytes_G p) 5 1 117 (impl_onlyNameBytes_lt p) (argAVs [.val .str] x) ⟨[], 0, []⟩ (outR [.bool]) = impl_onlyNameBytes_p p x.1 := by kernel_rfl
noncomputable def impl_onlyNameBytes_c (p : Nat) : PC := PC.fn true [.val .str] [.bool] fun x => impl_onlyNameBytes_p p x.1
theorem impl_onlyNameBytes_s (p : Nat) : PSound Tryz.prog 117 (impl_onlyNameBytes_c p) := pure_sound (impl_onlyNameBytes_E p) Tryz.checked.mixed (impl_onlyNameBytes_I p) (impl_onlyNameBytes_ltok_117 p) (fun _ => rfl) fun x y h => (impl_onlyNameBytes_run p x).trans h
/-! impl.IsName -/
noncomputable def impl_IsName_G (p : Nat) : FuncId → Option CE := glist [(117, .pure (impl_onlyNameBytes_c p))]
theorem impl_IsName_E (p : Nat) : EnvS Tryz.prog (impl_IsName_G p) := by
  apply glist_env; intro f ce h
  simp only [List.mem_cons, List.not_mem_nil, or_false, Prod.mk.injEq] at h
  rcases h with ⟨rfl, rfl⟩
  · exact impl_onlyNameBytes_s p
theorem impl_IsName_I (p : Nat) : ∀ f lt, impl_IsName_G p f = some (.inl lt) → LTok Tryz.prog (impl_IsName_G p) 5 f lt := by
  apply glist_inl; intro f lt h
  simp only [List.mem_cons, List.not_mem_nil, or_false, Prod.mk.injEq, CE.inl.injEq, and_false, or_false, false_or, reduceCtorEq] at h
  
noncomputable def impl_IsName_p (p : Nat) (a0 : ByteArray) : Option (Bool × Unit) :=
  (bif (decide ((a0.size : Int) < (1 : Int))) then some (false, ())
 else (bif (decide ((a0.size : Int) > (10 : Int))) then some (false, ())
 else (if 0 ≤ (0 : Int) ∧ (0 : Int) < (a0.size : Int) then (bif (decide (((a0.get! (0 : Int).toNat).toNat : Int) < (97 : Int))) then some (false, ())
 else (if 0 ≤ (0 : Int) ∧ (0 : Int) < (a0.size : Int) then (bif (decide (((a0.get! (0 : Int).toNat).toNat : Int) > (122 : Int))) then some (false, ())
 else ((impl_onlyNameBytes_p p a0).bind fun r1 => some (r1.1, ()))) else none)) else none)))
theorem impl_IsName_run (p : Nat) (x : (parsT [.val .str]).T) : acall Tryz.prog (impl_IsName_G p) 5 1 77 .leaf (argAVs [.val .str] x) ⟨[], 0, []⟩ (outR [.bool]) = impl_IsName_p p x.1 := by kernel_rfl
noncomputable def impl_IsName_c (p : Nat) : PC := PC.fn true [.val .str] [.bool] fun x => impl_IsName_p p x.1
theorem impl_IsName_s (p : Nat) : PSound Tryz.prog 77 (impl_IsName_c p) := pure_sound (impl_IsName_E p) Tryz.checked.mixed (impl_IsName_I p) LTok_leaf (fun _ => rfl) fun x y h => (impl_IsName_run p x).trans h
/-! impl.within -/
noncomputable def impl_within_G (p : Nat) : FuncId → Option CE := glist []
theorem impl_within_E (p : Nat) : EnvS Tryz.prog (impl_within_G p) := by
  apply glist_env; intro f ce h
  simp only [List.mem_cons, List.not_mem_nil, or_false, Prod.mk.injEq] at h
  
theorem impl_within_I (p : Nat) : ∀ f lt, impl_within_G p f = some (.inl lt) → LTok Tryz.prog (impl_within_G p) 5 f lt := by
  apply glist_inl; intro f lt h
  simp only [List.mem_cons, List.not_mem_nil, or_false, Prod.mk.injEq, CE.inl.injEq, and_false, or_false, false_or, reduceCtorEq] at h
  
noncomputable def impl_within_p (p : Nat) (a0 : Int) (a1 : Int) (a2 : Int) : Option (Bool × Unit) :=
  (bif (decide (a0 ≥ a1)) then some ((decide (a0 ≤ a2)), ())
 else some (false, ()))
theorem impl_within_run (p : Nat) (x : (parsT [.val (.int .i64), .val (.int .i64), .val (.int .i64)]).T) : acall Tryz.prog (impl_within_G p) 5 1 83 .leaf (argAVs [.val (.int .i64), .val (.int .i64), .val (.int .i64)] x) ⟨[], 0, []⟩ (outR [.bool]) = impl_within_p p x.1 x.2.1 x.2.2.1 := by kernel_rfl
noncomputable def impl_within_c (p : Nat) : PC := PC.fn true [.val (.int .i64), .val (.int .i64), .val (.int .i64)] [.bool] fun x => impl_within_p p x.1 x.2.1 x.2.2.1
theorem impl_within_s (p : Nat) : PSound Tryz.prog 83 (impl_within_c p) := pure_sound (impl_within_E p) Tryz.checked.mixed (impl_within_I p) LTok_leaf (fun _ => rfl) fun x y h => (impl_within_run p x).trans h
/-! impl.nodeOk -/
noncomputable def impl_nodeOk_G (p : Nat) : FuncId → Option CE := glist [(83, .pure (impl_within_c p))]
theorem impl_nodeOk_E (p : Nat) : EnvS Tryz.prog (impl_nodeOk_G p) := by
  apply glist_env; intro f ce h
  simp only [List.mem_cons, List.not_mem_nil, or_false, Prod.mk.injEq] at h
  rcases h with ⟨rfl, rfl⟩
  · exact impl_within_s p
theorem impl_nodeOk_I (p : Nat) : ∀ f lt, impl_nodeOk_G p f = some (.inl lt) → LTok Tryz.prog (impl_nodeOk_G p) 5 f lt := by
  apply glist_inl; intro f lt h
  simp only [List.mem_cons, List.not_mem_nil, or_false, Prod.mk.injEq, CE.inl.injEq, and_false, or_false, false_or, reduceCtorEq] at h
  
noncomputable def impl_nodeOk_p (p : Nat) (a0 : Int) : Option (Bool × Unit) :=
  ((impl_within_p p a0 (0 : Int) (15 : Int)).bind fun r1 => some (r1.1, ()))
theorem impl_nodeOk_run (p : Nat) (x : (parsT [.val (.int .i64)]).T) : acall Tryz.prog (impl_nodeOk_G p) 5 1 115 .leaf (argAVs [.val (.int .i64)] x) ⟨[], 0, []⟩ (outR [.bool]) = impl_nodeOk_p p x.1 := by kernel_rfl
noncomputable def impl_nodeOk_c (p : Nat) : PC := PC.fn true [.val (.int .i64)] [.bool] fun x => impl_nodeOk_p p x.1
theorem impl_nodeOk_s (p : Nat) : PSound Tryz.prog 115 (impl_nodeOk_c p) := pure_sound (impl_nodeOk_E p) Tryz.checked.mixed (impl_nodeOk_I p) LTok_leaf (fun _ => rfl) fun x y h => (impl_nodeOk_run p x).trans h
/-! impl.ValidPipe -/
noncomputable def impl_ValidPipe_G (p : Nat) : FuncId → Option CE := glist [(77, .pure (impl_IsName_c p)), (83, .pure (impl_within_c p)), (115, .pure (impl_nodeOk_c p))]
theorem impl_ValidPipe_E (p : Nat) : EnvS Tryz.prog (impl_ValidPipe_G p) := by
  apply glist_env; intro f ce h
  simp only [List.mem_cons, List.not_mem_nil, or_false, Prod.mk.injEq] at h
  rcases h with ⟨rfl, rfl⟩ | ⟨rfl, rfl⟩ | ⟨rfl, rfl⟩
  · exact impl_IsName_s p
  · exact impl_within_s p
  · exact impl_nodeOk_s p
theorem impl_ValidPipe_I (p : Nat) : ∀ f lt, impl_ValidPipe_G p f = some (.inl lt) → LTok Tryz.prog (impl_ValidPipe_G p) 5 f lt := by
  apply glist_inl; intro f lt h
  simp only [List.mem_cons, List.not_mem_nil, or_false, Prod.mk.injEq, CE.inl.injEq, and_false, or_false, false_or, reduceCtorEq] at h
  
noncomputable def impl_ValidPipe_p (p : Nat) (a0 : (Ty.T TPipe)) : Option (Bool × Unit) :=
  ((impl_IsName_p p a0.1).bind fun r1 => (bif r1.1 then ((impl_nodeOk_p p a0.2.1).bind fun r2 => (bif r2.1 then ((impl_nodeOk_p p a0.2.2.1).bind fun r3 => (bif r3.1 then (bif (a0.2.1 != a0.2.2.1) then ((impl_within_p p a0.2.2.2.1 (1 : Int) (10000 : Int)).bind fun r4 => (bif r4.1 then ((impl_within_p p a0.2.2.2.2.1 (20 : Int) (1000 : Int)).bind fun r5 => (bif r5.1 then ((impl_within_p p a0.2.2.2.2.2 (0 : Int) (5000 : Int)).bind fun r6 => some (r6.1, ()))
 else some (false, ())))
 else some (false, ())))
 else some (false, ()))
 else some (false, ())))
 else some (false, ())))
 else some (false, ())))
theorem impl_ValidPipe_run (p : Nat) (x : (parsT [.val TPipe]).T) : acall Tryz.prog (impl_ValidPipe_G p) 5 1 75 .leaf (argAVs [.val TPipe] x) ⟨[], 0, []⟩ (outR [.bool]) = impl_ValidPipe_p p x.1 := by kernel_rfl
noncomputable def impl_ValidPipe_c (p : Nat) : PC := PC.fn true [.val TPipe] [.bool] fun x => impl_ValidPipe_p p x.1
theorem impl_ValidPipe_s (p : Nat) : PSound Tryz.prog 75 (impl_ValidPipe_c p) := pure_sound (impl_ValidPipe_E p) Tryz.checked.mixed (impl_ValidPipe_I p) LTok_leaf (fun _ => rfl) fun x y h => (impl_ValidPipe_run p x).trans h
/-! (impl.Network).hasNode -/
noncomputable def impl_Network_hasNode_G (p : Nat) : FuncId → Option CE := glist [(83, .pure (impl_within_c p))]
theorem impl_Network_hasNode_E (p : Nat) : EnvS Tryz.prog (impl_Network_hasNode_G p) := by
  apply glist_env; intro f ce h
  simp only [List.mem_cons, List.not_mem_nil, or_false, Prod.mk.injEq] at h
  rcases h with ⟨rfl, rfl⟩
  · exact impl_within_s p
theorem impl_Network_hasNode_I (p : Nat) : ∀ f lt, impl_Network_hasNode_G p f = some (.inl lt) → LTok Tryz.prog (impl_Network_hasNode_G p) 5 f lt := by
  apply glist_inl; intro f lt h
  simp only [List.mem_cons, List.not_mem_nil, or_false, Prod.mk.injEq, CE.inl.injEq, and_false, or_false, false_or, reduceCtorEq] at h
  
noncomputable def impl_Network_hasNode_p (p : Nat) (a0 : (Ty.T TNetwork)) (a1 : Int) : Option (Bool × Unit) :=
  ((impl_within_p p a1 (0 : Int) (IntKind.wrap .i64 ((a0.1.length : Int) - (1 : Int)))).bind fun r1 => some (r1.1, ()))
theorem impl_Network_hasNode_run (p : Nat) (x : (parsT [.val TNetwork, .val (.int .i64)]).T) : acall Tryz.prog (impl_Network_hasNode_G p) 5 1 116 .leaf (argAVs [.val TNetwork, .val (.int .i64)] x) ⟨[], 0, []⟩ (outR [.bool]) = impl_Network_hasNode_p p x.1 x.2.1 := by kernel_rfl
noncomputable def impl_Network_hasNode_c (p : Nat) : PC := PC.fn true [.val TNetwork, .val (.int .i64)] [.bool] fun x => impl_Network_hasNode_p p x.1 x.2.1
theorem impl_Network_hasNode_s (p : Nat) : PSound Tryz.prog 116 (impl_Network_hasNode_c p) := pure_sound (impl_Network_hasNode_E p) Tryz.checked.mixed (impl_Network_hasNode_I p) LTok_leaf (fun _ => rfl) fun x y h => (impl_Network_hasNode_run p x).trans h
/-! (impl.Network).hasEnds -/
noncomputable def impl_Network_hasEnds_G (p : Nat) : FuncId → Option CE := glist [(116, .pure (impl_Network_hasNode_c p))]
theorem impl_Network_hasEnds_E (p : Nat) : EnvS Tryz.prog (impl_Network_hasEnds_G p) := by
  apply glist_env; intro f ce h
  simp only [List.mem_cons, List.not_mem_nil, or_false, Prod.mk.injEq] at h
  rcases h with ⟨rfl, rfl⟩
  · exact impl_Network_hasNode_s p
theorem impl_Network_hasEnds_I (p : Nat) : ∀ f lt, impl_Network_hasEnds_G p f = some (.inl lt) → LTok Tryz.prog (impl_Network_hasEnds_G p) 5 f lt := by
  apply glist_inl; intro f lt h
  simp only [List.mem_cons, List.not_mem_nil, or_false, Prod.mk.injEq, CE.inl.injEq, and_false, or_false, false_or, reduceCtorEq] at h
  
noncomputable def impl_Network_hasEnds_p (p : Nat) (a0 : (Ty.T TNetwork)) (a1 : (Ty.T TPipe)) : Option (Bool × Unit) :=
  ((impl_Network_hasNode_p p a0 a1.2.1).bind fun r1 => (bif r1.1 then ((impl_Network_hasNode_p p a0 a1.2.2.1).bind fun r2 => some (r2.1, ()))
 else some (false, ())))
theorem impl_Network_hasEnds_run (p : Nat) (x : (parsT [.val TNetwork, .val TPipe]).T) : acall Tryz.prog (impl_Network_hasEnds_G p) 5 1 76 .leaf (argAVs [.val TNetwork, .val TPipe] x) ⟨[], 0, []⟩ (outR [.bool]) = impl_Network_hasEnds_p p x.1 x.2.1 := by kernel_rfl
noncomputable def impl_Network_hasEnds_c (p : Nat) : PC := PC.fn true [.val TNetwork, .val TPipe] [.bool] fun x => impl_Network_hasEnds_p p x.1 x.2.1
theorem impl_Network_hasEnds_s (p : Nat) : PSound Tryz.prog 76 (impl_Network_hasEnds_c p) := pure_sound (impl_Network_hasEnds_E p) Tryz.checked.mixed (impl_Network_hasEnds_I p) LTok_leaf (fun _ => rfl) fun x y h => (impl_Network_hasEnds_run p x).trans h
/-! impl.ValidNetwork -/
noncomputable def impl_ValidNetwork_l0_r {α : Type} (p : Nat) (v0 : List (Ty.T TPipe)) (v1 : Int) (v3 : List Int) (v4 : List (Ty.T TPipe)) (rec : (Int) → Option α) (v2 : Int) (k0 : (Bool) → Option α) (k1 : Unit → Option α) : Option α :=
  (bif (decide (v2 < v1)) then (if 0 ≤ v2 then (v0[v2.toNat]?).bind fun y2 => ((impl_ValidPipe_p p y2).bind fun r3 => (bif (!r3.1) then (k0 false)
 else ((impl_Network_hasEnds_p p (v3, v4) y2).bind fun r4 => (bif (!r4.1) then (k0 false)
 else (bif (decide (v2 > (0 : Int))) then (if 0 ≤ (IntKind.wrap .i64 (v2 - (1 : Int))) then (v4[(IntKind.wrap .i64 (v2 - (1 : Int))).toNat]?).bind fun y5 => (bif ((Op.bytesLess y2.1.toList y5.1.toList) || (y2.1.toList == y5.1.toList)) then (k0 false)
 else (rec (IntKind.wrap .i64 (v2 + (1 : Int))))) else none)
 else (rec (IntKind.wrap .i64 (v2 + (1 : Int))))))))) else none)
 else (k1 ()))
noncomputable def impl_ValidNetwork_l0_go {α : Type} (p : Nat) (v0 : List (Ty.T TPipe)) (v1 : Int) (v3 : List Int) (v4 : List (Ty.T TPipe)) : Nat → (Int) → ((Bool) → Option α) → (Unit → Option α) → Option α
  | 0, _, _, _ => none
  | q + 1, v2, k0, k1 => impl_ValidNetwork_l0_r p v0 v1 v3 v4 (fun v2 => impl_ValidNetwork_l0_go p v0 v1 v3 v4 q v2 k0 k1) v2 k0 k1
def impl_ValidNetwork_l0_sh : Sh := ⟨[⟨1, false, [.lit (.ptr 0 0)]⟩, ⟨28, false, [.sl TPipe]⟩, ⟨29, false, [.int .i64]⟩, ⟨30, false, [.int .i64]⟩], 1, [(0, .box [.sl (.int .i64), .sl TPipe])]⟩
noncomputable def impl_ValidNetwork_lc0 (p : Nat) : LC := LC.alts 0 [⟨0, impl_ValidNetwork_l0_sh, fun x {α} k => impl_ValidNetwork_l0_go p x.1.2.1.1 x.1.2.2.1.1 x.2.1.1 x.2.1.2.1 p x.1.2.2.2.1.1 (fun o0 => k .ret ⟨[(2, .one ⟨false, [.bool o0]⟩)], 0, []⟩) (fun _ => k (.exit 0) ⟨[], 0, []⟩)⟩]
noncomputable def impl_ValidNetwork_lt (p : Nat) : LT := (.node .leaf (.node .leaf (.node (.node .leaf (.loop [1, 28, 29, 30] [2] (some (impl_ValidNetwork_lc0 p)) .leaf)) .leaf)))
noncomputable def impl_ValidNetwork_G (p : Nat) : FuncId → Option CE := glist [(74, .pure (impl_allWithin_c p)), (75, .pure (impl_ValidPipe_c p)), (76, .pure (impl_Network_hasEnds_c p))]
noncomputable def impl_ValidNetwork_c0 : Code := codeAt [1, 1, 0, 1, 0, 0] (bodyOf Tryz.f29)
noncomputable def impl_ValidNetwork_it0 {α : Type} (p n b : Nat) (k : Ex → St → Option α) (q : Nat) (st : St) : Option α :=
  iter (fun s q => aexec Tryz.prog (impl_ValidNetwork_G p) (fun g lt args st (k : D → St → Option α) => acall Tryz.prog (impl_ValidNetwork_G p) 5 (n + 0) g lt args st k) 5 b 61 impl_ValidNetwork_c0 .leaf s q) (canon b [1, 28, 29, 30]) q st (fun e s => k e (canon b [2] s))
theorem impl_ValidNetwork_l0_step {α : Type} (p n : Nat) (k : Ex → St → Option α) (v0 : List (Ty.T TPipe)) (v1 : Int) (v3 : List Int) (v4 : List (Ty.T TPipe)) (q : Nat) (v2 : Int) : impl_ValidNetwork_it0 p n 0 k (q + 1) (impl_ValidNetwork_l0_sh.mk' ((((), ()), (v0, ()), (v1, ()), (v2, ()), ()), ((v3, v4, ()), ()))) =
  impl_ValidNetwork_l0_r p v0 v1 v3 v4 (fun v2 => impl_ValidNetwork_it0 p n 0 k q (impl_ValidNetwork_l0_sh.mk' ((((), ()), (v0, ()), (v1, ()), (v2, ()), ()), ((v3, v4, ()), ())))) v2 (fun o0 => k .ret ⟨[(2, .one ⟨false, [.bool o0]⟩)], 0, []⟩) (fun _ => k (.exit 0) ⟨[], 0, []⟩) := by kernel_rfl
theorem impl_ValidNetwork_l0_ok {α : Type} (p n : Nat) (k : Ex → St → Option α) (v0 : List (Ty.T TPipe)) (v1 : Int) (v3 : List Int) (v4 : List (Ty.T TPipe)) : ∀ (q : Nat) (v2 : Int), impl_ValidNetwork_it0 p n 0 k q (impl_ValidNetwork_l0_sh.mk' ((((), ()), (v0, ()), (v1, ()), (v2, ()), ()), ((v3, v4, ()), ()))) =
  impl_ValidNetwork_l0_go p v0 v1 v3 v4 q v2 (fun o0 => k .ret ⟨[(2, .one ⟨false, [.bool o0]⟩)], 0, []⟩) (fun _ => k (.exit 0) ⟨[], 0, []⟩) := by
  intro q
  induction q with
  | zero => intros; rfl
  | succ q ih => intro v2; rw [impl_ValidNetwork_l0_step]; simp only [ih]; rfl
theorem impl_ValidNetwork_ltok_29_ls (p : Nat) : loopsOf (bodyOf Tryz.f29) (impl_ValidNetwork_lt p) = [⟨impl_ValidNetwork_c0, [1, 28, 29, 30], [2], impl_ValidNetwork_lc0 p, .leaf⟩] := by kernel_rfl
theorem impl_ValidNetwork_ltok_29_dep (p : Nat) : LT.dep (impl_ValidNetwork_lt p) = 0 := by kernel_rfl
theorem impl_ValidNetwork_ltok_29 (p : Nat) : LTok Tryz.prog (impl_ValidNetwork_G p) 5 29 (impl_ValidNetwork_lt p) := by
  intro α n base fn c hd hfn hc
  have hfn' : some fn = some Tryz.f29 := hfn.symm.trans Tryz.func29
  cases hfn'
  have hc' : c = bodyOf Tryz.f29 := by unfold bodyOf; rw [hc]; rfl
  subst hc'
  rw [impl_ValidNetwork_ltok_29_dep] at hd
  obtain ⟨n, rfl⟩ := Nat.exists_eq_add_of_le' hd
  apply LTS_of_loops
  rw [impl_ValidNetwork_ltok_29_ls]
  intro e he st k r h
  simp only [List.mem_cons, List.not_mem_nil, or_false] at he
  subst he
  · obtain ⟨a, ha, hb, x, rfl, h⟩ := altRun_ok h
    simp only [List.mem_cons, List.not_mem_nil, or_false] at ha
    subst ha
    · cases hb; exact ⟨p, (impl_ValidNetwork_l0_ok p n k _ _ _ _ p _).trans h⟩
theorem impl_ValidNetwork_E (p : Nat) : EnvS Tryz.prog (impl_ValidNetwork_G p) := by
  apply glist_env; intro f ce h
  simp only [List.mem_cons, List.not_mem_nil, or_false, Prod.mk.injEq] at h
  rcases h with ⟨rfl, rfl⟩ | ⟨rfl, rfl⟩ | ⟨rfl, rfl⟩
  · exact impl_allWithin_s p
  · exact impl_ValidPipe_s p
  · exact impl_Network_hasEnds_s p
theorem impl_ValidNetwork_I (p : Nat) : ∀ f lt, impl_ValidNetwork_G p f = some (.inl lt) → LTok Tryz.prog (impl_ValidNetwork_G p) 5 f lt := by
  apply glist_inl; intro f lt h
  simp only [List.mem_cons, List.not_mem_nil, or_false, Prod.mk.injEq, CE.inl.injEq, and_false, or_false, false_or, reduceCtorEq] at h
  
noncomputable def impl_ValidNetwork_p (p : Nat) (a0 : (Ty.T TNetwork)) : Option (Bool × Unit) :=
  (bif (decide ((a0.1.length : Int) < (1 : Int))) then some (false, ())
 else (bif (decide ((a0.1.length : Int) > (16 : Int))) then some (false, ())
 else ((impl_allWithin_p p a0.1 (-100000 : Int) (100000 : Int)).bind fun r1 => (bif (!r1.1) then some (false, ())
 else (bif (decide ((a0.2.length : Int) > (20 : Int))) then some (false, ())
 else (impl_ValidNetwork_l0_go p a0.2 (a0.2.length : Int) a0.1 a0.2 p (0 : Int) (fun o6 => some (o6, ())) (fun _ => some (true, ()))))))))
theorem impl_ValidNetwork_run (p : Nat) (x : (parsT [.val TNetwork]).T) : acall Tryz.prog (impl_ValidNetwork_G p) 5 1 29 (impl_ValidNetwork_lt p) (argAVs [.val TNetwork] x) ⟨[], 0, []⟩ (outR [.bool]) = impl_ValidNetwork_p p x.1 := by kernel_rfl
noncomputable def impl_ValidNetwork_c (p : Nat) : PC := PC.fn true [.val TNetwork] [.bool] fun x => impl_ValidNetwork_p p x.1
theorem impl_ValidNetwork_s (p : Nat) : PSound Tryz.prog 29 (impl_ValidNetwork_c p) := pure_sound (impl_ValidNetwork_E p) Tryz.checked.mixed (impl_ValidNetwork_I p) (impl_ValidNetwork_ltok_29 p) (fun _ => rfl) fun x y h => (impl_ValidNetwork_run p x).trans h
/-! (impl.Network).flowsOk -/
noncomputable def impl_Network_flowsOk_G (p : Nat) : FuncId → Option CE := glist [(74, .pure (impl_allWithin_c p))]
theorem impl_Network_flowsOk_E (p : Nat) : EnvS Tryz.prog (impl_Network_flowsOk_G p) := by
  apply glist_env; intro f ce h
  simp only [List.mem_cons, List.not_mem_nil, or_false, Prod.mk.injEq] at h
  rcases h with ⟨rfl, rfl⟩
  · exact impl_allWithin_s p
theorem impl_Network_flowsOk_I (p : Nat) : ∀ f lt, impl_Network_flowsOk_G p f = some (.inl lt) → LTok Tryz.prog (impl_Network_flowsOk_G p) 5 f lt := by
  apply glist_inl; intro f lt h
  simp only [List.mem_cons, List.not_mem_nil, or_false, Prod.mk.injEq, CE.inl.injEq, and_false, or_false, false_or, reduceCtorEq] at h
  
noncomputable def impl_Network_flowsOk_p (p : Nat) (a0 : (Ty.T TNetwork)) (a1 : (List Int)) : Option (Bool × Unit) :=
  (bif ((a1.length : Int) == (a0.2.length : Int)) then ((impl_allWithin_p p a1 (-100000 : Int) (100000 : Int)).bind fun r1 => some (r1.1, ()))
 else some (false, ()))
theorem impl_Network_flowsOk_run (p : Nat) (x : (parsT [.val TNetwork, .val (.slice (.int .i64))]).T) : acall Tryz.prog (impl_Network_flowsOk_G p) 5 1 30 .leaf (argAVs [.val TNetwork, .val (.slice (.int .i64))] x) ⟨[], 0, []⟩ (outR [.bool]) = impl_Network_flowsOk_p p x.1 x.2.1 := by kernel_rfl
noncomputable def impl_Network_flowsOk_c (p : Nat) : PC := PC.fn true [.val TNetwork, .val (.slice (.int .i64))] [.bool] fun x => impl_Network_flowsOk_p p x.1 x.2.1
theorem impl_Network_flowsOk_s (p : Nat) : PSound Tryz.prog 30 (impl_Network_flowsOk_c p) := pure_sound (impl_Network_flowsOk_E p) Tryz.checked.mixed (impl_Network_flowsOk_I p) LTok_leaf (fun _ => rfl) fun x y h => (impl_Network_flowsOk_run p x).trans h
/-! (impl.Network).pipeNamed -/
noncomputable def impl_Network_pipeNamed_l0_r {α : Type} (p : Nat) (v0 : List (Ty.T TPipe)) (v1 : Int) (v3 : ByteArray) (rec : (Int) → Option α) (v2 : Int) (k0 : (Int) → Option α) (k1 : Unit → Option α) : Option α :=
  (bif (decide (v2 < v1)) then (if 0 ≤ v2 then (v0[v2.toNat]?).bind fun y1 => (bif (y1.1.toList == v3.toList) then (k0 v2)
 else (rec (IntKind.wrap .i64 (v2 + (1 : Int))))) else none)
 else (k1 ()))
noncomputable def impl_Network_pipeNamed_l0_go {α : Type} (p : Nat) (v0 : List (Ty.T TPipe)) (v1 : Int) (v3 : ByteArray) : Nat → (Int) → ((Int) → Option α) → (Unit → Option α) → Option α
  | 0, _, _, _ => none
  | q + 1, v2, k0, k1 => impl_Network_pipeNamed_l0_r p v0 v1 v3 (fun v2 => impl_Network_pipeNamed_l0_go p v0 v1 v3 q v2 k0 k1) v2 k0 k1
def impl_Network_pipeNamed_l0_sh : Sh := ⟨[⟨0, false, [.sl TPipe]⟩, ⟨1, false, [.lit (.fn 119 [(1, 0)])]⟩, ⟨7, false, [.int .i64]⟩, ⟨8, false, [.int .i64]⟩], 2, [(1, .box [.str]), (0, .box [.sl (.int .i64), .sl TPipe])]⟩
noncomputable def impl_Network_pipeNamed_lc0 (p : Nat) : LC := LC.alts 1 [⟨2, impl_Network_pipeNamed_l0_sh, fun x {α} k => impl_Network_pipeNamed_l0_go p x.1.1.1 x.1.2.2.1.1 x.2.1.1 p x.1.2.2.2.1.1 (fun o0 => k .ret ⟨[(4, .one ⟨false, [.int .i64 o0]⟩)], 2, [(1, .box [.str x.2.1.1]), (0, .box [.sl (.int .i64) x.2.2.1.1, .sl TPipe x.2.2.1.2.1])]⟩) (fun _ => k (.exit 0) ⟨[], 2, [(1, .box [.str x.2.1.1]), (0, .box [.sl (.int .i64) x.2.2.1.1, .sl TPipe x.2.2.1.2.1])]⟩)⟩]
noncomputable def impl_Network_pipeNamed_lt_118 (p : Nat) : LT := (.node .leaf (.node (.node .leaf (.loop [0, 1, 7, 8] [4] (some (impl_Network_pipeNamed_lc0 p)) .leaf)) .leaf))
noncomputable def impl_Network_pipeNamed_G (p : Nat) : FuncId → Option CE := glist [(118, .inl (impl_Network_pipeNamed_lt_118 p)), (119, .inl .leaf)]
noncomputable def impl_Network_pipeNamed_c0 : Code := codeAt [1, 0, 1, 0, 0] (bodyOf Tryz.f118)
noncomputable def impl_Network_pipeNamed_it0 {α : Type} (p n b : Nat) (k : Ex → St → Option α) (q : Nat) (st : St) : Option α :=
  iter (fun s q => aexec Tryz.prog (impl_Network_pipeNamed_G p) (fun g lt args st (k : D → St → Option α) => acall Tryz.prog (impl_Network_pipeNamed_G p) 5 (n + 1) g lt args st k) 5 b 19 impl_Network_pipeNamed_c0 .leaf s q) (canon b [0, 1, 7, 8]) q st (fun e s => k e (canon b [4] s))
theorem impl_Network_pipeNamed_l0_step {α : Type} (p n : Nat) (k : Ex → St → Option α) (v0 : List (Ty.T TPipe)) (v1 : Int) (v3 : ByteArray) (v4 : List Int) (v5 : List (Ty.T TPipe)) (q : Nat) (v2 : Int) : impl_Network_pipeNamed_it0 p n 2 k (q + 1) (impl_Network_pipeNamed_l0_sh.mk' (((v0, ()), ((), ()), (v1, ()), (v2, ()), ()), ((v3, ()), (v4, v5, ()), ()))) =
  impl_Network_pipeNamed_l0_r p v0 v1 v3 (fun v2 => impl_Network_pipeNamed_it0 p n 2 k q (impl_Network_pipeNamed_l0_sh.mk' (((v0, ()), ((), ()), (v1, ()), (v2, ()), ()), ((v3, ()), (v4, v5, ()), ())))) v2 (fun o0 => k .ret ⟨[(4, .one ⟨false, [.int .i64 o0]⟩)], 2, [(1, .box [.str v3]), (0, .box [.sl (.int .i64) v4, .sl TPipe v5])]⟩) (fun _ => k (.exit 0) ⟨[], 2, [(1, .box [.str v3]), (0, .box [.sl (.int .i64) v4, .sl TPipe v5])]⟩) := by kernel_rfl
theorem impl_Network_pipeNamed_l0_ok {α : Type} (p n : Nat) (k : Ex → St → Option α) (v0 : List (Ty.T TPipe)) (v1 : Int) (v3 : ByteArray) (v4 : List Int) (v5 : List (Ty.T TPipe)) : ∀ (q : Nat) (v2 : Int), impl_Network_pipeNamed_it0 p n 2 k q (impl_Network_pipeNamed_l0_sh.mk' (((v0, ()), ((), ()), (v1, ()), (v2, ()), ()), ((v3, ()), (v4, v5, ()), ()))) =
  impl_Network_pipeNamed_l0_go p v0 v1 v3 q v2 (fun o0 => k .ret ⟨[(4, .one ⟨false, [.int .i64 o0]⟩)], 2, [(1, .box [.str v3]), (0, .box [.sl (.int .i64) v4, .sl TPipe v5])]⟩) (fun _ => k (.exit 0) ⟨[], 2, [(1, .box [.str v3]), (0, .box [.sl (.int .i64) v4, .sl TPipe v5])]⟩) := by
  intro q
  induction q with
  | zero => intros; rfl
  | succ q ih => intro v2; rw [impl_Network_pipeNamed_l0_step]; simp only [ih]; rfl
theorem impl_Network_pipeNamed_ltok_118_ls (p : Nat) : loopsOf (bodyOf Tryz.f118) (impl_Network_pipeNamed_lt_118 p) = [⟨impl_Network_pipeNamed_c0, [0, 1, 7, 8], [4], impl_Network_pipeNamed_lc0 p, .leaf⟩] := by kernel_rfl
theorem impl_Network_pipeNamed_ltok_118_dep (p : Nat) : LT.dep (impl_Network_pipeNamed_lt_118 p) = 1 := by kernel_rfl
theorem impl_Network_pipeNamed_ltok_118 (p : Nat) : LTok Tryz.prog (impl_Network_pipeNamed_G p) 5 118 (impl_Network_pipeNamed_lt_118 p) := by
  intro α n base fn c hd hfn hc
  have hfn' : some fn = some Tryz.f118 := hfn.symm.trans Tryz.func118
  cases hfn'
  have hc' : c = bodyOf Tryz.f118 := by unfold bodyOf; rw [hc]; rfl
  subst hc'
  rw [impl_Network_pipeNamed_ltok_118_dep] at hd
  obtain ⟨n, rfl⟩ := Nat.exists_eq_add_of_le' hd
  apply LTS_of_loops
  rw [impl_Network_pipeNamed_ltok_118_ls]
  intro e he st k r h
  simp only [List.mem_cons, List.not_mem_nil, or_false] at he
  subst he
  · obtain ⟨a, ha, hb, x, rfl, h⟩ := altRun_ok h
    simp only [List.mem_cons, List.not_mem_nil, or_false] at ha
    subst ha
    · cases hb; exact ⟨p, (impl_Network_pipeNamed_l0_ok p n k _ _ _ _ _ p _).trans h⟩
theorem impl_Network_pipeNamed_E (p : Nat) : EnvS Tryz.prog (impl_Network_pipeNamed_G p) := by
  apply glist_env; intro f ce h
  simp only [List.mem_cons, List.not_mem_nil, or_false, Prod.mk.injEq] at h
  rcases h with ⟨rfl, rfl⟩ | ⟨rfl, rfl⟩
  · exact trivial
  · exact trivial
theorem impl_Network_pipeNamed_I (p : Nat) : ∀ f lt, impl_Network_pipeNamed_G p f = some (.inl lt) → LTok Tryz.prog (impl_Network_pipeNamed_G p) 5 f lt := by
  apply glist_inl; intro f lt h
  simp only [List.mem_cons, List.not_mem_nil, or_false, Prod.mk.injEq, CE.inl.injEq, and_false, or_false, false_or, reduceCtorEq] at h
  rcases h with ⟨rfl, rfl⟩ | ⟨rfl, rfl⟩
  · exact (impl_Network_pipeNamed_ltok_118 p)
  · exact LTok_leaf
noncomputable def impl_Network_pipeNamed_p (p : Nat) (a0 : (Ty.T TNetwork)) (a1 : ByteArray) : Option (Int × Unit) :=
  (impl_Network_pipeNamed_l0_go p a0.2 (a0.2.length : Int) a1 p (0 : Int) (fun o2 => some (o2, ())) (fun _ => some ((-1 : Int), ())))
theorem impl_Network_pipeNamed_run (p : Nat) (x : (parsT [.val TNetwork, .val .str]).T) : acall Tryz.prog (impl_Network_pipeNamed_G p) 5 3 78 .leaf (argAVs [.val TNetwork, .val .str] x) ⟨[], 0, []⟩ (outR [(.int .i64)]) = impl_Network_pipeNamed_p p x.1 x.2.1 := by kernel_rfl
noncomputable def impl_Network_pipeNamed_c (p : Nat) : PC := PC.fn true [.val TNetwork, .val .str] [(.int .i64)] fun x => impl_Network_pipeNamed_p p x.1 x.2.1
theorem impl_Network_pipeNamed_s (p : Nat) : PSound Tryz.prog 78 (impl_Network_pipeNamed_c p) := pure_sound (impl_Network_pipeNamed_E p) Tryz.checked.mixed (impl_Network_pipeNamed_I p) LTok_leaf (fun _ => rfl) fun x y h => (impl_Network_pipeNamed_run p x).trans h
/-! impl.ValidValves -/
noncomputable def impl_ValidValves_l1_r {α : Type} (p : Nat) (v0 : List (Ty.T TValve)) (v1 : Int) (v4 : ByteArray) (v5 : Bool) (rec : (Int) → Option α) (v2 : Int) (k0 : (Int) → Option α) (k1 : Unit → Option α) : Option α :=
  (bif (decide (v2 < v1)) then (if 0 ≤ v2 then (v0[v2.toNat]?).bind fun y6 => (bif (y6.2.1.toList == v4.toList) then (bif (y6.2.2 == v5) then (k0 v2)
 else (rec (IntKind.wrap .i64 (v2 + (1 : Int)))))
 else (rec (IntKind.wrap .i64 (v2 + (1 : Int))))) else none)
 else (k1 ()))
noncomputable def impl_ValidValves_l1_go {α : Type} (p : Nat) (v0 : List (Ty.T TValve)) (v1 : Int) (v4 : ByteArray) (v5 : Bool) : Nat → (Int) → ((Int) → Option α) → (Unit → Option α) → Option α
  | 0, _, _, _ => none
  | q + 1, v2, k0, k1 => impl_ValidValves_l1_r p v0 v1 v4 v5 (fun v2 => impl_ValidValves_l1_go p v0 v1 v4 v5 q v2 k0 k1) v2 k0 k1
def impl_ValidValves_l1_sh : Sh := ⟨[⟨0, false, [.sl TValve]⟩, ⟨1, false, [.lit (.fn 80 [(1, 0)])]⟩, ⟨7, false, [.int .i64]⟩, ⟨8, false, [.int .i64]⟩], 2, [(1, .box [.str, .str, .bool]), (0, .box [.sl (.int .i64), .sl TPipe])]⟩
noncomputable def impl_ValidValves_l0_r {α : Type} (p : Nat) (v0 : List (Ty.T TValve)) (v1 : List (Ty.T TValve)) (v2 : Int) (v4 : List Int) (v5 : List (Ty.T TPipe)) (rec : (Int) → Option α) (v3 : Int) (k0 : (Bool) → Option α) (k1 : Unit → Option α) : Option α :=
  (bif (decide (v3 < v2)) then (if 0 ≤ v3 then (v1[v3.toNat]?).bind fun y2 => ((impl_IsName_p p y2.1).bind fun r3 => (bif (!r3.1) then (k0 false)
 else ((impl_Network_pipeNamed_p p (v4, v5) y2.2.1).bind fun r4 => (bif (decide (r4.1 < (0 : Int))) then (k0 false)
 else (bif (decide (v3 > (0 : Int))) then (if 0 ≤ (IntKind.wrap .i64 (v3 - (1 : Int))) then (v0[(IntKind.wrap .i64 (v3 - (1 : Int))).toNat]?).bind fun y5 => (bif ((Op.bytesLess y2.1.toList y5.1.toList) || (y2.1.toList == y5.1.toList)) then (k0 false)
 else (if 0 ≤ (0 : Int) ∧ (0 : Int) ≤ v3 ∧ v3 ≤ (v0.length : Int) then (impl_ValidValves_l1_go p ((v0.take v3.toNat).drop (0 : Int).toNat) (((v0.take v3.toNat).drop (0 : Int).toNat).length : Int) y2.2.1 y2.2.2 p (0 : Int) (fun o7 => (bif (decide (o7 ≥ (0 : Int))) then (k0 false)
 else (rec (IntKind.wrap .i64 (v3 + (1 : Int)))))) (fun _ => (bif (decide ((-1 : Int) ≥ (0 : Int))) then (k0 false)
 else (rec (IntKind.wrap .i64 (v3 + (1 : Int))))))) else none)) else none)
 else (if 0 ≤ (0 : Int) ∧ (0 : Int) ≤ v3 ∧ v3 ≤ (v0.length : Int) then (impl_ValidValves_l1_go p ((v0.take v3.toNat).drop (0 : Int).toNat) (((v0.take v3.toNat).drop (0 : Int).toNat).length : Int) y2.2.1 y2.2.2 p (0 : Int) (fun o8 => (bif (decide (o8 ≥ (0 : Int))) then (k0 false)
 else (rec (IntKind.wrap .i64 (v3 + (1 : Int)))))) (fun _ => (bif (decide ((-1 : Int) ≥ (0 : Int))) then (k0 false)
 else (rec (IntKind.wrap .i64 (v3 + (1 : Int))))))) else none)))))) else none)
 else (k1 ()))
noncomputable def impl_ValidValves_l0_go {α : Type} (p : Nat) (v0 : List (Ty.T TValve)) (v1 : List (Ty.T TValve)) (v2 : Int) (v4 : List Int) (v5 : List (Ty.T TPipe)) : Nat → (Int) → ((Bool) → Option α) → (Unit → Option α) → Option α
  | 0, _, _, _ => none
  | q + 1, v3, k0, k1 => impl_ValidValves_l0_r p v0 v1 v2 v4 v5 (fun v3 => impl_ValidValves_l0_go p v0 v1 v2 v4 v5 q v3 k0 k1) v3 k0 k1
def impl_ValidValves_l0_sh : Sh := ⟨[⟨1, false, [.sl TValve]⟩, ⟨2, false, [.lit (.ptr 0 0)]⟩, ⟨15, false, [.sl TValve]⟩, ⟨16, false, [.int .i64]⟩, ⟨17, false, [.int .i64]⟩], 1, [(0, .box [.sl (.int .i64), .sl TPipe])]⟩
noncomputable def impl_ValidValves_lc0 (p : Nat) : LC := LC.alts 1 [⟨2, impl_ValidValves_l1_sh, fun x {α} k => impl_ValidValves_l1_go p x.1.1.1 x.1.2.2.1.1 x.2.1.2.1 x.2.1.2.2.1 p x.1.2.2.2.1.1 (fun o0 => k .ret ⟨[(4, .one ⟨false, [.int .i64 o0]⟩)], 2, [(1, .box [.str x.2.1.1, .str x.2.1.2.1, .bool x.2.1.2.2.1]), (0, .box [.sl (.int .i64) x.2.2.1.1, .sl TPipe x.2.2.1.2.1])]⟩) (fun _ => k (.exit 0) ⟨[], 2, [(1, .box [.str x.2.1.1, .str x.2.1.2.1, .bool x.2.1.2.2.1]), (0, .box [.sl (.int .i64) x.2.2.1.1, .sl TPipe x.2.2.1.2.1])]⟩)⟩]
noncomputable def impl_ValidValves_lc1 (p : Nat) : LC := LC.alts 3 [⟨0, impl_ValidValves_l0_sh, fun x {α} k => impl_ValidValves_l0_go p x.1.1.1 x.1.2.2.1.1 x.1.2.2.2.1.1 x.2.1.1 x.2.1.2.1 p x.1.2.2.2.2.1.1 (fun o0 => k .ret ⟨[(4, .one ⟨false, [.bool o0]⟩)], 0, []⟩) (fun _ => k (.exit 0) ⟨[], 0, []⟩)⟩]
noncomputable def impl_ValidValves_lt (p : Nat) : LT := (.node .leaf (.node .leaf (.node (.node .leaf (.loop [1, 2, 15, 16, 17] [4] (some (impl_ValidValves_lc1 p)) .leaf)) .leaf)))
noncomputable def impl_ValidValves_lt_120 (p : Nat) : LT := (.node .leaf (.node (.node .leaf (.loop [0, 1, 7, 8] [4] (some (impl_ValidValves_lc0 p)) .leaf)) .leaf))
noncomputable def impl_ValidValves_G (p : Nat) : FuncId → Option CE := glist [(29, .pure (impl_ValidNetwork_c p)), (77, .pure (impl_IsName_c p)), (78, .pure (impl_Network_pipeNamed_c p)), (79, .inl .leaf), (80, .inl .leaf), (120, .inl (impl_ValidValves_lt_120 p))]
noncomputable def impl_ValidValves_c0 : Code := codeAt [1, 0, 1, 0, 0] (bodyOf Tryz.f120)
noncomputable def impl_ValidValves_it0 {α : Type} (p n b : Nat) (k : Ex → St → Option α) (q : Nat) (st : St) : Option α :=
  iter (fun s q => aexec Tryz.prog (impl_ValidValves_G p) (fun g lt args st (k : D → St → Option α) => acall Tryz.prog (impl_ValidValves_G p) 5 (n + 1) g lt args st k) 5 b 19 impl_ValidValves_c0 .leaf s q) (canon b [0, 1, 7, 8]) q st (fun e s => k e (canon b [4] s))
theorem impl_ValidValves_l1_step {α : Type} (p n : Nat) (k : Ex → St → Option α) (v0 : List (Ty.T TValve)) (v1 : Int) (v3 : ByteArray) (v4 : ByteArray) (v5 : Bool) (v6 : List Int) (v7 : List (Ty.T TPipe)) (q : Nat) (v2 : Int) : impl_ValidValves_it0 p n 2 k (q + 1) (impl_ValidValves_l1_sh.mk' (((v0, ()), ((), ()), (v1, ()), (v2, ()), ()), ((v3, v4, v5, ()), (v6, v7, ()), ()))) =
  impl_ValidValves_l1_r p v0 v1 v4 v5 (fun v2 => impl_ValidValves_it0 p n 2 k q (impl_ValidValves_l1_sh.mk' (((v0, ()), ((), ()), (v1, ()), (v2, ()), ()), ((v3, v4, v5, ()), (v6, v7, ()), ())))) v2 (fun o0 => k .ret ⟨[(4, .one ⟨false, [.int .i64 o0]⟩)], 2, [(1, .box [.str v3, .str v4, .bool v5]), (0, .box [.sl (.int .i64) v6, .sl TPipe v7])]⟩) (fun _ => k (.exit 0) ⟨[], 2, [(1, .box [.str v3, .str v4, .bool v5]), (0, .box [.sl (.int .i64) v6, .sl TPipe v7])]⟩) := by kernel_rfl
theorem impl_ValidValves_l1_ok {α : Type} (p n : Nat) (k : Ex → St → Option α) (v0 : List (Ty.T TValve)) (v1 : Int) (v3 : ByteArray) (v4 : ByteArray) (v5 : Bool) (v6 : List Int) (v7 : List (Ty.T TPipe)) : ∀ (q : Nat) (v2 : Int), impl_ValidValves_it0 p n 2 k q (impl_ValidValves_l1_sh.mk' (((v0, ()), ((), ()), (v1, ()), (v2, ()), ()), ((v3, v4, v5, ()), (v6, v7, ()), ()))) =
  impl_ValidValves_l1_go p v0 v1 v4 v5 q v2 (fun o0 => k .ret ⟨[(4, .one ⟨false, [.int .i64 o0]⟩)], 2, [(1, .box [.str v3, .str v4, .bool v5]), (0, .box [.sl (.int .i64) v6, .sl TPipe v7])]⟩) (fun _ => k (.exit 0) ⟨[], 2, [(1, .box [.str v3, .str v4, .bool v5]), (0, .box [.sl (.int .i64) v6, .sl TPipe v7])]⟩) := by
  intro q
  induction q with
  | zero => intros; rfl
  | succ q ih => intro v2; rw [impl_ValidValves_l1_step]; simp only [ih]; rfl
noncomputable def impl_ValidValves_c1 : Code := codeAt [1, 1, 0, 1, 0, 0] (bodyOf Tryz.f31)
noncomputable def impl_ValidValves_it1 {α : Type} (p n b : Nat) (k : Ex → St → Option α) (q : Nat) (st : St) : Option α :=
  iter (fun s q => aexec Tryz.prog (impl_ValidValves_G p) (fun g lt args st (k : D → St → Option α) => acall Tryz.prog (impl_ValidValves_G p) 5 (n + 3) g lt args st k) 5 b 54 impl_ValidValves_c1 .leaf s q) (canon b [1, 2, 15, 16, 17]) q st (fun e s => k e (canon b [4] s))
theorem impl_ValidValves_l0_step {α : Type} (p n : Nat) (k : Ex → St → Option α) (v0 : List (Ty.T TValve)) (v1 : List (Ty.T TValve)) (v2 : Int) (v4 : List Int) (v5 : List (Ty.T TPipe)) (q : Nat) (v3 : Int) : impl_ValidValves_it1 p n 0 k (q + 1) (impl_ValidValves_l0_sh.mk' (((v0, ()), ((), ()), (v1, ()), (v2, ()), (v3, ()), ()), ((v4, v5, ()), ()))) =
  impl_ValidValves_l0_r p v0 v1 v2 v4 v5 (fun v3 => impl_ValidValves_it1 p n 0 k q (impl_ValidValves_l0_sh.mk' (((v0, ()), ((), ()), (v1, ()), (v2, ()), (v3, ()), ()), ((v4, v5, ()), ())))) v3 (fun o0 => k .ret ⟨[(4, .one ⟨false, [.bool o0]⟩)], 0, []⟩) (fun _ => k (.exit 0) ⟨[], 0, []⟩) := by kernel_rfl
theorem impl_ValidValves_l0_ok {α : Type} (p n : Nat) (k : Ex → St → Option α) (v0 : List (Ty.T TValve)) (v1 : List (Ty.T TValve)) (v2 : Int) (v4 : List Int) (v5 : List (Ty.T TPipe)) : ∀ (q : Nat) (v3 : Int), impl_ValidValves_it1 p n 0 k q (impl_ValidValves_l0_sh.mk' (((v0, ()), ((), ()), (v1, ()), (v2, ()), (v3, ()), ()), ((v4, v5, ()), ()))) =
  impl_ValidValves_l0_go p v0 v1 v2 v4 v5 q v3 (fun o0 => k .ret ⟨[(4, .one ⟨false, [.bool o0]⟩)], 0, []⟩) (fun _ => k (.exit 0) ⟨[], 0, []⟩) := by
  intro q
  induction q with
  | zero => intros; rfl
  | succ q ih => intro v3; rw [impl_ValidValves_l0_step]; simp only [ih]; rfl
theorem impl_ValidValves_ltok_31_ls (p : Nat) : loopsOf (bodyOf Tryz.f31) (impl_ValidValves_lt p) = [⟨impl_ValidValves_c1, [1, 2, 15, 16, 17], [4], impl_ValidValves_lc1 p, .leaf⟩] := by kernel_rfl
theorem impl_ValidValves_ltok_31_dep (p : Nat) : LT.dep (impl_ValidValves_lt p) = 3 := by kernel_rfl
theorem impl_ValidValves_ltok_31 (p : Nat) : LTok Tryz.prog (impl_ValidValves_G p) 5 31 (impl_ValidValves_lt p) := by
  intro α n base fn c hd hfn hc
  have hfn' : some fn = some Tryz.f31 := hfn.symm.trans Tryz.func31
  cases hfn'
  have hc' : c = bodyOf Tryz.f31 := by unfold bodyOf; rw [hc]; rfl
  subst hc'
  rw [impl_ValidValves_ltok_31_dep] at hd
  obtain ⟨n, rfl⟩ := Nat.exists_eq_add_of_le' hd
  apply LTS_of_loops
  rw [impl_ValidValves_ltok_31_ls]
  intro e he st k r h
  simp only [List.mem_cons, List.not_mem_nil, or_false] at he
  subst he
  · obtain ⟨a, ha, hb, x, rfl, h⟩ := altRun_ok h
    simp only [List.mem_cons, List.not_mem_nil, or_false] at ha
    subst ha
    · cases hb; exact ⟨p, (impl_ValidValves_l0_ok p n k _ _ _ _ _ p _).trans h⟩
theorem impl_ValidValves_ltok_120_ls (p : Nat) : loopsOf (bodyOf Tryz.f120) (impl_ValidValves_lt_120 p) = [⟨impl_ValidValves_c0, [0, 1, 7, 8], [4], impl_ValidValves_lc0 p, .leaf⟩] := by kernel_rfl
theorem impl_ValidValves_ltok_120_dep (p : Nat) : LT.dep (impl_ValidValves_lt_120 p) = 1 := by kernel_rfl
theorem impl_ValidValves_ltok_120 (p : Nat) : LTok Tryz.prog (impl_ValidValves_G p) 5 120 (impl_ValidValves_lt_120 p) := by
  intro α n base fn c hd hfn hc
  have hfn' : some fn = some Tryz.f120 := hfn.symm.trans Tryz.func120
  cases hfn'
  have hc' : c = bodyOf Tryz.f120 := by unfold bodyOf; rw [hc]; rfl
  subst hc'
  rw [impl_ValidValves_ltok_120_dep] at hd
  obtain ⟨n, rfl⟩ := Nat.exists_eq_add_of_le' hd
  apply LTS_of_loops
  rw [impl_ValidValves_ltok_120_ls]
  intro e he st k r h
  simp only [List.mem_cons, List.not_mem_nil, or_false] at he
  subst he
  · obtain ⟨a, ha, hb, x, rfl, h⟩ := altRun_ok h
    simp only [List.mem_cons, List.not_mem_nil, or_false] at ha
    subst ha
    · cases hb; exact ⟨p, (impl_ValidValves_l1_ok p n k _ _ _ _ _ _ _ p _).trans h⟩
theorem impl_ValidValves_E (p : Nat) : EnvS Tryz.prog (impl_ValidValves_G p) := by
  apply glist_env; intro f ce h
  simp only [List.mem_cons, List.not_mem_nil, or_false, Prod.mk.injEq] at h
  rcases h with ⟨rfl, rfl⟩ | ⟨rfl, rfl⟩ | ⟨rfl, rfl⟩ | ⟨rfl, rfl⟩ | ⟨rfl, rfl⟩ | ⟨rfl, rfl⟩
  · exact impl_ValidNetwork_s p
  · exact impl_IsName_s p
  · exact impl_Network_pipeNamed_s p
  · exact trivial
  · exact trivial
  · exact trivial
theorem impl_ValidValves_I (p : Nat) : ∀ f lt, impl_ValidValves_G p f = some (.inl lt) → LTok Tryz.prog (impl_ValidValves_G p) 5 f lt := by
  apply glist_inl; intro f lt h
  simp only [List.mem_cons, List.not_mem_nil, or_false, Prod.mk.injEq, CE.inl.injEq, and_false, or_false, false_or, reduceCtorEq] at h
  rcases h with ⟨rfl, rfl⟩ | ⟨rfl, rfl⟩ | ⟨rfl, rfl⟩
  · exact LTok_leaf
  · exact LTok_leaf
  · exact (impl_ValidValves_ltok_120 p)
noncomputable def impl_ValidValves_p (p : Nat) (a0 : (Ty.T TNetwork)) (a1 : (List (Ty.T TValve))) : Option (Bool × Unit) :=
  ((impl_ValidNetwork_p p a0).bind fun r1 => (bif (!r1.1) then some (false, ())
 else (bif (decide ((a1.length : Int) > (8 : Int))) then some (false, ())
 else (impl_ValidValves_l0_go p a1 a1 (a1.length : Int) a0.1 a0.2 p (0 : Int) (fun o9 => some (o9, ())) (fun _ => some (true, ()))))))
theorem impl_ValidValves_run (p : Nat) (x : (parsT [.val TNetwork, .val (.slice TValve)]).T) : acall Tryz.prog (impl_ValidValves_G p) 5 4 31 (impl_ValidValves_lt p) (argAVs [.val TNetwork, .val (.slice TValve)] x) ⟨[], 0, []⟩ (outR [.bool]) = impl_ValidValves_p p x.1 x.2.1 := by kernel_rfl
noncomputable def impl_ValidValves_c (p : Nat) : PC := PC.fn true [.val TNetwork, .val (.slice TValve)] [.bool] fun x => impl_ValidValves_p p x.1 x.2.1
theorem impl_ValidValves_s (p : Nat) : PSound Tryz.prog 31 (impl_ValidValves_c p) := pure_sound (impl_ValidValves_E p) Tryz.checked.mixed (impl_ValidValves_I p) (impl_ValidValves_ltok_31 p) (fun _ => rfl) fun x y h => (impl_ValidValves_run p x).trans h
/-! impl.headOk -/
noncomputable def impl_headOk_G (p : Nat) : FuncId → Option CE := glist [(83, .pure (impl_within_c p))]
theorem impl_headOk_E (p : Nat) : EnvS Tryz.prog (impl_headOk_G p) := by
  apply glist_env; intro f ce h
  simp only [List.mem_cons, List.not_mem_nil, or_false, Prod.mk.injEq] at h
  rcases h with ⟨rfl, rfl⟩
  · exact impl_within_s p
theorem impl_headOk_I (p : Nat) : ∀ f lt, impl_headOk_G p f = some (.inl lt) → LTok Tryz.prog (impl_headOk_G p) 5 f lt := by
  apply glist_inl; intro f lt h
  simp only [List.mem_cons, List.not_mem_nil, or_false, Prod.mk.injEq, CE.inl.injEq, and_false, or_false, false_or, reduceCtorEq] at h
  
noncomputable def impl_headOk_p (p : Nat) (a0 : Int) : Option (Bool × Unit) :=
  ((impl_within_p p a0 (0 : Int) (2000000 : Int)).bind fun r1 => some (r1.1, ()))
theorem impl_headOk_run (p : Nat) (x : (parsT [.val (.int .i64)]).T) : acall Tryz.prog (impl_headOk_G p) 5 1 121 .leaf (argAVs [.val (.int .i64)] x) ⟨[], 0, []⟩ (outR [.bool]) = impl_headOk_p p x.1 := by kernel_rfl
noncomputable def impl_headOk_c (p : Nat) : PC := PC.fn true [.val (.int .i64)] [.bool] fun x => impl_headOk_p p x.1
theorem impl_headOk_s (p : Nat) : PSound Tryz.prog 121 (impl_headOk_c p) := pure_sound (impl_headOk_E p) Tryz.checked.mixed (impl_headOk_I p) LTok_leaf (fun _ => rfl) fun x y h => (impl_headOk_run p x).trans h
/-! impl.ValidPump -/
noncomputable def impl_ValidPump_l0_r {α : Type} (p : Nat) (v0 : List (List Int)) (v1 : Int) (v4 : List (List Int)) (rec : (Int) → Option α) (v2 : Int) (k0 : (Bool) → Option α) (k1 : Unit → Option α) : Option α :=
  (bif (decide (v2 < v1)) then (if 0 ≤ v2 then (v0[v2.toNat]?).bind fun y2 => (bif ((y2.length : Int) != (2 : Int)) then (k0 false)
 else (if 0 ≤ (0 : Int) then (y2[(0 : Int).toNat]?).bind fun y3 => ((impl_within_p p y3 (0 : Int) (100000 : Int)).bind fun r4 => (bif (!r4.1) then (k0 false)
 else (if 0 ≤ (1 : Int) then (y2[(1 : Int).toNat]?).bind fun y5 => ((impl_headOk_p p y5).bind fun r6 => (bif (!r6.1) then (k0 false)
 else (bif (v2 == (0 : Int)) then (if 0 ≤ (0 : Int) then (y2[(0 : Int).toNat]?).bind fun y7 => (bif (y7 != (0 : Int)) then (k0 false)
 else (bif (decide (v2 > (0 : Int))) then (if 0 ≤ (0 : Int) then (y2[(0 : Int).toNat]?).bind fun y8 => (if 0 ≤ (IntKind.wrap .i64 (v2 - (1 : Int))) then (v4[(IntKind.wrap .i64 (v2 - (1 : Int))).toNat]?).bind fun y9 => (if 0 ≤ (0 : Int) then (y9[(0 : Int).toNat]?).bind fun y10 => (bif (decide (y8 ≤ y10)) then (k0 false)
 else (if 0 ≤ (1 : Int) then (y2[(1 : Int).toNat]?).bind fun y11 => (if 0 ≤ (IntKind.wrap .i64 (v2 - (1 : Int))) then (v4[(IntKind.wrap .i64 (v2 - (1 : Int))).toNat]?).bind fun y12 => (if 0 ≤ (1 : Int) then (y12[(1 : Int).toNat]?).bind fun y13 => (bif (decide (y11 > y13)) then (k0 false)
 else (rec (IntKind.wrap .i64 (v2 + (1 : Int))))) else none) else none) else none)) else none) else none) else none)
 else (rec (IntKind.wrap .i64 (v2 + (1 : Int)))))) else none)
 else (bif (decide (v2 > (0 : Int))) then (if 0 ≤ (0 : Int) then (y2[(0 : Int).toNat]?).bind fun y14 => (if 0 ≤ (IntKind.wrap .i64 (v2 - (1 : Int))) then (v4[(IntKind.wrap .i64 (v2 - (1 : Int))).toNat]?).bind fun y15 => (if 0 ≤ (0 : Int) then (y15[(0 : Int).toNat]?).bind fun y16 => (bif (decide (y14 ≤ y16)) then (k0 false)
 else (if 0 ≤ (1 : Int) then (y2[(1 : Int).toNat]?).bind fun y17 => (if 0 ≤ (IntKind.wrap .i64 (v2 - (1 : Int))) then (v4[(IntKind.wrap .i64 (v2 - (1 : Int))).toNat]?).bind fun y18 => (if 0 ≤ (1 : Int) then (y18[(1 : Int).toNat]?).bind fun y19 => (bif (decide (y17 > y19)) then (k0 false)
 else (rec (IntKind.wrap .i64 (v2 + (1 : Int))))) else none) else none) else none)) else none) else none) else none)
 else (rec (IntKind.wrap .i64 (v2 + (1 : Int)))))))) else none))) else none)) else none)
 else (k1 ()))
noncomputable def impl_ValidPump_l0_go {α : Type} (p : Nat) (v0 : List (List Int)) (v1 : Int) (v4 : List (List Int)) : Nat → (Int) → ((Bool) → Option α) → (Unit → Option α) → Option α
  | 0, _, _, _ => none
  | q + 1, v2, k0, k1 => impl_ValidPump_l0_r p v0 v1 v4 (fun v2 => impl_ValidPump_l0_go p v0 v1 v4 q v2 k0 k1) v2 k0 k1
def impl_ValidPump_l0_sh : Sh := ⟨[⟨1, false, [.lit (.ptr 0 0)]⟩, ⟨22, false, [.sl (.slice (.int .i64))]⟩, ⟨23, false, [.int .i64]⟩, ⟨24, false, [.int .i64]⟩], 1, [(0, .box [.str, .sl (.slice (.int .i64))])]⟩
noncomputable def impl_ValidPump_lc0 (p : Nat) : LC := LC.alts 0 [⟨0, impl_ValidPump_l0_sh, fun x {α} k => impl_ValidPump_l0_go p x.1.2.1.1 x.1.2.2.1.1 x.2.1.2.1 p x.1.2.2.2.1.1 (fun o0 => k .ret ⟨[(2, .one ⟨false, [.bool o0]⟩)], 0, []⟩) (fun _ => k (.exit 0) ⟨[], 0, []⟩)⟩]
noncomputable def impl_ValidPump_lt (p : Nat) : LT := (.node .leaf (.node .leaf (.node (.node .leaf (.loop [1, 22, 23, 24] [2] (some (impl_ValidPump_lc0 p)) .leaf)) .leaf)))
noncomputable def impl_ValidPump_G (p : Nat) : FuncId → Option CE := glist [(77, .pure (impl_IsName_c p)), (83, .pure (impl_within_c p)), (121, .pure (impl_headOk_c p))]
noncomputable def impl_ValidPump_c0 : Code := codeAt [1, 1, 0, 1, 0, 0] (bodyOf Tryz.f81)
noncomputable def impl_ValidPump_it0 {α : Type} (p n b : Nat) (k : Ex → St → Option α) (q : Nat) (st : St) : Option α :=
  iter (fun s q => aexec Tryz.prog (impl_ValidPump_G p) (fun g lt args st (k : D → St → Option α) => acall Tryz.prog (impl_ValidPump_G p) 5 (n + 0) g lt args st k) 5 b 89 impl_ValidPump_c0 .leaf s q) (canon b [1, 22, 23, 24]) q st (fun e s => k e (canon b [2] s))
theorem impl_ValidPump_l0_step {α : Type} (p n : Nat) (k : Ex → St → Option α) (v0 : List (List Int)) (v1 : Int) (v3 : ByteArray) (v4 : List (List Int)) (q : Nat) (v2 : Int) : impl_ValidPump_it0 p n 0 k (q + 1) (impl_ValidPump_l0_sh.mk' ((((), ()), (v0, ()), (v1, ()), (v2, ()), ()), ((v3, v4, ()), ()))) =
  impl_ValidPump_l0_r p v0 v1 v4 (fun v2 => impl_ValidPump_it0 p n 0 k q (impl_ValidPump_l0_sh.mk' ((((), ()), (v0, ()), (v1, ()), (v2, ()), ()), ((v3, v4, ()), ())))) v2 (fun o0 => k .ret ⟨[(2, .one ⟨false, [.bool o0]⟩)], 0, []⟩) (fun _ => k (.exit 0) ⟨[], 0, []⟩) := by kernel_rfl
theorem impl_ValidPump_l0_ok {α : Type} (p n : Nat) (k : Ex → St → Option α) (v0 : List (List Int)) (v1 : Int) (v3 : ByteArray) (v4 : List (List Int)) : ∀ (q : Nat) (v2 : Int), impl_ValidPump_it0 p n 0 k q (impl_ValidPump_l0_sh.mk' ((((), ()), (v0, ()), (v1, ()), (v2, ()), ()), ((v3, v4, ()), ()))) =
  impl_ValidPump_l0_go p v0 v1 v4 q v2 (fun o0 => k .ret ⟨[(2, .one ⟨false, [.bool o0]⟩)], 0, []⟩) (fun _ => k (.exit 0) ⟨[], 0, []⟩) := by
  intro q
  induction q with
  | zero => intros; rfl
  | succ q ih => intro v2; rw [impl_ValidPump_l0_step]; simp only [ih]; rfl
theorem impl_ValidPump_ltok_81_ls (p : Nat) : loopsOf (bodyOf Tryz.f81) (impl_ValidPump_lt p) = [⟨impl_ValidPump_c0, [1, 22, 23, 24], [2], impl_ValidPump_lc0 p, .leaf⟩] := by kernel_rfl
theorem impl_ValidPump_ltok_81_dep (p : Nat) : LT.dep (impl_ValidPump_lt p) = 0 := by kernel_rfl
theorem impl_ValidPump_ltok_81 (p : Nat) : LTok Tryz.prog (impl_ValidPump_G p) 5 81 (impl_ValidPump_lt p) := by
  intro α n base fn c hd hfn hc
  have hfn' : some fn = some Tryz.f81 := hfn.symm.trans Tryz.func81
  cases hfn'
  have hc' : c = bodyOf Tryz.f81 := by unfold bodyOf; rw [hc]; rfl
  subst hc'
  rw [impl_ValidPump_ltok_81_dep] at hd
  obtain ⟨n, rfl⟩ := Nat.exists_eq_add_of_le' hd
  apply LTS_of_loops
  rw [impl_ValidPump_ltok_81_ls]
  intro e he st k r h
  simp only [List.mem_cons, List.not_mem_nil, or_false] at he
  subst he
  · obtain ⟨a, ha, hb, x, rfl, h⟩ := altRun_ok h
    simp only [List.mem_cons, List.not_mem_nil, or_false] at ha
    subst ha
    · cases hb; exact ⟨p, (impl_ValidPump_l0_ok p n k _ _ _ _ p _).trans h⟩
theorem impl_ValidPump_E (p : Nat) : EnvS Tryz.prog (impl_ValidPump_G p) := by
  apply glist_env; intro f ce h
  simp only [List.mem_cons, List.not_mem_nil, or_false, Prod.mk.injEq] at h
  rcases h with ⟨rfl, rfl⟩ | ⟨rfl, rfl⟩ | ⟨rfl, rfl⟩
  · exact impl_IsName_s p
  · exact impl_within_s p
  · exact impl_headOk_s p
theorem impl_ValidPump_I (p : Nat) : ∀ f lt, impl_ValidPump_G p f = some (.inl lt) → LTok Tryz.prog (impl_ValidPump_G p) 5 f lt := by
  apply glist_inl; intro f lt h
  simp only [List.mem_cons, List.not_mem_nil, or_false, Prod.mk.injEq, CE.inl.injEq, and_false, or_false, false_or, reduceCtorEq] at h
  
noncomputable def impl_ValidPump_p (p : Nat) (a0 : (Ty.T TPump)) : Option (Bool × Unit) :=
  ((impl_IsName_p p a0.1).bind fun r1 => (bif (!r1.1) then some (false, ())
 else (bif (decide ((a0.2.length : Int) < (2 : Int))) then some (false, ())
 else (bif (decide ((a0.2.length : Int) > (8 : Int))) then some (false, ())
 else (impl_ValidPump_l0_go p a0.2 (a0.2.length : Int) a0.2 p (0 : Int) (fun o20 => some (o20, ())) (fun _ => some (true, ())))))))
theorem impl_ValidPump_run (p : Nat) (x : (parsT [.val TPump]).T) : acall Tryz.prog (impl_ValidPump_G p) 5 1 81 (impl_ValidPump_lt p) (argAVs [.val TPump] x) ⟨[], 0, []⟩ (outR [.bool]) = impl_ValidPump_p p x.1 := by kernel_rfl
noncomputable def impl_ValidPump_c (p : Nat) : PC := PC.fn true [.val TPump] [.bool] fun x => impl_ValidPump_p p x.1
theorem impl_ValidPump_s (p : Nat) : PSound Tryz.prog 81 (impl_ValidPump_c p) := pure_sound (impl_ValidPump_E p) Tryz.checked.mixed (impl_ValidPump_I p) (impl_ValidPump_ltok_81 p) (fun _ => rfl) fun x y h => (impl_ValidPump_run p x).trans h
/-! impl.pumpsOk -/
noncomputable def impl_pumpsOk_l0_r {α : Type} (p : Nat) (v0 : List (Ty.T TPump)) (v1 : List (Ty.T TPump)) (v2 : Int) (rec : (Int) → Option α) (v3 : Int) (k0 : (Bool) → Option α) (k1 : Unit → Option α) : Option α :=
  (bif (decide (v3 < v2)) then (if 0 ≤ v3 then (v1[v3.toNat]?).bind fun y1 => ((impl_ValidPump_p p y1).bind fun r2 => (bif (!r2.1) then (k0 false)
 else (bif (decide (v3 > (0 : Int))) then (if 0 ≤ (IntKind.wrap .i64 (v3 - (1 : Int))) then (v0[(IntKind.wrap .i64 (v3 - (1 : Int))).toNat]?).bind fun y3 => (bif ((Op.bytesLess y1.1.toList y3.1.toList) || (y1.1.toList == y3.1.toList)) then (k0 false)
 else (rec (IntKind.wrap .i64 (v3 + (1 : Int))))) else none)
 else (rec (IntKind.wrap .i64 (v3 + (1 : Int))))))) else none)
 else (k1 ()))
noncomputable def impl_pumpsOk_l0_go {α : Type} (p : Nat) (v0 : List (Ty.T TPump)) (v1 : List (Ty.T TPump)) (v2 : Int) : Nat → (Int) → ((Bool) → Option α) → (Unit → Option α) → Option α
  | 0, _, _, _ => none
  | q + 1, v3, k0, k1 => impl_pumpsOk_l0_r p v0 v1 v2 (fun v3 => impl_pumpsOk_l0_go p v0 v1 v2 q v3 k0 k1) v3 k0 k1
def impl_pumpsOk_l0_sh : Sh := ⟨[⟨0, false, [.sl TPump]⟩, ⟨5, false, [.sl TPump]⟩, ⟨6, false, [.int .i64]⟩, ⟨7, false, [.int .i64]⟩], 0, []⟩
noncomputable def impl_pumpsOk_lc0 (p : Nat) : LC := LC.alts 0 [⟨0, impl_pumpsOk_l0_sh, fun x {α} k => impl_pumpsOk_l0_go p x.1.1.1 x.1.2.1.1 x.1.2.2.1.1 p x.1.2.2.2.1.1 (fun o1 => k .ret ⟨[(0, .one ⟨false, [.sl TPump x.1.1.1]⟩), (2, .one ⟨false, [.bool o1]⟩)], 0, []⟩) (fun _ => k (.exit 0) ⟨[(0, .one ⟨false, [.sl TPump x.1.1.1]⟩)], 0, []⟩)⟩]
noncomputable def impl_pumpsOk_lt (p : Nat) : LT := (.node .leaf (.node (.node .leaf (.loop [0, 5, 6, 7] [0, 2] (some (impl_pumpsOk_lc0 p)) .leaf)) .leaf))
noncomputable def impl_pumpsOk_G (p : Nat) : FuncId → Option CE := glist [(81, .pure (impl_ValidPump_c p))]
noncomputable def impl_pumpsOk_c0 : Code := codeAt [1, 0, 1, 0, 0] (bodyOf Tryz.f32)
noncomputable def impl_pumpsOk_it0 {α : Type} (p n b : Nat) (k : Ex → St → Option α) (q : Nat) (st : St) : Option α :=
  iter (fun s q => aexec Tryz.prog (impl_pumpsOk_G p) (fun g lt args st (k : D → St → Option α) => acall Tryz.prog (impl_pumpsOk_G p) 5 (n + 0) g lt args st k) 5 b 34 impl_pumpsOk_c0 .leaf s q) (canon b [0, 5, 6, 7]) q st (fun e s => k e (canon b [0, 2] s))
theorem impl_pumpsOk_l0_step {α : Type} (p n : Nat) (k : Ex → St → Option α) (v0 : List (Ty.T TPump)) (v1 : List (Ty.T TPump)) (v2 : Int) (q : Nat) (v3 : Int) : impl_pumpsOk_it0 p n 0 k (q + 1) (impl_pumpsOk_l0_sh.mk' (((v0, ()), (v1, ()), (v2, ()), (v3, ()), ()), (()))) =
  impl_pumpsOk_l0_r p v0 v1 v2 (fun v3 => impl_pumpsOk_it0 p n 0 k q (impl_pumpsOk_l0_sh.mk' (((v0, ()), (v1, ()), (v2, ()), (v3, ()), ()), (())))) v3 (fun o1 => k .ret ⟨[(0, .one ⟨false, [.sl TPump v0]⟩), (2, .one ⟨false, [.bool o1]⟩)], 0, []⟩) (fun _ => k (.exit 0) ⟨[(0, .one ⟨false, [.sl TPump v0]⟩)], 0, []⟩) := by kernel_rfl
theorem impl_pumpsOk_l0_ok {α : Type} (p n : Nat) (k : Ex → St → Option α) (v0 : List (Ty.T TPump)) (v1 : List (Ty.T TPump)) (v2 : Int) : ∀ (q : Nat) (v3 : Int), impl_pumpsOk_it0 p n 0 k q (impl_pumpsOk_l0_sh.mk' (((v0, ()), (v1, ()), (v2, ()), (v3, ()), ()), (()))) =
  impl_pumpsOk_l0_go p v0 v1 v2 q v3 (fun o1 => k .ret ⟨[(0, .one ⟨false, [.sl TPump v0]⟩), (2, .one ⟨false, [.bool o1]⟩)], 0, []⟩) (fun _ => k (.exit 0) ⟨[(0, .one ⟨false, [.sl TPump v0]⟩)], 0, []⟩) := by
  intro q
  induction q with
  | zero => intros; rfl
  | succ q ih => intro v3; rw [impl_pumpsOk_l0_step]; simp only [ih]; rfl
theorem impl_pumpsOk_ltok_32_ls (p : Nat) : loopsOf (bodyOf Tryz.f32) (impl_pumpsOk_lt p) = [⟨impl_pumpsOk_c0, [0, 5, 6, 7], [0, 2], impl_pumpsOk_lc0 p, .leaf⟩] := by kernel_rfl
theorem impl_pumpsOk_ltok_32_dep (p : Nat) : LT.dep (impl_pumpsOk_lt p) = 0 := by kernel_rfl
theorem impl_pumpsOk_ltok_32 (p : Nat) : LTok Tryz.prog (impl_pumpsOk_G p) 5 32 (impl_pumpsOk_lt p) := by
  intro α n base fn c hd hfn hc
  have hfn' : some fn = some Tryz.f32 := hfn.symm.trans Tryz.func32
  cases hfn'
  have hc' : c = bodyOf Tryz.f32 := by unfold bodyOf; rw [hc]; rfl
  subst hc'
  rw [impl_pumpsOk_ltok_32_dep] at hd
  obtain ⟨n, rfl⟩ := Nat.exists_eq_add_of_le' hd
  apply LTS_of_loops
  rw [impl_pumpsOk_ltok_32_ls]
  intro e he st k r h
  simp only [List.mem_cons, List.not_mem_nil, or_false] at he
  subst he
  · obtain ⟨a, ha, hb, x, rfl, h⟩ := altRun_ok h
    simp only [List.mem_cons, List.not_mem_nil, or_false] at ha
    subst ha
    · cases hb; exact ⟨p, (impl_pumpsOk_l0_ok p n k _ _ _ p _).trans h⟩
theorem impl_pumpsOk_E (p : Nat) : EnvS Tryz.prog (impl_pumpsOk_G p) := by
  apply glist_env; intro f ce h
  simp only [List.mem_cons, List.not_mem_nil, or_false, Prod.mk.injEq] at h
  rcases h with ⟨rfl, rfl⟩
  · exact impl_ValidPump_s p
theorem impl_pumpsOk_I (p : Nat) : ∀ f lt, impl_pumpsOk_G p f = some (.inl lt) → LTok Tryz.prog (impl_pumpsOk_G p) 5 f lt := by
  apply glist_inl; intro f lt h
  simp only [List.mem_cons, List.not_mem_nil, or_false, Prod.mk.injEq, CE.inl.injEq, and_false, or_false, false_or, reduceCtorEq] at h
  
noncomputable def impl_pumpsOk_p (p : Nat) (a0 : (List (Ty.T TPump))) : Option (Bool × Unit) :=
  (impl_pumpsOk_l0_go p a0 a0 (a0.length : Int) p (0 : Int) (fun o4 => some (o4, ())) (fun _ => some ((decide ((a0.length : Int) ≤ (8 : Int))), ())))
theorem impl_pumpsOk_run (p : Nat) (x : (parsT [.val (.slice TPump)]).T) : acall Tryz.prog (impl_pumpsOk_G p) 5 1 32 (impl_pumpsOk_lt p) (argAVs [.val (.slice TPump)] x) ⟨[], 0, []⟩ (outR [.bool]) = impl_pumpsOk_p p x.1 := by kernel_rfl
noncomputable def impl_pumpsOk_c (p : Nat) : PC := PC.fn true [.val (.slice TPump)] [.bool] fun x => impl_pumpsOk_p p x.1
theorem impl_pumpsOk_s (p : Nat) : PSound Tryz.prog 32 (impl_pumpsOk_c p) := pure_sound (impl_pumpsOk_E p) Tryz.checked.mixed (impl_pumpsOk_I p) (impl_pumpsOk_ltok_32 p) (fun _ => rfl) fun x y h => (impl_pumpsOk_run p x).trans h
/-! impl.waterOk -/
noncomputable def impl_waterOk_G (p : Nat) : FuncId → Option CE := glist [(83, .pure (impl_within_c p))]
theorem impl_waterOk_E (p : Nat) : EnvS Tryz.prog (impl_waterOk_G p) := by
  apply glist_env; intro f ce h
  simp only [List.mem_cons, List.not_mem_nil, or_false, Prod.mk.injEq] at h
  rcases h with ⟨rfl, rfl⟩
  · exact impl_within_s p
theorem impl_waterOk_I (p : Nat) : ∀ f lt, impl_waterOk_G p f = some (.inl lt) → LTok Tryz.prog (impl_waterOk_G p) 5 f lt := by
  apply glist_inl; intro f lt h
  simp only [List.mem_cons, List.not_mem_nil, or_false, Prod.mk.injEq, CE.inl.injEq, and_false, or_false, false_or, reduceCtorEq] at h
  
noncomputable def impl_waterOk_p (p : Nat) (a0 : Int) : Option (Bool × Unit) :=
  ((impl_within_p p a0 (0 : Int) (18000 : Int)).bind fun r1 => some (r1.1, ()))
theorem impl_waterOk_run (p : Nat) (x : (parsT [.val (.int .i64)]).T) : acall Tryz.prog (impl_waterOk_G p) 5 1 122 .leaf (argAVs [.val (.int .i64)] x) ⟨[], 0, []⟩ (outR [.bool]) = impl_waterOk_p p x.1 := by kernel_rfl
noncomputable def impl_waterOk_c (p : Nat) : PC := PC.fn true [.val (.int .i64)] [.bool] fun x => impl_waterOk_p p x.1
theorem impl_waterOk_s (p : Nat) : PSound Tryz.prog 122 (impl_waterOk_c p) := pure_sound (impl_waterOk_E p) Tryz.checked.mixed (impl_waterOk_I p) LTok_leaf (fun _ => rfl) fun x y h => (impl_waterOk_run p x).trans h
/-! impl.ValidSubstation -/
noncomputable def impl_ValidSubstation_G (p : Nat) : FuncId → Option CE := glist [(77, .pure (impl_IsName_c p)), (83, .pure (impl_within_c p)), (115, .pure (impl_nodeOk_c p)), (122, .pure (impl_waterOk_c p))]
theorem impl_ValidSubstation_E (p : Nat) : EnvS Tryz.prog (impl_ValidSubstation_G p) := by
  apply glist_env; intro f ce h
  simp only [List.mem_cons, List.not_mem_nil, or_false, Prod.mk.injEq] at h
  rcases h with ⟨rfl, rfl⟩ | ⟨rfl, rfl⟩ | ⟨rfl, rfl⟩ | ⟨rfl, rfl⟩
  · exact impl_IsName_s p
  · exact impl_within_s p
  · exact impl_nodeOk_s p
  · exact impl_waterOk_s p
theorem impl_ValidSubstation_I (p : Nat) : ∀ f lt, impl_ValidSubstation_G p f = some (.inl lt) → LTok Tryz.prog (impl_ValidSubstation_G p) 5 f lt := by
  apply glist_inl; intro f lt h
  simp only [List.mem_cons, List.not_mem_nil, or_false, Prod.mk.injEq, CE.inl.injEq, and_false, or_false, false_or, reduceCtorEq] at h
  
noncomputable def impl_ValidSubstation_p (p : Nat) (a0 : (Ty.T TSubstation)) : Option (Bool × Unit) :=
  ((impl_IsName_p p a0.1).bind fun r1 => (bif r1.1 then ((impl_nodeOk_p p a0.2.1).bind fun r2 => (bif r2.1 then ((impl_within_p p a0.2.2.1 (1 : Int) (100000 : Int)).bind fun r3 => (bif r3.1 then ((impl_waterOk_p p a0.2.2.2.1).bind fun r4 => (bif r4.1 then ((impl_within_p p a0.2.2.2.2 (0 : Int) (IntKind.wrap .i64 (a0.2.2.2.1 - (1 : Int)))).bind fun r5 => some (r5.1, ()))
 else some (false, ())))
 else some (false, ())))
 else some (false, ())))
 else some (false, ())))
theorem impl_ValidSubstation_run (p : Nat) (x : (parsT [.val TSubstation]).T) : acall Tryz.prog (impl_ValidSubstation_G p) 5 1 82 .leaf (argAVs [.val TSubstation] x) ⟨[], 0, []⟩ (outR [.bool]) = impl_ValidSubstation_p p x.1 := by kernel_rfl
noncomputable def impl_ValidSubstation_c (p : Nat) : PC := PC.fn true [.val TSubstation] [.bool] fun x => impl_ValidSubstation_p p x.1
theorem impl_ValidSubstation_s (p : Nat) : PSound Tryz.prog 82 (impl_ValidSubstation_c p) := pure_sound (impl_ValidSubstation_E p) Tryz.checked.mixed (impl_ValidSubstation_I p) LTok_leaf (fun _ => rfl) fun x y h => (impl_ValidSubstation_run p x).trans h
/-! impl.ValidSubstations -/
noncomputable def impl_ValidSubstations_l0_r {α : Type} (p : Nat) (v0 : List (Ty.T TSubstation)) (v1 : List (Ty.T TSubstation)) (v2 : Int) (rec : (Int) → Option α) (v3 : Int) (k0 : (Bool) → Option α) (k1 : Unit → Option α) : Option α :=
  (bif (decide (v3 < v2)) then (if 0 ≤ v3 then (v1[v3.toNat]?).bind fun y1 => ((impl_ValidSubstation_p p y1).bind fun r2 => (bif (!r2.1) then (k0 false)
 else (bif (decide (v3 > (0 : Int))) then (if 0 ≤ (IntKind.wrap .i64 (v3 - (1 : Int))) then (v0[(IntKind.wrap .i64 (v3 - (1 : Int))).toNat]?).bind fun y3 => (bif ((Op.bytesLess y1.1.toList y3.1.toList) || (y1.1.toList == y3.1.toList)) then (k0 false)
 else (rec (IntKind.wrap .i64 (v3 + (1 : Int))))) else none)
 else (rec (IntKind.wrap .i64 (v3 + (1 : Int))))))) else none)
 else (k1 ()))
noncomputable def impl_ValidSubstations_l0_go {α : Type} (p : Nat) (v0 : List (Ty.T TSubstation)) (v1 : List (Ty.T TSubstation)) (v2 : Int) : Nat → (Int) → ((Bool) → Option α) → (Unit → Option α) → Option α
  | 0, _, _, _ => none
  | q + 1, v3, k0, k1 => impl_ValidSubstations_l0_r p v0 v1 v2 (fun v3 => impl_ValidSubstations_l0_go p v0 v1 v2 q v3 k0 k1) v3 k0 k1
def impl_ValidSubstations_l0_sh : Sh := ⟨[⟨0, false, [.sl TSubstation]⟩, ⟨8, false, [.sl TSubstation]⟩, ⟨9, false, [.int .i64]⟩, ⟨10, false, [.int .i64]⟩], 0, []⟩
noncomputable def impl_ValidSubstations_lc0 (p : Nat) : LC := LC.alts 0 [⟨0, impl_ValidSubstations_l0_sh, fun x {α} k => impl_ValidSubstations_l0_go p x.1.1.1 x.1.2.1.1 x.1.2.2.1.1 p x.1.2.2.2.1.1 (fun o0 => k .ret ⟨[(2, .one ⟨false, [.bool o0]⟩)], 0, []⟩) (fun _ => k (.exit 0) ⟨[], 0, []⟩)⟩]
noncomputable def impl_ValidSubstations_lt (p : Nat) : LT := (.node .leaf (.node .leaf (.node (.node .leaf (.loop [0, 8, 9, 10] [2] (some (impl_ValidSubstations_lc0 p)) .leaf)) .leaf)))
noncomputable def impl_ValidSubstations_G (p : Nat) : FuncId → Option CE := glist [(82, .pure (impl_ValidSubstation_c p))]
noncomputable def impl_ValidSubstations_c0 : Code := codeAt [1, 1, 0, 1, 0, 0] (bodyOf Tryz.f33)
noncomputable def impl_ValidSubstations_it0 {α : Type} (p n b : Nat) (k : Ex → St → Option α) (q : Nat) (st : St) : Option α :=
  iter (fun s q => aexec Tryz.prog (impl_ValidSubstations_G p) (fun g lt args st (k : D → St → Option α) => acall Tryz.prog (impl_ValidSubstations_G p) 5 (n + 0) g lt args st k) 5 b 34 impl_ValidSubstations_c0 .leaf s q) (canon b [0, 8, 9, 10]) q st (fun e s => k e (canon b [2] s))
theorem impl_ValidSubstations_l0_step {α : Type} (p n : Nat) (k : Ex → St → Option α) (v0 : List (Ty.T TSubstation)) (v1 : List (Ty.T TSubstation)) (v2 : Int) (q : Nat) (v3 : Int) : impl_ValidSubstations_it0 p n 0 k (q + 1) (impl_ValidSubstations_l0_sh.mk' (((v0, ()), (v1, ()), (v2, ()), (v3, ()), ()), (()))) =
  impl_ValidSubstations_l0_r p v0 v1 v2 (fun v3 => impl_ValidSubstations_it0 p n 0 k q (impl_ValidSubstations_l0_sh.mk' (((v0, ()), (v1, ()), (v2, ()), (v3, ()), ()), (())))) v3 (fun o0 => k .ret ⟨[(2, .one ⟨false, [.bool o0]⟩)], 0, []⟩) (fun _ => k (.exit 0) ⟨[], 0, []⟩) := by kernel_rfl
theorem impl_ValidSubstations_l0_ok {α : Type} (p n : Nat) (k : Ex → St → Option α) (v0 : List (Ty.T TSubstation)) (v1 : List (Ty.T TSubstation)) (v2 : Int) : ∀ (q : Nat) (v3 : Int), impl_ValidSubstations_it0 p n 0 k q (impl_ValidSubstations_l0_sh.mk' (((v0, ()), (v1, ()), (v2, ()), (v3, ()), ()), (()))) =
  impl_ValidSubstations_l0_go p v0 v1 v2 q v3 (fun o0 => k .ret ⟨[(2, .one ⟨false, [.bool o0]⟩)], 0, []⟩) (fun _ => k (.exit 0) ⟨[], 0, []⟩) := by
  intro q
  induction q with
  | zero => intros; rfl
  | succ q ih => intro v3; rw [impl_ValidSubstations_l0_step]; simp only [ih]; rfl
theorem impl_ValidSubstations_ltok_33_ls (p : Nat) : loopsOf (bodyOf Tryz.f33) (impl_ValidSubstations_lt p) = [⟨impl_ValidSubstations_c0, [0, 8, 9, 10], [2], impl_ValidSubstations_lc0 p, .leaf⟩] := by kernel_rfl
theorem impl_ValidSubstations_ltok_33_dep (p : Nat) : LT.dep (impl_ValidSubstations_lt p) = 0 := by kernel_rfl
theorem impl_ValidSubstations_ltok_33 (p : Nat) : LTok Tryz.prog (impl_ValidSubstations_G p) 5 33 (impl_ValidSubstations_lt p) := by
  intro α n base fn c hd hfn hc
  have hfn' : some fn = some Tryz.f33 := hfn.symm.trans Tryz.func33
  cases hfn'
  have hc' : c = bodyOf Tryz.f33 := by unfold bodyOf; rw [hc]; rfl
  subst hc'
  rw [impl_ValidSubstations_ltok_33_dep] at hd
  obtain ⟨n, rfl⟩ := Nat.exists_eq_add_of_le' hd
  apply LTS_of_loops
  rw [impl_ValidSubstations_ltok_33_ls]
  intro e he st k r h
  simp only [List.mem_cons, List.not_mem_nil, or_false] at he
  subst he
  · obtain ⟨a, ha, hb, x, rfl, h⟩ := altRun_ok h
    simp only [List.mem_cons, List.not_mem_nil, or_false] at ha
    subst ha
    · cases hb; exact ⟨p, (impl_ValidSubstations_l0_ok p n k _ _ _ p _).trans h⟩
theorem impl_ValidSubstations_E (p : Nat) : EnvS Tryz.prog (impl_ValidSubstations_G p) := by
  apply glist_env; intro f ce h
  simp only [List.mem_cons, List.not_mem_nil, or_false, Prod.mk.injEq] at h
  rcases h with ⟨rfl, rfl⟩
  · exact impl_ValidSubstation_s p
theorem impl_ValidSubstations_I (p : Nat) : ∀ f lt, impl_ValidSubstations_G p f = some (.inl lt) → LTok Tryz.prog (impl_ValidSubstations_G p) 5 f lt := by
  apply glist_inl; intro f lt h
  simp only [List.mem_cons, List.not_mem_nil, or_false, Prod.mk.injEq, CE.inl.injEq, and_false, or_false, false_or, reduceCtorEq] at h
  
noncomputable def impl_ValidSubstations_p (p : Nat) (a0 : (List (Ty.T TSubstation))) : Option (Bool × Unit) :=
  (bif (decide ((a0.length : Int) > (12 : Int))) then some (false, ())
 else (impl_ValidSubstations_l0_go p a0 a0 (a0.length : Int) p (0 : Int) (fun o4 => some (o4, ())) (fun _ => some (true, ()))))
theorem impl_ValidSubstations_run (p : Nat) (x : (parsT [.val (.slice TSubstation)]).T) : acall Tryz.prog (impl_ValidSubstations_G p) 5 1 33 (impl_ValidSubstations_lt p) (argAVs [.val (.slice TSubstation)] x) ⟨[], 0, []⟩ (outR [.bool]) = impl_ValidSubstations_p p x.1 := by kernel_rfl
noncomputable def impl_ValidSubstations_c (p : Nat) : PC := PC.fn true [.val (.slice TSubstation)] [.bool] fun x => impl_ValidSubstations_p p x.1
theorem impl_ValidSubstations_s (p : Nat) : PSound Tryz.prog 33 (impl_ValidSubstations_c p) := pure_sound (impl_ValidSubstations_E p) Tryz.checked.mixed (impl_ValidSubstations_I p) (impl_ValidSubstations_ltok_33 p) (fun _ => rfl) fun x y h => (impl_ValidSubstations_run p x).trans h
/-! impl.ValidTank -/
noncomputable def impl_ValidTank_G (p : Nat) : FuncId → Option CE := glist [(83, .pure (impl_within_c p))]
theorem impl_ValidTank_E (p : Nat) : EnvS Tryz.prog (impl_ValidTank_G p) := by
  apply glist_env; intro f ce h
  simp only [List.mem_cons, List.not_mem_nil, or_false, Prod.mk.injEq] at h
  rcases h with ⟨rfl, rfl⟩
  · exact impl_within_s p
theorem impl_ValidTank_I (p : Nat) : ∀ f lt, impl_ValidTank_G p f = some (.inl lt) → LTok Tryz.prog (impl_ValidTank_G p) 5 f lt := by
  apply glist_inl; intro f lt h
  simp only [List.mem_cons, List.not_mem_nil, or_false, Prod.mk.injEq, CE.inl.injEq, and_false, or_false, false_or, reduceCtorEq] at h
  
noncomputable def impl_ValidTank_p (p : Nat) (a0 : (Ty.T TTank)) : Option (Bool × Unit) :=
  ((impl_within_p p a0.1 (1 : Int) (100 : Int)).bind fun r1 => (bif r1.1 then ((impl_within_p p a0.2.1 (1 : Int) (20 : Int)).bind fun r2 => (bif r2.1 then ((impl_within_p p a0.2.2 (0 : Int) (1000 : Int)).bind fun r3 => some (r3.1, ()))
 else some (false, ())))
 else some (false, ())))
theorem impl_ValidTank_run (p : Nat) (x : (parsT [.val TTank]).T) : acall Tryz.prog (impl_ValidTank_G p) 5 1 34 .leaf (argAVs [.val TTank] x) ⟨[], 0, []⟩ (outR [.bool]) = impl_ValidTank_p p x.1 := by kernel_rfl
noncomputable def impl_ValidTank_c (p : Nat) : PC := PC.fn true [.val TTank] [.bool] fun x => impl_ValidTank_p p x.1
theorem impl_ValidTank_s (p : Nat) : PSound Tryz.prog 34 (impl_ValidTank_c p) := pure_sound (impl_ValidTank_E p) Tryz.checked.mixed (impl_ValidTank_I p) LTok_leaf (fun _ => rfl) fun x y h => (impl_ValidTank_run p x).trans h
/-! (impl.Fuel).valid -/
noncomputable def impl_Fuel_valid_G (p : Nat) : FuncId → Option CE := glist [(77, .pure (impl_IsName_c p)), (83, .pure (impl_within_c p))]
theorem impl_Fuel_valid_E (p : Nat) : EnvS Tryz.prog (impl_Fuel_valid_G p) := by
  apply glist_env; intro f ce h
  simp only [List.mem_cons, List.not_mem_nil, or_false, Prod.mk.injEq] at h
  rcases h with ⟨rfl, rfl⟩ | ⟨rfl, rfl⟩
  · exact impl_IsName_s p
  · exact impl_within_s p
theorem impl_Fuel_valid_I (p : Nat) : ∀ f lt, impl_Fuel_valid_G p f = some (.inl lt) → LTok Tryz.prog (impl_Fuel_valid_G p) 5 f lt := by
  apply glist_inl; intro f lt h
  simp only [List.mem_cons, List.not_mem_nil, or_false, Prod.mk.injEq, CE.inl.injEq, and_false, or_false, false_or, reduceCtorEq] at h
  
noncomputable def impl_Fuel_valid_p (p : Nat) (a0 : (Ty.T TFuel)) : Option (Bool × Unit) :=
  ((impl_IsName_p p a0.1).bind fun r1 => (bif r1.1 then ((impl_within_p p a0.2.1 (0 : Int) (20 : Int)).bind fun r2 => (bif r2.1 then ((impl_within_p p a0.2.2.1 (0 : Int) (1000 : Int)).bind fun r3 => (bif r3.1 then ((impl_within_p p a0.2.2.2 (0 : Int) (20 : Int)).bind fun r4 => some (r4.1, ()))
 else some (false, ())))
 else some (false, ())))
 else some (false, ())))
theorem impl_Fuel_valid_run (p : Nat) (x : (parsT [.val TFuel]).T) : acall Tryz.prog (impl_Fuel_valid_G p) 5 1 84 .leaf (argAVs [.val TFuel] x) ⟨[], 0, []⟩ (outR [.bool]) = impl_Fuel_valid_p p x.1 := by kernel_rfl
noncomputable def impl_Fuel_valid_c (p : Nat) : PC := PC.fn true [.val TFuel] [.bool] fun x => impl_Fuel_valid_p p x.1
theorem impl_Fuel_valid_s (p : Nat) : PSound Tryz.prog 84 (impl_Fuel_valid_c p) := pure_sound (impl_Fuel_valid_E p) Tryz.checked.mixed (impl_Fuel_valid_I p) LTok_leaf (fun _ => rfl) fun x y h => (impl_Fuel_valid_run p x).trans h
/-! impl.ValidFuels -/
noncomputable def impl_ValidFuels_l0_r {α : Type} (p : Nat) (v0 : List (Ty.T TFuel)) (v1 : List (Ty.T TFuel)) (v2 : Int) (rec : (Int) → Option α) (v3 : Int) (k0 : (Bool) → Option α) (k1 : Unit → Option α) : Option α :=
  (bif (decide (v3 < v2)) then (if 0 ≤ v3 then (v1[v3.toNat]?).bind fun y1 => ((impl_Fuel_valid_p p y1).bind fun r2 => (bif (!r2.1) then (k0 false)
 else (bif (decide (v3 > (0 : Int))) then (if 0 ≤ (IntKind.wrap .i64 (v3 - (1 : Int))) then (v0[(IntKind.wrap .i64 (v3 - (1 : Int))).toNat]?).bind fun y3 => (bif ((Op.bytesLess y1.1.toList y3.1.toList) || (y1.1.toList == y3.1.toList)) then (k0 false)
 else (rec (IntKind.wrap .i64 (v3 + (1 : Int))))) else none)
 else (rec (IntKind.wrap .i64 (v3 + (1 : Int))))))) else none)
 else (k1 ()))
noncomputable def impl_ValidFuels_l0_go {α : Type} (p : Nat) (v0 : List (Ty.T TFuel)) (v1 : List (Ty.T TFuel)) (v2 : Int) : Nat → (Int) → ((Bool) → Option α) → (Unit → Option α) → Option α
  | 0, _, _, _ => none
  | q + 1, v3, k0, k1 => impl_ValidFuels_l0_r p v0 v1 v2 (fun v3 => impl_ValidFuels_l0_go p v0 v1 v2 q v3 k0 k1) v3 k0 k1
def impl_ValidFuels_l0_sh : Sh := ⟨[⟨0, false, [.sl TFuel]⟩, ⟨8, false, [.sl TFuel]⟩, ⟨9, false, [.int .i64]⟩, ⟨10, false, [.int .i64]⟩], 0, []⟩
noncomputable def impl_ValidFuels_lc0 (p : Nat) : LC := LC.alts 0 [⟨0, impl_ValidFuels_l0_sh, fun x {α} k => impl_ValidFuels_l0_go p x.1.1.1 x.1.2.1.1 x.1.2.2.1.1 p x.1.2.2.2.1.1 (fun o0 => k .ret ⟨[(2, .one ⟨false, [.bool o0]⟩)], 0, []⟩) (fun _ => k (.exit 0) ⟨[], 0, []⟩)⟩]
noncomputable def impl_ValidFuels_lt (p : Nat) : LT := (.node .leaf (.node .leaf (.node (.node .leaf (.loop [0, 8, 9, 10] [2] (some (impl_ValidFuels_lc0 p)) .leaf)) .leaf)))
noncomputable def impl_ValidFuels_G (p : Nat) : FuncId → Option CE := glist [(84, .pure (impl_Fuel_valid_c p))]
noncomputable def impl_ValidFuels_c0 : Code := codeAt [1, 1, 0, 1, 0, 0] (bodyOf Tryz.f35)
noncomputable def impl_ValidFuels_it0 {α : Type} (p n b : Nat) (k : Ex → St → Option α) (q : Nat) (st : St) : Option α :=
  iter (fun s q => aexec Tryz.prog (impl_ValidFuels_G p) (fun g lt args st (k : D → St → Option α) => acall Tryz.prog (impl_ValidFuels_G p) 5 (n + 0) g lt args st k) 5 b 34 impl_ValidFuels_c0 .leaf s q) (canon b [0, 8, 9, 10]) q st (fun e s => k e (canon b [2] s))
theorem impl_ValidFuels_l0_step {α : Type} (p n : Nat) (k : Ex → St → Option α) (v0 : List (Ty.T TFuel)) (v1 : List (Ty.T TFuel)) (v2 : Int) (q : Nat) (v3 : Int) : impl_ValidFuels_it0 p n 0 k (q + 1) (impl_ValidFuels_l0_sh.mk' (((v0, ()), (v1, ()), (v2, ()), (v3, ()), ()), (()))) =
  impl_ValidFuels_l0_r p v0 v1 v2 (fun v3 => impl_ValidFuels_it0 p n 0 k q (impl_ValidFuels_l0_sh.mk' (((v0, ()), (v1, ()), (v2, ()), (v3, ()), ()), (())))) v3 (fun o0 => k .ret ⟨[(2, .one ⟨false, [.bool o0]⟩)], 0, []⟩) (fun _ => k (.exit 0) ⟨[], 0, []⟩) := by kernel_rfl
theorem impl_ValidFuels_l0_ok {α : Type} (p n : Nat) (k : Ex → St → Option α) (v0 : List (Ty.T TFuel)) (v1 : List (Ty.T TFuel)) (v2 : Int) : ∀ (q : Nat) (v3 : Int), impl_ValidFuels_it0 p n 0 k q (impl_ValidFuels_l0_sh.mk' (((v0, ()), (v1, ()), (v2, ()), (v3, ()), ()), (()))) =
  impl_ValidFuels_l0_go p v0 v1 v2 q v3 (fun o0 => k .ret ⟨[(2, .one ⟨false, [.bool o0]⟩)], 0, []⟩) (fun _ => k (.exit 0) ⟨[], 0, []⟩) := by
  intro q
  induction q with
  | zero => intros; rfl
  | succ q ih => intro v3; rw [impl_ValidFuels_l0_step]; simp only [ih]; rfl
theorem impl_ValidFuels_ltok_35_ls (p : Nat) : loopsOf (bodyOf Tryz.f35) (impl_ValidFuels_lt p) = [⟨impl_ValidFuels_c0, [0, 8, 9, 10], [2], impl_ValidFuels_lc0 p, .leaf⟩] := by kernel_rfl
theorem impl_ValidFuels_ltok_35_dep (p : Nat) : LT.dep (impl_ValidFuels_lt p) = 0 := by kernel_rfl
theorem impl_ValidFuels_ltok_35 (p : Nat) : LTok Tryz.prog (impl_ValidFuels_G p) 5 35 (impl_ValidFuels_lt p) := by
  intro α n base fn c hd hfn hc
  have hfn' : some fn = some Tryz.f35 := hfn.symm.trans Tryz.func35
  cases hfn'
  have hc' : c = bodyOf Tryz.f35 := by unfold bodyOf; rw [hc]; rfl
  subst hc'
  rw [impl_ValidFuels_ltok_35_dep] at hd
  obtain ⟨n, rfl⟩ := Nat.exists_eq_add_of_le' hd
  apply LTS_of_loops
  rw [impl_ValidFuels_ltok_35_ls]
  intro e he st k r h
  simp only [List.mem_cons, List.not_mem_nil, or_false] at he
  subst he
  · obtain ⟨a, ha, hb, x, rfl, h⟩ := altRun_ok h
    simp only [List.mem_cons, List.not_mem_nil, or_false] at ha
    subst ha
    · cases hb; exact ⟨p, (impl_ValidFuels_l0_ok p n k _ _ _ p _).trans h⟩
theorem impl_ValidFuels_E (p : Nat) : EnvS Tryz.prog (impl_ValidFuels_G p) := by
  apply glist_env; intro f ce h
  simp only [List.mem_cons, List.not_mem_nil, or_false, Prod.mk.injEq] at h
  rcases h with ⟨rfl, rfl⟩
  · exact impl_Fuel_valid_s p
theorem impl_ValidFuels_I (p : Nat) : ∀ f lt, impl_ValidFuels_G p f = some (.inl lt) → LTok Tryz.prog (impl_ValidFuels_G p) 5 f lt := by
  apply glist_inl; intro f lt h
  simp only [List.mem_cons, List.not_mem_nil, or_false, Prod.mk.injEq, CE.inl.injEq, and_false, or_false, false_or, reduceCtorEq] at h
  
noncomputable def impl_ValidFuels_p (p : Nat) (a0 : (List (Ty.T TFuel))) : Option (Bool × Unit) :=
  (bif (decide ((a0.length : Int) > (6 : Int))) then some (false, ())
 else (impl_ValidFuels_l0_go p a0 a0 (a0.length : Int) p (0 : Int) (fun o4 => some (o4, ())) (fun _ => some (true, ()))))
theorem impl_ValidFuels_run (p : Nat) (x : (parsT [.val (.slice TFuel)]).T) : acall Tryz.prog (impl_ValidFuels_G p) 5 1 35 (impl_ValidFuels_lt p) (argAVs [.val (.slice TFuel)] x) ⟨[], 0, []⟩ (outR [.bool]) = impl_ValidFuels_p p x.1 := by kernel_rfl
noncomputable def impl_ValidFuels_c (p : Nat) : PC := PC.fn true [.val (.slice TFuel)] [.bool] fun x => impl_ValidFuels_p p x.1
theorem impl_ValidFuels_s (p : Nat) : PSound Tryz.prog 35 (impl_ValidFuels_c p) := pure_sound (impl_ValidFuels_E p) Tryz.checked.mixed (impl_ValidFuels_I p) (impl_ValidFuels_ltok_35 p) (fun _ => rfl) fun x y h => (impl_ValidFuels_run p x).trans h
/-! (impl.Repair).valid -/
noncomputable def impl_Repair_valid_G (p : Nat) : FuncId → Option CE := glist [(77, .pure (impl_IsName_c p)), (83, .pure (impl_within_c p))]
theorem impl_Repair_valid_E (p : Nat) : EnvS Tryz.prog (impl_Repair_valid_G p) := by
  apply glist_env; intro f ce h
  simp only [List.mem_cons, List.not_mem_nil, or_false, Prod.mk.injEq] at h
  rcases h with ⟨rfl, rfl⟩ | ⟨rfl, rfl⟩
  · exact impl_IsName_s p
  · exact impl_within_s p
theorem impl_Repair_valid_I (p : Nat) : ∀ f lt, impl_Repair_valid_G p f = some (.inl lt) → LTok Tryz.prog (impl_Repair_valid_G p) 5 f lt := by
  apply glist_inl; intro f lt h
  simp only [List.mem_cons, List.not_mem_nil, or_false, Prod.mk.injEq, CE.inl.injEq, and_false, or_false, false_or, reduceCtorEq] at h
  
noncomputable def impl_Repair_valid_p (p : Nat) (a0 : (Ty.T TFuel)) : Option (Bool × Unit) :=
  ((impl_IsName_p p a0.1).bind fun r1 => (bif r1.1 then ((impl_within_p p a0.2.1 (1 : Int) (100 : Int)).bind fun r2 => (bif r2.1 then ((impl_within_p p a0.2.2.1 (0 : Int) (100000 : Int)).bind fun r3 => (bif r3.1 then ((impl_within_p p a0.2.2.2 (0 : Int) (1000 : Int)).bind fun r4 => some (r4.1, ()))
 else some (false, ())))
 else some (false, ())))
 else some (false, ())))
theorem impl_Repair_valid_run (p : Nat) (x : (parsT [.val TFuel]).T) : acall Tryz.prog (impl_Repair_valid_G p) 5 1 85 .leaf (argAVs [.val TFuel] x) ⟨[], 0, []⟩ (outR [.bool]) = impl_Repair_valid_p p x.1 := by kernel_rfl
noncomputable def impl_Repair_valid_c (p : Nat) : PC := PC.fn true [.val TFuel] [.bool] fun x => impl_Repair_valid_p p x.1
theorem impl_Repair_valid_s (p : Nat) : PSound Tryz.prog 85 (impl_Repair_valid_c p) := pure_sound (impl_Repair_valid_E p) Tryz.checked.mixed (impl_Repair_valid_I p) LTok_leaf (fun _ => rfl) fun x y h => (impl_Repair_valid_run p x).trans h
/-! impl.ValidRepairs -/
noncomputable def impl_ValidRepairs_l0_r {α : Type} (p : Nat) (v0 : List (Ty.T TFuel)) (v1 : List (Ty.T TFuel)) (v2 : Int) (rec : (Int) → Option α) (v3 : Int) (k0 : (Bool) → Option α) (k1 : Unit → Option α) : Option α :=
  (bif (decide (v3 < v2)) then (if 0 ≤ v3 then (v1[v3.toNat]?).bind fun y1 => ((impl_Repair_valid_p p y1).bind fun r2 => (bif (!r2.1) then (k0 false)
 else (bif (decide (v3 > (0 : Int))) then (if 0 ≤ (IntKind.wrap .i64 (v3 - (1 : Int))) then (v0[(IntKind.wrap .i64 (v3 - (1 : Int))).toNat]?).bind fun y3 => (bif ((Op.bytesLess y1.1.toList y3.1.toList) || (y1.1.toList == y3.1.toList)) then (k0 false)
 else (rec (IntKind.wrap .i64 (v3 + (1 : Int))))) else none)
 else (rec (IntKind.wrap .i64 (v3 + (1 : Int))))))) else none)
 else (k1 ()))
noncomputable def impl_ValidRepairs_l0_go {α : Type} (p : Nat) (v0 : List (Ty.T TFuel)) (v1 : List (Ty.T TFuel)) (v2 : Int) : Nat → (Int) → ((Bool) → Option α) → (Unit → Option α) → Option α
  | 0, _, _, _ => none
  | q + 1, v3, k0, k1 => impl_ValidRepairs_l0_r p v0 v1 v2 (fun v3 => impl_ValidRepairs_l0_go p v0 v1 v2 q v3 k0 k1) v3 k0 k1
def impl_ValidRepairs_l0_sh : Sh := ⟨[⟨0, false, [.sl TFuel]⟩, ⟨8, false, [.sl TFuel]⟩, ⟨9, false, [.int .i64]⟩, ⟨10, false, [.int .i64]⟩], 0, []⟩
noncomputable def impl_ValidRepairs_lc0 (p : Nat) : LC := LC.alts 0 [⟨0, impl_ValidRepairs_l0_sh, fun x {α} k => impl_ValidRepairs_l0_go p x.1.1.1 x.1.2.1.1 x.1.2.2.1.1 p x.1.2.2.2.1.1 (fun o0 => k .ret ⟨[(2, .one ⟨false, [.bool o0]⟩)], 0, []⟩) (fun _ => k (.exit 0) ⟨[], 0, []⟩)⟩]
noncomputable def impl_ValidRepairs_lt (p : Nat) : LT := (.node .leaf (.node .leaf (.node (.node .leaf (.loop [0, 8, 9, 10] [2] (some (impl_ValidRepairs_lc0 p)) .leaf)) .leaf)))
noncomputable def impl_ValidRepairs_G (p : Nat) : FuncId → Option CE := glist [(85, .pure (impl_Repair_valid_c p))]
noncomputable def impl_ValidRepairs_c0 : Code := codeAt [1, 1, 0, 1, 0, 0] (bodyOf Tryz.f36)
noncomputable def impl_ValidRepairs_it0 {α : Type} (p n b : Nat) (k : Ex → St → Option α) (q : Nat) (st : St) : Option α :=
  iter (fun s q => aexec Tryz.prog (impl_ValidRepairs_G p) (fun g lt args st (k : D → St → Option α) => acall Tryz.prog (impl_ValidRepairs_G p) 5 (n + 0) g lt args st k) 5 b 34 impl_ValidRepairs_c0 .leaf s q) (canon b [0, 8, 9, 10]) q st (fun e s => k e (canon b [2] s))
theorem impl_ValidRepairs_l0_step {α : Type} (p n : Nat) (k : Ex → St → Option α) (v0 : List (Ty.T TFuel)) (v1 : List (Ty.T TFuel)) (v2 : Int) (q : Nat) (v3 : Int) : impl_ValidRepairs_it0 p n 0 k (q + 1) (impl_ValidRepairs_l0_sh.mk' (((v0, ()), (v1, ()), (v2, ()), (v3, ()), ()), (()))) =
  impl_ValidRepairs_l0_r p v0 v1 v2 (fun v3 => impl_ValidRepairs_it0 p n 0 k q (impl_ValidRepairs_l0_sh.mk' (((v0, ()), (v1, ()), (v2, ()), (v3, ()), ()), (())))) v3 (fun o0 => k .ret ⟨[(2, .one ⟨false, [.bool o0]⟩)], 0, []⟩) (fun _ => k (.exit 0) ⟨[], 0, []⟩) := by kernel_rfl
theorem impl_ValidRepairs_l0_ok {α : Type} (p n : Nat) (k : Ex → St → Option α) (v0 : List (Ty.T TFuel)) (v1 : List (Ty.T TFuel)) (v2 : Int) : ∀ (q : Nat) (v3 : Int), impl_ValidRepairs_it0 p n 0 k q (impl_ValidRepairs_l0_sh.mk' (((v0, ()), (v1, ()), (v2, ()), (v3, ()), ()), (()))) =
  impl_ValidRepairs_l0_go p v0 v1 v2 q v3 (fun o0 => k .ret ⟨[(2, .one ⟨false, [.bool o0]⟩)], 0, []⟩) (fun _ => k (.exit 0) ⟨[], 0, []⟩) := by
  intro q
  induction q with
  | zero => intros; rfl
  | succ q ih => intro v3; rw [impl_ValidRepairs_l0_step]; simp only [ih]; rfl
theorem impl_ValidRepairs_ltok_36_ls (p : Nat) : loopsOf (bodyOf Tryz.f36) (impl_ValidRepairs_lt p) = [⟨impl_ValidRepairs_c0, [0, 8, 9, 10], [2], impl_ValidRepairs_lc0 p, .leaf⟩] := by kernel_rfl
theorem impl_ValidRepairs_ltok_36_dep (p : Nat) : LT.dep (impl_ValidRepairs_lt p) = 0 := by kernel_rfl
theorem impl_ValidRepairs_ltok_36 (p : Nat) : LTok Tryz.prog (impl_ValidRepairs_G p) 5 36 (impl_ValidRepairs_lt p) := by
  intro α n base fn c hd hfn hc
  have hfn' : some fn = some Tryz.f36 := hfn.symm.trans Tryz.func36
  cases hfn'
  have hc' : c = bodyOf Tryz.f36 := by unfold bodyOf; rw [hc]; rfl
  subst hc'
  rw [impl_ValidRepairs_ltok_36_dep] at hd
  obtain ⟨n, rfl⟩ := Nat.exists_eq_add_of_le' hd
  apply LTS_of_loops
  rw [impl_ValidRepairs_ltok_36_ls]
  intro e he st k r h
  simp only [List.mem_cons, List.not_mem_nil, or_false] at he
  subst he
  · obtain ⟨a, ha, hb, x, rfl, h⟩ := altRun_ok h
    simp only [List.mem_cons, List.not_mem_nil, or_false] at ha
    subst ha
    · cases hb; exact ⟨p, (impl_ValidRepairs_l0_ok p n k _ _ _ p _).trans h⟩
theorem impl_ValidRepairs_E (p : Nat) : EnvS Tryz.prog (impl_ValidRepairs_G p) := by
  apply glist_env; intro f ce h
  simp only [List.mem_cons, List.not_mem_nil, or_false, Prod.mk.injEq] at h
  rcases h with ⟨rfl, rfl⟩
  · exact impl_Repair_valid_s p
theorem impl_ValidRepairs_I (p : Nat) : ∀ f lt, impl_ValidRepairs_G p f = some (.inl lt) → LTok Tryz.prog (impl_ValidRepairs_G p) 5 f lt := by
  apply glist_inl; intro f lt h
  simp only [List.mem_cons, List.not_mem_nil, or_false, Prod.mk.injEq, CE.inl.injEq, and_false, or_false, false_or, reduceCtorEq] at h
  
noncomputable def impl_ValidRepairs_p (p : Nat) (a0 : (List (Ty.T TFuel))) : Option (Bool × Unit) :=
  (bif (decide ((a0.length : Int) > (8 : Int))) then some (false, ())
 else (impl_ValidRepairs_l0_go p a0 a0 (a0.length : Int) p (0 : Int) (fun o4 => some (o4, ())) (fun _ => some (true, ()))))
theorem impl_ValidRepairs_run (p : Nat) (x : (parsT [.val (.slice TFuel)]).T) : acall Tryz.prog (impl_ValidRepairs_G p) 5 1 36 (impl_ValidRepairs_lt p) (argAVs [.val (.slice TFuel)] x) ⟨[], 0, []⟩ (outR [.bool]) = impl_ValidRepairs_p p x.1 := by kernel_rfl
noncomputable def impl_ValidRepairs_c (p : Nat) : PC := PC.fn true [.val (.slice TFuel)] [.bool] fun x => impl_ValidRepairs_p p x.1
theorem impl_ValidRepairs_s (p : Nat) : PSound Tryz.prog 36 (impl_ValidRepairs_c p) := pure_sound (impl_ValidRepairs_E p) Tryz.checked.mixed (impl_ValidRepairs_I p) (impl_ValidRepairs_ltok_36 p) (fun _ => rfl) fun x y h => (impl_ValidRepairs_run p x).trans h
/-! (impl.Tenant).valid -/
noncomputable def impl_Tenant_valid_G (p : Nat) : FuncId → Option CE := glist [(77, .pure (impl_IsName_c p)), (83, .pure (impl_within_c p))]
theorem impl_Tenant_valid_E (p : Nat) : EnvS Tryz.prog (impl_Tenant_valid_G p) := by
  apply glist_env; intro f ce h
  simp only [List.mem_cons, List.not_mem_nil, or_false, Prod.mk.injEq] at h
  rcases h with ⟨rfl, rfl⟩ | ⟨rfl, rfl⟩
  · exact impl_IsName_s p
  · exact impl_within_s p
theorem impl_Tenant_valid_I (p : Nat) : ∀ f lt, impl_Tenant_valid_G p f = some (.inl lt) → LTok Tryz.prog (impl_Tenant_valid_G p) 5 f lt := by
  apply glist_inl; intro f lt h
  simp only [List.mem_cons, List.not_mem_nil, or_false, Prod.mk.injEq, CE.inl.injEq, and_false, or_false, false_or, reduceCtorEq] at h
  
noncomputable def impl_Tenant_valid_p (p : Nat) (a0 : (Ty.T TTenant)) : Option (Bool × Unit) :=
  ((impl_IsName_p p a0.1).bind fun r1 => (bif r1.1 then ((impl_within_p p a0.2.1 (1 : Int) (10000 : Int)).bind fun r2 => (bif r2.1 then ((impl_within_p p a0.2.2 (0 : Int) (1000000 : Int)).bind fun r3 => some (r3.1, ()))
 else some (false, ())))
 else some (false, ())))
theorem impl_Tenant_valid_run (p : Nat) (x : (parsT [.val TTenant]).T) : acall Tryz.prog (impl_Tenant_valid_G p) 5 1 86 .leaf (argAVs [.val TTenant] x) ⟨[], 0, []⟩ (outR [.bool]) = impl_Tenant_valid_p p x.1 := by kernel_rfl
noncomputable def impl_Tenant_valid_c (p : Nat) : PC := PC.fn true [.val TTenant] [.bool] fun x => impl_Tenant_valid_p p x.1
theorem impl_Tenant_valid_s (p : Nat) : PSound Tryz.prog 86 (impl_Tenant_valid_c p) := pure_sound (impl_Tenant_valid_E p) Tryz.checked.mixed (impl_Tenant_valid_I p) LTok_leaf (fun _ => rfl) fun x y h => (impl_Tenant_valid_run p x).trans h
/-! impl.ValidTenants -/
noncomputable def impl_ValidTenants_l0_r {α : Type} (p : Nat) (v0 : List (Ty.T TTenant)) (v1 : List (Ty.T TTenant)) (v2 : Int) (rec : (Int) → Option α) (v3 : Int) (k0 : (Bool) → Option α) (k1 : Unit → Option α) : Option α :=
  (bif (decide (v3 < v2)) then (if 0 ≤ v3 then (v1[v3.toNat]?).bind fun y1 => ((impl_Tenant_valid_p p y1).bind fun r2 => (bif (!r2.1) then (k0 false)
 else (bif (decide (v3 > (0 : Int))) then (if 0 ≤ (IntKind.wrap .i64 (v3 - (1 : Int))) then (v0[(IntKind.wrap .i64 (v3 - (1 : Int))).toNat]?).bind fun y3 => (bif ((Op.bytesLess y1.1.toList y3.1.toList) || (y1.1.toList == y3.1.toList)) then (k0 false)
 else (rec (IntKind.wrap .i64 (v3 + (1 : Int))))) else none)
 else (rec (IntKind.wrap .i64 (v3 + (1 : Int))))))) else none)
 else (k1 ()))
noncomputable def impl_ValidTenants_l0_go {α : Type} (p : Nat) (v0 : List (Ty.T TTenant)) (v1 : List (Ty.T TTenant)) (v2 : Int) : Nat → (Int) → ((Bool) → Option α) → (Unit → Option α) → Option α
  | 0, _, _, _ => none
  | q + 1, v3, k0, k1 => impl_ValidTenants_l0_r p v0 v1 v2 (fun v3 => impl_ValidTenants_l0_go p v0 v1 v2 q v3 k0 k1) v3 k0 k1
def impl_ValidTenants_l0_sh : Sh := ⟨[⟨0, false, [.sl TTenant]⟩, ⟨8, false, [.sl TTenant]⟩, ⟨9, false, [.int .i64]⟩, ⟨10, false, [.int .i64]⟩], 0, []⟩
noncomputable def impl_ValidTenants_lc0 (p : Nat) : LC := LC.alts 0 [⟨0, impl_ValidTenants_l0_sh, fun x {α} k => impl_ValidTenants_l0_go p x.1.1.1 x.1.2.1.1 x.1.2.2.1.1 p x.1.2.2.2.1.1 (fun o0 => k .ret ⟨[(2, .one ⟨false, [.bool o0]⟩)], 0, []⟩) (fun _ => k (.exit 0) ⟨[], 0, []⟩)⟩]
noncomputable def impl_ValidTenants_lt (p : Nat) : LT := (.node .leaf (.node .leaf (.node (.node .leaf (.loop [0, 8, 9, 10] [2] (some (impl_ValidTenants_lc0 p)) .leaf)) .leaf)))
noncomputable def impl_ValidTenants_G (p : Nat) : FuncId → Option CE := glist [(86, .pure (impl_Tenant_valid_c p))]
noncomputable def impl_ValidTenants_c0 : Code := codeAt [1, 1, 0, 1, 0, 0] (bodyOf Tryz.f37)
noncomputable def impl_ValidTenants_it0 {α : Type} (p n b : Nat) (k : Ex → St → Option α) (q : Nat) (st : St) : Option α :=
  iter (fun s q => aexec Tryz.prog (impl_ValidTenants_G p) (fun g lt args st (k : D → St → Option α) => acall Tryz.prog (impl_ValidTenants_G p) 5 (n + 0) g lt args st k) 5 b 34 impl_ValidTenants_c0 .leaf s q) (canon b [0, 8, 9, 10]) q st (fun e s => k e (canon b [2] s))
theorem impl_ValidTenants_l0_step {α : Type} (p n : Nat) (k : Ex → St → Option α) (v0 : List (Ty.T TTenant)) (v1 : List (Ty.T TTenant)) (v2 : Int) (q : Nat) (v3 : Int) : impl_ValidTenants_it0 p n 0 k (q + 1) (impl_ValidTenants_l0_sh.mk' (((v0, ()), (v1, ()), (v2, ()), (v3, ()), ()), (()))) =
  impl_ValidTenants_l0_r p v0 v1 v2 (fun v3 => impl_ValidTenants_it0 p n 0 k q (impl_ValidTenants_l0_sh.mk' (((v0, ()), (v1, ()), (v2, ()), (v3, ()), ()), (())))) v3 (fun o0 => k .ret ⟨[(2, .one ⟨false, [.bool o0]⟩)], 0, []⟩) (fun _ => k (.exit 0) ⟨[], 0, []⟩) := by kernel_rfl
theorem impl_ValidTenants_l0_ok {α : Type} (p n : Nat) (k : Ex → St → Option α) (v0 : List (Ty.T TTenant)) (v1 : List (Ty.T TTenant)) (v2 : Int) : ∀ (q : Nat) (v3 : Int), impl_ValidTenants_it0 p n 0 k q (impl_ValidTenants_l0_sh.mk' (((v0, ()), (v1, ()), (v2, ()), (v3, ()), ()), (()))) =
  impl_ValidTenants_l0_go p v0 v1 v2 q v3 (fun o0 => k .ret ⟨[(2, .one ⟨false, [.bool o0]⟩)], 0, []⟩) (fun _ => k (.exit 0) ⟨[], 0, []⟩) := by
  intro q
  induction q with
  | zero => intros; rfl
  | succ q ih => intro v3; rw [impl_ValidTenants_l0_step]; simp only [ih]; rfl
theorem impl_ValidTenants_ltok_37_ls (p : Nat) : loopsOf (bodyOf Tryz.f37) (impl_ValidTenants_lt p) = [⟨impl_ValidTenants_c0, [0, 8, 9, 10], [2], impl_ValidTenants_lc0 p, .leaf⟩] := by kernel_rfl
theorem impl_ValidTenants_ltok_37_dep (p : Nat) : LT.dep (impl_ValidTenants_lt p) = 0 := by kernel_rfl
theorem impl_ValidTenants_ltok_37 (p : Nat) : LTok Tryz.prog (impl_ValidTenants_G p) 5 37 (impl_ValidTenants_lt p) := by
  intro α n base fn c hd hfn hc
  have hfn' : some fn = some Tryz.f37 := hfn.symm.trans Tryz.func37
  cases hfn'
  have hc' : c = bodyOf Tryz.f37 := by unfold bodyOf; rw [hc]; rfl
  subst hc'
  rw [impl_ValidTenants_ltok_37_dep] at hd
  obtain ⟨n, rfl⟩ := Nat.exists_eq_add_of_le' hd
  apply LTS_of_loops
  rw [impl_ValidTenants_ltok_37_ls]
  intro e he st k r h
  simp only [List.mem_cons, List.not_mem_nil, or_false] at he
  subst he
  · obtain ⟨a, ha, hb, x, rfl, h⟩ := altRun_ok h
    simp only [List.mem_cons, List.not_mem_nil, or_false] at ha
    subst ha
    · cases hb; exact ⟨p, (impl_ValidTenants_l0_ok p n k _ _ _ p _).trans h⟩
theorem impl_ValidTenants_E (p : Nat) : EnvS Tryz.prog (impl_ValidTenants_G p) := by
  apply glist_env; intro f ce h
  simp only [List.mem_cons, List.not_mem_nil, or_false, Prod.mk.injEq] at h
  rcases h with ⟨rfl, rfl⟩
  · exact impl_Tenant_valid_s p
theorem impl_ValidTenants_I (p : Nat) : ∀ f lt, impl_ValidTenants_G p f = some (.inl lt) → LTok Tryz.prog (impl_ValidTenants_G p) 5 f lt := by
  apply glist_inl; intro f lt h
  simp only [List.mem_cons, List.not_mem_nil, or_false, Prod.mk.injEq, CE.inl.injEq, and_false, or_false, false_or, reduceCtorEq] at h
  
noncomputable def impl_ValidTenants_p (p : Nat) (a0 : (List (Ty.T TTenant))) : Option (Bool × Unit) :=
  (bif (decide ((a0.length : Int) > (12 : Int))) then some (false, ())
 else (impl_ValidTenants_l0_go p a0 a0 (a0.length : Int) p (0 : Int) (fun o4 => some (o4, ())) (fun _ => some (true, ()))))
theorem impl_ValidTenants_run (p : Nat) (x : (parsT [.val (.slice TTenant)]).T) : acall Tryz.prog (impl_ValidTenants_G p) 5 1 37 (impl_ValidTenants_lt p) (argAVs [.val (.slice TTenant)] x) ⟨[], 0, []⟩ (outR [.bool]) = impl_ValidTenants_p p x.1 := by kernel_rfl
noncomputable def impl_ValidTenants_c (p : Nat) : PC := PC.fn true [.val (.slice TTenant)] [.bool] fun x => impl_ValidTenants_p p x.1
theorem impl_ValidTenants_s (p : Nat) : PSound Tryz.prog 37 (impl_ValidTenants_c p) := pure_sound (impl_ValidTenants_E p) Tryz.checked.mixed (impl_ValidTenants_I p) (impl_ValidTenants_ltok_37 p) (fun _ => rfl) fun x y h => (impl_ValidTenants_run p x).trans h
/-! (impl.Duty).valid -/
noncomputable def impl_Duty_valid_G (p : Nat) : FuncId → Option CE := glist [(77, .pure (impl_IsName_c p)), (83, .pure (impl_within_c p))]
theorem impl_Duty_valid_E (p : Nat) : EnvS Tryz.prog (impl_Duty_valid_G p) := by
  apply glist_env; intro f ce h
  simp only [List.mem_cons, List.not_mem_nil, or_false, Prod.mk.injEq] at h
  rcases h with ⟨rfl, rfl⟩ | ⟨rfl, rfl⟩
  · exact impl_IsName_s p
  · exact impl_within_s p
theorem impl_Duty_valid_I (p : Nat) : ∀ f lt, impl_Duty_valid_G p f = some (.inl lt) → LTok Tryz.prog (impl_Duty_valid_G p) 5 f lt := by
  apply glist_inl; intro f lt h
  simp only [List.mem_cons, List.not_mem_nil, or_false, Prod.mk.injEq, CE.inl.injEq, and_false, or_false, false_or, reduceCtorEq] at h
  
noncomputable def impl_Duty_valid_p (p : Nat) (a0 : (Ty.T TDuty)) : Option (Bool × Unit) :=
  ((impl_IsName_p p a0.1).bind fun r1 => (bif r1.1 then ((impl_within_p p a0.2.1 (0 : Int) (10000 : Int)).bind fun r2 => (bif r2.1 then ((impl_within_p p a0.2.2.1 (1 : Int) (48 : Int)).bind fun r3 => some (r3.1, ()))
 else some (false, ())))
 else some (false, ())))
theorem impl_Duty_valid_run (p : Nat) (x : (parsT [.val TDuty]).T) : acall Tryz.prog (impl_Duty_valid_G p) 5 1 87 .leaf (argAVs [.val TDuty] x) ⟨[], 0, []⟩ (outR [.bool]) = impl_Duty_valid_p p x.1 := by kernel_rfl
noncomputable def impl_Duty_valid_c (p : Nat) : PC := PC.fn true [.val TDuty] [.bool] fun x => impl_Duty_valid_p p x.1
theorem impl_Duty_valid_s (p : Nat) : PSound Tryz.prog 87 (impl_Duty_valid_c p) := pure_sound (impl_Duty_valid_E p) Tryz.checked.mixed (impl_Duty_valid_I p) LTok_leaf (fun _ => rfl) fun x y h => (impl_Duty_valid_run p x).trans h
/-! cmp.isNaN[string] -/
noncomputable def cmp_isNaN_string_G (p : Nat) : FuncId → Option CE := glist []
theorem cmp_isNaN_string_E (p : Nat) : EnvS Tryz.prog (cmp_isNaN_string_G p) := by
  apply glist_env; intro f ce h
  simp only [List.mem_cons, List.not_mem_nil, or_false, Prod.mk.injEq] at h
  
theorem cmp_isNaN_string_I (p : Nat) : ∀ f lt, cmp_isNaN_string_G p f = some (.inl lt) → LTok Tryz.prog (cmp_isNaN_string_G p) 5 f lt := by
  apply glist_inl; intro f lt h
  simp only [List.mem_cons, List.not_mem_nil, or_false, Prod.mk.injEq, CE.inl.injEq, and_false, or_false, false_or, reduceCtorEq] at h
  
noncomputable def cmp_isNaN_string_p (p : Nat) (a0 : ByteArray) : Option (Bool × Unit) :=
  some ((!(a0.toList == a0.toList)), ())
theorem cmp_isNaN_string_run (p : Nat) (x : (parsT [.val .str]).T) : acall Tryz.prog (cmp_isNaN_string_G p) 5 1 134 .leaf (argAVs [.val .str] x) ⟨[], 0, []⟩ (outR [.bool]) = cmp_isNaN_string_p p x.1 := by kernel_rfl
noncomputable def cmp_isNaN_string_c (p : Nat) : PC := PC.fn true [.val .str] [.bool] fun x => cmp_isNaN_string_p p x.1
theorem cmp_isNaN_string_s (p : Nat) : PSound Tryz.prog 134 (cmp_isNaN_string_c p) := pure_sound (cmp_isNaN_string_E p) Tryz.checked.mixed (cmp_isNaN_string_I p) LTok_leaf (fun _ => rfl) fun x y h => (cmp_isNaN_string_run p x).trans h
/-! cmp.Compare[string] -/
noncomputable def cmp_Compare_string_G (p : Nat) : FuncId → Option CE := glist [(134, .pure (cmp_isNaN_string_c p))]
theorem cmp_Compare_string_E (p : Nat) : EnvS Tryz.prog (cmp_Compare_string_G p) := by
  apply glist_env; intro f ce h
  simp only [List.mem_cons, List.not_mem_nil, or_false, Prod.mk.injEq] at h
  rcases h with ⟨rfl, rfl⟩
  · exact cmp_isNaN_string_s p
theorem cmp_Compare_string_I (p : Nat) : ∀ f lt, cmp_Compare_string_G p f = some (.inl lt) → LTok Tryz.prog (cmp_Compare_string_G p) 5 f lt := by
  apply glist_inl; intro f lt h
  simp only [List.mem_cons, List.not_mem_nil, or_false, Prod.mk.injEq, CE.inl.injEq, and_false, or_false, false_or, reduceCtorEq] at h
  
noncomputable def cmp_Compare_string_p (p : Nat) (a0 : ByteArray) (a1 : ByteArray) : Option (Int × Unit) :=
  ((cmp_isNaN_string_p p a0).bind fun r1 => ((cmp_isNaN_string_p p a1).bind fun r2 => (bif r1.1 then (bif r2.1 then some ((0 : Int), ())
 else some ((-1 : Int), ()))
 else (bif r2.1 then some ((1 : Int), ())
 else (bif (Op.bytesLess a0.toList a1.toList) then some ((-1 : Int), ())
 else (bif (!((Op.bytesLess a0.toList a1.toList) || (a0.toList == a1.toList))) then some ((1 : Int), ())
 else some ((0 : Int), ())))))))
theorem cmp_Compare_string_run (p : Nat) (x : (parsT [.val .str, .val .str]).T) : acall Tryz.prog (cmp_Compare_string_G p) 5 1 124 .leaf (argAVs [.val .str, .val .str] x) ⟨[], 0, []⟩ (outR [(.int .i64)]) = cmp_Compare_string_p p x.1 x.2.1 := by kernel_rfl
noncomputable def cmp_Compare_string_c (p : Nat) : PC := PC.fn true [.val .str, .val .str] [(.int .i64)] fun x => cmp_Compare_string_p p x.1 x.2.1
theorem cmp_Compare_string_s (p : Nat) : PSound Tryz.prog 124 (cmp_Compare_string_c p) := pure_sound (cmp_Compare_string_E p) Tryz.checked.mixed (cmp_Compare_string_I p) LTok_leaf (fun _ => rfl) fun x y h => (cmp_Compare_string_run p x).trans h
/-! cmp.isNaN[int64] -/
noncomputable def cmp_isNaN_int64_G (p : Nat) : FuncId → Option CE := glist []
theorem cmp_isNaN_int64_E (p : Nat) : EnvS Tryz.prog (cmp_isNaN_int64_G p) := by
  apply glist_env; intro f ce h
  simp only [List.mem_cons, List.not_mem_nil, or_false, Prod.mk.injEq] at h
  
theorem cmp_isNaN_int64_I (p : Nat) : ∀ f lt, cmp_isNaN_int64_G p f = some (.inl lt) → LTok Tryz.prog (cmp_isNaN_int64_G p) 5 f lt := by
  apply glist_inl; intro f lt h
  simp only [List.mem_cons, List.not_mem_nil, or_false, Prod.mk.injEq, CE.inl.injEq, and_false, or_false, false_or, reduceCtorEq] at h
  
noncomputable def cmp_isNaN_int64_p (p : Nat) (a0 : Int) : Option (Bool × Unit) :=
  some ((a0 != a0), ())
theorem cmp_isNaN_int64_run (p : Nat) (x : (parsT [.val (.int .i64)]).T) : acall Tryz.prog (cmp_isNaN_int64_G p) 5 1 135 .leaf (argAVs [.val (.int .i64)] x) ⟨[], 0, []⟩ (outR [.bool]) = cmp_isNaN_int64_p p x.1 := by kernel_rfl
noncomputable def cmp_isNaN_int64_c (p : Nat) : PC := PC.fn true [.val (.int .i64)] [.bool] fun x => cmp_isNaN_int64_p p x.1
theorem cmp_isNaN_int64_s (p : Nat) : PSound Tryz.prog 135 (cmp_isNaN_int64_c p) := pure_sound (cmp_isNaN_int64_E p) Tryz.checked.mixed (cmp_isNaN_int64_I p) LTok_leaf (fun _ => rfl) fun x y h => (cmp_isNaN_int64_run p x).trans h
/-! cmp.Compare[int64] -/
noncomputable def cmp_Compare_int64_G (p : Nat) : FuncId → Option CE := glist [(135, .pure (cmp_isNaN_int64_c p))]
theorem cmp_Compare_int64_E (p : Nat) : EnvS Tryz.prog (cmp_Compare_int64_G p) := by
  apply glist_env; intro f ce h
  simp only [List.mem_cons, List.not_mem_nil, or_false, Prod.mk.injEq] at h
  rcases h with ⟨rfl, rfl⟩
  · exact cmp_isNaN_int64_s p
theorem cmp_Compare_int64_I (p : Nat) : ∀ f lt, cmp_Compare_int64_G p f = some (.inl lt) → LTok Tryz.prog (cmp_Compare_int64_G p) 5 f lt := by
  apply glist_inl; intro f lt h
  simp only [List.mem_cons, List.not_mem_nil, or_false, Prod.mk.injEq, CE.inl.injEq, and_false, or_false, false_or, reduceCtorEq] at h
  
noncomputable def cmp_Compare_int64_p (p : Nat) (a0 : Int) (a1 : Int) : Option (Int × Unit) :=
  ((cmp_isNaN_int64_p p a0).bind fun r1 => ((cmp_isNaN_int64_p p a1).bind fun r2 => (bif r1.1 then (bif r2.1 then some ((0 : Int), ())
 else some ((-1 : Int), ()))
 else (bif r2.1 then some ((1 : Int), ())
 else (bif (decide (a0 < a1)) then some ((-1 : Int), ())
 else (bif (decide (a0 > a1)) then some ((1 : Int), ())
 else some ((0 : Int), ())))))))
theorem cmp_Compare_int64_run (p : Nat) (x : (parsT [.val (.int .i64), .val (.int .i64)]).T) : acall Tryz.prog (cmp_Compare_int64_G p) 5 1 125 .leaf (argAVs [.val (.int .i64), .val (.int .i64)] x) ⟨[], 0, []⟩ (outR [(.int .i64)]) = cmp_Compare_int64_p p x.1 x.2.1 := by kernel_rfl
noncomputable def cmp_Compare_int64_c (p : Nat) : PC := PC.fn true [.val (.int .i64), .val (.int .i64)] [(.int .i64)] fun x => cmp_Compare_int64_p p x.1 x.2.1
theorem cmp_Compare_int64_s (p : Nat) : PSound Tryz.prog 125 (cmp_Compare_int64_c p) := pure_sound (cmp_Compare_int64_E p) Tryz.checked.mixed (cmp_Compare_int64_I p) LTok_leaf (fun _ => rfl) fun x y h => (cmp_Compare_int64_run p x).trans h
/-! cmp.Or[int] -/
noncomputable def cmp_Or_int_l0_r {α : Type} (p : Nat) (v0 : Int) (v1 : List Int) (v2 : Int) (rec : (Int) → Option α) (v3 : Int) (k0 : (Int) → Option α) (k1 : Unit → Option α) : Option α :=
  (bif (decide (v3 < v2)) then (if 0 ≤ v3 then (v1[v3.toNat]?).bind fun y1 => (bif (y1 != v0) then (k0 y1)
 else (rec (IntKind.wrap .i64 (v3 + (1 : Int))))) else none)
 else (k1 ()))
noncomputable def cmp_Or_int_l0_go {α : Type} (p : Nat) (v0 : Int) (v1 : List Int) (v2 : Int) : Nat → (Int) → ((Int) → Option α) → (Unit → Option α) → Option α
  | 0, _, _, _ => none
  | q + 1, v3, k0, k1 => cmp_Or_int_l0_r p v0 v1 v2 (fun v3 => cmp_Or_int_l0_go p v0 v1 v2 q v3 k0 k1) v3 k0 k1
def cmp_Or_int_l0_sh : Sh := ⟨[⟨3, false, [.int .i64]⟩, ⟨6, false, [.sl (.int .i64)]⟩, ⟨7, false, [.int .i64]⟩, ⟨8, false, [.int .i64]⟩], 0, []⟩
noncomputable def cmp_Or_int_lc0 (p : Nat) : LC := LC.alts 0 [⟨0, cmp_Or_int_l0_sh, fun x {α} k => cmp_Or_int_l0_go p x.1.1.1 x.1.2.1.1 x.1.2.2.1.1 p x.1.2.2.2.1.1 (fun o0 => k .ret ⟨[(2, .one ⟨false, [.int .i64 o0]⟩), (3, .one ⟨false, [.int .i64 x.1.1.1]⟩)], 0, []⟩) (fun _ => k (.exit 0) ⟨[(3, .one ⟨false, [.int .i64 x.1.1.1]⟩)], 0, []⟩)⟩]
noncomputable def cmp_Or_int_lt (p : Nat) : LT := (.node .leaf (.node .leaf (.node (.node .leaf (.loop [3, 6, 7, 8] [2, 3] (some (cmp_Or_int_lc0 p)) .leaf)) .leaf)))
noncomputable def cmp_Or_int_G (p : Nat) : FuncId → Option CE := glist []
noncomputable def cmp_Or_int_c0 : Code := codeAt [1, 1, 0, 1, 0, 0] (bodyOf Tryz.f123)
noncomputable def cmp_Or_int_it0 {α : Type} (p n b : Nat) (k : Ex → St → Option α) (q : Nat) (st : St) : Option α :=
  iter (fun s q => aexec Tryz.prog (cmp_Or_int_G p) (fun g lt args st (k : D → St → Option α) => acall Tryz.prog (cmp_Or_int_G p) 5 (n + 0) g lt args st k) 5 b 18 cmp_Or_int_c0 .leaf s q) (canon b [3, 6, 7, 8]) q st (fun e s => k e (canon b [2, 3] s))
theorem cmp_Or_int_l0_step {α : Type} (p n : Nat) (k : Ex → St → Option α) (v0 : Int) (v1 : List Int) (v2 : Int) (q : Nat) (v3 : Int) : cmp_Or_int_it0 p n 0 k (q + 1) (cmp_Or_int_l0_sh.mk' (((v0, ()), (v1, ()), (v2, ()), (v3, ()), ()), (()))) =
  cmp_Or_int_l0_r p v0 v1 v2 (fun v3 => cmp_Or_int_it0 p n 0 k q (cmp_Or_int_l0_sh.mk' (((v0, ()), (v1, ()), (v2, ()), (v3, ()), ()), (())))) v3 (fun o0 => k .ret ⟨[(2, .one ⟨false, [.int .i64 o0]⟩), (3, .one ⟨false, [.int .i64 v0]⟩)], 0, []⟩) (fun _ => k (.exit 0) ⟨[(3, .one ⟨false, [.int .i64 v0]⟩)], 0, []⟩) := by kernel_rfl
theorem cmp_Or_int_l0_ok {α : Type} (p n : Nat) (k : Ex → St → Option α) (v0 : Int) (v1 : List Int) (v2 : Int) : ∀ (q : Nat) (v3 : Int), cmp_Or_int_it0 p n 0 k q (cmp_Or_int_l0_sh.mk' (((v0, ()), (v1, ()), (v2, ()), (v3, ()), ()), (()))) =
  cmp_Or_int_l0_go p v0 v1 v2 q v3 (fun o0 => k .ret ⟨[(2, .one ⟨false, [.int .i64 o0]⟩), (3, .one ⟨false, [.int .i64 v0]⟩)], 0, []⟩) (fun _ => k (.exit 0) ⟨[(3, .one ⟨false, [.int .i64 v0]⟩)], 0, []⟩) := by
  intro q
  induction q with
  | zero => intros; rfl
  | succ q ih => intro v3; rw [cmp_Or_int_l0_step]; simp only [ih]; rfl
theorem cmp_Or_int_ltok_123_ls (p : Nat) : loopsOf (bodyOf Tryz.f123) (cmp_Or_int_lt p) = [⟨cmp_Or_int_c0, [3, 6, 7, 8], [2, 3], cmp_Or_int_lc0 p, .leaf⟩] := by kernel_rfl
theorem cmp_Or_int_ltok_123_dep (p : Nat) : LT.dep (cmp_Or_int_lt p) = 0 := by kernel_rfl
theorem cmp_Or_int_ltok_123 (p : Nat) : LTok Tryz.prog (cmp_Or_int_G p) 5 123 (cmp_Or_int_lt p) := by
  intro α n base fn c hd hfn hc
  have hfn' : some fn = some Tryz.f123 := hfn.symm.trans Tryz.func123
  cases hfn'
  have hc' : c = bodyOf Tryz.f123 := by unfold bodyOf; rw [hc]; rfl
  subst hc'
  rw [cmp_Or_int_ltok_123_dep] at hd
  obtain ⟨n, rfl⟩ := Nat.exists_eq_add_of_le' hd
  apply LTS_of_loops
  rw [cmp_Or_int_ltok_123_ls]
  intro e he st k r h
  simp only [List.mem_cons, List.not_mem_nil, or_false] at he
  subst he
  · obtain ⟨a, ha, hb, x, rfl, h⟩ := altRun_ok h
    simp only [List.mem_cons, List.not_mem_nil, or_false] at ha
    subst ha
    · cases hb; exact ⟨p, (cmp_Or_int_l0_ok p n k _ _ _ p _).trans h⟩
theorem cmp_Or_int_E (p : Nat) : EnvS Tryz.prog (cmp_Or_int_G p) := by
  apply glist_env; intro f ce h
  simp only [List.mem_cons, List.not_mem_nil, or_false, Prod.mk.injEq] at h
  
theorem cmp_Or_int_I (p : Nat) : ∀ f lt, cmp_Or_int_G p f = some (.inl lt) → LTok Tryz.prog (cmp_Or_int_G p) 5 f lt := by
  apply glist_inl; intro f lt h
  simp only [List.mem_cons, List.not_mem_nil, or_false, Prod.mk.injEq, CE.inl.injEq, and_false, or_false, false_or, reduceCtorEq] at h
  
noncomputable def cmp_Or_int_p (p : Nat) (a0 : (List Int)) : Option (Int × Unit) :=
  (cmp_Or_int_l0_go p (0 : Int) a0 (a0.length : Int) p (0 : Int) (fun o2 => some (o2, ())) (fun _ => some ((0 : Int), ())))
theorem cmp_Or_int_run (p : Nat) (x : (parsT [.val (.slice (.int .i64))]).T) : acall Tryz.prog (cmp_Or_int_G p) 5 1 123 (cmp_Or_int_lt p) (argAVs [.val (.slice (.int .i64))] x) ⟨[], 0, []⟩ (outR [(.int .i64)]) = cmp_Or_int_p p x.1 := by kernel_rfl
noncomputable def cmp_Or_int_c (p : Nat) : PC := PC.fn true [.val (.slice (.int .i64))] [(.int .i64)] fun x => cmp_Or_int_p p x.1
theorem cmp_Or_int_s (p : Nat) : PSound Tryz.prog 123 (cmp_Or_int_c p) := pure_sound (cmp_Or_int_E p) Tryz.checked.mixed (cmp_Or_int_I p) (cmp_Or_int_ltok_123 p) (fun _ => rfl) fun x y h => (cmp_Or_int_run p x).trans h
/-! impl.compareDuties -/
noncomputable def impl_compareDuties_G (p : Nat) : FuncId → Option CE := glist [(123, .pure (cmp_Or_int_c p)), (124, .pure (cmp_Compare_string_c p)), (125, .pure (cmp_Compare_int64_c p))]
theorem impl_compareDuties_E (p : Nat) : EnvS Tryz.prog (impl_compareDuties_G p) := by
  apply glist_env; intro f ce h
  simp only [List.mem_cons, List.not_mem_nil, or_false, Prod.mk.injEq] at h
  rcases h with ⟨rfl, rfl⟩ | ⟨rfl, rfl⟩ | ⟨rfl, rfl⟩
  · exact cmp_Or_int_s p
  · exact cmp_Compare_string_s p
  · exact cmp_Compare_int64_s p
theorem impl_compareDuties_I (p : Nat) : ∀ f lt, impl_compareDuties_G p f = some (.inl lt) → LTok Tryz.prog (impl_compareDuties_G p) 5 f lt := by
  apply glist_inl; intro f lt h
  simp only [List.mem_cons, List.not_mem_nil, or_false, Prod.mk.injEq, CE.inl.injEq, and_false, or_false, false_or, reduceCtorEq] at h
  
noncomputable def impl_compareDuties_p (p : Nat) (a0 : (Ty.T TDuty)) (a1 : (Ty.T TDuty)) : Option (Int × Unit) :=
  ((cmp_Compare_string_p p a0.1 a1.1).bind fun r1 => ((cmp_Compare_int64_p p a0.2.1 a1.2.1).bind fun r2 => ((cmp_Or_int_p p (((List.replicate 2 (Ty.zero (.int .i64))).set 0 r1.1).set 1 r2.1)).bind fun r3 => some (r3.1, ()))))
theorem impl_compareDuties_run (p : Nat) (x : (parsT [.val TDuty, .val TDuty]).T) : acall Tryz.prog (impl_compareDuties_G p) 5 1 88 .leaf (argAVs [.val TDuty, .val TDuty] x) ⟨[], 0, []⟩ (outR [(.int .i64)]) = impl_compareDuties_p p x.1 x.2.1 := by kernel_rfl
noncomputable def impl_compareDuties_c (p : Nat) : PC := PC.fn true [.val TDuty, .val TDuty] [(.int .i64)] fun x => impl_compareDuties_p p x.1 x.2.1
theorem impl_compareDuties_s (p : Nat) : PSound Tryz.prog 88 (impl_compareDuties_c p) := pure_sound (impl_compareDuties_E p) Tryz.checked.mixed (impl_compareDuties_I p) LTok_leaf (fun _ => rfl) fun x y h => (impl_compareDuties_run p x).trans h
/-! (impl.Duty).end -/
noncomputable def impl_Duty_end_G (p : Nat) : FuncId → Option CE := glist []
theorem impl_Duty_end_E (p : Nat) : EnvS Tryz.prog (impl_Duty_end_G p) := by
  apply glist_env; intro f ce h
  simp only [List.mem_cons, List.not_mem_nil, or_false, Prod.mk.injEq] at h
  
theorem impl_Duty_end_I (p : Nat) : ∀ f lt, impl_Duty_end_G p f = some (.inl lt) → LTok Tryz.prog (impl_Duty_end_G p) 5 f lt := by
  apply glist_inl; intro f lt h
  simp only [List.mem_cons, List.not_mem_nil, or_false, Prod.mk.injEq, CE.inl.injEq, and_false, or_false, false_or, reduceCtorEq] at h
  
noncomputable def impl_Duty_end_p (p : Nat) (a0 : (Ty.T TDuty)) : Option (Int × Unit) :=
  some ((IntKind.wrap .i64 (a0.2.1 + a0.2.2.1)), ())
theorem impl_Duty_end_run (p : Nat) (x : (parsT [.val TDuty]).T) : acall Tryz.prog (impl_Duty_end_G p) 5 1 89 .leaf (argAVs [.val TDuty] x) ⟨[], 0, []⟩ (outR [(.int .i64)]) = impl_Duty_end_p p x.1 := by kernel_rfl
noncomputable def impl_Duty_end_c (p : Nat) : PC := PC.fn true [.val TDuty] [(.int .i64)] fun x => impl_Duty_end_p p x.1
theorem impl_Duty_end_s (p : Nat) : PSound Tryz.prog 89 (impl_Duty_end_c p) := pure_sound (impl_Duty_end_E p) Tryz.checked.mixed (impl_Duty_end_I p) LTok_leaf (fun _ => rfl) fun x y h => (impl_Duty_end_run p x).trans h
/-! impl.ValidDuties -/
noncomputable def impl_ValidDuties_l0_r {α : Type} (p : Nat) (v0 : List (Ty.T TDuty)) (v1 : List (Ty.T TDuty)) (v2 : Int) (rec : (Int) → Option α) (v3 : Int) (k0 : (Bool) → Option α) (k1 : Unit → Option α) : Option α :=
  (bif (decide (v3 < v2)) then (if 0 ≤ v3 then (v1[v3.toNat]?).bind fun y1 => ((impl_Duty_valid_p p y1).bind fun r2 => (bif (!r2.1) then (k0 false)
 else (bif (decide (v3 > (0 : Int))) then (if 0 ≤ (IntKind.wrap .i64 (v3 - (1 : Int))) then (v0[(IntKind.wrap .i64 (v3 - (1 : Int))).toNat]?).bind fun y3 => ((impl_compareDuties_p p y3 y1).bind fun r4 => (bif (decide (r4.1 ≥ (0 : Int))) then (k0 false)
 else (bif (decide (v3 > (0 : Int))) then (if 0 ≤ (IntKind.wrap .i64 (v3 - (1 : Int))) then (v0[(IntKind.wrap .i64 (v3 - (1 : Int))).toNat]?).bind fun y5 => (bif (y5.1.toList == y1.1.toList) then (if 0 ≤ (IntKind.wrap .i64 (v3 - (1 : Int))) then (v0[(IntKind.wrap .i64 (v3 - (1 : Int))).toNat]?).bind fun y6 => ((impl_Duty_end_p p y6).bind fun r7 => (bif (decide (r7.1 > y1.2.1)) then (k0 false)
 else (rec (IntKind.wrap .i64 (v3 + (1 : Int)))))) else none)
 else (rec (IntKind.wrap .i64 (v3 + (1 : Int))))) else none)
 else (rec (IntKind.wrap .i64 (v3 + (1 : Int))))))) else none)
 else (bif (decide (v3 > (0 : Int))) then (if 0 ≤ (IntKind.wrap .i64 (v3 - (1 : Int))) then (v0[(IntKind.wrap .i64 (v3 - (1 : Int))).toNat]?).bind fun y8 => (bif (y8.1.toList == y1.1.toList) then (if 0 ≤ (IntKind.wrap .i64 (v3 - (1 : Int))) then (v0[(IntKind.wrap .i64 (v3 - (1 : Int))).toNat]?).bind fun y9 => ((impl_Duty_end_p p y9).bind fun r10 => (bif (decide (r10.1 > y1.2.1)) then (k0 false)
 else (rec (IntKind.wrap .i64 (v3 + (1 : Int)))))) else none)
 else (rec (IntKind.wrap .i64 (v3 + (1 : Int))))) else none)
 else (rec (IntKind.wrap .i64 (v3 + (1 : Int)))))))) else none)
 else (k1 ()))
noncomputable def impl_ValidDuties_l0_go {α : Type} (p : Nat) (v0 : List (Ty.T TDuty)) (v1 : List (Ty.T TDuty)) (v2 : Int) : Nat → (Int) → ((Bool) → Option α) → (Unit → Option α) → Option α
  | 0, _, _, _ => none
  | q + 1, v3, k0, k1 => impl_ValidDuties_l0_r p v0 v1 v2 (fun v3 => impl_ValidDuties_l0_go p v0 v1 v2 q v3 k0 k1) v3 k0 k1
def impl_ValidDuties_l0_sh : Sh := ⟨[⟨0, false, [.sl TDuty]⟩, ⟨8, false, [.sl TDuty]⟩, ⟨9, false, [.int .i64]⟩, ⟨10, false, [.int .i64]⟩], 0, []⟩
noncomputable def impl_ValidDuties_lc0 (p : Nat) : LC := LC.alts 0 [⟨0, impl_ValidDuties_l0_sh, fun x {α} k => impl_ValidDuties_l0_go p x.1.1.1 x.1.2.1.1 x.1.2.2.1.1 p x.1.2.2.2.1.1 (fun o0 => k .ret ⟨[(2, .one ⟨false, [.bool o0]⟩)], 0, []⟩) (fun _ => k (.exit 0) ⟨[], 0, []⟩)⟩]
noncomputable def impl_ValidDuties_lt (p : Nat) : LT := (.node .leaf (.node .leaf (.node (.node .leaf (.loop [0, 8, 9, 10] [2] (some (impl_ValidDuties_lc0 p)) .leaf)) .leaf)))
noncomputable def impl_ValidDuties_G (p : Nat) : FuncId → Option CE := glist [(87, .pure (impl_Duty_valid_c p)), (88, .pure (impl_compareDuties_c p)), (89, .pure (impl_Duty_end_c p))]
noncomputable def impl_ValidDuties_c0 : Code := codeAt [1, 1, 0, 1, 0, 0] (bodyOf Tryz.f38)
noncomputable def impl_ValidDuties_it0 {α : Type} (p n b : Nat) (k : Ex → St → Option α) (q : Nat) (st : St) : Option α :=
  iter (fun s q => aexec Tryz.prog (impl_ValidDuties_G p) (fun g lt args st (k : D → St → Option α) => acall Tryz.prog (impl_ValidDuties_G p) 5 (n + 0) g lt args st k) 5 b 57 impl_ValidDuties_c0 .leaf s q) (canon b [0, 8, 9, 10]) q st (fun e s => k e (canon b [2] s))
theorem impl_ValidDuties_l0_step {α : Type} (p n : Nat) (k : Ex → St → Option α) (v0 : List (Ty.T TDuty)) (v1 : List (Ty.T TDuty)) (v2 : Int) (q : Nat) (v3 : Int) : impl_ValidDuties_it0 p n 0 k (q + 1) (impl_ValidDuties_l0_sh.mk' (((v0, ()), (v1, ()), (v2, ()), (v3, ()), ()), (()))) =
  impl_ValidDuties_l0_r p v0 v1 v2 (fun v3 => impl_ValidDuties_it0 p n 0 k q (impl_ValidDuties_l0_sh.mk' (((v0, ()), (v1, ()), (v2, ()), (v3, ()), ()), (())))) v3 (fun o0 => k .ret ⟨[(2, .one ⟨false, [.bool o0]⟩)], 0, []⟩) (fun _ => k (.exit 0) ⟨[], 0, []⟩) := by kernel_rfl
theorem impl_ValidDuties_l0_ok {α : Type} (p n : Nat) (k : Ex → St → Option α) (v0 : List (Ty.T TDuty)) (v1 : List (Ty.T TDuty)) (v2 : Int) : ∀ (q : Nat) (v3 : Int), impl_ValidDuties_it0 p n 0 k q (impl_ValidDuties_l0_sh.mk' (((v0, ()), (v1, ()), (v2, ()), (v3, ()), ()), (()))) =
  impl_ValidDuties_l0_go p v0 v1 v2 q v3 (fun o0 => k .ret ⟨[(2, .one ⟨false, [.bool o0]⟩)], 0, []⟩) (fun _ => k (.exit 0) ⟨[], 0, []⟩) := by
  intro q
  induction q with
  | zero => intros; rfl
  | succ q ih => intro v3; rw [impl_ValidDuties_l0_step]; simp only [ih]; rfl
theorem impl_ValidDuties_ltok_38_ls (p : Nat) : loopsOf (bodyOf Tryz.f38) (impl_ValidDuties_lt p) = [⟨impl_ValidDuties_c0, [0, 8, 9, 10], [2], impl_ValidDuties_lc0 p, .leaf⟩] := by kernel_rfl
theorem impl_ValidDuties_ltok_38_dep (p : Nat) : LT.dep (impl_ValidDuties_lt p) = 0 := by kernel_rfl
theorem impl_ValidDuties_ltok_38 (p : Nat) : LTok Tryz.prog (impl_ValidDuties_G p) 5 38 (impl_ValidDuties_lt p) := by
  intro α n base fn c hd hfn hc
  have hfn' : some fn = some Tryz.f38 := hfn.symm.trans Tryz.func38
  cases hfn'
  have hc' : c = bodyOf Tryz.f38 := by unfold bodyOf; rw [hc]; rfl
  subst hc'
  rw [impl_ValidDuties_ltok_38_dep] at hd
  obtain ⟨n, rfl⟩ := Nat.exists_eq_add_of_le' hd
  apply LTS_of_loops
  rw [impl_ValidDuties_ltok_38_ls]
  intro e he st k r h
  simp only [List.mem_cons, List.not_mem_nil, or_false] at he
  subst he
  · obtain ⟨a, ha, hb, x, rfl, h⟩ := altRun_ok h
    simp only [List.mem_cons, List.not_mem_nil, or_false] at ha
    subst ha
    · cases hb; exact ⟨p, (impl_ValidDuties_l0_ok p n k _ _ _ p _).trans h⟩
theorem impl_ValidDuties_E (p : Nat) : EnvS Tryz.prog (impl_ValidDuties_G p) := by
  apply glist_env; intro f ce h
  simp only [List.mem_cons, List.not_mem_nil, or_false, Prod.mk.injEq] at h
  rcases h with ⟨rfl, rfl⟩ | ⟨rfl, rfl⟩ | ⟨rfl, rfl⟩
  · exact impl_Duty_valid_s p
  · exact impl_compareDuties_s p
  · exact impl_Duty_end_s p
theorem impl_ValidDuties_I (p : Nat) : ∀ f lt, impl_ValidDuties_G p f = some (.inl lt) → LTok Tryz.prog (impl_ValidDuties_G p) 5 f lt := by
  apply glist_inl; intro f lt h
  simp only [List.mem_cons, List.not_mem_nil, or_false, Prod.mk.injEq, CE.inl.injEq, and_false, or_false, false_or, reduceCtorEq] at h
  
noncomputable def impl_ValidDuties_p (p : Nat) (a0 : (List (Ty.T TDuty))) : Option (Bool × Unit) :=
  (bif (decide ((a0.length : Int) > (32 : Int))) then some (false, ())
 else (impl_ValidDuties_l0_go p a0 a0 (a0.length : Int) p (0 : Int) (fun o11 => some (o11, ())) (fun _ => some (true, ()))))
theorem impl_ValidDuties_run (p : Nat) (x : (parsT [.val (.slice TDuty)]).T) : acall Tryz.prog (impl_ValidDuties_G p) 5 1 38 (impl_ValidDuties_lt p) (argAVs [.val (.slice TDuty)] x) ⟨[], 0, []⟩ (outR [.bool]) = impl_ValidDuties_p p x.1 := by kernel_rfl
noncomputable def impl_ValidDuties_c (p : Nat) : PC := PC.fn true [.val (.slice TDuty)] [.bool] fun x => impl_ValidDuties_p p x.1
theorem impl_ValidDuties_s (p : Nat) : PSound Tryz.prog 38 (impl_ValidDuties_c p) := pure_sound (impl_ValidDuties_E p) Tryz.checked.mixed (impl_ValidDuties_I p) (impl_ValidDuties_ltok_38 p) (fun _ => rfl) fun x y h => (impl_ValidDuties_run p x).trans h
/-! impl.ValidDesk -/
noncomputable def impl_ValidDesk_G (p : Nat) : FuncId → Option CE := glist [(29, .pure (impl_ValidNetwork_c p)), (30, .pure (impl_Network_flowsOk_c p)), (31, .pure (impl_ValidValves_c p)), (32, .pure (impl_pumpsOk_c p)), (33, .pure (impl_ValidSubstations_c p)), (34, .pure (impl_ValidTank_c p)), (35, .pure (impl_ValidFuels_c p)), (36, .pure (impl_ValidRepairs_c p)), (37, .pure (impl_ValidTenants_c p)), (38, .pure (impl_ValidDuties_c p))]
theorem impl_ValidDesk_E (p : Nat) : EnvS Tryz.prog (impl_ValidDesk_G p) := by
  apply glist_env; intro f ce h
  simp only [List.mem_cons, List.not_mem_nil, or_false, Prod.mk.injEq] at h
  rcases h with ⟨rfl, rfl⟩ | ⟨rfl, rfl⟩ | ⟨rfl, rfl⟩ | ⟨rfl, rfl⟩ | ⟨rfl, rfl⟩ | ⟨rfl, rfl⟩ | ⟨rfl, rfl⟩ | ⟨rfl, rfl⟩ | ⟨rfl, rfl⟩ | ⟨rfl, rfl⟩
  · exact impl_ValidNetwork_s p
  · exact impl_Network_flowsOk_s p
  · exact impl_ValidValves_s p
  · exact impl_pumpsOk_s p
  · exact impl_ValidSubstations_s p
  · exact impl_ValidTank_s p
  · exact impl_ValidFuels_s p
  · exact impl_ValidRepairs_s p
  · exact impl_ValidTenants_s p
  · exact impl_ValidDuties_s p
theorem impl_ValidDesk_I (p : Nat) : ∀ f lt, impl_ValidDesk_G p f = some (.inl lt) → LTok Tryz.prog (impl_ValidDesk_G p) 5 f lt := by
  apply glist_inl; intro f lt h
  simp only [List.mem_cons, List.not_mem_nil, or_false, Prod.mk.injEq, CE.inl.injEq, and_false, or_false, false_or, reduceCtorEq] at h
  
noncomputable def impl_ValidDesk_p (p : Nat) (a0 : (Ty.T TDesk)) : Option (Bool × Unit) :=
  ((impl_ValidNetwork_p p a0.1).bind fun r1 => (bif r1.1 then ((impl_Network_flowsOk_p p a0.1 a0.2.1).bind fun r2 => (bif r2.1 then ((impl_ValidValves_p p a0.1 a0.2.2.1).bind fun r3 => (bif r3.1 then ((impl_pumpsOk_p p a0.2.2.2.1).bind fun r4 => (bif r4.1 then ((impl_ValidSubstations_p p a0.2.2.2.2.1).bind fun r5 => (bif r5.1 then ((impl_ValidTank_p p a0.2.2.2.2.2.1).bind fun r6 => (bif r6.1 then ((impl_ValidFuels_p p a0.2.2.2.2.2.2.1).bind fun r7 => (bif r7.1 then ((impl_ValidRepairs_p p a0.2.2.2.2.2.2.2.1).bind fun r8 => (bif r8.1 then ((impl_ValidTenants_p p a0.2.2.2.2.2.2.2.2.1).bind fun r9 => (bif r9.1 then ((impl_ValidDuties_p p a0.2.2.2.2.2.2.2.2.2).bind fun r10 => some (r10.1, ()))
 else some (false, ())))
 else some (false, ())))
 else some (false, ())))
 else some (false, ())))
 else some (false, ())))
 else some (false, ())))
 else some (false, ())))
 else some (false, ())))
 else some (false, ())))
theorem impl_ValidDesk_run (p : Nat) (x : (parsT [.val TDesk]).T) : acall Tryz.prog (impl_ValidDesk_G p) 5 1 7 .leaf (argAVs [.val TDesk] x) ⟨[], 0, []⟩ (outR [.bool]) = impl_ValidDesk_p p x.1 := by kernel_rfl
noncomputable def impl_ValidDesk_c (p : Nat) : PC := PC.fn true [.val TDesk] [.bool] fun x => impl_ValidDesk_p p x.1
theorem impl_ValidDesk_s (p : Nat) : PSound Tryz.prog 7 (impl_ValidDesk_c p) := pure_sound (impl_ValidDesk_E p) Tryz.checked.mixed (impl_ValidDesk_I p) LTok_leaf (fun _ => rfl) fun x y h => (impl_ValidDesk_run p x).trans h
/-! laws.eqInt64S -/
noncomputable def laws_eqInt64S_l0_r {α : Type} (p : Nat) (v0 : List Int) (v1 : List Int) (rec : (Int) → Option α) (v2 : Int) (k0 : (Bool) → Option α) (k1 : Unit → Option α) : Option α :=
  (bif (decide (v2 < (v0.length : Int))) then (if 0 ≤ v2 then (v0[v2.toNat]?).bind fun y1 => (if 0 ≤ v2 then (v1[v2.toNat]?).bind fun y2 => (bif (y1 != y2) then (k0 false)
 else (rec (IntKind.wrap .i64 (v2 + (1 : Int))))) else none) else none)
 else (k1 ()))
noncomputable def laws_eqInt64S_l0_go {α : Type} (p : Nat) (v0 : List Int) (v1 : List Int) : Nat → (Int) → ((Bool) → Option α) → (Unit → Option α) → Option α
  | 0, _, _, _ => none
  | q + 1, v2, k0, k1 => laws_eqInt64S_l0_r p v0 v1 (fun v2 => laws_eqInt64S_l0_go p v0 v1 q v2 k0 k1) v2 k0 k1
def laws_eqInt64S_l0_sh : Sh := ⟨[⟨0, false, [.sl (.int .i64)]⟩, ⟨1, false, [.sl (.int .i64)]⟩, ⟨5, false, [.int .i64]⟩], 0, []⟩
noncomputable def laws_eqInt64S_lc0 (p : Nat) : LC := LC.alts 0 [⟨0, laws_eqInt64S_l0_sh, fun x {α} k => laws_eqInt64S_l0_go p x.1.1.1 x.1.2.1.1 p x.1.2.2.1.1 (fun o0 => k .ret ⟨[(4, .one ⟨false, [.bool o0]⟩)], 0, []⟩) (fun _ => k (.exit 0) ⟨[], 0, []⟩)⟩]
noncomputable def laws_eqInt64S_lt (p : Nat) : LT := (.node .leaf (.node .leaf (.node (.node .leaf (.loop [0, 1, 5] [4] (some (laws_eqInt64S_lc0 p)) .leaf)) .leaf)))
noncomputable def laws_eqInt64S_G (p : Nat) : FuncId → Option CE := glist []
noncomputable def laws_eqInt64S_c0 : Code := codeAt [1, 1, 0, 1, 0, 0] (bodyOf Tryz.f40)
noncomputable def laws_eqInt64S_it0 {α : Type} (p n b : Nat) (k : Ex → St → Option α) (q : Nat) (st : St) : Option α :=
  iter (fun s q => aexec Tryz.prog (laws_eqInt64S_G p) (fun g lt args st (k : D → St → Option α) => acall Tryz.prog (laws_eqInt64S_G p) 5 (n + 0) g lt args st k) 5 b 26 laws_eqInt64S_c0 .leaf s q) (canon b [0, 1, 5]) q st (fun e s => k e (canon b [4] s))
theorem laws_eqInt64S_l0_step {α : Type} (p n : Nat) (k : Ex → St → Option α) (v0 : List Int) (v1 : List Int) (q : Nat) (v2 : Int) : laws_eqInt64S_it0 p n 0 k (q + 1) (laws_eqInt64S_l0_sh.mk' (((v0, ()), (v1, ()), (v2, ()), ()), (()))) =
  laws_eqInt64S_l0_r p v0 v1 (fun v2 => laws_eqInt64S_it0 p n 0 k q (laws_eqInt64S_l0_sh.mk' (((v0, ()), (v1, ()), (v2, ()), ()), (())))) v2 (fun o0 => k .ret ⟨[(4, .one ⟨false, [.bool o0]⟩)], 0, []⟩) (fun _ => k (.exit 0) ⟨[], 0, []⟩) := by kernel_rfl
theorem laws_eqInt64S_l0_ok {α : Type} (p n : Nat) (k : Ex → St → Option α) (v0 : List Int) (v1 : List Int) : ∀ (q : Nat) (v2 : Int), laws_eqInt64S_it0 p n 0 k q (laws_eqInt64S_l0_sh.mk' (((v0, ()), (v1, ()), (v2, ()), ()), (()))) =
  laws_eqInt64S_l0_go p v0 v1 q v2 (fun o0 => k .ret ⟨[(4, .one ⟨false, [.bool o0]⟩)], 0, []⟩) (fun _ => k (.exit 0) ⟨[], 0, []⟩) := by
  intro q
  induction q with
  | zero => intros; rfl
  | succ q ih => intro v2; rw [laws_eqInt64S_l0_step]; simp only [ih]; rfl
theorem laws_eqInt64S_ltok_40_ls (p : Nat) : loopsOf (bodyOf Tryz.f40) (laws_eqInt64S_lt p) = [⟨laws_eqInt64S_c0, [0, 1, 5], [4], laws_eqInt64S_lc0 p, .leaf⟩] := by kernel_rfl
theorem laws_eqInt64S_ltok_40_dep (p : Nat) : LT.dep (laws_eqInt64S_lt p) = 0 := by kernel_rfl
theorem laws_eqInt64S_ltok_40 (p : Nat) : LTok Tryz.prog (laws_eqInt64S_G p) 5 40 (laws_eqInt64S_lt p) := by
  intro α n base fn c hd hfn hc
  have hfn' : some fn = some Tryz.f40 := hfn.symm.trans Tryz.func40
  cases hfn'
  have hc' : c = bodyOf Tryz.f40 := by unfold bodyOf; rw [hc]; rfl
  subst hc'
  rw [laws_eqInt64S_ltok_40_dep] at hd
  obtain ⟨n, rfl⟩ := Nat.exists_eq_add_of_le' hd
  apply LTS_of_loops
  rw [laws_eqInt64S_ltok_40_ls]
  intro e he st k r h
  simp only [List.mem_cons, List.not_mem_nil, or_false] at he
  subst he
  · obtain ⟨a, ha, hb, x, rfl, h⟩ := altRun_ok h
    simp only [List.mem_cons, List.not_mem_nil, or_false] at ha
    subst ha
    · cases hb; exact ⟨p, (laws_eqInt64S_l0_ok p n k _ _ p _).trans h⟩
theorem laws_eqInt64S_E (p : Nat) : EnvS Tryz.prog (laws_eqInt64S_G p) := by
  apply glist_env; intro f ce h
  simp only [List.mem_cons, List.not_mem_nil, or_false, Prod.mk.injEq] at h
  
theorem laws_eqInt64S_I (p : Nat) : ∀ f lt, laws_eqInt64S_G p f = some (.inl lt) → LTok Tryz.prog (laws_eqInt64S_G p) 5 f lt := by
  apply glist_inl; intro f lt h
  simp only [List.mem_cons, List.not_mem_nil, or_false, Prod.mk.injEq, CE.inl.injEq, and_false, or_false, false_or, reduceCtorEq] at h
  
noncomputable def laws_eqInt64S_p (p : Nat) (a0 : (List Int)) (a1 : (List Int)) : Option (Bool × Unit) :=
  (bif ((a0.length : Int) != (a1.length : Int)) then some (false, ())
 else (laws_eqInt64S_l0_go p a0 a1 p (0 : Int) (fun o3 => some (o3, ())) (fun _ => some (true, ()))))
theorem laws_eqInt64S_run (p : Nat) (x : (parsT [.val (.slice (.int .i64)), .val (.slice (.int .i64))]).T) : acall Tryz.prog (laws_eqInt64S_G p) 5 1 40 (laws_eqInt64S_lt p) (argAVs [.val (.slice (.int .i64)), .val (.slice (.int .i64))] x) ⟨[], 0, []⟩ (outR [.bool]) = laws_eqInt64S_p p x.1 x.2.1 := by kernel_rfl
noncomputable def laws_eqInt64S_c (p : Nat) : PC := PC.fn true [.val (.slice (.int .i64)), .val (.slice (.int .i64))] [.bool] fun x => laws_eqInt64S_p p x.1 x.2.1
theorem laws_eqInt64S_s (p : Nat) : PSound Tryz.prog 40 (laws_eqInt64S_c p) := pure_sound (laws_eqInt64S_E p) Tryz.checked.mixed (laws_eqInt64S_I p) (laws_eqInt64S_ltok_40 p) (fun _ => rfl) fun x y h => (laws_eqInt64S_run p x).trans h
/-! laws.eqPipe -/
noncomputable def laws_eqPipe_G (p : Nat) : FuncId → Option CE := glist []
theorem laws_eqPipe_E (p : Nat) : EnvS Tryz.prog (laws_eqPipe_G p) := by
  apply glist_env; intro f ce h
  simp only [List.mem_cons, List.not_mem_nil, or_false, Prod.mk.injEq] at h
  
theorem laws_eqPipe_I (p : Nat) : ∀ f lt, laws_eqPipe_G p f = some (.inl lt) → LTok Tryz.prog (laws_eqPipe_G p) 5 f lt := by
  apply glist_inl; intro f lt h
  simp only [List.mem_cons, List.not_mem_nil, or_false, Prod.mk.injEq, CE.inl.injEq, and_false, or_false, false_or, reduceCtorEq] at h
  
noncomputable def laws_eqPipe_p (p : Nat) (a0 : (Ty.T TPipe)) (a1 : (Ty.T TPipe)) : Option (Bool × Unit) :=
  (bif (!(a0.1.toList == a1.1.toList)) then some (false, ())
 else (bif (a0.2.1 != a1.2.1) then some (false, ())
 else (bif (a0.2.2.1 != a1.2.2.1) then some (false, ())
 else (bif (a0.2.2.2.1 != a1.2.2.2.1) then some (false, ())
 else (bif (a0.2.2.2.2.1 != a1.2.2.2.2.1) then some (false, ())
 else (bif (a0.2.2.2.2.2 != a1.2.2.2.2.2) then some (false, ())
 else some (true, ())))))))
theorem laws_eqPipe_run (p : Nat) (x : (parsT [.val TPipe, .val TPipe]).T) : acall Tryz.prog (laws_eqPipe_G p) 5 1 126 .leaf (argAVs [.val TPipe, .val TPipe] x) ⟨[], 0, []⟩ (outR [.bool]) = laws_eqPipe_p p x.1 x.2.1 := by kernel_rfl
noncomputable def laws_eqPipe_c (p : Nat) : PC := PC.fn true [.val TPipe, .val TPipe] [.bool] fun x => laws_eqPipe_p p x.1 x.2.1
theorem laws_eqPipe_s (p : Nat) : PSound Tryz.prog 126 (laws_eqPipe_c p) := pure_sound (laws_eqPipe_E p) Tryz.checked.mixed (laws_eqPipe_I p) LTok_leaf (fun _ => rfl) fun x y h => (laws_eqPipe_run p x).trans h
/-! laws.eqPipeS -/
noncomputable def laws_eqPipeS_l0_r {α : Type} (p : Nat) (v0 : List (Ty.T TPipe)) (v1 : List (Ty.T TPipe)) (rec : (Int) → Option α) (v2 : Int) (k0 : (Bool) → Option α) (k1 : Unit → Option α) : Option α :=
  (bif (decide (v2 < (v0.length : Int))) then (if 0 ≤ v2 then (v0[v2.toNat]?).bind fun y1 => (if 0 ≤ v2 then (v1[v2.toNat]?).bind fun y2 => ((laws_eqPipe_p p y1 y2).bind fun r3 => (bif (!r3.1) then (k0 false)
 else (rec (IntKind.wrap .i64 (v2 + (1 : Int)))))) else none) else none)
 else (k1 ()))
noncomputable def laws_eqPipeS_l0_go {α : Type} (p : Nat) (v0 : List (Ty.T TPipe)) (v1 : List (Ty.T TPipe)) : Nat → (Int) → ((Bool) → Option α) → (Unit → Option α) → Option α
  | 0, _, _, _ => none
  | q + 1, v2, k0, k1 => laws_eqPipeS_l0_r p v0 v1 (fun v2 => laws_eqPipeS_l0_go p v0 v1 q v2 k0 k1) v2 k0 k1
def laws_eqPipeS_l0_sh : Sh := ⟨[⟨0, false, [.sl TPipe]⟩, ⟨1, false, [.sl TPipe]⟩, ⟨5, false, [.int .i64]⟩], 0, []⟩
noncomputable def laws_eqPipeS_lc0 (p : Nat) : LC := LC.alts 0 [⟨0, laws_eqPipeS_l0_sh, fun x {α} k => laws_eqPipeS_l0_go p x.1.1.1 x.1.2.1.1 p x.1.2.2.1.1 (fun o0 => k .ret ⟨[(4, .one ⟨false, [.bool o0]⟩)], 0, []⟩) (fun _ => k (.exit 0) ⟨[], 0, []⟩)⟩]
noncomputable def laws_eqPipeS_lt (p : Nat) : LT := (.node .leaf (.node .leaf (.node (.node .leaf (.loop [0, 1, 5] [4] (some (laws_eqPipeS_lc0 p)) .leaf)) .leaf)))
noncomputable def laws_eqPipeS_G (p : Nat) : FuncId → Option CE := glist [(126, .pure (laws_eqPipe_c p))]
noncomputable def laws_eqPipeS_c0 : Code := codeAt [1, 1, 0, 1, 0, 0] (bodyOf Tryz.f90)
noncomputable def laws_eqPipeS_it0 {α : Type} (p n b : Nat) (k : Ex → St → Option α) (q : Nat) (st : St) : Option α :=
  iter (fun s q => aexec Tryz.prog (laws_eqPipeS_G p) (fun g lt args st (k : D → St → Option α) => acall Tryz.prog (laws_eqPipeS_G p) 5 (n + 0) g lt args st k) 5 b 27 laws_eqPipeS_c0 .leaf s q) (canon b [0, 1, 5]) q st (fun e s => k e (canon b [4] s))
theorem laws_eqPipeS_l0_step {α : Type} (p n : Nat) (k : Ex → St → Option α) (v0 : List (Ty.T TPipe)) (v1 : List (Ty.T TPipe)) (q : Nat) (v2 : Int) : laws_eqPipeS_it0 p n 0 k (q + 1) (laws_eqPipeS_l0_sh.mk' (((v0, ()), (v1, ()), (v2, ()), ()), (()))) =
  laws_eqPipeS_l0_r p v0 v1 (fun v2 => laws_eqPipeS_it0 p n 0 k q (laws_eqPipeS_l0_sh.mk' (((v0, ()), (v1, ()), (v2, ()), ()), (())))) v2 (fun o0 => k .ret ⟨[(4, .one ⟨false, [.bool o0]⟩)], 0, []⟩) (fun _ => k (.exit 0) ⟨[], 0, []⟩) := by kernel_rfl
theorem laws_eqPipeS_l0_ok {α : Type} (p n : Nat) (k : Ex → St → Option α) (v0 : List (Ty.T TPipe)) (v1 : List (Ty.T TPipe)) : ∀ (q : Nat) (v2 : Int), laws_eqPipeS_it0 p n 0 k q (laws_eqPipeS_l0_sh.mk' (((v0, ()), (v1, ()), (v2, ()), ()), (()))) =
  laws_eqPipeS_l0_go p v0 v1 q v2 (fun o0 => k .ret ⟨[(4, .one ⟨false, [.bool o0]⟩)], 0, []⟩) (fun _ => k (.exit 0) ⟨[], 0, []⟩) := by
  intro q
  induction q with
  | zero => intros; rfl
  | succ q ih => intro v2; rw [laws_eqPipeS_l0_step]; simp only [ih]; rfl
theorem laws_eqPipeS_ltok_90_ls (p : Nat) : loopsOf (bodyOf Tryz.f90) (laws_eqPipeS_lt p) = [⟨laws_eqPipeS_c0, [0, 1, 5], [4], laws_eqPipeS_lc0 p, .leaf⟩] := by kernel_rfl
theorem laws_eqPipeS_ltok_90_dep (p : Nat) : LT.dep (laws_eqPipeS_lt p) = 0 := by kernel_rfl
theorem laws_eqPipeS_ltok_90 (p : Nat) : LTok Tryz.prog (laws_eqPipeS_G p) 5 90 (laws_eqPipeS_lt p) := by
  intro α n base fn c hd hfn hc
  have hfn' : some fn = some Tryz.f90 := hfn.symm.trans Tryz.func90
  cases hfn'
  have hc' : c = bodyOf Tryz.f90 := by unfold bodyOf; rw [hc]; rfl
  subst hc'
  rw [laws_eqPipeS_ltok_90_dep] at hd
  obtain ⟨n, rfl⟩ := Nat.exists_eq_add_of_le' hd
  apply LTS_of_loops
  rw [laws_eqPipeS_ltok_90_ls]
  intro e he st k r h
  simp only [List.mem_cons, List.not_mem_nil, or_false] at he
  subst he
  · obtain ⟨a, ha, hb, x, rfl, h⟩ := altRun_ok h
    simp only [List.mem_cons, List.not_mem_nil, or_false] at ha
    subst ha
    · cases hb; exact ⟨p, (laws_eqPipeS_l0_ok p n k _ _ p _).trans h⟩
theorem laws_eqPipeS_E (p : Nat) : EnvS Tryz.prog (laws_eqPipeS_G p) := by
  apply glist_env; intro f ce h
  simp only [List.mem_cons, List.not_mem_nil, or_false, Prod.mk.injEq] at h
  rcases h with ⟨rfl, rfl⟩
  · exact laws_eqPipe_s p
theorem laws_eqPipeS_I (p : Nat) : ∀ f lt, laws_eqPipeS_G p f = some (.inl lt) → LTok Tryz.prog (laws_eqPipeS_G p) 5 f lt := by
  apply glist_inl; intro f lt h
  simp only [List.mem_cons, List.not_mem_nil, or_false, Prod.mk.injEq, CE.inl.injEq, and_false, or_false, false_or, reduceCtorEq] at h
  
noncomputable def laws_eqPipeS_p (p : Nat) (a0 : (List (Ty.T TPipe))) (a1 : (List (Ty.T TPipe))) : Option (Bool × Unit) :=
  (bif ((a0.length : Int) != (a1.length : Int)) then some (false, ())
 else (laws_eqPipeS_l0_go p a0 a1 p (0 : Int) (fun o4 => some (o4, ())) (fun _ => some (true, ()))))
theorem laws_eqPipeS_run (p : Nat) (x : (parsT [.val (.slice TPipe), .val (.slice TPipe)]).T) : acall Tryz.prog (laws_eqPipeS_G p) 5 1 90 (laws_eqPipeS_lt p) (argAVs [.val (.slice TPipe), .val (.slice TPipe)] x) ⟨[], 0, []⟩ (outR [.bool]) = laws_eqPipeS_p p x.1 x.2.1 := by kernel_rfl
noncomputable def laws_eqPipeS_c (p : Nat) : PC := PC.fn true [.val (.slice TPipe), .val (.slice TPipe)] [.bool] fun x => laws_eqPipeS_p p x.1 x.2.1
theorem laws_eqPipeS_s (p : Nat) : PSound Tryz.prog 90 (laws_eqPipeS_c p) := pure_sound (laws_eqPipeS_E p) Tryz.checked.mixed (laws_eqPipeS_I p) (laws_eqPipeS_ltok_90 p) (fun _ => rfl) fun x y h => (laws_eqPipeS_run p x).trans h
/-! laws.eqNetwork -/
noncomputable def laws_eqNetwork_G (p : Nat) : FuncId → Option CE := glist [(40, .pure (laws_eqInt64S_c p)), (90, .pure (laws_eqPipeS_c p))]
theorem laws_eqNetwork_E (p : Nat) : EnvS Tryz.prog (laws_eqNetwork_G p) := by
  apply glist_env; intro f ce h
  simp only [List.mem_cons, List.not_mem_nil, or_false, Prod.mk.injEq] at h
  rcases h with ⟨rfl, rfl⟩ | ⟨rfl, rfl⟩
  · exact laws_eqInt64S_s p
  · exact laws_eqPipeS_s p
theorem laws_eqNetwork_I (p : Nat) : ∀ f lt, laws_eqNetwork_G p f = some (.inl lt) → LTok Tryz.prog (laws_eqNetwork_G p) 5 f lt := by
  apply glist_inl; intro f lt h
  simp only [List.mem_cons, List.not_mem_nil, or_false, Prod.mk.injEq, CE.inl.injEq, and_false, or_false, false_or, reduceCtorEq] at h
  
noncomputable def laws_eqNetwork_p (p : Nat) (a0 : (Ty.T TNetwork)) (a1 : (Ty.T TNetwork)) : Option (Bool × Unit) :=
  ((laws_eqInt64S_p p a0.1 a1.1).bind fun r1 => (bif (!r1.1) then some (false, ())
 else ((laws_eqPipeS_p p a0.2 a1.2).bind fun r2 => (bif (!r2.1) then some (false, ())
 else some (true, ())))))
theorem laws_eqNetwork_run (p : Nat) (x : (parsT [.val TNetwork, .val TNetwork]).T) : acall Tryz.prog (laws_eqNetwork_G p) 5 1 39 .leaf (argAVs [.val TNetwork, .val TNetwork] x) ⟨[], 0, []⟩ (outR [.bool]) = laws_eqNetwork_p p x.1 x.2.1 := by kernel_rfl
noncomputable def laws_eqNetwork_c (p : Nat) : PC := PC.fn true [.val TNetwork, .val TNetwork] [.bool] fun x => laws_eqNetwork_p p x.1 x.2.1
theorem laws_eqNetwork_s (p : Nat) : PSound Tryz.prog 39 (laws_eqNetwork_c p) := pure_sound (laws_eqNetwork_E p) Tryz.checked.mixed (laws_eqNetwork_I p) LTok_leaf (fun _ => rfl) fun x y h => (laws_eqNetwork_run p x).trans h
/-! laws.eqValve -/
noncomputable def laws_eqValve_G (p : Nat) : FuncId → Option CE := glist []
theorem laws_eqValve_E (p : Nat) : EnvS Tryz.prog (laws_eqValve_G p) := by
  apply glist_env; intro f ce h
  simp only [List.mem_cons, List.not_mem_nil, or_false, Prod.mk.injEq] at h
  
theorem laws_eqValve_I (p : Nat) : ∀ f lt, laws_eqValve_G p f = some (.inl lt) → LTok Tryz.prog (laws_eqValve_G p) 5 f lt := by
  apply glist_inl; intro f lt h
  simp only [List.mem_cons, List.not_mem_nil, or_false, Prod.mk.injEq, CE.inl.injEq, and_false, or_false, false_or, reduceCtorEq] at h
  
noncomputable def laws_eqValve_p (p : Nat) (a0 : (Ty.T TValve)) (a1 : (Ty.T TValve)) : Option (Bool × Unit) :=
  (bif (!(a0.1.toList == a1.1.toList)) then some (false, ())
 else (bif (!(a0.2.1.toList == a1.2.1.toList)) then some (false, ())
 else (bif (!(a0.2.2 == a1.2.2)) then some (false, ())
 else some (true, ()))))
theorem laws_eqValve_run (p : Nat) (x : (parsT [.val TValve, .val TValve]).T) : acall Tryz.prog (laws_eqValve_G p) 5 1 91 .leaf (argAVs [.val TValve, .val TValve] x) ⟨[], 0, []⟩ (outR [.bool]) = laws_eqValve_p p x.1 x.2.1 := by kernel_rfl
noncomputable def laws_eqValve_c (p : Nat) : PC := PC.fn true [.val TValve, .val TValve] [.bool] fun x => laws_eqValve_p p x.1 x.2.1
theorem laws_eqValve_s (p : Nat) : PSound Tryz.prog 91 (laws_eqValve_c p) := pure_sound (laws_eqValve_E p) Tryz.checked.mixed (laws_eqValve_I p) LTok_leaf (fun _ => rfl) fun x y h => (laws_eqValve_run p x).trans h
end Go.Proofs.YtgmcefnlcalagaaGreat.W
