/- The walk of functions of the program: typed texts, loops, runs, contracts; printed by walk.py. No condition. -/
import Derived.Test.YtekplllopcmooaaAm31
import Derived.Test.YtekplllopcmooaaProg
import Derived.Test.YtekplllopcmooaaChecked
import Derived.Test.YtekplllopcmooaaWSame
namespace Go.Proofs.Ytekplllopcmooaa.W
open Go Go.RowKit Go.Proofs.Ytekplllopcmooaa.AM
set_option maxRecDepth 100000
set_option linter.unusedVariables false
set_option linter.unusedSimpArgs false
/-! spec.SameDesk -/
noncomputable def spec_SameDesk_l0_r {α : Type} (p : Nat) (v4 : List (Ty.T TValve)) (v17 : List (Ty.T TValve)) (rec : (Int) → Option α) (v0 : Int) (k0 : (Bool) → Option α) (k1 : Unit → Option α) : Option α :=
  (bif (decide (v0 < (v4.length : Int))) then (if 0 ≤ v0 then (v4[v0.toNat]?).bind fun y3 => (if 0 ≤ v0 then (v17[v0.toNat]?).bind fun y4 => (bif (!((y3.1.toList == y4.1.toList) && ((y3.2.1.toList == y4.2.1.toList) && ((y3.2.2 == y4.2.2) && true)))) then (k0 false)
 else (rec (IntKind.wrap .i64 (v0 + (1 : Int))))) else none) else none)
 else (k1 ()))
noncomputable def spec_SameDesk_l0_go {α : Type} (p : Nat) (v4 : List (Ty.T TValve)) (v17 : List (Ty.T TValve)) : Nat → (Int) → ((Bool) → Option α) → (Unit → Option α) → Option α
  | 0, _, _, _ => none
  | q + 1, v0, k0, k1 => spec_SameDesk_l0_r p v4 v17 (fun v0 => spec_SameDesk_l0_go p v4 v17 q v0 k0 k1) v0 k0 k1
def spec_SameDesk_l0_sh : Sh := ⟨[⟨2, false, [.lit (.ptr 0 0)]⟩, ⟨3, false, [.lit (.ptr 1 0)]⟩, ⟨5, false, [.int .i64]⟩], 2, [(0, .box [.sl (.int .i64), .sl TPipe, .sl (.int .i64), .sl TValve, .sl TPump, .sl TSubstation, .int .i64, .int .i64, .int .i64, .sl TFuel, .sl TFuel, .sl TTenant, .sl TDuty]), (1, .box [.sl (.int .i64), .sl TPipe, .sl (.int .i64), .sl TValve, .sl TPump, .sl TSubstation, .int .i64, .int .i64, .int .i64, .sl TFuel, .sl TFuel, .sl TTenant, .sl TDuty])]⟩
noncomputable def spec_SameDesk_l1_r {α : Type} (p : Nat) (v5 : List (Ty.T TPump)) (v18 : List (Ty.T TPump)) (rec : (Int) → Option α) (v0 : Int) (k0 : (Bool) → Option α) (k1 : Unit → Option α) : Option α :=
  (bif (decide (v0 < (v5.length : Int))) then (if 0 ≤ v0 then (v5[v0.toNat]?).bind fun y6 => (if 0 ≤ v0 then (v18[v0.toNat]?).bind fun y7 => ((spec_l08Same_p p y6 y7).bind fun r8 => (bif (!r8.1) then (k0 false)
 else (rec (IntKind.wrap .i64 (v0 + (1 : Int)))))) else none) else none)
 else (k1 ()))
noncomputable def spec_SameDesk_l1_go {α : Type} (p : Nat) (v5 : List (Ty.T TPump)) (v18 : List (Ty.T TPump)) : Nat → (Int) → ((Bool) → Option α) → (Unit → Option α) → Option α
  | 0, _, _, _ => none
  | q + 1, v0, k0, k1 => spec_SameDesk_l1_r p v5 v18 (fun v0 => spec_SameDesk_l1_go p v5 v18 q v0 k0 k1) v0 k0 k1
def spec_SameDesk_l1_sh : Sh := ⟨[⟨2, false, [.lit (.ptr 0 0)]⟩, ⟨3, false, [.lit (.ptr 1 0)]⟩, ⟨6, false, [.int .i64]⟩], 2, [(0, .box [.sl (.int .i64), .sl TPipe, .sl (.int .i64), .sl TValve, .sl TPump, .sl TSubstation, .int .i64, .int .i64, .int .i64, .sl TFuel, .sl TFuel, .sl TTenant, .sl TDuty]), (1, .box [.sl (.int .i64), .sl TPipe, .sl (.int .i64), .sl TValve, .sl TPump, .sl TSubstation, .int .i64, .int .i64, .int .i64, .sl TFuel, .sl TFuel, .sl TTenant, .sl TDuty])]⟩
noncomputable def spec_SameDesk_l2_r {α : Type} (p : Nat) (v6 : List (Ty.T TSubstation)) (v19 : List (Ty.T TSubstation)) (rec : (Int) → Option α) (v0 : Int) (k0 : (Bool) → Option α) (k1 : Unit → Option α) : Option α :=
  (bif (decide (v0 < (v6.length : Int))) then (if 0 ≤ v0 then (v6[v0.toNat]?).bind fun y10 => (if 0 ≤ v0 then (v19[v0.toNat]?).bind fun y11 => (bif (!((y10.1.toList == y11.1.toList) && ((y10.2.1 == y11.2.1) && ((y10.2.2.1 == y11.2.2.1) && ((y10.2.2.2.1 == y11.2.2.2.1) && ((y10.2.2.2.2 == y11.2.2.2.2) && true)))))) then (k0 false)
 else (rec (IntKind.wrap .i64 (v0 + (1 : Int))))) else none) else none)
 else (k1 ()))
noncomputable def spec_SameDesk_l2_go {α : Type} (p : Nat) (v6 : List (Ty.T TSubstation)) (v19 : List (Ty.T TSubstation)) : Nat → (Int) → ((Bool) → Option α) → (Unit → Option α) → Option α
  | 0, _, _, _ => none
  | q + 1, v0, k0, k1 => spec_SameDesk_l2_r p v6 v19 (fun v0 => spec_SameDesk_l2_go p v6 v19 q v0 k0 k1) v0 k0 k1
def spec_SameDesk_l2_sh : Sh := ⟨[⟨2, false, [.lit (.ptr 0 0)]⟩, ⟨3, false, [.lit (.ptr 1 0)]⟩, ⟨7, false, [.int .i64]⟩], 2, [(0, .box [.sl (.int .i64), .sl TPipe, .sl (.int .i64), .sl TValve, .sl TPump, .sl TSubstation, .int .i64, .int .i64, .int .i64, .sl TFuel, .sl TFuel, .sl TTenant, .sl TDuty]), (1, .box [.sl (.int .i64), .sl TPipe, .sl (.int .i64), .sl TValve, .sl TPump, .sl TSubstation, .int .i64, .int .i64, .int .i64, .sl TFuel, .sl TFuel, .sl TTenant, .sl TDuty])]⟩
noncomputable def spec_SameDesk_l3_r {α : Type} (p : Nat) (v10 : List (Ty.T TFuel)) (v23 : List (Ty.T TFuel)) (rec : (Int) → Option α) (v0 : Int) (k0 : (Bool) → Option α) (k1 : Unit → Option α) : Option α :=
  (bif (decide (v0 < (v10.length : Int))) then (if 0 ≤ v0 then (v10[v0.toNat]?).bind fun y13 => (if 0 ≤ v0 then (v23[v0.toNat]?).bind fun y14 => (bif (!((y13.1.toList == y14.1.toList) && ((y13.2.1 == y14.2.1) && ((y13.2.2.1 == y14.2.2.1) && ((y13.2.2.2 == y14.2.2.2) && true))))) then (k0 false)
 else (rec (IntKind.wrap .i64 (v0 + (1 : Int))))) else none) else none)
 else (k1 ()))
noncomputable def spec_SameDesk_l3_go {α : Type} (p : Nat) (v10 : List (Ty.T TFuel)) (v23 : List (Ty.T TFuel)) : Nat → (Int) → ((Bool) → Option α) → (Unit → Option α) → Option α
  | 0, _, _, _ => none
  | q + 1, v0, k0, k1 => spec_SameDesk_l3_r p v10 v23 (fun v0 => spec_SameDesk_l3_go p v10 v23 q v0 k0 k1) v0 k0 k1
def spec_SameDesk_l3_sh : Sh := ⟨[⟨2, false, [.lit (.ptr 0 0)]⟩, ⟨3, false, [.lit (.ptr 1 0)]⟩, ⟨8, false, [.int .i64]⟩], 2, [(0, .box [.sl (.int .i64), .sl TPipe, .sl (.int .i64), .sl TValve, .sl TPump, .sl TSubstation, .int .i64, .int .i64, .int .i64, .sl TFuel, .sl TFuel, .sl TTenant, .sl TDuty]), (1, .box [.sl (.int .i64), .sl TPipe, .sl (.int .i64), .sl TValve, .sl TPump, .sl TSubstation, .int .i64, .int .i64, .int .i64, .sl TFuel, .sl TFuel, .sl TTenant, .sl TDuty])]⟩
noncomputable def spec_SameDesk_l4_r {α : Type} (p : Nat) (v11 : List (Ty.T TFuel)) (v24 : List (Ty.T TFuel)) (rec : (Int) → Option α) (v0 : Int) (k0 : (Bool) → Option α) (k1 : Unit → Option α) : Option α :=
  (bif (decide (v0 < (v11.length : Int))) then (if 0 ≤ v0 then (v11[v0.toNat]?).bind fun y16 => (if 0 ≤ v0 then (v24[v0.toNat]?).bind fun y17 => (bif (!((y16.1.toList == y17.1.toList) && ((y16.2.1 == y17.2.1) && ((y16.2.2.1 == y17.2.2.1) && ((y16.2.2.2 == y17.2.2.2) && true))))) then (k0 false)
 else (rec (IntKind.wrap .i64 (v0 + (1 : Int))))) else none) else none)
 else (k1 ()))
noncomputable def spec_SameDesk_l4_go {α : Type} (p : Nat) (v11 : List (Ty.T TFuel)) (v24 : List (Ty.T TFuel)) : Nat → (Int) → ((Bool) → Option α) → (Unit → Option α) → Option α
  | 0, _, _, _ => none
  | q + 1, v0, k0, k1 => spec_SameDesk_l4_r p v11 v24 (fun v0 => spec_SameDesk_l4_go p v11 v24 q v0 k0 k1) v0 k0 k1
def spec_SameDesk_l4_sh : Sh := ⟨[⟨2, false, [.lit (.ptr 0 0)]⟩, ⟨3, false, [.lit (.ptr 1 0)]⟩, ⟨9, false, [.int .i64]⟩], 2, [(0, .box [.sl (.int .i64), .sl TPipe, .sl (.int .i64), .sl TValve, .sl TPump, .sl TSubstation, .int .i64, .int .i64, .int .i64, .sl TFuel, .sl TFuel, .sl TTenant, .sl TDuty]), (1, .box [.sl (.int .i64), .sl TPipe, .sl (.int .i64), .sl TValve, .sl TPump, .sl TSubstation, .int .i64, .int .i64, .int .i64, .sl TFuel, .sl TFuel, .sl TTenant, .sl TDuty])]⟩
noncomputable def spec_SameDesk_l5_r {α : Type} (p : Nat) (v12 : List (Ty.T TTenant)) (v25 : List (Ty.T TTenant)) (rec : (Int) → Option α) (v0 : Int) (k0 : (Bool) → Option α) (k1 : Unit → Option α) : Option α :=
  (bif (decide (v0 < (v12.length : Int))) then (if 0 ≤ v0 then (v12[v0.toNat]?).bind fun y19 => (if 0 ≤ v0 then (v25[v0.toNat]?).bind fun y20 => (bif (!((y19.1.toList == y20.1.toList) && ((y19.2.1 == y20.2.1) && ((y19.2.2 == y20.2.2) && true)))) then (k0 false)
 else (rec (IntKind.wrap .i64 (v0 + (1 : Int))))) else none) else none)
 else (k1 ()))
noncomputable def spec_SameDesk_l5_go {α : Type} (p : Nat) (v12 : List (Ty.T TTenant)) (v25 : List (Ty.T TTenant)) : Nat → (Int) → ((Bool) → Option α) → (Unit → Option α) → Option α
  | 0, _, _, _ => none
  | q + 1, v0, k0, k1 => spec_SameDesk_l5_r p v12 v25 (fun v0 => spec_SameDesk_l5_go p v12 v25 q v0 k0 k1) v0 k0 k1
def spec_SameDesk_l5_sh : Sh := ⟨[⟨2, false, [.lit (.ptr 0 0)]⟩, ⟨3, false, [.lit (.ptr 1 0)]⟩, ⟨10, false, [.int .i64]⟩], 2, [(0, .box [.sl (.int .i64), .sl TPipe, .sl (.int .i64), .sl TValve, .sl TPump, .sl TSubstation, .int .i64, .int .i64, .int .i64, .sl TFuel, .sl TFuel, .sl TTenant, .sl TDuty]), (1, .box [.sl (.int .i64), .sl TPipe, .sl (.int .i64), .sl TValve, .sl TPump, .sl TSubstation, .int .i64, .int .i64, .int .i64, .sl TFuel, .sl TFuel, .sl TTenant, .sl TDuty])]⟩
noncomputable def spec_SameDesk_l6_r {α : Type} (p : Nat) (v13 : List (Ty.T TDuty)) (v26 : List (Ty.T TDuty)) (rec : (Int) → Option α) (v0 : Int) (k0 : (Bool) → Option α) (k1 : Unit → Option α) : Option α :=
  (bif (decide (v0 < (v13.length : Int))) then (if 0 ≤ v0 then (v13[v0.toNat]?).bind fun y22 => (if 0 ≤ v0 then (v26[v0.toNat]?).bind fun y23 => (bif (!((y22.1.toList == y23.1.toList) && ((y22.2.1 == y23.2.1) && ((y22.2.2.1 == y23.2.2.1) && ((y22.2.2.2 == y23.2.2.2) && true))))) then (k0 false)
 else (rec (IntKind.wrap .i64 (v0 + (1 : Int))))) else none) else none)
 else (k1 ()))
noncomputable def spec_SameDesk_l6_go {α : Type} (p : Nat) (v13 : List (Ty.T TDuty)) (v26 : List (Ty.T TDuty)) : Nat → (Int) → ((Bool) → Option α) → (Unit → Option α) → Option α
  | 0, _, _, _ => none
  | q + 1, v0, k0, k1 => spec_SameDesk_l6_r p v13 v26 (fun v0 => spec_SameDesk_l6_go p v13 v26 q v0 k0 k1) v0 k0 k1
def spec_SameDesk_l6_sh : Sh := ⟨[⟨2, false, [.lit (.ptr 0 0)]⟩, ⟨3, false, [.lit (.ptr 1 0)]⟩, ⟨11, false, [.int .i64]⟩], 2, [(0, .box [.sl (.int .i64), .sl TPipe, .sl (.int .i64), .sl TValve, .sl TPump, .sl TSubstation, .int .i64, .int .i64, .int .i64, .sl TFuel, .sl TFuel, .sl TTenant, .sl TDuty]), (1, .box [.sl (.int .i64), .sl TPipe, .sl (.int .i64), .sl TValve, .sl TPump, .sl TSubstation, .int .i64, .int .i64, .int .i64, .sl TFuel, .sl TFuel, .sl TTenant, .sl TDuty])]⟩
noncomputable def spec_SameDesk_lc0 (p : Nat) : LC := LC.alts 0 [⟨0, spec_SameDesk_l0_sh, fun x {α} k => spec_SameDesk_l0_go p x.2.1.2.2.2.1 x.2.2.1.2.2.2.1 p x.1.2.2.1.1 (fun o0 => k .ret ⟨[(2, .one ⟨false, [.ptr 0 0]⟩), (3, .one ⟨false, [.ptr 1 0]⟩), (4, .one ⟨false, [.bool o0]⟩)], 2, [(0, .box [.sl (.int .i64) x.2.1.1, .sl TPipe x.2.1.2.1, .sl (.int .i64) x.2.1.2.2.1, .sl TValve x.2.1.2.2.2.1, .sl TPump x.2.1.2.2.2.2.1, .sl TSubstation x.2.1.2.2.2.2.2.1, .int .i64 x.2.1.2.2.2.2.2.2.1, .int .i64 x.2.1.2.2.2.2.2.2.2.1, .int .i64 x.2.1.2.2.2.2.2.2.2.2.1, .sl TFuel x.2.1.2.2.2.2.2.2.2.2.2.1, .sl TFuel x.2.1.2.2.2.2.2.2.2.2.2.2.1, .sl TTenant x.2.1.2.2.2.2.2.2.2.2.2.2.2.1, .sl TDuty x.2.1.2.2.2.2.2.2.2.2.2.2.2.2.1]), (1, .box [.sl (.int .i64) x.2.2.1.1, .sl TPipe x.2.2.1.2.1, .sl (.int .i64) x.2.2.1.2.2.1, .sl TValve x.2.2.1.2.2.2.1, .sl TPump x.2.2.1.2.2.2.2.1, .sl TSubstation x.2.2.1.2.2.2.2.2.1, .int .i64 x.2.2.1.2.2.2.2.2.2.1, .int .i64 x.2.2.1.2.2.2.2.2.2.2.1, .int .i64 x.2.2.1.2.2.2.2.2.2.2.2.1, .sl TFuel x.2.2.1.2.2.2.2.2.2.2.2.2.1, .sl TFuel x.2.2.1.2.2.2.2.2.2.2.2.2.2.1, .sl TTenant x.2.2.1.2.2.2.2.2.2.2.2.2.2.2.1, .sl TDuty x.2.2.1.2.2.2.2.2.2.2.2.2.2.2.2.1])]⟩) (fun _ => k (.exit 0) ⟨[(2, .one ⟨false, [.ptr 0 0]⟩), (3, .one ⟨false, [.ptr 1 0]⟩)], 2, [(0, .box [.sl (.int .i64) x.2.1.1, .sl TPipe x.2.1.2.1, .sl (.int .i64) x.2.1.2.2.1, .sl TValve x.2.1.2.2.2.1, .sl TPump x.2.1.2.2.2.2.1, .sl TSubstation x.2.1.2.2.2.2.2.1, .int .i64 x.2.1.2.2.2.2.2.2.1, .int .i64 x.2.1.2.2.2.2.2.2.2.1, .int .i64 x.2.1.2.2.2.2.2.2.2.2.1, .sl TFuel x.2.1.2.2.2.2.2.2.2.2.2.1, .sl TFuel x.2.1.2.2.2.2.2.2.2.2.2.2.1, .sl TTenant x.2.1.2.2.2.2.2.2.2.2.2.2.2.1, .sl TDuty x.2.1.2.2.2.2.2.2.2.2.2.2.2.2.1]), (1, .box [.sl (.int .i64) x.2.2.1.1, .sl TPipe x.2.2.1.2.1, .sl (.int .i64) x.2.2.1.2.2.1, .sl TValve x.2.2.1.2.2.2.1, .sl TPump x.2.2.1.2.2.2.2.1, .sl TSubstation x.2.2.1.2.2.2.2.2.1, .int .i64 x.2.2.1.2.2.2.2.2.2.1, .int .i64 x.2.2.1.2.2.2.2.2.2.2.1, .int .i64 x.2.2.1.2.2.2.2.2.2.2.2.1, .sl TFuel x.2.2.1.2.2.2.2.2.2.2.2.2.1, .sl TFuel x.2.2.1.2.2.2.2.2.2.2.2.2.2.1, .sl TTenant x.2.2.1.2.2.2.2.2.2.2.2.2.2.2.1, .sl TDuty x.2.2.1.2.2.2.2.2.2.2.2.2.2.2.2.1])]⟩)⟩]
noncomputable def spec_SameDesk_lc1 (p : Nat) : LC := LC.alts 0 [⟨0, spec_SameDesk_l1_sh, fun x {α} k => spec_SameDesk_l1_go p x.2.1.2.2.2.2.1 x.2.2.1.2.2.2.2.1 p x.1.2.2.1.1 (fun o0 => k .ret ⟨[(2, .one ⟨false, [.ptr 0 0]⟩), (3, .one ⟨false, [.ptr 1 0]⟩), (4, .one ⟨false, [.bool o0]⟩)], 2, [(0, .box [.sl (.int .i64) x.2.1.1, .sl TPipe x.2.1.2.1, .sl (.int .i64) x.2.1.2.2.1, .sl TValve x.2.1.2.2.2.1, .sl TPump x.2.1.2.2.2.2.1, .sl TSubstation x.2.1.2.2.2.2.2.1, .int .i64 x.2.1.2.2.2.2.2.2.1, .int .i64 x.2.1.2.2.2.2.2.2.2.1, .int .i64 x.2.1.2.2.2.2.2.2.2.2.1, .sl TFuel x.2.1.2.2.2.2.2.2.2.2.2.1, .sl TFuel x.2.1.2.2.2.2.2.2.2.2.2.2.1, .sl TTenant x.2.1.2.2.2.2.2.2.2.2.2.2.2.1, .sl TDuty x.2.1.2.2.2.2.2.2.2.2.2.2.2.2.1]), (1, .box [.sl (.int .i64) x.2.2.1.1, .sl TPipe x.2.2.1.2.1, .sl (.int .i64) x.2.2.1.2.2.1, .sl TValve x.2.2.1.2.2.2.1, .sl TPump x.2.2.1.2.2.2.2.1, .sl TSubstation x.2.2.1.2.2.2.2.2.1, .int .i64 x.2.2.1.2.2.2.2.2.2.1, .int .i64 x.2.2.1.2.2.2.2.2.2.2.1, .int .i64 x.2.2.1.2.2.2.2.2.2.2.2.1, .sl TFuel x.2.2.1.2.2.2.2.2.2.2.2.2.1, .sl TFuel x.2.2.1.2.2.2.2.2.2.2.2.2.2.1, .sl TTenant x.2.2.1.2.2.2.2.2.2.2.2.2.2.2.1, .sl TDuty x.2.2.1.2.2.2.2.2.2.2.2.2.2.2.2.1])]⟩) (fun _ => k (.exit 2) ⟨[(2, .one ⟨false, [.ptr 0 0]⟩), (3, .one ⟨false, [.ptr 1 0]⟩)], 2, [(0, .box [.sl (.int .i64) x.2.1.1, .sl TPipe x.2.1.2.1, .sl (.int .i64) x.2.1.2.2.1, .sl TValve x.2.1.2.2.2.1, .sl TPump x.2.1.2.2.2.2.1, .sl TSubstation x.2.1.2.2.2.2.2.1, .int .i64 x.2.1.2.2.2.2.2.2.1, .int .i64 x.2.1.2.2.2.2.2.2.2.1, .int .i64 x.2.1.2.2.2.2.2.2.2.2.1, .sl TFuel x.2.1.2.2.2.2.2.2.2.2.2.1, .sl TFuel x.2.1.2.2.2.2.2.2.2.2.2.2.1, .sl TTenant x.2.1.2.2.2.2.2.2.2.2.2.2.2.1, .sl TDuty x.2.1.2.2.2.2.2.2.2.2.2.2.2.2.1]), (1, .box [.sl (.int .i64) x.2.2.1.1, .sl TPipe x.2.2.1.2.1, .sl (.int .i64) x.2.2.1.2.2.1, .sl TValve x.2.2.1.2.2.2.1, .sl TPump x.2.2.1.2.2.2.2.1, .sl TSubstation x.2.2.1.2.2.2.2.2.1, .int .i64 x.2.2.1.2.2.2.2.2.2.1, .int .i64 x.2.2.1.2.2.2.2.2.2.2.1, .int .i64 x.2.2.1.2.2.2.2.2.2.2.2.1, .sl TFuel x.2.2.1.2.2.2.2.2.2.2.2.2.1, .sl TFuel x.2.2.1.2.2.2.2.2.2.2.2.2.2.1, .sl TTenant x.2.2.1.2.2.2.2.2.2.2.2.2.2.2.1, .sl TDuty x.2.2.1.2.2.2.2.2.2.2.2.2.2.2.2.1])]⟩)⟩]
noncomputable def spec_SameDesk_lc2 (p : Nat) : LC := LC.alts 0 [⟨0, spec_SameDesk_l2_sh, fun x {α} k => spec_SameDesk_l2_go p x.2.1.2.2.2.2.2.1 x.2.2.1.2.2.2.2.2.1 p x.1.2.2.1.1 (fun o0 => k .ret ⟨[(2, .one ⟨false, [.ptr 0 0]⟩), (3, .one ⟨false, [.ptr 1 0]⟩), (4, .one ⟨false, [.bool o0]⟩)], 2, [(0, .box [.sl (.int .i64) x.2.1.1, .sl TPipe x.2.1.2.1, .sl (.int .i64) x.2.1.2.2.1, .sl TValve x.2.1.2.2.2.1, .sl TPump x.2.1.2.2.2.2.1, .sl TSubstation x.2.1.2.2.2.2.2.1, .int .i64 x.2.1.2.2.2.2.2.2.1, .int .i64 x.2.1.2.2.2.2.2.2.2.1, .int .i64 x.2.1.2.2.2.2.2.2.2.2.1, .sl TFuel x.2.1.2.2.2.2.2.2.2.2.2.1, .sl TFuel x.2.1.2.2.2.2.2.2.2.2.2.2.1, .sl TTenant x.2.1.2.2.2.2.2.2.2.2.2.2.2.1, .sl TDuty x.2.1.2.2.2.2.2.2.2.2.2.2.2.2.1]), (1, .box [.sl (.int .i64) x.2.2.1.1, .sl TPipe x.2.2.1.2.1, .sl (.int .i64) x.2.2.1.2.2.1, .sl TValve x.2.2.1.2.2.2.1, .sl TPump x.2.2.1.2.2.2.2.1, .sl TSubstation x.2.2.1.2.2.2.2.2.1, .int .i64 x.2.2.1.2.2.2.2.2.2.1, .int .i64 x.2.2.1.2.2.2.2.2.2.2.1, .int .i64 x.2.2.1.2.2.2.2.2.2.2.2.1, .sl TFuel x.2.2.1.2.2.2.2.2.2.2.2.2.1, .sl TFuel x.2.2.1.2.2.2.2.2.2.2.2.2.2.1, .sl TTenant x.2.2.1.2.2.2.2.2.2.2.2.2.2.2.1, .sl TDuty x.2.2.1.2.2.2.2.2.2.2.2.2.2.2.2.1])]⟩) (fun _ => k (.exit 4) ⟨[(2, .one ⟨false, [.ptr 0 0]⟩), (3, .one ⟨false, [.ptr 1 0]⟩)], 2, [(0, .box [.sl (.int .i64) x.2.1.1, .sl TPipe x.2.1.2.1, .sl (.int .i64) x.2.1.2.2.1, .sl TValve x.2.1.2.2.2.1, .sl TPump x.2.1.2.2.2.2.1, .sl TSubstation x.2.1.2.2.2.2.2.1, .int .i64 x.2.1.2.2.2.2.2.2.1, .int .i64 x.2.1.2.2.2.2.2.2.2.1, .int .i64 x.2.1.2.2.2.2.2.2.2.2.1, .sl TFuel x.2.1.2.2.2.2.2.2.2.2.2.1, .sl TFuel x.2.1.2.2.2.2.2.2.2.2.2.2.1, .sl TTenant x.2.1.2.2.2.2.2.2.2.2.2.2.2.1, .sl TDuty x.2.1.2.2.2.2.2.2.2.2.2.2.2.2.1]), (1, .box [.sl (.int .i64) x.2.2.1.1, .sl TPipe x.2.2.1.2.1, .sl (.int .i64) x.2.2.1.2.2.1, .sl TValve x.2.2.1.2.2.2.1, .sl TPump x.2.2.1.2.2.2.2.1, .sl TSubstation x.2.2.1.2.2.2.2.2.1, .int .i64 x.2.2.1.2.2.2.2.2.2.1, .int .i64 x.2.2.1.2.2.2.2.2.2.2.1, .int .i64 x.2.2.1.2.2.2.2.2.2.2.2.1, .sl TFuel x.2.2.1.2.2.2.2.2.2.2.2.2.1, .sl TFuel x.2.2.1.2.2.2.2.2.2.2.2.2.2.1, .sl TTenant x.2.2.1.2.2.2.2.2.2.2.2.2.2.2.1, .sl TDuty x.2.2.1.2.2.2.2.2.2.2.2.2.2.2.2.1])]⟩)⟩]
noncomputable def spec_SameDesk_lc3 (p : Nat) : LC := LC.alts 0 [⟨0, spec_SameDesk_l3_sh, fun x {α} k => spec_SameDesk_l3_go p x.2.1.2.2.2.2.2.2.2.2.2.1 x.2.2.1.2.2.2.2.2.2.2.2.2.1 p x.1.2.2.1.1 (fun o0 => k .ret ⟨[(2, .one ⟨false, [.ptr 0 0]⟩), (3, .one ⟨false, [.ptr 1 0]⟩), (4, .one ⟨false, [.bool o0]⟩)], 2, [(0, .box [.sl (.int .i64) x.2.1.1, .sl TPipe x.2.1.2.1, .sl (.int .i64) x.2.1.2.2.1, .sl TValve x.2.1.2.2.2.1, .sl TPump x.2.1.2.2.2.2.1, .sl TSubstation x.2.1.2.2.2.2.2.1, .int .i64 x.2.1.2.2.2.2.2.2.1, .int .i64 x.2.1.2.2.2.2.2.2.2.1, .int .i64 x.2.1.2.2.2.2.2.2.2.2.1, .sl TFuel x.2.1.2.2.2.2.2.2.2.2.2.1, .sl TFuel x.2.1.2.2.2.2.2.2.2.2.2.2.1, .sl TTenant x.2.1.2.2.2.2.2.2.2.2.2.2.2.1, .sl TDuty x.2.1.2.2.2.2.2.2.2.2.2.2.2.2.1]), (1, .box [.sl (.int .i64) x.2.2.1.1, .sl TPipe x.2.2.1.2.1, .sl (.int .i64) x.2.2.1.2.2.1, .sl TValve x.2.2.1.2.2.2.1, .sl TPump x.2.2.1.2.2.2.2.1, .sl TSubstation x.2.2.1.2.2.2.2.2.1, .int .i64 x.2.2.1.2.2.2.2.2.2.1, .int .i64 x.2.2.1.2.2.2.2.2.2.2.1, .int .i64 x.2.2.1.2.2.2.2.2.2.2.2.1, .sl TFuel x.2.2.1.2.2.2.2.2.2.2.2.2.1, .sl TFuel x.2.2.1.2.2.2.2.2.2.2.2.2.2.1, .sl TTenant x.2.2.1.2.2.2.2.2.2.2.2.2.2.2.1, .sl TDuty x.2.2.1.2.2.2.2.2.2.2.2.2.2.2.2.1])]⟩) (fun _ => k (.exit 6) ⟨[(2, .one ⟨false, [.ptr 0 0]⟩), (3, .one ⟨false, [.ptr 1 0]⟩)], 2, [(0, .box [.sl (.int .i64) x.2.1.1, .sl TPipe x.2.1.2.1, .sl (.int .i64) x.2.1.2.2.1, .sl TValve x.2.1.2.2.2.1, .sl TPump x.2.1.2.2.2.2.1, .sl TSubstation x.2.1.2.2.2.2.2.1, .int .i64 x.2.1.2.2.2.2.2.2.1, .int .i64 x.2.1.2.2.2.2.2.2.2.1, .int .i64 x.2.1.2.2.2.2.2.2.2.2.1, .sl TFuel x.2.1.2.2.2.2.2.2.2.2.2.1, .sl TFuel x.2.1.2.2.2.2.2.2.2.2.2.2.1, .sl TTenant x.2.1.2.2.2.2.2.2.2.2.2.2.2.1, .sl TDuty x.2.1.2.2.2.2.2.2.2.2.2.2.2.2.1]), (1, .box [.sl (.int .i64) x.2.2.1.1, .sl TPipe x.2.2.1.2.1, .sl (.int .i64) x.2.2.1.2.2.1, .sl TValve x.2.2.1.2.2.2.1, .sl TPump x.2.2.1.2.2.2.2.1, .sl TSubstation x.2.2.1.2.2.2.2.2.1, .int .i64 x.2.2.1.2.2.2.2.2.2.1, .int .i64 x.2.2.1.2.2.2.2.2.2.2.1, .int .i64 x.2.2.1.2.2.2.2.2.2.2.2.1, .sl TFuel x.2.2.1.2.2.2.2.2.2.2.2.2.1, .sl TFuel x.2.2.1.2.2.2.2.2.2.2.2.2.2.1, .sl TTenant x.2.2.1.2.2.2.2.2.2.2.2.2.2.2.1, .sl TDuty x.2.2.1.2.2.2.2.2.2.2.2.2.2.2.2.1])]⟩)⟩]
noncomputable def spec_SameDesk_lc4 (p : Nat) : LC := LC.alts 0 [⟨0, spec_SameDesk_l4_sh, fun x {α} k => spec_SameDesk_l4_go p x.2.1.2.2.2.2.2.2.2.2.2.2.1 x.2.2.1.2.2.2.2.2.2.2.2.2.2.1 p x.1.2.2.1.1 (fun o0 => k .ret ⟨[(2, .one ⟨false, [.ptr 0 0]⟩), (3, .one ⟨false, [.ptr 1 0]⟩), (4, .one ⟨false, [.bool o0]⟩)], 2, [(0, .box [.sl (.int .i64) x.2.1.1, .sl TPipe x.2.1.2.1, .sl (.int .i64) x.2.1.2.2.1, .sl TValve x.2.1.2.2.2.1, .sl TPump x.2.1.2.2.2.2.1, .sl TSubstation x.2.1.2.2.2.2.2.1, .int .i64 x.2.1.2.2.2.2.2.2.1, .int .i64 x.2.1.2.2.2.2.2.2.2.1, .int .i64 x.2.1.2.2.2.2.2.2.2.2.1, .sl TFuel x.2.1.2.2.2.2.2.2.2.2.2.1, .sl TFuel x.2.1.2.2.2.2.2.2.2.2.2.2.1, .sl TTenant x.2.1.2.2.2.2.2.2.2.2.2.2.2.1, .sl TDuty x.2.1.2.2.2.2.2.2.2.2.2.2.2.2.1]), (1, .box [.sl (.int .i64) x.2.2.1.1, .sl TPipe x.2.2.1.2.1, .sl (.int .i64) x.2.2.1.2.2.1, .sl TValve x.2.2.1.2.2.2.1, .sl TPump x.2.2.1.2.2.2.2.1, .sl TSubstation x.2.2.1.2.2.2.2.2.1, .int .i64 x.2.2.1.2.2.2.2.2.2.1, .int .i64 x.2.2.1.2.2.2.2.2.2.2.1, .int .i64 x.2.2.1.2.2.2.2.2.2.2.2.1, .sl TFuel x.2.2.1.2.2.2.2.2.2.2.2.2.1, .sl TFuel x.2.2.1.2.2.2.2.2.2.2.2.2.2.1, .sl TTenant x.2.2.1.2.2.2.2.2.2.2.2.2.2.2.1, .sl TDuty x.2.2.1.2.2.2.2.2.2.2.2.2.2.2.2.1])]⟩) (fun _ => k (.exit 8) ⟨[(2, .one ⟨false, [.ptr 0 0]⟩), (3, .one ⟨false, [.ptr 1 0]⟩)], 2, [(0, .box [.sl (.int .i64) x.2.1.1, .sl TPipe x.2.1.2.1, .sl (.int .i64) x.2.1.2.2.1, .sl TValve x.2.1.2.2.2.1, .sl TPump x.2.1.2.2.2.2.1, .sl TSubstation x.2.1.2.2.2.2.2.1, .int .i64 x.2.1.2.2.2.2.2.2.1, .int .i64 x.2.1.2.2.2.2.2.2.2.1, .int .i64 x.2.1.2.2.2.2.2.2.2.2.1, .sl TFuel x.2.1.2.2.2.2.2.2.2.2.2.1, .sl TFuel x.2.1.2.2.2.2.2.2.2.2.2.2.1, .sl TTenant x.2.1.2.2.2.2.2.2.2.2.2.2.2.1, .sl TDuty x.2.1.2.2.2.2.2.2.2.2.2.2.2.2.1]), (1, .box [.sl (.int .i64) x.2.2.1.1, .sl TPipe x.2.2.1.2.1, .sl (.int .i64) x.2.2.1.2.2.1, .sl TValve x.2.2.1.2.2.2.1, .sl TPump x.2.2.1.2.2.2.2.1, .sl TSubstation x.2.2.1.2.2.2.2.2.1, .int .i64 x.2.2.1.2.2.2.2.2.2.1, .int .i64 x.2.2.1.2.2.2.2.2.2.2.1, .int .i64 x.2.2.1.2.2.2.2.2.2.2.2.1, .sl TFuel x.2.2.1.2.2.2.2.2.2.2.2.2.1, .sl TFuel x.2.2.1.2.2.2.2.2.2.2.2.2.2.1, .sl TTenant x.2.2.1.2.2.2.2.2.2.2.2.2.2.2.1, .sl TDuty x.2.2.1.2.2.2.2.2.2.2.2.2.2.2.2.1])]⟩)⟩]
noncomputable def spec_SameDesk_lc5 (p : Nat) : LC := LC.alts 0 [⟨0, spec_SameDesk_l5_sh, fun x {α} k => spec_SameDesk_l5_go p x.2.1.2.2.2.2.2.2.2.2.2.2.2.1 x.2.2.1.2.2.2.2.2.2.2.2.2.2.2.1 p x.1.2.2.1.1 (fun o0 => k .ret ⟨[(2, .one ⟨false, [.ptr 0 0]⟩), (3, .one ⟨false, [.ptr 1 0]⟩), (4, .one ⟨false, [.bool o0]⟩)], 2, [(0, .box [.sl (.int .i64) x.2.1.1, .sl TPipe x.2.1.2.1, .sl (.int .i64) x.2.1.2.2.1, .sl TValve x.2.1.2.2.2.1, .sl TPump x.2.1.2.2.2.2.1, .sl TSubstation x.2.1.2.2.2.2.2.1, .int .i64 x.2.1.2.2.2.2.2.2.1, .int .i64 x.2.1.2.2.2.2.2.2.2.1, .int .i64 x.2.1.2.2.2.2.2.2.2.2.1, .sl TFuel x.2.1.2.2.2.2.2.2.2.2.2.1, .sl TFuel x.2.1.2.2.2.2.2.2.2.2.2.2.1, .sl TTenant x.2.1.2.2.2.2.2.2.2.2.2.2.2.1, .sl TDuty x.2.1.2.2.2.2.2.2.2.2.2.2.2.2.1]), (1, .box [.sl (.int .i64) x.2.2.1.1, .sl TPipe x.2.2.1.2.1, .sl (.int .i64) x.2.2.1.2.2.1, .sl TValve x.2.2.1.2.2.2.1, .sl TPump x.2.2.1.2.2.2.2.1, .sl TSubstation x.2.2.1.2.2.2.2.2.1, .int .i64 x.2.2.1.2.2.2.2.2.2.1, .int .i64 x.2.2.1.2.2.2.2.2.2.2.1, .int .i64 x.2.2.1.2.2.2.2.2.2.2.2.1, .sl TFuel x.2.2.1.2.2.2.2.2.2.2.2.2.1, .sl TFuel x.2.2.1.2.2.2.2.2.2.2.2.2.2.1, .sl TTenant x.2.2.1.2.2.2.2.2.2.2.2.2.2.2.1, .sl TDuty x.2.2.1.2.2.2.2.2.2.2.2.2.2.2.2.1])]⟩) (fun _ => k (.exit 10) ⟨[(2, .one ⟨false, [.ptr 0 0]⟩), (3, .one ⟨false, [.ptr 1 0]⟩)], 2, [(0, .box [.sl (.int .i64) x.2.1.1, .sl TPipe x.2.1.2.1, .sl (.int .i64) x.2.1.2.2.1, .sl TValve x.2.1.2.2.2.1, .sl TPump x.2.1.2.2.2.2.1, .sl TSubstation x.2.1.2.2.2.2.2.1, .int .i64 x.2.1.2.2.2.2.2.2.1, .int .i64 x.2.1.2.2.2.2.2.2.2.1, .int .i64 x.2.1.2.2.2.2.2.2.2.2.1, .sl TFuel x.2.1.2.2.2.2.2.2.2.2.2.1, .sl TFuel x.2.1.2.2.2.2.2.2.2.2.2.2.1, .sl TTenant x.2.1.2.2.2.2.2.2.2.2.2.2.2.1, .sl TDuty x.2.1.2.2.2.2.2.2.2.2.2.2.2.2.1]), (1, .box [.sl (.int .i64) x.2.2.1.1, .sl TPipe x.2.2.1.2.1, .sl (.int .i64) x.2.2.1.2.2.1, .sl TValve x.2.2.1.2.2.2.1, .sl TPump x.2.2.1.2.2.2.2.1, .sl TSubstation x.2.2.1.2.2.2.2.2.1, .int .i64 x.2.2.1.2.2.2.2.2.2.1, .int .i64 x.2.2.1.2.2.2.2.2.2.2.1, .int .i64 x.2.2.1.2.2.2.2.2.2.2.2.1, .sl TFuel x.2.2.1.2.2.2.2.2.2.2.2.2.1, .sl TFuel x.2.2.1.2.2.2.2.2.2.2.2.2.2.1, .sl TTenant x.2.2.1.2.2.2.2.2.2.2.2.2.2.2.1, .sl TDuty x.2.2.1.2.2.2.2.2.2.2.2.2.2.2.2.1])]⟩)⟩]
noncomputable def spec_SameDesk_lc6 (p : Nat) : LC := LC.alts 0 [⟨0, spec_SameDesk_l6_sh, fun x {α} k => spec_SameDesk_l6_go p x.2.1.2.2.2.2.2.2.2.2.2.2.2.2.1 x.2.2.1.2.2.2.2.2.2.2.2.2.2.2.2.1 p x.1.2.2.1.1 (fun o0 => k .ret ⟨[(4, .one ⟨false, [.bool o0]⟩)], 0, []⟩) (fun _ => k (.exit 12) ⟨[], 0, []⟩)⟩]
noncomputable def spec_SameDesk_lt (p : Nat) : LT := (.node .leaf (.node .leaf (.node (.node .leaf (.loop [2, 3, 5] [2, 3, 4] (some (spec_SameDesk_lc0 p)) .leaf)) (.node (.node .leaf (.loop [2, 3, 6] [2, 3, 4] (some (spec_SameDesk_lc1 p)) .leaf)) (.node (.node .leaf (.loop [2, 3, 7] [2, 3, 4] (some (spec_SameDesk_lc2 p)) .leaf)) (.node (.node .leaf (.loop [2, 3, 8] [2, 3, 4] (some (spec_SameDesk_lc3 p)) .leaf)) (.node (.node .leaf (.loop [2, 3, 9] [2, 3, 4] (some (spec_SameDesk_lc4 p)) .leaf)) (.node (.node .leaf (.loop [2, 3, 10] [2, 3, 4] (some (spec_SameDesk_lc5 p)) .leaf)) (.node (.node .leaf (.loop [2, 3, 11] [4] (some (spec_SameDesk_lc6 p)) .leaf)) .leaf)))))))))
noncomputable def spec_SameDesk_G (p : Nat) : FuncId → Option CE := glist [(52, .pure (spec_SameNetwork_c p)), (53, .pure (spec_l00Same_c p)), (54, .pure (spec_l08Same_c p))]
noncomputable def spec_SameDesk_c0 : Code := codeAt [1, 1, 0, 1, 0, 0] (bodyOf Try.f11)
noncomputable def spec_SameDesk_it0 {α : Type} (p n b : Nat) (k : Ex → St → Option α) (q : Nat) (st : St) : Option α :=
  iter (fun s q => aexec Try.prog (spec_SameDesk_G p) (fun g lt args st (k : D → St → Option α) => acall Try.prog (spec_SameDesk_G p) 5 (n + 0) g lt args st k) 5 b 221 spec_SameDesk_c0 .leaf s q) (canon b [2, 3, 5]) q st (fun e s => k e (canon b [2, 3, 4] s))
theorem spec_SameDesk_l0_step {α : Type} (p n : Nat) (k : Ex → St → Option α) (v1 : List Int) (v2 : List (Ty.T TPipe)) (v3 : List Int) (v4 : List (Ty.T TValve)) (v5 : List (Ty.T TPump)) (v6 : List (Ty.T TSubstation)) (v7 : Int) (v8 : Int) (v9 : Int) (v10 : List (Ty.T TFuel)) (v11 : List (Ty.T TFuel)) (v12 : List (Ty.T TTenant)) (v13 : List (Ty.T TDuty)) (v14 : List Int) (v15 : List (Ty.T TPipe)) (v16 : List Int) (v17 : List (Ty.T TValve)) (v18 : List (Ty.T TPump)) (v19 : List (Ty.T TSubstation)) (v20 : Int) (v21 : Int) (v22 : Int) (v23 : List (Ty.T TFuel)) (v24 : List (Ty.T TFuel)) (v25 : List (Ty.T TTenant)) (v26 : List (Ty.T TDuty)) (q : Nat) (v0 : Int) : spec_SameDesk_it0 p n 0 k (q + 1) (spec_SameDesk_l0_sh.mk' ((((), ()), ((), ()), (v0, ()), ()), ((v1, v2, v3, v4, v5, v6, v7, v8, v9, v10, v11, v12, v13, ()), (v14, v15, v16, v17, v18, v19, v20, v21, v22, v23, v24, v25, v26, ()), ()))) =
  spec_SameDesk_l0_r p v4 v17 (fun v0 => spec_SameDesk_it0 p n 0 k q (spec_SameDesk_l0_sh.mk' ((((), ()), ((), ()), (v0, ()), ()), ((v1, v2, v3, v4, v5, v6, v7, v8, v9, v10, v11, v12, v13, ()), (v14, v15, v16, v17, v18, v19, v20, v21, v22, v23, v24, v25, v26, ()), ())))) v0 (fun o0 => k .ret ⟨[(2, .one ⟨false, [.ptr 0 0]⟩), (3, .one ⟨false, [.ptr 1 0]⟩), (4, .one ⟨false, [.bool o0]⟩)], 2, [(0, .box [.sl (.int .i64) v1, .sl TPipe v2, .sl (.int .i64) v3, .sl TValve v4, .sl TPump v5, .sl TSubstation v6, .int .i64 v7, .int .i64 v8, .int .i64 v9, .sl TFuel v10, .sl TFuel v11, .sl TTenant v12, .sl TDuty v13]), (1, .box [.sl (.int .i64) v14, .sl TPipe v15, .sl (.int .i64) v16, .sl TValve v17, .sl TPump v18, .sl TSubstation v19, .int .i64 v20, .int .i64 v21, .int .i64 v22, .sl TFuel v23, .sl TFuel v24, .sl TTenant v25, .sl TDuty v26])]⟩) (fun _ => k (.exit 0) ⟨[(2, .one ⟨false, [.ptr 0 0]⟩), (3, .one ⟨false, [.ptr 1 0]⟩)], 2, [(0, .box [.sl (.int .i64) v1, .sl TPipe v2, .sl (.int .i64) v3, .sl TValve v4, .sl TPump v5, .sl TSubstation v6, .int .i64 v7, .int .i64 v8, .int .i64 v9, .sl TFuel v10, .sl TFuel v11, .sl TTenant v12, .sl TDuty v13]), (1, .box [.sl (.int .i64) v14, .sl TPipe v15, .sl (.int .i64) v16, .sl TValve v17, .sl TPump v18, .sl TSubstation v19, .int .i64 v20, .int .i64 v21, .int .i64 v22, .sl TFuel v23, .sl TFuel v24, .sl TTenant v25, .sl TDuty v26])]⟩) := by kernel_rfl
theorem spec_SameDesk_l0_ok {α : Type} (p n : Nat) (k : Ex → St → Option α) (v1 : List Int) (v2 : List (Ty.T TPipe)) (v3 : List Int) (v4 : List (Ty.T TValve)) (v5 : List (Ty.T TPump)) (v6 : List (Ty.T TSubstation)) (v7 : Int) (v8 : Int) (v9 : Int) (v10 : List (Ty.T TFuel)) (v11 : List (Ty.T TFuel)) (v12 : List (Ty.T TTenant)) (v13 : List (Ty.T TDuty)) (v14 : List Int) (v15 : List (Ty.T TPipe)) (v16 : List Int) (v17 : List (Ty.T TValve)) (v18 : List (Ty.T TPump)) (v19 : List (Ty.T TSubstation)) (v20 : Int) (v21 : Int) (v22 : Int) (v23 : List (Ty.T TFuel)) (v24 : List (Ty.T TFuel)) (v25 : List (Ty.T TTenant)) (v26 : List (Ty.T TDuty)) : ∀ (q : Nat) (v0 : Int), spec_SameDesk_it0 p n 0 k q (spec_SameDesk_l0_sh.mk' ((((), ()), ((), ()), (v0, ()), ()), ((v1, v2, v3, v4, v5, v6, v7, v8, v9, v10, v11, v12, v13, ()), (v14, v15, v16, v17, v18, v19, v20, v21, v22, v23, v24, v25, v26, ()), ()))) =
  spec_SameDesk_l0_go p v4 v17 q v0 (fun o0 => k .ret ⟨[(2, .one ⟨false, [.ptr 0 0]⟩), (3, .one ⟨false, [.ptr 1 0]⟩), (4, .one ⟨false, [.bool o0]⟩)], 2, [(0, .box [.sl (.int .i64) v1, .sl TPipe v2, .sl (.int .i64) v3, .sl TValve v4, .sl TPump v5, .sl TSubstation v6, .int .i64 v7, .int .i64 v8, .int .i64 v9, .sl TFuel v10, .sl TFuel v11, .sl TTenant v12, .sl TDuty v13]), (1, .box [.sl (.int .i64) v14, .sl TPipe v15, .sl (.int .i64) v16, .sl TValve v17, .sl TPump v18, .sl TSubstation v19, .int .i64 v20, .int .i64 v21, .int .i64 v22, .sl TFuel v23, .sl TFuel v24, .sl TTenant v25, .sl TDuty v26])]⟩) (fun _ => k (.exit 0) ⟨[(2, .one ⟨false, [.ptr 0 0]⟩), (3, .one ⟨false, [.ptr 1 0]⟩)], 2, [(0, .box [.sl (.int .i64) v1, .sl TPipe v2, .sl (.int .i64) v3, .sl TValve v4, .sl TPump v5, .sl TSubstation v6, .int .i64 v7, .int .i64 v8, .int .i64 v9, .sl TFuel v10, .sl TFuel v11, .sl TTenant v12, .sl TDuty v13]), (1, .box [.sl (.int .i64) v14, .sl TPipe v15, .sl (.int .i64) v16, .sl TValve v17, .sl TPump v18, .sl TSubstation v19, .int .i64 v20, .int .i64 v21, .int .i64 v22, .sl TFuel v23, .sl TFuel v24, .sl TTenant v25, .sl TDuty v26])]⟩) := by
  intro q
  induction q with
  | zero => intros; rfl
  | succ q ih => intro v0; rw [spec_SameDesk_l0_step]; simp only [ih]; rfl
noncomputable def spec_SameDesk_c1 : Code := codeAt [1, 1, 1, 0, 1, 0, 0] (bodyOf Try.f11)
noncomputable def spec_SameDesk_it1 {α : Type} (p n b : Nat) (k : Ex → St → Option α) (q : Nat) (st : St) : Option α :=
  iter (fun s q => aexec Try.prog (spec_SameDesk_G p) (fun g lt args st (k : D → St → Option α) => acall Try.prog (spec_SameDesk_G p) 5 (n + 0) g lt args st k) 5 b 221 spec_SameDesk_c1 .leaf s q) (canon b [2, 3, 6]) q st (fun e s => k e (canon b [2, 3, 4] s))
theorem spec_SameDesk_l1_step {α : Type} (p n : Nat) (k : Ex → St → Option α) (v1 : List Int) (v2 : List (Ty.T TPipe)) (v3 : List Int) (v4 : List (Ty.T TValve)) (v5 : List (Ty.T TPump)) (v6 : List (Ty.T TSubstation)) (v7 : Int) (v8 : Int) (v9 : Int) (v10 : List (Ty.T TFuel)) (v11 : List (Ty.T TFuel)) (v12 : List (Ty.T TTenant)) (v13 : List (Ty.T TDuty)) (v14 : List Int) (v15 : List (Ty.T TPipe)) (v16 : List Int) (v17 : List (Ty.T TValve)) (v18 : List (Ty.T TPump)) (v19 : List (Ty.T TSubstation)) (v20 : Int) (v21 : Int) (v22 : Int) (v23 : List (Ty.T TFuel)) (v24 : List (Ty.T TFuel)) (v25 : List (Ty.T TTenant)) (v26 : List (Ty.T TDuty)) (q : Nat) (v0 : Int) : spec_SameDesk_it1 p n 0 k (q + 1) (spec_SameDesk_l1_sh.mk' ((((), ()), ((), ()), (v0, ()), ()), ((v1, v2, v3, v4, v5, v6, v7, v8, v9, v10, v11, v12, v13, ()), (v14, v15, v16, v17, v18, v19, v20, v21, v22, v23, v24, v25, v26, ()), ()))) =
  spec_SameDesk_l1_r p v5 v18 (fun v0 => spec_SameDesk_it1 p n 0 k q (spec_SameDesk_l1_sh.mk' ((((), ()), ((), ()), (v0, ()), ()), ((v1, v2, v3, v4, v5, v6, v7, v8, v9, v10, v11, v12, v13, ()), (v14, v15, v16, v17, v18, v19, v20, v21, v22, v23, v24, v25, v26, ()), ())))) v0 (fun o0 => k .ret ⟨[(2, .one ⟨false, [.ptr 0 0]⟩), (3, .one ⟨false, [.ptr 1 0]⟩), (4, .one ⟨false, [.bool o0]⟩)], 2, [(0, .box [.sl (.int .i64) v1, .sl TPipe v2, .sl (.int .i64) v3, .sl TValve v4, .sl TPump v5, .sl TSubstation v6, .int .i64 v7, .int .i64 v8, .int .i64 v9, .sl TFuel v10, .sl TFuel v11, .sl TTenant v12, .sl TDuty v13]), (1, .box [.sl (.int .i64) v14, .sl TPipe v15, .sl (.int .i64) v16, .sl TValve v17, .sl TPump v18, .sl TSubstation v19, .int .i64 v20, .int .i64 v21, .int .i64 v22, .sl TFuel v23, .sl TFuel v24, .sl TTenant v25, .sl TDuty v26])]⟩) (fun _ => k (.exit 2) ⟨[(2, .one ⟨false, [.ptr 0 0]⟩), (3, .one ⟨false, [.ptr 1 0]⟩)], 2, [(0, .box [.sl (.int .i64) v1, .sl TPipe v2, .sl (.int .i64) v3, .sl TValve v4, .sl TPump v5, .sl TSubstation v6, .int .i64 v7, .int .i64 v8, .int .i64 v9, .sl TFuel v10, .sl TFuel v11, .sl TTenant v12, .sl TDuty v13]), (1, .box [.sl (.int .i64) v14, .sl TPipe v15, .sl (.int .i64) v16, .sl TValve v17, .sl TPump v18, .sl TSubstation v19, .int .i64 v20, .int .i64 v21, .int .i64 v22, .sl TFuel v23, .sl TFuel v24, .sl TTenant v25, .sl TDuty v26])]⟩) := by kernel_rfl
theorem spec_SameDesk_l1_ok {α : Type} (p n : Nat) (k : Ex → St → Option α) (v1 : List Int) (v2 : List (Ty.T TPipe)) (v3 : List Int) (v4 : List (Ty.T TValve)) (v5 : List (Ty.T TPump)) (v6 : List (Ty.T TSubstation)) (v7 : Int) (v8 : Int) (v9 : Int) (v10 : List (Ty.T TFuel)) (v11 : List (Ty.T TFuel)) (v12 : List (Ty.T TTenant)) (v13 : List (Ty.T TDuty)) (v14 : List Int) (v15 : List (Ty.T TPipe)) (v16 : List Int) (v17 : List (Ty.T TValve)) (v18 : List (Ty.T TPump)) (v19 : List (Ty.T TSubstation)) (v20 : Int) (v21 : Int) (v22 : Int) (v23 : List (Ty.T TFuel)) (v24 : List (Ty.T TFuel)) (v25 : List (Ty.T TTenant)) (v26 : List (Ty.T TDuty)) : ∀ (q : Nat) (v0 : Int), spec_SameDesk_it1 p n 0 k q (spec_SameDesk_l1_sh.mk' ((((), ()), ((), ()), (v0, ()), ()), ((v1, v2, v3, v4, v5, v6, v7, v8, v9, v10, v11, v12, v13, ()), (v14, v15, v16, v17, v18, v19, v20, v21, v22, v23, v24, v25, v26, ()), ()))) =
  spec_SameDesk_l1_go p v5 v18 q v0 (fun o0 => k .ret ⟨[(2, .one ⟨false, [.ptr 0 0]⟩), (3, .one ⟨false, [.ptr 1 0]⟩), (4, .one ⟨false, [.bool o0]⟩)], 2, [(0, .box [.sl (.int .i64) v1, .sl TPipe v2, .sl (.int .i64) v3, .sl TValve v4, .sl TPump v5, .sl TSubstation v6, .int .i64 v7, .int .i64 v8, .int .i64 v9, .sl TFuel v10, .sl TFuel v11, .sl TTenant v12, .sl TDuty v13]), (1, .box [.sl (.int .i64) v14, .sl TPipe v15, .sl (.int .i64) v16, .sl TValve v17, .sl TPump v18, .sl TSubstation v19, .int .i64 v20, .int .i64 v21, .int .i64 v22, .sl TFuel v23, .sl TFuel v24, .sl TTenant v25, .sl TDuty v26])]⟩) (fun _ => k (.exit 2) ⟨[(2, .one ⟨false, [.ptr 0 0]⟩), (3, .one ⟨false, [.ptr 1 0]⟩)], 2, [(0, .box [.sl (.int .i64) v1, .sl TPipe v2, .sl (.int .i64) v3, .sl TValve v4, .sl TPump v5, .sl TSubstation v6, .int .i64 v7, .int .i64 v8, .int .i64 v9, .sl TFuel v10, .sl TFuel v11, .sl TTenant v12, .sl TDuty v13]), (1, .box [.sl (.int .i64) v14, .sl TPipe v15, .sl (.int .i64) v16, .sl TValve v17, .sl TPump v18, .sl TSubstation v19, .int .i64 v20, .int .i64 v21, .int .i64 v22, .sl TFuel v23, .sl TFuel v24, .sl TTenant v25, .sl TDuty v26])]⟩) := by
  intro q
  induction q with
  | zero => intros; rfl
  | succ q ih => intro v0; rw [spec_SameDesk_l1_step]; simp only [ih]; rfl
noncomputable def spec_SameDesk_c2 : Code := codeAt [1, 1, 1, 1, 0, 1, 0, 0] (bodyOf Try.f11)
noncomputable def spec_SameDesk_it2 {α : Type} (p n b : Nat) (k : Ex → St → Option α) (q : Nat) (st : St) : Option α :=
  iter (fun s q => aexec Try.prog (spec_SameDesk_G p) (fun g lt args st (k : D → St → Option α) => acall Try.prog (spec_SameDesk_G p) 5 (n + 0) g lt args st k) 5 b 221 spec_SameDesk_c2 .leaf s q) (canon b [2, 3, 7]) q st (fun e s => k e (canon b [2, 3, 4] s))
theorem spec_SameDesk_l2_step {α : Type} (p n : Nat) (k : Ex → St → Option α) (v1 : List Int) (v2 : List (Ty.T TPipe)) (v3 : List Int) (v4 : List (Ty.T TValve)) (v5 : List (Ty.T TPump)) (v6 : List (Ty.T TSubstation)) (v7 : Int) (v8 : Int) (v9 : Int) (v10 : List (Ty.T TFuel)) (v11 : List (Ty.T TFuel)) (v12 : List (Ty.T TTenant)) (v13 : List (Ty.T TDuty)) (v14 : List Int) (v15 : List (Ty.T TPipe)) (v16 : List Int) (v17 : List (Ty.T TValve)) (v18 : List (Ty.T TPump)) (v19 : List (Ty.T TSubstation)) (v20 : Int) (v21 : Int) (v22 : Int) (v23 : List (Ty.T TFuel)) (v24 : List (Ty.T TFuel)) (v25 : List (Ty.T TTenant)) (v26 : List (Ty.T TDuty)) (q : Nat) (v0 : Int) : spec_SameDesk_it2 p n 0 k (q + 1) (spec_SameDesk_l2_sh.mk' ((((), ()), ((), ()), (v0, ()), ()), ((v1, v2, v3, v4, v5, v6, v7, v8, v9, v10, v11, v12, v13, ()), (v14, v15, v16, v17, v18, v19, v20, v21, v22, v23, v24, v25, v26, ()), ()))) =
  spec_SameDesk_l2_r p v6 v19 (fun v0 => spec_SameDesk_it2 p n 0 k q (spec_SameDesk_l2_sh.mk' ((((), ()), ((), ()), (v0, ()), ()), ((v1, v2, v3, v4, v5, v6, v7, v8, v9, v10, v11, v12, v13, ()), (v14, v15, v16, v17, v18, v19, v20, v21, v22, v23, v24, v25, v26, ()), ())))) v0 (fun o0 => k .ret ⟨[(2, .one ⟨false, [.ptr 0 0]⟩), (3, .one ⟨false, [.ptr 1 0]⟩), (4, .one ⟨false, [.bool o0]⟩)], 2, [(0, .box [.sl (.int .i64) v1, .sl TPipe v2, .sl (.int .i64) v3, .sl TValve v4, .sl TPump v5, .sl TSubstation v6, .int .i64 v7, .int .i64 v8, .int .i64 v9, .sl TFuel v10, .sl TFuel v11, .sl TTenant v12, .sl TDuty v13]), (1, .box [.sl (.int .i64) v14, .sl TPipe v15, .sl (.int .i64) v16, .sl TValve v17, .sl TPump v18, .sl TSubstation v19, .int .i64 v20, .int .i64 v21, .int .i64 v22, .sl TFuel v23, .sl TFuel v24, .sl TTenant v25, .sl TDuty v26])]⟩) (fun _ => k (.exit 4) ⟨[(2, .one ⟨false, [.ptr 0 0]⟩), (3, .one ⟨false, [.ptr 1 0]⟩)], 2, [(0, .box [.sl (.int .i64) v1, .sl TPipe v2, .sl (.int .i64) v3, .sl TValve v4, .sl TPump v5, .sl TSubstation v6, .int .i64 v7, .int .i64 v8, .int .i64 v9, .sl TFuel v10, .sl TFuel v11, .sl TTenant v12, .sl TDuty v13]), (1, .box [.sl (.int .i64) v14, .sl TPipe v15, .sl (.int .i64) v16, .sl TValve v17, .sl TPump v18, .sl TSubstation v19, .int .i64 v20, .int .i64 v21, .int .i64 v22, .sl TFuel v23, .sl TFuel v24, .sl TTenant v25, .sl TDuty v26])]⟩) := by kernel_rfl
theorem spec_SameDesk_l2_ok {α : Type} (p n : Nat) (k : Ex → St → Option α) (v1 : List Int) (v2 : List (Ty.T TPipe)) (v3 : List Int) (v4 : List (Ty.T TValve)) (v5 : List (Ty.T TPump)) (v6 : List (Ty.T TSubstation)) (v7 : Int) (v8 : Int) (v9 : Int) (v10 : List (Ty.T TFuel)) (v11 : List (Ty.T TFuel)) (v12 : List (Ty.T TTenant)) (v13 : List (Ty.T TDuty)) (v14 : List Int) (v15 : List (Ty.T TPipe)) (v16 : List Int) (v17 : List (Ty.T TValve)) (v18 : List (Ty.T TPump)) (v19 : List (Ty.T TSubstation)) (v20 : Int) (v21 : Int) (v22 : Int) (v23 : List (Ty.T TFuel)) (v24 : List (Ty.T TFuel)) (v25 : List (Ty.T TTenant)) (v26 : List (Ty.T TDuty)) : ∀ (q : Nat) (v0 : Int), spec_SameDesk_it2 p n 0 k q (spec_SameDesk_l2_sh.mk' ((((), ()), ((), ()), (v0, ()), ()), ((v1, v2, v3, v4, v5, v6, v7, v8, v9, v10, v11, v12, v13, ()), (v14, v15, v16, v17, v18, v19, v20, v21, v22, v23, v24, v25, v26, ()), ()))) =
  spec_SameDesk_l2_go p v6 v19 q v0 (fun o0 => k .ret ⟨[(2, .one ⟨false, [.ptr 0 0]⟩), (3, .one ⟨false, [.ptr 1 0]⟩), (4, .one ⟨false, [.bool o0]⟩)], 2, [(0, .box [.sl (.int .i64) v1, .sl TPipe v2, .sl (.int .i64) v3, .sl TValve v4, .sl TPump v5, .sl TSubstation v6, .int .i64 v7, .int .i64 v8, .int .i64 v9, .sl TFuel v10, .sl TFuel v11, .sl TTenant v12, .sl TDuty v13]), (1, .box [.sl (.int .i64) v14, .sl TPipe v15, .sl (.int .i64) v16, .sl TValve v17, .sl TPump v18, .sl TSubstation v19, .int .i64 v20, .int .i64 v21, .int .i64 v22, .sl TFuel v23, .sl TFuel v24, .sl TTenant v25, .sl TDuty v26])]⟩) (fun _ => k (.exit 4) ⟨[(2, .one ⟨false, [.ptr 0 0]⟩), (3, .one ⟨false, [.ptr 1 0]⟩)], 2, [(0, .box [.sl (.int .i64) v1, .sl TPipe v2, .sl (.int .i64) v3, .sl TValve v4, .sl TPump v5, .sl TSubstation v6, .int .i64 v7, .int .i64 v8, .int .i64 v9, .sl TFuel v10, .sl TFuel v11, .sl TTenant v12, .sl TDuty v13]), (1, .box [.sl (.int .i64) v14, .sl TPipe v15, .sl (.int .i64) v16, .sl TValve v17, .sl TPump v18, .sl TSubstation v19, .int .i64 v20, .int .i64 v21, .int .i64 v22, .sl TFuel v23, .sl TFuel v24, .sl TTenant v25, .sl TDuty v26])]⟩) := by
  intro q
  induction q with
  | zero => intros; rfl
  | succ q ih => intro v0; rw [spec_SameDesk_l2_step]; simp only [ih]; rfl
noncomputable def spec_SameDesk_c3 : Code := codeAt [1, 1, 1, 1, 1, 0, 1, 0, 0] (bodyOf Try.f11)
noncomputable def spec_SameDesk_it3 {α : Type} (p n b : Nat) (k : Ex → St → Option α) (q : Nat) (st : St) : Option α :=
  iter (fun s q => aexec Try.prog (spec_SameDesk_G p) (fun g lt args st (k : D → St → Option α) => acall Try.prog (spec_SameDesk_G p) 5 (n + 0) g lt args st k) 5 b 221 spec_SameDesk_c3 .leaf s q) (canon b [2, 3, 8]) q st (fun e s => k e (canon b [2, 3, 4] s))
theorem spec_SameDesk_l3_step {α : Type} (p n : Nat) (k : Ex → St → Option α) (v1 : List Int) (v2 : List (Ty.T TPipe)) (v3 : List Int) (v4 : List (Ty.T TValve)) (v5 : List (Ty.T TPump)) (v6 : List (Ty.T TSubstation)) (v7 : Int) (v8 : Int) (v9 : Int) (v10 : List (Ty.T TFuel)) (v11 : List (Ty.T TFuel)) (v12 : List (Ty.T TTenant)) (v13 : List (Ty.T TDuty)) (v14 : List Int) (v15 : List (Ty.T TPipe)) (v16 : List Int) (v17 : List (Ty.T TValve)) (v18 : List (Ty.T TPump)) (v19 : List (Ty.T TSubstation)) (v20 : Int) (v21 : Int) (v22 : Int) (v23 : List (Ty.T TFuel)) (v24 : List (Ty.T TFuel)) (v25 : List (Ty.T TTenant)) (v26 : List (Ty.T TDuty)) (q : Nat) (v0 : Int) : spec_SameDesk_it3 p n 0 k (q + 1) (spec_SameDesk_l3_sh.mk' ((((), ()), ((), ()), (v0, ()), ()), ((v1, v2, v3, v4, v5, v6, v7, v8, v9, v10, v11, v12, v13, ()), (v14, v15, v16, v17, v18, v19, v20, v21, v22, v23, v24, v25, v26, ()), ()))) =
  spec_SameDesk_l3_r p v10 v23 (fun v0 => spec_SameDesk_it3 p n 0 k q (spec_SameDesk_l3_sh.mk' ((((), ()), ((), ()), (v0, ()), ()), ((v1, v2, v3, v4, v5, v6, v7, v8, v9, v10, v11, v12, v13, ()), (v14, v15, v16, v17, v18, v19, v20, v21, v22, v23, v24, v25, v26, ()), ())))) v0 (fun o0 => k .ret ⟨[(2, .one ⟨false, [.ptr 0 0]⟩), (3, .one ⟨false, [.ptr 1 0]⟩), (4, .one ⟨false, [.bool o0]⟩)], 2, [(0, .box [.sl (.int .i64) v1, .sl TPipe v2, .sl (.int .i64) v3, .sl TValve v4, .sl TPump v5, .sl TSubstation v6, .int .i64 v7, .int .i64 v8, .int .i64 v9, .sl TFuel v10, .sl TFuel v11, .sl TTenant v12, .sl TDuty v13]), (1, .box [.sl (.int .i64) v14, .sl TPipe v15, .sl (.int .i64) v16, .sl TValve v17, .sl TPump v18, .sl TSubstation v19, .int .i64 v20, .int .i64 v21, .int .i64 v22, .sl TFuel v23, .sl TFuel v24, .sl TTenant v25, .sl TDuty v26])]⟩) (fun _ => k (.exit 6) ⟨[(2, .one ⟨false, [.ptr 0 0]⟩), (3, .one ⟨false, [.ptr 1 0]⟩)], 2, [(0, .box [.sl (.int .i64) v1, .sl TPipe v2, .sl (.int .i64) v3, .sl TValve v4, .sl TPump v5, .sl TSubstation v6, .int .i64 v7, .int .i64 v8, .int .i64 v9, .sl TFuel v10, .sl TFuel v11, .sl TTenant v12, .sl TDuty v13]), (1, .box [.sl (.int .i64) v14, .sl TPipe v15, .sl (.int .i64) v16, .sl TValve v17, .sl TPump v18, .sl TSubstation v19, .int .i64 v20, .int .i64 v21, .int .i64 v22, .sl TFuel v23, .sl TFuel v24, .sl TTenant v25, .sl TDuty v26])]⟩) := by kernel_rfl
theorem spec_SameDesk_l3_ok {α : Type} (p n : Nat) (k : Ex → St → Option α) (v1 : List Int) (v2 : List (Ty.T TPipe)) (v3 : List Int) (v4 : List (Ty.T TValve)) (v5 : List (Ty.T TPump)) (v6 : List (Ty.T TSubstation)) (v7 : Int) (v8 : Int) (v9 : Int) (v10 : List (Ty.T TFuel)) (v11 : List (Ty.T TFuel)) (v12 : List (Ty.T TTenant)) (v13 : List (Ty.T TDuty)) (v14 : List Int) (v15 : List (Ty.T TPipe)) (v16 : List Int) (v17 : List (Ty.T TValve)) (v18 : List (Ty.T TPump)) (v19 : List (Ty.T TSubstation)) (v20 : Int) (v21 : Int) (v22 : Int) (v23 : List (Ty.T TFuel)) (v24 : List (Ty.T TFuel)) (v25 : List (Ty.T TTenant)) (v26 : List (Ty.T TDuty)) : ∀ (q : Nat) (v0 : Int), spec_SameDesk_it3 p n 0 k q (spec_SameDesk_l3_sh.mk' ((((), ()), ((), ()), (v0, ()), ()), ((v1, v2, v3, v4, v5, v6, v7, v8, v9, v10, v11, v12, v13, ()), (v14, v15, v16, v17, v18, v19, v20, v21, v22, v23, v24, v25, v26, ()), ()))) =
  spec_SameDesk_l3_go p v10 v23 q v0 (fun o0 => k .ret ⟨[(2, .one ⟨false, [.ptr 0 0]⟩), (3, .one ⟨false, [.ptr 1 0]⟩), (4, .one ⟨false, [.bool o0]⟩)], 2, [(0, .box [.sl (.int .i64) v1, .sl TPipe v2, .sl (.int .i64) v3, .sl TValve v4, .sl TPump v5, .sl TSubstation v6, .int .i64 v7, .int .i64 v8, .int .i64 v9, .sl TFuel v10, .sl TFuel v11, .sl TTenant v12, .sl TDuty v13]), (1, .box [.sl (.int .i64) v14, .sl TPipe v15, .sl (.int .i64) v16, .sl TValve v17, .sl TPump v18, .sl TSubstation v19, .int .i64 v20, .int .i64 v21, .int .i64 v22, .sl TFuel v23, .sl TFuel v24, .sl TTenant v25, .sl TDuty v26])]⟩) (fun _ => k (.exit 6) ⟨[(2, .one ⟨false, [.ptr 0 0]⟩), (3, .one ⟨false, [.ptr 1 0]⟩)], 2, [(0, .box [.sl (.int .i64) v1, .sl TPipe v2, .sl (.int .i64) v3, .sl TValve v4, .sl TPump v5, .sl TSubstation v6, .int .i64 v7, .int .i64 v8, .int .i64 v9, .sl TFuel v10, .sl TFuel v11, .sl TTenant v12, .sl TDuty v13]), (1, .box [.sl (.int .i64) v14, .sl TPipe v15, .sl (.int .i64) v16, .sl TValve v17, .sl TPump v18, .sl TSubstation v19, .int .i64 v20, .int .i64 v21, .int .i64 v22, .sl TFuel v23, .sl TFuel v24, .sl TTenant v25, .sl TDuty v26])]⟩) := by
  intro q
  induction q with
  | zero => intros; rfl
  | succ q ih => intro v0; rw [spec_SameDesk_l3_step]; simp only [ih]; rfl
noncomputable def spec_SameDesk_c4 : Code := codeAt [1, 1, 1, 1, 1, 1, 0, 1, 0, 0] (bodyOf Try.f11)
noncomputable def spec_SameDesk_it4 {α : Type} (p n b : Nat) (k : Ex → St → Option α) (q : Nat) (st : St) : Option α :=
  iter (fun s q => aexec Try.prog (spec_SameDesk_G p) (fun g lt args st (k : D → St → Option α) => acall Try.prog (spec_SameDesk_G p) 5 (n + 0) g lt args st k) 5 b 221 spec_SameDesk_c4 .leaf s q) (canon b [2, 3, 9]) q st (fun e s => k e (canon b [2, 3, 4] s))
theorem spec_SameDesk_l4_step {α : Type} (p n : Nat) (k : Ex → St → Option α) (v1 : List Int) (v2 : List (Ty.T TPipe)) (v3 : List Int) (v4 : List (Ty.T TValve)) (v5 : List (Ty.T TPump)) (v6 : List (Ty.T TSubstation)) (v7 : Int) (v8 : Int) (v9 : Int) (v10 : List (Ty.T TFuel)) (v11 : List (Ty.T TFuel)) (v12 : List (Ty.T TTenant)) (v13 : List (Ty.T TDuty)) (v14 : List Int) (v15 : List (Ty.T TPipe)) (v16 : List Int) (v17 : List (Ty.T TValve)) (v18 : List (Ty.T TPump)) (v19 : List (Ty.T TSubstation)) (v20 : Int) (v21 : Int) (v22 : Int) (v23 : List (Ty.T TFuel)) (v24 : List (Ty.T TFuel)) (v25 : List (Ty.T TTenant)) (v26 : List (Ty.T TDuty)) (q : Nat) (v0 : Int) : spec_SameDesk_it4 p n 0 k (q + 1) (spec_SameDesk_l4_sh.mk' ((((), ()), ((), ()), (v0, ()), ()), ((v1, v2, v3, v4, v5, v6, v7, v8, v9, v10, v11, v12, v13, ()), (v14, v15, v16, v17, v18, v19, v20, v21, v22, v23, v24, v25, v26, ()), ()))) =
  spec_SameDesk_l4_r p v11 v24 (fun v0 => spec_SameDesk_it4 p n 0 k q (spec_SameDesk_l4_sh.mk' ((((), ()), ((), ()), (v0, ()), ()), ((v1, v2, v3, v4, v5, v6, v7, v8, v9, v10, v11, v12, v13, ()), (v14, v15, v16, v17, v18, v19, v20, v21, v22, v23, v24, v25, v26, ()), ())))) v0 (fun o0 => k .ret ⟨[(2, .one ⟨false, [.ptr 0 0]⟩), (3, .one ⟨false, [.ptr 1 0]⟩), (4, .one ⟨false, [.bool o0]⟩)], 2, [(0, .box [.sl (.int .i64) v1, .sl TPipe v2, .sl (.int .i64) v3, .sl TValve v4, .sl TPump v5, .sl TSubstation v6, .int .i64 v7, .int .i64 v8, .int .i64 v9, .sl TFuel v10, .sl TFuel v11, .sl TTenant v12, .sl TDuty v13]), (1, .box [.sl (.int .i64) v14, .sl TPipe v15, .sl (.int .i64) v16, .sl TValve v17, .sl TPump v18, .sl TSubstation v19, .int .i64 v20, .int .i64 v21, .int .i64 v22, .sl TFuel v23, .sl TFuel v24, .sl TTenant v25, .sl TDuty v26])]⟩) (fun _ => k (.exit 8) ⟨[(2, .one ⟨false, [.ptr 0 0]⟩), (3, .one ⟨false, [.ptr 1 0]⟩)], 2, [(0, .box [.sl (.int .i64) v1, .sl TPipe v2, .sl (.int .i64) v3, .sl TValve v4, .sl TPump v5, .sl TSubstation v6, .int .i64 v7, .int .i64 v8, .int .i64 v9, .sl TFuel v10, .sl TFuel v11, .sl TTenant v12, .sl TDuty v13]), (1, .box [.sl (.int .i64) v14, .sl TPipe v15, .sl (.int .i64) v16, .sl TValve v17, .sl TPump v18, .sl TSubstation v19, .int .i64 v20, .int .i64 v21, .int .i64 v22, .sl TFuel v23, .sl TFuel v24, .sl TTenant v25, .sl TDuty v26])]⟩) := by kernel_rfl
theorem spec_SameDesk_l4_ok {α : Type} (p n : Nat) (k : Ex → St → Option α) (v1 : List Int) (v2 : List (Ty.T TPipe)) (v3 : List Int) (v4 : List (Ty.T TValve)) (v5 : List (Ty.T TPump)) (v6 : List (Ty.T TSubstation)) (v7 : Int) (v8 : Int) (v9 : Int) (v10 : List (Ty.T TFuel)) (v11 : List (Ty.T TFuel)) (v12 : List (Ty.T TTenant)) (v13 : List (Ty.T TDuty)) (v14 : List Int) (v15 : List (Ty.T TPipe)) (v16 : List Int) (v17 : List (Ty.T TValve)) (v18 : List (Ty.T TPump)) (v19 : List (Ty.T TSubstation)) (v20 : Int) (v21 : Int) (v22 : Int) (v23 : List (Ty.T TFuel)) (v24 : List (Ty.T TFuel)) (v25 : List (Ty.T TTenant)) (v26 : List (Ty.T TDuty)) : ∀ (q : Nat) (v0 : Int), spec_SameDesk_it4 p n 0 k q (spec_SameDesk_l4_sh.mk' ((((), ()), ((), ()), (v0, ()), ()), ((v1, v2, v3, v4, v5, v6, v7, v8, v9, v10, v11, v12, v13, ()), (v14, v15, v16, v17, v18, v19, v20, v21, v22, v23, v24, v25, v26, ()), ()))) =
  spec_SameDesk_l4_go p v11 v24 q v0 (fun o0 => k .ret ⟨[(2, .one ⟨false, [.ptr 0 0]⟩), (3, .one ⟨false, [.ptr 1 0]⟩), (4, .one ⟨false, [.bool o0]⟩)], 2, [(0, .box [.sl (.int .i64) v1, .sl TPipe v2, .sl (.int .i64) v3, .sl TValve v4, .sl TPump v5, .sl TSubstation v6, .int .i64 v7, .int .i64 v8, .int .i64 v9, .sl TFuel v10, .sl TFuel v11, .sl TTenant v12, .sl TDuty v13]), (1, .box [.sl (.int .i64) v14, .sl TPipe v15, .sl (.int .i64) v16, .sl TValve v17, .sl TPump v18, .sl TSubstation v19, .int .i64 v20, .int .i64 v21, .int .i64 v22, .sl TFuel v23, .sl TFuel v24, .sl TTenant v25, .sl TDuty v26])]⟩) (fun _ => k (.exit 8) ⟨[(2, .one ⟨false, [.ptr 0 0]⟩), (3, .one ⟨false, [.ptr 1 0]⟩)], 2, [(0, .box [.sl (.int .i64) v1, .sl TPipe v2, .sl (.int .i64) v3, .sl TValve v4, .sl TPump v5, .sl TSubstation v6, .int .i64 v7, .int .i64 v8, .int .i64 v9, .sl TFuel v10, .sl TFuel v11, .sl TTenant v12, .sl TDuty v13]), (1, .box [.sl (.int .i64) v14, .sl TPipe v15, .sl (.int .i64) v16, .sl TValve v17, .sl TPump v18, .sl TSubstation v19, .int .i64 v20, .int .i64 v21, .int .i64 v22, .sl TFuel v23, .sl TFuel v24, .sl TTenant v25, .sl TDuty v26])]⟩) := by
  intro q
  induction q with
  | zero => intros; rfl
  | succ q ih => intro v0; rw [spec_SameDesk_l4_step]; simp only [ih]; rfl
noncomputable def spec_SameDesk_c5 : Code := codeAt [1, 1, 1, 1, 1, 1, 1, 0, 1, 0, 0] (bodyOf Try.f11)
noncomputable def spec_SameDesk_it5 {α : Type} (p n b : Nat) (k : Ex → St → Option α) (q : Nat) (st : St) : Option α :=
  iter (fun s q => aexec Try.prog (spec_SameDesk_G p) (fun g lt args st (k : D → St → Option α) => acall Try.prog (spec_SameDesk_G p) 5 (n + 0) g lt args st k) 5 b 221 spec_SameDesk_c5 .leaf s q) (canon b [2, 3, 10]) q st (fun e s => k e (canon b [2, 3, 4] s))
theorem spec_SameDesk_l5_step {α : Type} (p n : Nat) (k : Ex → St → Option α) (v1 : List Int) (v2 : List (Ty.T TPipe)) (v3 : List Int) (v4 : List (Ty.T TValve)) (v5 : List (Ty.T TPump)) (v6 : List (Ty.T TSubstation)) (v7 : Int) (v8 : Int) (v9 : Int) (v10 : List (Ty.T TFuel)) (v11 : List (Ty.T TFuel)) (v12 : List (Ty.T TTenant)) (v13 : List (Ty.T TDuty)) (v14 : List Int) (v15 : List (Ty.T TPipe)) (v16 : List Int) (v17 : List (Ty.T TValve)) (v18 : List (Ty.T TPump)) (v19 : List (Ty.T TSubstation)) (v20 : Int) (v21 : Int) (v22 : Int) (v23 : List (Ty.T TFuel)) (v24 : List (Ty.T TFuel)) (v25 : List (Ty.T TTenant)) (v26 : List (Ty.T TDuty)) (q : Nat) (v0 : Int) : spec_SameDesk_it5 p n 0 k (q + 1) (spec_SameDesk_l5_sh.mk' ((((), ()), ((), ()), (v0, ()), ()), ((v1, v2, v3, v4, v5, v6, v7, v8, v9, v10, v11, v12, v13, ()), (v14, v15, v16, v17, v18, v19, v20, v21, v22, v23, v24, v25, v26, ()), ()))) =
  spec_SameDesk_l5_r p v12 v25 (fun v0 => spec_SameDesk_it5 p n 0 k q (spec_SameDesk_l5_sh.mk' ((((), ()), ((), ()), (v0, ()), ()), ((v1, v2, v3, v4, v5, v6, v7, v8, v9, v10, v11, v12, v13, ()), (v14, v15, v16, v17, v18, v19, v20, v21, v22, v23, v24, v25, v26, ()), ())))) v0 (fun o0 => k .ret ⟨[(2, .one ⟨false, [.ptr 0 0]⟩), (3, .one ⟨false, [.ptr 1 0]⟩), (4, .one ⟨false, [.bool o0]⟩)], 2, [(0, .box [.sl (.int .i64) v1, .sl TPipe v2, .sl (.int .i64) v3, .sl TValve v4, .sl TPump v5, .sl TSubstation v6, .int .i64 v7, .int .i64 v8, .int .i64 v9, .sl TFuel v10, .sl TFuel v11, .sl TTenant v12, .sl TDuty v13]), (1, .box [.sl (.int .i64) v14, .sl TPipe v15, .sl (.int .i64) v16, .sl TValve v17, .sl TPump v18, .sl TSubstation v19, .int .i64 v20, .int .i64 v21, .int .i64 v22, .sl TFuel v23, .sl TFuel v24, .sl TTenant v25, .sl TDuty v26])]⟩) (fun _ => k (.exit 10) ⟨[(2, .one ⟨false, [.ptr 0 0]⟩), (3, .one ⟨false, [.ptr 1 0]⟩)], 2, [(0, .box [.sl (.int .i64) v1, .sl TPipe v2, .sl (.int .i64) v3, .sl TValve v4, .sl TPump v5, .sl TSubstation v6, .int .i64 v7, .int .i64 v8, .int .i64 v9, .sl TFuel v10, .sl TFuel v11, .sl TTenant v12, .sl TDuty v13]), (1, .box [.sl (.int .i64) v14, .sl TPipe v15, .sl (.int .i64) v16, .sl TValve v17, .sl TPump v18, .sl TSubstation v19, .int .i64 v20, .int .i64 v21, .int .i64 v22, .sl TFuel v23, .sl TFuel v24, .sl TTenant v25, .sl TDuty v26])]⟩) := by kernel_rfl
theorem spec_SameDesk_l5_ok {α : Type} (p n : Nat) (k : Ex → St → Option α) (v1 : List Int) (v2 : List (Ty.T TPipe)) (v3 : List Int) (v4 : List (Ty.T TValve)) (v5 : List (Ty.T TPump)) (v6 : List (Ty.T TSubstation)) (v7 : Int) (v8 : Int) (v9 : Int) (v10 : List (Ty.T TFuel)) (v11 : List (Ty.T TFuel)) (v12 : List (Ty.T TTenant)) (v13 : List (Ty.T TDuty)) (v14 : List Int) (v15 : List (Ty.T TPipe)) (v16 : List Int) (v17 : List (Ty.T TValve)) (v18 : List (Ty.T TPump)) (v19 : List (Ty.T TSubstation)) (v20 : Int) (v21 : Int) (v22 : Int) (v23 : List (Ty.T TFuel)) (v24 : List (Ty.T TFuel)) (v25 : List (Ty.T TTenant)) (v26 : List (Ty.T TDuty)) : ∀ (q : Nat) (v0 : Int), spec_SameDesk_it5 p n 0 k q (spec_SameDesk_l5_sh.mk' ((((), ()), ((), ()), (v0, ()), ()), ((v1, v2, v3, v4, v5, v6, v7, v8, v9, v10, v11, v12, v13, ()), (v14, v15, v16, v17, v18, v19, v20, v21, v22, v23, v24, v25, v26, ()), ()))) =
  spec_SameDesk_l5_go p v12 v25 q v0 (fun o0 => k .ret ⟨[(2, .one ⟨false, [.ptr 0 0]⟩), (3, .one ⟨false, [.ptr 1 0]⟩), (4, .one ⟨false, [.bool o0]⟩)], 2, [(0, .box [.sl (.int .i64) v1, .sl TPipe v2, .sl (.int .i64) v3, .sl TValve v4, .sl TPump v5, .sl TSubstation v6, .int .i64 v7, .int .i64 v8, .int .i64 v9, .sl TFuel v10, .sl TFuel v11, .sl TTenant v12, .sl TDuty v13]), (1, .box [.sl (.int .i64) v14, .sl TPipe v15, .sl (.int .i64) v16, .sl TValve v17, .sl TPump v18, .sl TSubstation v19, .int .i64 v20, .int .i64 v21, .int .i64 v22, .sl TFuel v23, .sl TFuel v24, .sl TTenant v25, .sl TDuty v26])]⟩) (fun _ => k (.exit 10) ⟨[(2, .one ⟨false, [.ptr 0 0]⟩), (3, .one ⟨false, [.ptr 1 0]⟩)], 2, [(0, .box [.sl (.int .i64) v1, .sl TPipe v2, .sl (.int .i64) v3, .sl TValve v4, .sl TPump v5, .sl TSubstation v6, .int .i64 v7, .int .i64 v8, .int .i64 v9, .sl TFuel v10, .sl TFuel v11, .sl TTenant v12, .sl TDuty v13]), (1, .box [.sl (.int .i64) v14, .sl TPipe v15, .sl (.int .i64) v16, .sl TValve v17, .sl TPump v18, .sl TSubstation v19, .int .i64 v20, .int .i64 v21, .int .i64 v22, .sl TFuel v23, .sl TFuel v24, .sl TTenant v25, .sl TDuty v26])]⟩) := by
  intro q
  induction q with
  | zero => intros; rfl
  | succ q ih => intro v0; rw [spec_SameDesk_l5_step]; simp only [ih]; rfl
noncomputable def spec_SameDesk_c6 : Code := codeAt [1, 1, 1, 1, 1, 1, 1, 1, 0, 1, 0, 0] (bodyOf Try.f11)
noncomputable def spec_SameDesk_it6 {α : Type} (p n b : Nat) (k : Ex → St → Option α) (q : Nat) (st : St) : Option α :=
  iter (fun s q => aexec Try.prog (spec_SameDesk_G p) (fun g lt args st (k : D → St → Option α) => acall Try.prog (spec_SameDesk_G p) 5 (n + 0) g lt args st k) 5 b 221 spec_SameDesk_c6 .leaf s q) (canon b [2, 3, 11]) q st (fun e s => k e (canon b [4] s))
theorem spec_SameDesk_l6_step {α : Type} (p n : Nat) (k : Ex → St → Option α) (v1 : List Int) (v2 : List (Ty.T TPipe)) (v3 : List Int) (v4 : List (Ty.T TValve)) (v5 : List (Ty.T TPump)) (v6 : List (Ty.T TSubstation)) (v7 : Int) (v8 : Int) (v9 : Int) (v10 : List (Ty.T TFuel)) (v11 : List (Ty.T TFuel)) (v12 : List (Ty.T TTenant)) (v13 : List (Ty.T TDuty)) (v14 : List Int) (v15 : List (Ty.T TPipe)) (v16 : List Int) (v17 : List (Ty.T TValve)) (v18 : List (Ty.T TPump)) (v19 : List (Ty.T TSubstation)) (v20 : Int) (v21 : Int) (v22 : Int) (v23 : List (Ty.T TFuel)) (v24 : List (Ty.T TFuel)) (v25 : List (Ty.T TTenant)) (v26 : List (Ty.T TDuty)) (q : Nat) (v0 : Int) : spec_SameDesk_it6 p n 0 k (q + 1) (spec_SameDesk_l6_sh.mk' ((((), ()), ((), ()), (v0, ()), ()), ((v1, v2, v3, v4, v5, v6, v7, v8, v9, v10, v11, v12, v13, ()), (v14, v15, v16, v17, v18, v19, v20, v21, v22, v23, v24, v25, v26, ()), ()))) =
  spec_SameDesk_l6_r p v13 v26 (fun v0 => spec_SameDesk_it6 p n 0 k q (spec_SameDesk_l6_sh.mk' ((((), ()), ((), ()), (v0, ()), ()), ((v1, v2, v3, v4, v5, v6, v7, v8, v9, v10, v11, v12, v13, ()), (v14, v15, v16, v17, v18, v19, v20, v21, v22, v23, v24, v25, v26, ()), ())))) v0 (fun o0 => k .ret ⟨[(4, .one ⟨false, [.bool o0]⟩)], 0, []⟩) (fun _ => k (.exit 12) ⟨[], 0, []⟩) := by kernel_rfl
theorem spec_SameDesk_l6_ok {α : Type} (p n : Nat) (k : Ex → St → Option α) (v1 : List Int) (v2 : List (Ty.T TPipe)) (v3 : List Int) (v4 : List (Ty.T TValve)) (v5 : List (Ty.T TPump)) (v6 : List (Ty.T TSubstation)) (v7 : Int) (v8 : Int) (v9 : Int) (v10 : List (Ty.T TFuel)) (v11 : List (Ty.T TFuel)) (v12 : List (Ty.T TTenant)) (v13 : List (Ty.T TDuty)) (v14 : List Int) (v15 : List (Ty.T TPipe)) (v16 : List Int) (v17 : List (Ty.T TValve)) (v18 : List (Ty.T TPump)) (v19 : List (Ty.T TSubstation)) (v20 : Int) (v21 : Int) (v22 : Int) (v23 : List (Ty.T TFuel)) (v24 : List (Ty.T TFuel)) (v25 : List (Ty.T TTenant)) (v26 : List (Ty.T TDuty)) : ∀ (q : Nat) (v0 : Int), spec_SameDesk_it6 p n 0 k q (spec_SameDesk_l6_sh.mk' ((((), ()), ((), ()), (v0, ()), ()), ((v1, v2, v3, v4, v5, v6, v7, v8, v9, v10, v11, v12, v13, ()), (v14, v15, v16, v17, v18, v19, v20, v21, v22, v23, v24, v25, v26, ()), ()))) =
  spec_SameDesk_l6_go p v13 v26 q v0 (fun o0 => k .ret ⟨[(4, .one ⟨false, [.bool o0]⟩)], 0, []⟩) (fun _ => k (.exit 12) ⟨[], 0, []⟩) := by
  intro q
  induction q with
  | zero => intros; rfl
  | succ q ih => intro v0; rw [spec_SameDesk_l6_step]; simp only [ih]; rfl
theorem spec_SameDesk_ltok_11_ls (p : Nat) : loopsOf (bodyOf Try.f11) (spec_SameDesk_lt p) = [⟨spec_SameDesk_c0, [2, 3, 5], [2, 3, 4], spec_SameDesk_lc0 p, .leaf⟩, ⟨spec_SameDesk_c1, [2, 3, 6], [2, 3, 4], spec_SameDesk_lc1 p, .leaf⟩, ⟨spec_SameDesk_c2, [2, 3, 7], [2, 3, 4], spec_SameDesk_lc2 p, .leaf⟩, ⟨spec_SameDesk_c3, [2, 3, 8], [2, 3, 4], spec_SameDesk_lc3 p, .leaf⟩, ⟨spec_SameDesk_c4, [2, 3, 9], [2, 3, 4], spec_SameDesk_lc4 p, .leaf⟩, ⟨spec_SameDesk_c5, [2, 3, 10], [2, 3, 4], spec_SameDesk_lc5 p, .leaf⟩, ⟨spec_SameDesk_c6, [2, 3, 11], [4], spec_SameDesk_lc6 p, .leaf⟩] := by kernel_rfl
theorem spec_SameDesk_ltok_11_dep (p : Nat) : LT.dep (spec_SameDesk_lt p) = 0 := by kernel_rfl
theorem spec_SameDesk_ltok_11 (p : Nat) : LTok Try.prog (spec_SameDesk_G p) 5 11 (spec_SameDesk_lt p) := by
  intro α n base fn c hd hfn hc
  have hfn' : some fn = some Try.f11 := hfn.symm.trans Try.func11
  cases hfn'
  have hc' : c = bodyOf Try.f11 := by unfold bodyOf; rw [hc]; rfl
  subst hc'
  rw [spec_SameDesk_ltok_11_dep] at hd
  obtain ⟨n, rfl⟩ := Nat.exists_eq_add_of_le' hd
  apply LTS_of_loops
  rw [spec_SameDesk_ltok_11_ls]
  intro e he st k r h
  simp only [List.mem_cons, List.not_mem_nil, or_false] at he
  rcases he with rfl | rfl | rfl | rfl | rfl | rfl | rfl
  · obtain ⟨a, ha, hb, x, rfl, h⟩ := altRun_ok h
    simp only [List.mem_cons, List.not_mem_nil, or_false] at ha
    subst ha
    · cases hb; exact ⟨p, (spec_SameDesk_l0_ok p n k _ _ _ _ _ _ _ _ _ _ _ _ _ _ _ _ _ _ _ _ _ _ _ _ _ _ p _).trans h⟩
  · obtain ⟨a, ha, hb, x, rfl, h⟩ := altRun_ok h
    simp only [List.mem_cons, List.not_mem_nil, or_false] at ha
    subst ha
    · cases hb; exact ⟨p, (spec_SameDesk_l1_ok p n k _ _ _ _ _ _ _ _ _ _ _ _ _ _ _ _ _ _ _ _ _ _ _ _ _ _ p _).trans h⟩
  · obtain ⟨a, ha, hb, x, rfl, h⟩ := altRun_ok h
    simp only [List.mem_cons, List.not_mem_nil, or_false] at ha
    subst ha
    · cases hb; exact ⟨p, (spec_SameDesk_l2_ok p n k _ _ _ _ _ _ _ _ _ _ _ _ _ _ _ _ _ _ _ _ _ _ _ _ _ _ p _).trans h⟩
  · obtain ⟨a, ha, hb, x, rfl, h⟩ := altRun_ok h
    simp only [List.mem_cons, List.not_mem_nil, or_false] at ha
    subst ha
    · cases hb; exact ⟨p, (spec_SameDesk_l3_ok p n k _ _ _ _ _ _ _ _ _ _ _ _ _ _ _ _ _ _ _ _ _ _ _ _ _ _ p _).trans h⟩
  · obtain ⟨a, ha, hb, x, rfl, h⟩ := altRun_ok h
    simp only [List.mem_cons, List.not_mem_nil, or_false] at ha
    subst ha
    · cases hb; exact ⟨p, (spec_SameDesk_l4_ok p n k _ _ _ _ _ _ _ _ _ _ _ _ _ _ _ _ _ _ _ _ _ _ _ _ _ _ p _).trans h⟩
  · obtain ⟨a, ha, hb, x, rfl, h⟩ := altRun_ok h
    simp only [List.mem_cons, List.not_mem_nil, or_false] at ha
    subst ha
    · cases hb; exact ⟨p, (spec_SameDesk_l5_ok p n k _ _ _ _ _ _ _ _ _ _ _ _ _ _ _ _ _ _ _ _ _ _ _ _ _ _ p _).trans h⟩
  · obtain ⟨a, ha, hb, x, rfl, h⟩ := altRun_ok h
    simp only [List.mem_cons, List.not_mem_nil, or_false] at ha
    subst ha
    · cases hb; exact ⟨p, (spec_SameDesk_l6_ok p n k _ _ _ _ _ _ _ _ _ _ _ _ _ _ _ _ _ _ _ _ _ _ _ _ _ _ p _).trans h⟩
theorem spec_SameDesk_E (p : Nat) : EnvS Try.prog (spec_SameDesk_G p) := by
  apply glist_env; intro f ce h
  simp only [List.mem_cons, List.not_mem_nil, or_false, Prod.mk.injEq] at h
  rcases h with ⟨rfl, rfl⟩ | ⟨rfl, rfl⟩ | ⟨rfl, rfl⟩
  · exact spec_SameNetwork_s p
  · exact spec_l00Same_s p
  · exact spec_l08Same_s p
theorem spec_SameDesk_I (p : Nat) : ∀ f lt, spec_SameDesk_G p f = some (.inl lt) → LTok Try.prog (spec_SameDesk_G p) 5 f lt := by
  apply glist_inl; intro f lt h
  simp only [List.mem_cons, List.not_mem_nil, or_false, Prod.mk.injEq, CE.inl.injEq, and_false, or_false, false_or, reduceCtorEq] at h
  
noncomputable def spec_SameDesk_p (p : Nat) (a0 : (Ty.T TDesk)) (a1 : (Ty.T TDesk)) : Option (Bool × Unit) :=
  ((spec_SameNetwork_p p a0.1 a1.1).bind fun r1 => (bif (!r1.1) then some (false, ())
 else ((spec_l00Same_p p a0.2.1 a1.2.1).bind fun r2 => (bif (!r2.1) then some (false, ())
 else (bif (!((a0.2.2.2.2.2.1.1 == a1.2.2.2.2.2.1.1) && ((a0.2.2.2.2.2.1.2.1 == a1.2.2.2.2.2.1.2.1) && ((a0.2.2.2.2.2.1.2.2 == a1.2.2.2.2.2.1.2.2) && true)))) then some (false, ())
 else (bif ((a0.2.2.1.length : Int) != (a1.2.2.1.length : Int)) then some (false, ())
 else (bif ((a0.2.2.2.1.length : Int) != (a1.2.2.2.1.length : Int)) then some (false, ())
 else (bif ((a0.2.2.2.2.1.length : Int) != (a1.2.2.2.2.1.length : Int)) then some (false, ())
 else (bif ((a0.2.2.2.2.2.2.1.length : Int) != (a1.2.2.2.2.2.2.1.length : Int)) then some (false, ())
 else (bif ((a0.2.2.2.2.2.2.2.1.length : Int) != (a1.2.2.2.2.2.2.2.1.length : Int)) then some (false, ())
 else (bif ((a0.2.2.2.2.2.2.2.2.1.length : Int) != (a1.2.2.2.2.2.2.2.2.1.length : Int)) then some (false, ())
 else (bif ((a0.2.2.2.2.2.2.2.2.2.length : Int) != (a1.2.2.2.2.2.2.2.2.2.length : Int)) then some (false, ())
 else (spec_SameDesk_l0_go p a0.2.2.1 a1.2.2.1 p (0 : Int) (fun o5 => some (o5, ())) (fun _ => (spec_SameDesk_l1_go p a0.2.2.2.1 a1.2.2.2.1 p (0 : Int) (fun o9 => some (o9, ())) (fun _ => (spec_SameDesk_l2_go p a0.2.2.2.2.1 a1.2.2.2.2.1 p (0 : Int) (fun o12 => some (o12, ())) (fun _ => (spec_SameDesk_l3_go p a0.2.2.2.2.2.2.1 a1.2.2.2.2.2.2.1 p (0 : Int) (fun o15 => some (o15, ())) (fun _ => (spec_SameDesk_l4_go p a0.2.2.2.2.2.2.2.1 a1.2.2.2.2.2.2.2.1 p (0 : Int) (fun o18 => some (o18, ())) (fun _ => (spec_SameDesk_l5_go p a0.2.2.2.2.2.2.2.2.1 a1.2.2.2.2.2.2.2.2.1 p (0 : Int) (fun o21 => some (o21, ())) (fun _ => (spec_SameDesk_l6_go p a0.2.2.2.2.2.2.2.2.2 a1.2.2.2.2.2.2.2.2.2 p (0 : Int) (fun o24 => some (o24, ())) (fun _ => some (true, ())))))))))))))))))))))))))))
theorem spec_SameDesk_run (p : Nat) (x : (parsT [.val TDesk, .val TDesk]).T) : acall Try.prog (spec_SameDesk_G p) 5 1 11 (spec_SameDesk_lt p) (argAVs [.val TDesk, .val TDesk] x) ⟨[], 0, []⟩ (outR [.bool]) = spec_SameDesk_p p x.1 x.2.1 := by kernel_rfl
noncomputable def spec_SameDesk_c (p : Nat) : PC := PC.fn true [.val TDesk, .val TDesk] [.bool] fun x => spec_SameDesk_p p x.1 x.2.1
theorem spec_SameDesk_s (p : Nat) : PSound Try.prog 11 (spec_SameDesk_c p) := pure_sound (spec_SameDesk_E p) Try.checked.mixed (spec_SameDesk_I p) (spec_SameDesk_ltok_11 p) (fun _ => rfl) fun x y h => (spec_SameDesk_run p x).trans h
/-! slices.Equal[[]int64,int64] -/
noncomputable def slices_Equal_int64_int64_l0_r {α : Type} (p : Nat) (v0 : List Int) (v1 : List Int) (v2 : Int) (rec : (Int) → Option α) (v3 : Int) (k0 : (Bool) → Option α) (k1 : Unit → Option α) : Option α :=
  (bif (decide (v3 < v2)) then (if 0 ≤ v3 then (v0[v3.toNat]?).bind fun y1 => (if 0 ≤ v3 then (v1[v3.toNat]?).bind fun y2 => (bif (y1 != y2) then (k0 false)
 else (rec (IntKind.wrap .i64 (v3 + (1 : Int))))) else none) else none)
 else (k1 ()))
noncomputable def slices_Equal_int64_int64_l0_go {α : Type} (p : Nat) (v0 : List Int) (v1 : List Int) (v2 : Int) : Nat → (Int) → ((Bool) → Option α) → (Unit → Option α) → Option α
  | 0, _, _, _ => none
  | q + 1, v3, k0, k1 => slices_Equal_int64_int64_l0_r p v0 v1 v2 (fun v3 => slices_Equal_int64_int64_l0_go p v0 v1 v2 q v3 k0 k1) v3 k0 k1
def slices_Equal_int64_int64_l0_sh : Sh := ⟨[⟨0, false, [.sl (.int .i64)]⟩, ⟨1, false, [.sl (.int .i64)]⟩, ⟨12, false, [.int .i64]⟩, ⟨13, false, [.int .i64]⟩], 0, []⟩
noncomputable def slices_Equal_int64_int64_lc0 (p : Nat) : LC := LC.alts 0 [⟨0, slices_Equal_int64_int64_l0_sh, fun x {α} k => slices_Equal_int64_int64_l0_go p x.1.1.1 x.1.2.1.1 x.1.2.2.1.1 p x.1.2.2.2.1.1 (fun o0 => k .ret ⟨[(4, .one ⟨false, [.bool o0]⟩)], 0, []⟩) (fun _ => k (.exit 0) ⟨[], 0, []⟩)⟩]
noncomputable def slices_Equal_int64_int64_lt (p : Nat) : LT := (.node .leaf (.node .leaf (.node (.node .leaf (.loop [0, 1, 12, 13] [4] (some (slices_Equal_int64_int64_lc0 p)) .leaf)) .leaf)))
noncomputable def slices_Equal_int64_int64_G (p : Nat) : FuncId → Option CE := glist []
noncomputable def slices_Equal_int64_int64_c0 : Code := codeAt [1, 1, 0, 1, 0, 0] (bodyOf Try.f66)
noncomputable def slices_Equal_int64_int64_it0 {α : Type} (p n b : Nat) (k : Ex → St → Option α) (q : Nat) (st : St) : Option α :=
  iter (fun s q => aexec Try.prog (slices_Equal_int64_int64_G p) (fun g lt args st (k : D → St → Option α) => acall Try.prog (slices_Equal_int64_int64_G p) 5 (n + 0) g lt args st k) 5 b 26 slices_Equal_int64_int64_c0 .leaf s q) (canon b [0, 1, 12, 13]) q st (fun e s => k e (canon b [4] s))
theorem slices_Equal_int64_int64_l0_step {α : Type} (p n : Nat) (k : Ex → St → Option α) (v0 : List Int) (v1 : List Int) (v2 : Int) (q : Nat) (v3 : Int) : slices_Equal_int64_int64_it0 p n 0 k (q + 1) (slices_Equal_int64_int64_l0_sh.mk' (((v0, ()), (v1, ()), (v2, ()), (v3, ()), ()), (()))) =
  slices_Equal_int64_int64_l0_r p v0 v1 v2 (fun v3 => slices_Equal_int64_int64_it0 p n 0 k q (slices_Equal_int64_int64_l0_sh.mk' (((v0, ()), (v1, ()), (v2, ()), (v3, ()), ()), (())))) v3 (fun o0 => k .ret ⟨[(4, .one ⟨false, [.bool o0]⟩)], 0, []⟩) (fun _ => k (.exit 0) ⟨[], 0, []⟩) := by kernel_rfl
theorem slices_Equal_int64_int64_l0_ok {α : Type} (p n : Nat) (k : Ex → St → Option α) (v0 : List Int) (v1 : List Int) (v2 : Int) : ∀ (q : Nat) (v3 : Int), slices_Equal_int64_int64_it0 p n 0 k q (slices_Equal_int64_int64_l0_sh.mk' (((v0, ()), (v1, ()), (v2, ()), (v3, ()), ()), (()))) =
  slices_Equal_int64_int64_l0_go p v0 v1 v2 q v3 (fun o0 => k .ret ⟨[(4, .one ⟨false, [.bool o0]⟩)], 0, []⟩) (fun _ => k (.exit 0) ⟨[], 0, []⟩) := by
  intro q
  induction q with
  | zero => intros; rfl
  | succ q ih => intro v3; rw [slices_Equal_int64_int64_l0_step]; simp only [ih]; rfl
theorem slices_Equal_int64_int64_ltok_66_ls (p : Nat) : loopsOf (bodyOf Try.f66) (slices_Equal_int64_int64_lt p) = [⟨slices_Equal_int64_int64_c0, [0, 1, 12, 13], [4], slices_Equal_int64_int64_lc0 p, .leaf⟩] := by kernel_rfl
theorem slices_Equal_int64_int64_ltok_66_dep (p : Nat) : LT.dep (slices_Equal_int64_int64_lt p) = 0 := by kernel_rfl
theorem slices_Equal_int64_int64_ltok_66 (p : Nat) : LTok Try.prog (slices_Equal_int64_int64_G p) 5 66 (slices_Equal_int64_int64_lt p) := by
  intro α n base fn c hd hfn hc
  have hfn' : some fn = some Try.f66 := hfn.symm.trans Try.func66
  cases hfn'
  have hc' : c = bodyOf Try.f66 := by unfold bodyOf; rw [hc]; rfl
  subst hc'
  rw [slices_Equal_int64_int64_ltok_66_dep] at hd
  obtain ⟨n, rfl⟩ := Nat.exists_eq_add_of_le' hd
  apply LTS_of_loops
  rw [slices_Equal_int64_int64_ltok_66_ls]
  intro e he st k r h
  simp only [List.mem_cons, List.not_mem_nil, or_false] at he
  subst he
  · obtain ⟨a, ha, hb, x, rfl, h⟩ := altRun_ok h
    simp only [List.mem_cons, List.not_mem_nil, or_false] at ha
    subst ha
    · cases hb; exact ⟨p, (slices_Equal_int64_int64_l0_ok p n k _ _ _ p _).trans h⟩
theorem slices_Equal_int64_int64_E (p : Nat) : EnvS Try.prog (slices_Equal_int64_int64_G p) := by
  apply glist_env; intro f ce h
  simp only [List.mem_cons, List.not_mem_nil, or_false, Prod.mk.injEq] at h
  
theorem slices_Equal_int64_int64_I (p : Nat) : ∀ f lt, slices_Equal_int64_int64_G p f = some (.inl lt) → LTok Try.prog (slices_Equal_int64_int64_G p) 5 f lt := by
  apply glist_inl; intro f lt h
  simp only [List.mem_cons, List.not_mem_nil, or_false, Prod.mk.injEq, CE.inl.injEq, and_false, or_false, false_or, reduceCtorEq] at h
  
noncomputable def slices_Equal_int64_int64_p (p : Nat) (a0 : (List Int)) (a1 : (List Int)) : Option (Bool × Unit) :=
  (bif ((a0.length : Int) != (a1.length : Int)) then some (false, ())
 else (slices_Equal_int64_int64_l0_go p a0 a1 (a0.length : Int) p (0 : Int) (fun o3 => some (o3, ())) (fun _ => some (true, ()))))
theorem slices_Equal_int64_int64_run (p : Nat) (x : (parsT [.val (.slice (.int .i64)), .val (.slice (.int .i64))]).T) : acall Try.prog (slices_Equal_int64_int64_G p) 5 1 66 (slices_Equal_int64_int64_lt p) (argAVs [.val (.slice (.int .i64)), .val (.slice (.int .i64))] x) ⟨[], 0, []⟩ (outR [.bool]) = slices_Equal_int64_int64_p p x.1 x.2.1 := by kernel_rfl
noncomputable def slices_Equal_int64_int64_c (p : Nat) : PC := PC.fn true [.val (.slice (.int .i64)), .val (.slice (.int .i64))] [.bool] fun x => slices_Equal_int64_int64_p p x.1 x.2.1
theorem slices_Equal_int64_int64_s (p : Nat) : PSound Try.prog 66 (slices_Equal_int64_int64_c p) := pure_sound (slices_Equal_int64_int64_E p) Try.checked.mixed (slices_Equal_int64_int64_I p) (slices_Equal_int64_int64_ltok_66 p) (fun _ => rfl) fun x y h => (slices_Equal_int64_int64_run p x).trans h
/-! slices.Equal[[]impl.Pipe,impl.Pipe] -/
noncomputable def slices_Equal_impl_Pipe_impl_Pipe_l0_r {α : Type} (p : Nat) (v0 : List (Ty.T TPipe)) (v1 : List (Ty.T TPipe)) (v2 : Int) (rec : (Int) → Option α) (v3 : Int) (k0 : (Bool) → Option α) (k1 : Unit → Option α) : Option α :=
  (bif (decide (v3 < v2)) then (if 0 ≤ v3 then (v0[v3.toNat]?).bind fun y1 => (if 0 ≤ v3 then (v1[v3.toNat]?).bind fun y2 => (bif (!((y1.1.toList == y2.1.toList) && ((y1.2.1 == y2.2.1) && ((y1.2.2.1 == y2.2.2.1) && ((y1.2.2.2.1 == y2.2.2.2.1) && ((y1.2.2.2.2.1 == y2.2.2.2.2.1) && ((y1.2.2.2.2.2 == y2.2.2.2.2.2) && true))))))) then (k0 false)
 else (rec (IntKind.wrap .i64 (v3 + (1 : Int))))) else none) else none)
 else (k1 ()))
noncomputable def slices_Equal_impl_Pipe_impl_Pipe_l0_go {α : Type} (p : Nat) (v0 : List (Ty.T TPipe)) (v1 : List (Ty.T TPipe)) (v2 : Int) : Nat → (Int) → ((Bool) → Option α) → (Unit → Option α) → Option α
  | 0, _, _, _ => none
  | q + 1, v3, k0, k1 => slices_Equal_impl_Pipe_impl_Pipe_l0_r p v0 v1 v2 (fun v3 => slices_Equal_impl_Pipe_impl_Pipe_l0_go p v0 v1 v2 q v3 k0 k1) v3 k0 k1
def slices_Equal_impl_Pipe_impl_Pipe_l0_sh : Sh := ⟨[⟨0, false, [.sl TPipe]⟩, ⟨1, false, [.sl TPipe]⟩, ⟨12, false, [.int .i64]⟩, ⟨13, false, [.int .i64]⟩], 0, []⟩
noncomputable def slices_Equal_impl_Pipe_impl_Pipe_lc0 (p : Nat) : LC := LC.alts 0 [⟨0, slices_Equal_impl_Pipe_impl_Pipe_l0_sh, fun x {α} k => slices_Equal_impl_Pipe_impl_Pipe_l0_go p x.1.1.1 x.1.2.1.1 x.1.2.2.1.1 p x.1.2.2.2.1.1 (fun o0 => k .ret ⟨[(4, .one ⟨false, [.bool o0]⟩)], 0, []⟩) (fun _ => k (.exit 0) ⟨[], 0, []⟩)⟩]
noncomputable def slices_Equal_impl_Pipe_impl_Pipe_lt (p : Nat) : LT := (.node .leaf (.node .leaf (.node (.node .leaf (.loop [0, 1, 12, 13] [4] (some (slices_Equal_impl_Pipe_impl_Pipe_lc0 p)) .leaf)) .leaf)))
noncomputable def slices_Equal_impl_Pipe_impl_Pipe_G (p : Nat) : FuncId → Option CE := glist []
noncomputable def slices_Equal_impl_Pipe_impl_Pipe_c0 : Code := codeAt [1, 1, 0, 1, 0, 0] (bodyOf Try.f104)
noncomputable def slices_Equal_impl_Pipe_impl_Pipe_it0 {α : Type} (p n b : Nat) (k : Ex → St → Option α) (q : Nat) (st : St) : Option α :=
  iter (fun s q => aexec Try.prog (slices_Equal_impl_Pipe_impl_Pipe_G p) (fun g lt args st (k : D → St → Option α) => acall Try.prog (slices_Equal_impl_Pipe_impl_Pipe_G p) 5 (n + 0) g lt args st k) 5 b 26 slices_Equal_impl_Pipe_impl_Pipe_c0 .leaf s q) (canon b [0, 1, 12, 13]) q st (fun e s => k e (canon b [4] s))
theorem slices_Equal_impl_Pipe_impl_Pipe_l0_step {α : Type} (p n : Nat) (k : Ex → St → Option α) (v0 : List (Ty.T TPipe)) (v1 : List (Ty.T TPipe)) (v2 : Int) (q : Nat) (v3 : Int) : slices_Equal_impl_Pipe_impl_Pipe_it0 p n 0 k (q + 1) (slices_Equal_impl_Pipe_impl_Pipe_l0_sh.mk' (((v0, ()), (v1, ()), (v2, ()), (v3, ()), ()), (()))) =
  slices_Equal_impl_Pipe_impl_Pipe_l0_r p v0 v1 v2 (fun v3 => slices_Equal_impl_Pipe_impl_Pipe_it0 p n 0 k q (slices_Equal_impl_Pipe_impl_Pipe_l0_sh.mk' (((v0, ()), (v1, ()), (v2, ()), (v3, ()), ()), (())))) v3 (fun o0 => k .ret ⟨[(4, .one ⟨false, [.bool o0]⟩)], 0, []⟩) (fun _ => k (.exit 0) ⟨[], 0, []⟩) := by kernel_rfl
theorem slices_Equal_impl_Pipe_impl_Pipe_l0_ok {α : Type} (p n : Nat) (k : Ex → St → Option α) (v0 : List (Ty.T TPipe)) (v1 : List (Ty.T TPipe)) (v2 : Int) : ∀ (q : Nat) (v3 : Int), slices_Equal_impl_Pipe_impl_Pipe_it0 p n 0 k q (slices_Equal_impl_Pipe_impl_Pipe_l0_sh.mk' (((v0, ()), (v1, ()), (v2, ()), (v3, ()), ()), (()))) =
  slices_Equal_impl_Pipe_impl_Pipe_l0_go p v0 v1 v2 q v3 (fun o0 => k .ret ⟨[(4, .one ⟨false, [.bool o0]⟩)], 0, []⟩) (fun _ => k (.exit 0) ⟨[], 0, []⟩) := by
  intro q
  induction q with
  | zero => intros; rfl
  | succ q ih => intro v3; rw [slices_Equal_impl_Pipe_impl_Pipe_l0_step]; simp only [ih]; rfl
theorem slices_Equal_impl_Pipe_impl_Pipe_ltok_104_ls (p : Nat) : loopsOf (bodyOf Try.f104) (slices_Equal_impl_Pipe_impl_Pipe_lt p) = [⟨slices_Equal_impl_Pipe_impl_Pipe_c0, [0, 1, 12, 13], [4], slices_Equal_impl_Pipe_impl_Pipe_lc0 p, .leaf⟩] := by kernel_rfl
theorem slices_Equal_impl_Pipe_impl_Pipe_ltok_104_dep (p : Nat) : LT.dep (slices_Equal_impl_Pipe_impl_Pipe_lt p) = 0 := by kernel_rfl
theorem slices_Equal_impl_Pipe_impl_Pipe_ltok_104 (p : Nat) : LTok Try.prog (slices_Equal_impl_Pipe_impl_Pipe_G p) 5 104 (slices_Equal_impl_Pipe_impl_Pipe_lt p) := by
  intro α n base fn c hd hfn hc
  have hfn' : some fn = some Try.f104 := hfn.symm.trans Try.func104
  cases hfn'
  have hc' : c = bodyOf Try.f104 := by unfold bodyOf; rw [hc]; rfl
  subst hc'
  rw [slices_Equal_impl_Pipe_impl_Pipe_ltok_104_dep] at hd
  obtain ⟨n, rfl⟩ := Nat.exists_eq_add_of_le' hd
  apply LTS_of_loops
  rw [slices_Equal_impl_Pipe_impl_Pipe_ltok_104_ls]
  intro e he st k r h
  simp only [List.mem_cons, List.not_mem_nil, or_false] at he
  subst he
  · obtain ⟨a, ha, hb, x, rfl, h⟩ := altRun_ok h
    simp only [List.mem_cons, List.not_mem_nil, or_false] at ha
    subst ha
    · cases hb; exact ⟨p, (slices_Equal_impl_Pipe_impl_Pipe_l0_ok p n k _ _ _ p _).trans h⟩
theorem slices_Equal_impl_Pipe_impl_Pipe_E (p : Nat) : EnvS Try.prog (slices_Equal_impl_Pipe_impl_Pipe_G p) := by
  apply glist_env; intro f ce h
  simp only [List.mem_cons, List.not_mem_nil, or_false, Prod.mk.injEq] at h
  
theorem slices_Equal_impl_Pipe_impl_Pipe_I (p : Nat) : ∀ f lt, slices_Equal_impl_Pipe_impl_Pipe_G p f = some (.inl lt) → LTok Try.prog (slices_Equal_impl_Pipe_impl_Pipe_G p) 5 f lt := by
  apply glist_inl; intro f lt h
  simp only [List.mem_cons, List.not_mem_nil, or_false, Prod.mk.injEq, CE.inl.injEq, and_false, or_false, false_or, reduceCtorEq] at h
  
noncomputable def slices_Equal_impl_Pipe_impl_Pipe_p (p : Nat) (a0 : (List (Ty.T TPipe))) (a1 : (List (Ty.T TPipe))) : Option (Bool × Unit) :=
  (bif ((a0.length : Int) != (a1.length : Int)) then some (false, ())
 else (slices_Equal_impl_Pipe_impl_Pipe_l0_go p a0 a1 (a0.length : Int) p (0 : Int) (fun o3 => some (o3, ())) (fun _ => some (true, ()))))
theorem slices_Equal_impl_Pipe_impl_Pipe_run (p : Nat) (x : (parsT [.val (.slice TPipe), .val (.slice TPipe)]).T) : acall Try.prog (slices_Equal_impl_Pipe_impl_Pipe_G p) 5 1 104 (slices_Equal_impl_Pipe_impl_Pipe_lt p) (argAVs [.val (.slice TPipe), .val (.slice TPipe)] x) ⟨[], 0, []⟩ (outR [.bool]) = slices_Equal_impl_Pipe_impl_Pipe_p p x.1 x.2.1 := by kernel_rfl
noncomputable def slices_Equal_impl_Pipe_impl_Pipe_c (p : Nat) : PC := PC.fn true [.val (.slice TPipe), .val (.slice TPipe)] [.bool] fun x => slices_Equal_impl_Pipe_impl_Pipe_p p x.1 x.2.1
theorem slices_Equal_impl_Pipe_impl_Pipe_s (p : Nat) : PSound Try.prog 104 (slices_Equal_impl_Pipe_impl_Pipe_c p) := pure_sound (slices_Equal_impl_Pipe_impl_Pipe_E p) Try.checked.mixed (slices_Equal_impl_Pipe_impl_Pipe_I p) (slices_Equal_impl_Pipe_impl_Pipe_ltok_104 p) (fun _ => rfl) fun x y h => (slices_Equal_impl_Pipe_impl_Pipe_run p x).trans h
/-! impl.SameNetwork -/
noncomputable def impl_SameNetwork_G (p : Nat) : FuncId → Option CE := glist [(66, .pure (slices_Equal_int64_int64_c p)), (104, .pure (slices_Equal_impl_Pipe_impl_Pipe_c p))]
theorem impl_SameNetwork_E (p : Nat) : EnvS Try.prog (impl_SameNetwork_G p) := by
  apply glist_env; intro f ce h
  simp only [List.mem_cons, List.not_mem_nil, or_false, Prod.mk.injEq] at h
  rcases h with ⟨rfl, rfl⟩ | ⟨rfl, rfl⟩
  · exact slices_Equal_int64_int64_s p
  · exact slices_Equal_impl_Pipe_impl_Pipe_s p
theorem impl_SameNetwork_I (p : Nat) : ∀ f lt, impl_SameNetwork_G p f = some (.inl lt) → LTok Try.prog (impl_SameNetwork_G p) 5 f lt := by
  apply glist_inl; intro f lt h
  simp only [List.mem_cons, List.not_mem_nil, or_false, Prod.mk.injEq, CE.inl.injEq, and_false, or_false, false_or, reduceCtorEq] at h
  
noncomputable def impl_SameNetwork_p (p : Nat) (a0 : (Ty.T TNetwork)) (a1 : (Ty.T TNetwork)) : Option (Bool × Unit) :=
  ((slices_Equal_int64_int64_p p a0.1 a1.1).bind fun r1 => (bif r1.1 then ((slices_Equal_impl_Pipe_impl_Pipe_p p a0.2 a1.2).bind fun r2 => some (r2.1, ()))
 else some (false, ())))
theorem impl_SameNetwork_run (p : Nat) (x : (parsT [.val TNetwork, .val TNetwork]).T) : acall Try.prog (impl_SameNetwork_G p) 5 1 65 .leaf (argAVs [.val TNetwork, .val TNetwork] x) ⟨[], 0, []⟩ (outR [.bool]) = impl_SameNetwork_p p x.1 x.2.1 := by kernel_rfl
noncomputable def impl_SameNetwork_c (p : Nat) : PC := PC.fn true [.val TNetwork, .val TNetwork] [.bool] fun x => impl_SameNetwork_p p x.1 x.2.1
theorem impl_SameNetwork_s (p : Nat) : PSound Try.prog 65 (impl_SameNetwork_c p) := pure_sound (impl_SameNetwork_E p) Try.checked.mixed (impl_SameNetwork_I p) LTok_leaf (fun _ => rfl) fun x y h => (impl_SameNetwork_run p x).trans h
/-! slices.Equal[[]impl.Valve,impl.Valve] -/
noncomputable def slices_Equal_impl_Valve_impl_Valve_l0_r {α : Type} (p : Nat) (v0 : List (Ty.T TValve)) (v1 : List (Ty.T TValve)) (v2 : Int) (rec : (Int) → Option α) (v3 : Int) (k0 : (Bool) → Option α) (k1 : Unit → Option α) : Option α :=
  (bif (decide (v3 < v2)) then (if 0 ≤ v3 then (v0[v3.toNat]?).bind fun y1 => (if 0 ≤ v3 then (v1[v3.toNat]?).bind fun y2 => (bif (!((y1.1.toList == y2.1.toList) && ((y1.2.1.toList == y2.2.1.toList) && ((y1.2.2 == y2.2.2) && true)))) then (k0 false)
 else (rec (IntKind.wrap .i64 (v3 + (1 : Int))))) else none) else none)
 else (k1 ()))
noncomputable def slices_Equal_impl_Valve_impl_Valve_l0_go {α : Type} (p : Nat) (v0 : List (Ty.T TValve)) (v1 : List (Ty.T TValve)) (v2 : Int) : Nat → (Int) → ((Bool) → Option α) → (Unit → Option α) → Option α
  | 0, _, _, _ => none
  | q + 1, v3, k0, k1 => slices_Equal_impl_Valve_impl_Valve_l0_r p v0 v1 v2 (fun v3 => slices_Equal_impl_Valve_impl_Valve_l0_go p v0 v1 v2 q v3 k0 k1) v3 k0 k1
def slices_Equal_impl_Valve_impl_Valve_l0_sh : Sh := ⟨[⟨0, false, [.sl TValve]⟩, ⟨1, false, [.sl TValve]⟩, ⟨12, false, [.int .i64]⟩, ⟨13, false, [.int .i64]⟩], 0, []⟩
noncomputable def slices_Equal_impl_Valve_impl_Valve_lc0 (p : Nat) : LC := LC.alts 0 [⟨0, slices_Equal_impl_Valve_impl_Valve_l0_sh, fun x {α} k => slices_Equal_impl_Valve_impl_Valve_l0_go p x.1.1.1 x.1.2.1.1 x.1.2.2.1.1 p x.1.2.2.2.1.1 (fun o0 => k .ret ⟨[(4, .one ⟨false, [.bool o0]⟩)], 0, []⟩) (fun _ => k (.exit 0) ⟨[], 0, []⟩)⟩]
noncomputable def slices_Equal_impl_Valve_impl_Valve_lt (p : Nat) : LT := (.node .leaf (.node .leaf (.node (.node .leaf (.loop [0, 1, 12, 13] [4] (some (slices_Equal_impl_Valve_impl_Valve_lc0 p)) .leaf)) .leaf)))
noncomputable def slices_Equal_impl_Valve_impl_Valve_G (p : Nat) : FuncId → Option CE := glist []
noncomputable def slices_Equal_impl_Valve_impl_Valve_c0 : Code := codeAt [1, 1, 0, 1, 0, 0] (bodyOf Try.f67)
noncomputable def slices_Equal_impl_Valve_impl_Valve_it0 {α : Type} (p n b : Nat) (k : Ex → St → Option α) (q : Nat) (st : St) : Option α :=
  iter (fun s q => aexec Try.prog (slices_Equal_impl_Valve_impl_Valve_G p) (fun g lt args st (k : D → St → Option α) => acall Try.prog (slices_Equal_impl_Valve_impl_Valve_G p) 5 (n + 0) g lt args st k) 5 b 26 slices_Equal_impl_Valve_impl_Valve_c0 .leaf s q) (canon b [0, 1, 12, 13]) q st (fun e s => k e (canon b [4] s))
theorem slices_Equal_impl_Valve_impl_Valve_l0_step {α : Type} (p n : Nat) (k : Ex → St → Option α) (v0 : List (Ty.T TValve)) (v1 : List (Ty.T TValve)) (v2 : Int) (q : Nat) (v3 : Int) : slices_Equal_impl_Valve_impl_Valve_it0 p n 0 k (q + 1) (slices_Equal_impl_Valve_impl_Valve_l0_sh.mk' (((v0, ()), (v1, ()), (v2, ()), (v3, ()), ()), (()))) =
  slices_Equal_impl_Valve_impl_Valve_l0_r p v0 v1 v2 (fun v3 => slices_Equal_impl_Valve_impl_Valve_it0 p n 0 k q (slices_Equal_impl_Valve_impl_Valve_l0_sh.mk' (((v0, ()), (v1, ()), (v2, ()), (v3, ()), ()), (())))) v3 (fun o0 => k .ret ⟨[(4, .one ⟨false, [.bool o0]⟩)], 0, []⟩) (fun _ => k (.exit 0) ⟨[], 0, []⟩) := by kernel_rfl
theorem slices_Equal_impl_Valve_impl_Valve_l0_ok {α : Type} (p n : Nat) (k : Ex → St → Option α) (v0 : List (Ty.T TValve)) (v1 : List (Ty.T TValve)) (v2 : Int) : ∀ (q : Nat) (v3 : Int), slices_Equal_impl_Valve_impl_Valve_it0 p n 0 k q (slices_Equal_impl_Valve_impl_Valve_l0_sh.mk' (((v0, ()), (v1, ()), (v2, ()), (v3, ()), ()), (()))) =
  slices_Equal_impl_Valve_impl_Valve_l0_go p v0 v1 v2 q v3 (fun o0 => k .ret ⟨[(4, .one ⟨false, [.bool o0]⟩)], 0, []⟩) (fun _ => k (.exit 0) ⟨[], 0, []⟩) := by
  intro q
  induction q with
  | zero => intros; rfl
  | succ q ih => intro v3; rw [slices_Equal_impl_Valve_impl_Valve_l0_step]; simp only [ih]; rfl
theorem slices_Equal_impl_Valve_impl_Valve_ltok_67_ls (p : Nat) : loopsOf (bodyOf Try.f67) (slices_Equal_impl_Valve_impl_Valve_lt p) = [⟨slices_Equal_impl_Valve_impl_Valve_c0, [0, 1, 12, 13], [4], slices_Equal_impl_Valve_impl_Valve_lc0 p, .leaf⟩] := by kernel_rfl
theorem slices_Equal_impl_Valve_impl_Valve_ltok_67_dep (p : Nat) : LT.dep (slices_Equal_impl_Valve_impl_Valve_lt p) = 0 := by kernel_rfl
theorem slices_Equal_impl_Valve_impl_Valve_ltok_67 (p : Nat) : LTok Try.prog (slices_Equal_impl_Valve_impl_Valve_G p) 5 67 (slices_Equal_impl_Valve_impl_Valve_lt p) := by
  intro α n base fn c hd hfn hc
  have hfn' : some fn = some Try.f67 := hfn.symm.trans Try.func67
  cases hfn'
  have hc' : c = bodyOf Try.f67 := by unfold bodyOf; rw [hc]; rfl
  subst hc'
  rw [slices_Equal_impl_Valve_impl_Valve_ltok_67_dep] at hd
  obtain ⟨n, rfl⟩ := Nat.exists_eq_add_of_le' hd
  apply LTS_of_loops
  rw [slices_Equal_impl_Valve_impl_Valve_ltok_67_ls]
  intro e he st k r h
  simp only [List.mem_cons, List.not_mem_nil, or_false] at he
  subst he
  · obtain ⟨a, ha, hb, x, rfl, h⟩ := altRun_ok h
    simp only [List.mem_cons, List.not_mem_nil, or_false] at ha
    subst ha
    · cases hb; exact ⟨p, (slices_Equal_impl_Valve_impl_Valve_l0_ok p n k _ _ _ p _).trans h⟩
theorem slices_Equal_impl_Valve_impl_Valve_E (p : Nat) : EnvS Try.prog (slices_Equal_impl_Valve_impl_Valve_G p) := by
  apply glist_env; intro f ce h
  simp only [List.mem_cons, List.not_mem_nil, or_false, Prod.mk.injEq] at h
  
theorem slices_Equal_impl_Valve_impl_Valve_I (p : Nat) : ∀ f lt, slices_Equal_impl_Valve_impl_Valve_G p f = some (.inl lt) → LTok Try.prog (slices_Equal_impl_Valve_impl_Valve_G p) 5 f lt := by
  apply glist_inl; intro f lt h
  simp only [List.mem_cons, List.not_mem_nil, or_false, Prod.mk.injEq, CE.inl.injEq, and_false, or_false, false_or, reduceCtorEq] at h
  
noncomputable def slices_Equal_impl_Valve_impl_Valve_p (p : Nat) (a0 : (List (Ty.T TValve))) (a1 : (List (Ty.T TValve))) : Option (Bool × Unit) :=
  (bif ((a0.length : Int) != (a1.length : Int)) then some (false, ())
 else (slices_Equal_impl_Valve_impl_Valve_l0_go p a0 a1 (a0.length : Int) p (0 : Int) (fun o3 => some (o3, ())) (fun _ => some (true, ()))))
theorem slices_Equal_impl_Valve_impl_Valve_run (p : Nat) (x : (parsT [.val (.slice TValve), .val (.slice TValve)]).T) : acall Try.prog (slices_Equal_impl_Valve_impl_Valve_G p) 5 1 67 (slices_Equal_impl_Valve_impl_Valve_lt p) (argAVs [.val (.slice TValve), .val (.slice TValve)] x) ⟨[], 0, []⟩ (outR [.bool]) = slices_Equal_impl_Valve_impl_Valve_p p x.1 x.2.1 := by kernel_rfl
noncomputable def slices_Equal_impl_Valve_impl_Valve_c (p : Nat) : PC := PC.fn true [.val (.slice TValve), .val (.slice TValve)] [.bool] fun x => slices_Equal_impl_Valve_impl_Valve_p p x.1 x.2.1
theorem slices_Equal_impl_Valve_impl_Valve_s (p : Nat) : PSound Try.prog 67 (slices_Equal_impl_Valve_impl_Valve_c p) := pure_sound (slices_Equal_impl_Valve_impl_Valve_E p) Try.checked.mixed (slices_Equal_impl_Valve_impl_Valve_I p) (slices_Equal_impl_Valve_impl_Valve_ltok_67 p) (fun _ => rfl) fun x y h => (slices_Equal_impl_Valve_impl_Valve_run p x).trans h
/-! impl.SamePump -/
noncomputable def impl_SamePump_l0_r {α : Type} (p : Nat) (v0 : List (List Int)) (v1 : List (List Int)) (v2 : Int) (rec : (Int) → Option α) (v3 : Int) (k0 : (Bool) → Option α) (k1 : Unit → Option α) : Option α :=
  (bif (decide (v3 < v2)) then (if 0 ≤ v3 then (v1[v3.toNat]?).bind fun y1 => (if 0 ≤ v3 then (v0[v3.toNat]?).bind fun y2 => ((slices_Equal_int64_int64_p p y1 y2).bind fun r3 => (bif (!r3.1) then (k0 false)
 else (rec (IntKind.wrap .i64 (v3 + (1 : Int)))))) else none) else none)
 else (k1 ()))
noncomputable def impl_SamePump_l0_go {α : Type} (p : Nat) (v0 : List (List Int)) (v1 : List (List Int)) (v2 : Int) : Nat → (Int) → ((Bool) → Option α) → (Unit → Option α) → Option α
  | 0, _, _, _ => none
  | q + 1, v3, k0, k1 => impl_SamePump_l0_r p v0 v1 v2 (fun v3 => impl_SamePump_l0_go p v0 v1 v2 q v3 k0 k1) v3 k0 k1
def impl_SamePump_l0_sh : Sh := ⟨[⟨1, false, [.sl (.slice (.int .i64))]⟩, ⟨2, false, [.lit (.fn 66 [])]⟩, ⟨15, false, [.sl (.slice (.int .i64))]⟩, ⟨16, false, [.int .i64]⟩, ⟨17, false, [.int .i64]⟩], 2, [(1, .box [.str, .sl (.slice (.int .i64))]), (0, .box [.str, .sl (.slice (.int .i64))])]⟩
noncomputable def impl_SamePump_lc0 (p : Nat) : LC := LC.alts 0 [⟨2, impl_SamePump_l0_sh, fun x {α} k => impl_SamePump_l0_go p x.1.1.1 x.1.2.2.1.1 x.1.2.2.2.1.1 p x.1.2.2.2.2.1.1 (fun o0 => k .ret ⟨[(6, .one ⟨false, [.bool o0]⟩)], 2, [(1, .box [.str x.2.1.1, .sl (.slice (.int .i64)) x.2.1.2.1]), (0, .box [.str x.2.2.1.1, .sl (.slice (.int .i64)) x.2.2.1.2.1])]⟩) (fun _ => k (.exit 0) ⟨[], 2, [(1, .box [.str x.2.1.1, .sl (.slice (.int .i64)) x.2.1.2.1]), (0, .box [.str x.2.2.1.1, .sl (.slice (.int .i64)) x.2.2.1.2.1])]⟩)⟩]
noncomputable def impl_SamePump_lt_105 (p : Nat) : LT := (.node .leaf (.node .leaf (.node (.node .leaf (.loop [1, 2, 15, 16, 17] [6] (some (impl_SamePump_lc0 p)) .leaf)) .leaf)))
noncomputable def impl_SamePump_G (p : Nat) : FuncId → Option CE := glist [(66, .pure (slices_Equal_int64_int64_c p)), (105, .inl (impl_SamePump_lt_105 p))]
noncomputable def impl_SamePump_c0 : Code := codeAt [1, 1, 0, 1, 0, 0] (bodyOf Try.f105)
noncomputable def impl_SamePump_it0 {α : Type} (p n b : Nat) (k : Ex → St → Option α) (q : Nat) (st : St) : Option α :=
  iter (fun s q => aexec Try.prog (impl_SamePump_G p) (fun g lt args st (k : D → St → Option α) => acall Try.prog (impl_SamePump_G p) 5 (n + 0) g lt args st k) 5 b 32 impl_SamePump_c0 .leaf s q) (canon b [1, 2, 15, 16, 17]) q st (fun e s => k e (canon b [6] s))
theorem impl_SamePump_l0_step {α : Type} (p n : Nat) (k : Ex → St → Option α) (v0 : List (List Int)) (v1 : List (List Int)) (v2 : Int) (v4 : ByteArray) (v5 : List (List Int)) (v6 : ByteArray) (v7 : List (List Int)) (q : Nat) (v3 : Int) : impl_SamePump_it0 p n 2 k (q + 1) (impl_SamePump_l0_sh.mk' (((v0, ()), ((), ()), (v1, ()), (v2, ()), (v3, ()), ()), ((v4, v5, ()), (v6, v7, ()), ()))) =
  impl_SamePump_l0_r p v0 v1 v2 (fun v3 => impl_SamePump_it0 p n 2 k q (impl_SamePump_l0_sh.mk' (((v0, ()), ((), ()), (v1, ()), (v2, ()), (v3, ()), ()), ((v4, v5, ()), (v6, v7, ()), ())))) v3 (fun o0 => k .ret ⟨[(6, .one ⟨false, [.bool o0]⟩)], 2, [(1, .box [.str v4, .sl (.slice (.int .i64)) v5]), (0, .box [.str v6, .sl (.slice (.int .i64)) v7])]⟩) (fun _ => k (.exit 0) ⟨[], 2, [(1, .box [.str v4, .sl (.slice (.int .i64)) v5]), (0, .box [.str v6, .sl (.slice (.int .i64)) v7])]⟩) := by kernel_rfl
theorem impl_SamePump_l0_ok {α : Type} (p n : Nat) (k : Ex → St → Option α) (v0 : List (List Int)) (v1 : List (List Int)) (v2 : Int) (v4 : ByteArray) (v5 : List (List Int)) (v6 : ByteArray) (v7 : List (List Int)) : ∀ (q : Nat) (v3 : Int), impl_SamePump_it0 p n 2 k q (impl_SamePump_l0_sh.mk' (((v0, ()), ((), ()), (v1, ()), (v2, ()), (v3, ()), ()), ((v4, v5, ()), (v6, v7, ()), ()))) =
  impl_SamePump_l0_go p v0 v1 v2 q v3 (fun o0 => k .ret ⟨[(6, .one ⟨false, [.bool o0]⟩)], 2, [(1, .box [.str v4, .sl (.slice (.int .i64)) v5]), (0, .box [.str v6, .sl (.slice (.int .i64)) v7])]⟩) (fun _ => k (.exit 0) ⟨[], 2, [(1, .box [.str v4, .sl (.slice (.int .i64)) v5]), (0, .box [.str v6, .sl (.slice (.int .i64)) v7])]⟩) := by
  intro q
  induction q with
  | zero => intros; rfl
  | succ q ih => intro v3; rw [impl_SamePump_l0_step]; simp only [ih]; rfl
theorem impl_SamePump_ltok_105_ls (p : Nat) : loopsOf (bodyOf Try.f105) (impl_SamePump_lt_105 p) = [⟨impl_SamePump_c0, [1, 2, 15, 16, 17], [6], impl_SamePump_lc0 p, .leaf⟩] := by kernel_rfl
theorem impl_SamePump_ltok_105_dep (p : Nat) : LT.dep (impl_SamePump_lt_105 p) = 0 := by kernel_rfl
theorem impl_SamePump_ltok_105 (p : Nat) : LTok Try.prog (impl_SamePump_G p) 5 105 (impl_SamePump_lt_105 p) := by
  intro α n base fn c hd hfn hc
  have hfn' : some fn = some Try.f105 := hfn.symm.trans Try.func105
  cases hfn'
  have hc' : c = bodyOf Try.f105 := by unfold bodyOf; rw [hc]; rfl
  subst hc'
  rw [impl_SamePump_ltok_105_dep] at hd
  obtain ⟨n, rfl⟩ := Nat.exists_eq_add_of_le' hd
  apply LTS_of_loops
  rw [impl_SamePump_ltok_105_ls]
  intro e he st k r h
  simp only [List.mem_cons, List.not_mem_nil, or_false] at he
  subst he
  · obtain ⟨a, ha, hb, x, rfl, h⟩ := altRun_ok h
    simp only [List.mem_cons, List.not_mem_nil, or_false] at ha
    subst ha
    · cases hb; exact ⟨p, (impl_SamePump_l0_ok p n k _ _ _ _ _ _ _ p _).trans h⟩
theorem impl_SamePump_E (p : Nat) : EnvS Try.prog (impl_SamePump_G p) := by
  apply glist_env; intro f ce h
  simp only [List.mem_cons, List.not_mem_nil, or_false, Prod.mk.injEq] at h
  rcases h with ⟨rfl, rfl⟩ | ⟨rfl, rfl⟩
  · exact slices_Equal_int64_int64_s p
  · exact trivial
theorem impl_SamePump_I (p : Nat) : ∀ f lt, impl_SamePump_G p f = some (.inl lt) → LTok Try.prog (impl_SamePump_G p) 5 f lt := by
  apply glist_inl; intro f lt h
  simp only [List.mem_cons, List.not_mem_nil, or_false, Prod.mk.injEq, CE.inl.injEq, and_false, or_false, false_or, reduceCtorEq] at h
  rcases h with ⟨rfl, rfl⟩
  · exact (impl_SamePump_ltok_105 p)
noncomputable def impl_SamePump_p (p : Nat) (a0 : (Ty.T TPump)) (a1 : (Ty.T TPump)) : Option (Bool × Unit) :=
  (bif (a0.1.toList == a1.1.toList) then (bif ((a0.2.length : Int) != (a1.2.length : Int)) then some (false, ())
 else (impl_SamePump_l0_go p a1.2 a0.2 (a0.2.length : Int) p (0 : Int) (fun o4 => some (o4, ())) (fun _ => some (true, ()))))
 else some (false, ()))
theorem impl_SamePump_run (p : Nat) (x : (parsT [.val TPump, .val TPump]).T) : acall Try.prog (impl_SamePump_G p) 5 2 69 .leaf (argAVs [.val TPump, .val TPump] x) ⟨[], 0, []⟩ (outR [.bool]) = impl_SamePump_p p x.1 x.2.1 := by kernel_rfl
noncomputable def impl_SamePump_c (p : Nat) : PC := PC.fn true [.val TPump, .val TPump] [.bool] fun x => impl_SamePump_p p x.1 x.2.1
theorem impl_SamePump_s (p : Nat) : PSound Try.prog 69 (impl_SamePump_c p) := pure_sound (impl_SamePump_E p) Try.checked.mixed (impl_SamePump_I p) LTok_leaf (fun _ => rfl) fun x y h => (impl_SamePump_run p x).trans h
/-! slices.Equal[[]impl.Substation,impl.Substation] -/
noncomputable def slices_Equal_impl_Substation_impl_Substation_l0_r {α : Type} (p : Nat) (v0 : List (Ty.T TSubstation)) (v1 : List (Ty.T TSubstation)) (v2 : Int) (rec : (Int) → Option α) (v3 : Int) (k0 : (Bool) → Option α) (k1 : Unit → Option α) : Option α :=
  (bif (decide (v3 < v2)) then (if 0 ≤ v3 then (v0[v3.toNat]?).bind fun y1 => (if 0 ≤ v3 then (v1[v3.toNat]?).bind fun y2 => (bif (!((y1.1.toList == y2.1.toList) && ((y1.2.1 == y2.2.1) && ((y1.2.2.1 == y2.2.2.1) && ((y1.2.2.2.1 == y2.2.2.2.1) && ((y1.2.2.2.2 == y2.2.2.2.2) && true)))))) then (k0 false)
 else (rec (IntKind.wrap .i64 (v3 + (1 : Int))))) else none) else none)
 else (k1 ()))
noncomputable def slices_Equal_impl_Substation_impl_Substation_l0_go {α : Type} (p : Nat) (v0 : List (Ty.T TSubstation)) (v1 : List (Ty.T TSubstation)) (v2 : Int) : Nat → (Int) → ((Bool) → Option α) → (Unit → Option α) → Option α
  | 0, _, _, _ => none
  | q + 1, v3, k0, k1 => slices_Equal_impl_Substation_impl_Substation_l0_r p v0 v1 v2 (fun v3 => slices_Equal_impl_Substation_impl_Substation_l0_go p v0 v1 v2 q v3 k0 k1) v3 k0 k1
def slices_Equal_impl_Substation_impl_Substation_l0_sh : Sh := ⟨[⟨0, false, [.sl TSubstation]⟩, ⟨1, false, [.sl TSubstation]⟩, ⟨12, false, [.int .i64]⟩, ⟨13, false, [.int .i64]⟩], 0, []⟩
noncomputable def slices_Equal_impl_Substation_impl_Substation_lc0 (p : Nat) : LC := LC.alts 0 [⟨0, slices_Equal_impl_Substation_impl_Substation_l0_sh, fun x {α} k => slices_Equal_impl_Substation_impl_Substation_l0_go p x.1.1.1 x.1.2.1.1 x.1.2.2.1.1 p x.1.2.2.2.1.1 (fun o0 => k .ret ⟨[(4, .one ⟨false, [.bool o0]⟩)], 0, []⟩) (fun _ => k (.exit 0) ⟨[], 0, []⟩)⟩]
noncomputable def slices_Equal_impl_Substation_impl_Substation_lt (p : Nat) : LT := (.node .leaf (.node .leaf (.node (.node .leaf (.loop [0, 1, 12, 13] [4] (some (slices_Equal_impl_Substation_impl_Substation_lc0 p)) .leaf)) .leaf)))
noncomputable def slices_Equal_impl_Substation_impl_Substation_G (p : Nat) : FuncId → Option CE := glist []
noncomputable def slices_Equal_impl_Substation_impl_Substation_c0 : Code := codeAt [1, 1, 0, 1, 0, 0] (bodyOf Try.f70)
noncomputable def slices_Equal_impl_Substation_impl_Substation_it0 {α : Type} (p n b : Nat) (k : Ex → St → Option α) (q : Nat) (st : St) : Option α :=
  iter (fun s q => aexec Try.prog (slices_Equal_impl_Substation_impl_Substation_G p) (fun g lt args st (k : D → St → Option α) => acall Try.prog (slices_Equal_impl_Substation_impl_Substation_G p) 5 (n + 0) g lt args st k) 5 b 26 slices_Equal_impl_Substation_impl_Substation_c0 .leaf s q) (canon b [0, 1, 12, 13]) q st (fun e s => k e (canon b [4] s))
theorem slices_Equal_impl_Substation_impl_Substation_l0_step {α : Type} (p n : Nat) (k : Ex → St → Option α) (v0 : List (Ty.T TSubstation)) (v1 : List (Ty.T TSubstation)) (v2 : Int) (q : Nat) (v3 : Int) : slices_Equal_impl_Substation_impl_Substation_it0 p n 0 k (q + 1) (slices_Equal_impl_Substation_impl_Substation_l0_sh.mk' (((v0, ()), (v1, ()), (v2, ()), (v3, ()), ()), (()))) =
  slices_Equal_impl_Substation_impl_Substation_l0_r p v0 v1 v2 (fun v3 => slices_Equal_impl_Substation_impl_Substation_it0 p n 0 k q (slices_Equal_impl_Substation_impl_Substation_l0_sh.mk' (((v0, ()), (v1, ()), (v2, ()), (v3, ()), ()), (())))) v3 (fun o0 => k .ret ⟨[(4, .one ⟨false, [.bool o0]⟩)], 0, []⟩) (fun _ => k (.exit 0) ⟨[], 0, []⟩) := by kernel_rfl
theorem slices_Equal_impl_Substation_impl_Substation_l0_ok {α : Type} (p n : Nat) (k : Ex → St → Option α) (v0 : List (Ty.T TSubstation)) (v1 : List (Ty.T TSubstation)) (v2 : Int) : ∀ (q : Nat) (v3 : Int), slices_Equal_impl_Substation_impl_Substation_it0 p n 0 k q (slices_Equal_impl_Substation_impl_Substation_l0_sh.mk' (((v0, ()), (v1, ()), (v2, ()), (v3, ()), ()), (()))) =
  slices_Equal_impl_Substation_impl_Substation_l0_go p v0 v1 v2 q v3 (fun o0 => k .ret ⟨[(4, .one ⟨false, [.bool o0]⟩)], 0, []⟩) (fun _ => k (.exit 0) ⟨[], 0, []⟩) := by
  intro q
  induction q with
  | zero => intros; rfl
  | succ q ih => intro v3; rw [slices_Equal_impl_Substation_impl_Substation_l0_step]; simp only [ih]; rfl
theorem slices_Equal_impl_Substation_impl_Substation_ltok_70_ls (p : Nat) : loopsOf (bodyOf Try.f70) (slices_Equal_impl_Substation_impl_Substation_lt p) = [⟨slices_Equal_impl_Substation_impl_Substation_c0, [0, 1, 12, 13], [4], slices_Equal_impl_Substation_impl_Substation_lc0 p, .leaf⟩] := by kernel_rfl
theorem slices_Equal_impl_Substation_impl_Substation_ltok_70_dep (p : Nat) : LT.dep (slices_Equal_impl_Substation_impl_Substation_lt p) = 0 := by kernel_rfl
theorem slices_Equal_impl_Substation_impl_Substation_ltok_70 (p : Nat) : LTok Try.prog (slices_Equal_impl_Substation_impl_Substation_G p) 5 70 (slices_Equal_impl_Substation_impl_Substation_lt p) := by
  intro α n base fn c hd hfn hc
  have hfn' : some fn = some Try.f70 := hfn.symm.trans Try.func70
  cases hfn'
  have hc' : c = bodyOf Try.f70 := by unfold bodyOf; rw [hc]; rfl
  subst hc'
  rw [slices_Equal_impl_Substation_impl_Substation_ltok_70_dep] at hd
  obtain ⟨n, rfl⟩ := Nat.exists_eq_add_of_le' hd
  apply LTS_of_loops
  rw [slices_Equal_impl_Substation_impl_Substation_ltok_70_ls]
  intro e he st k r h
  simp only [List.mem_cons, List.not_mem_nil, or_false] at he
  subst he
  · obtain ⟨a, ha, hb, x, rfl, h⟩ := altRun_ok h
    simp only [List.mem_cons, List.not_mem_nil, or_false] at ha
    subst ha
    · cases hb; exact ⟨p, (slices_Equal_impl_Substation_impl_Substation_l0_ok p n k _ _ _ p _).trans h⟩
theorem slices_Equal_impl_Substation_impl_Substation_E (p : Nat) : EnvS Try.prog (slices_Equal_impl_Substation_impl_Substation_G p) := by
  apply glist_env; intro f ce h
  simp only [List.mem_cons, List.not_mem_nil, or_false, Prod.mk.injEq] at h
  
theorem slices_Equal_impl_Substation_impl_Substation_I (p : Nat) : ∀ f lt, slices_Equal_impl_Substation_impl_Substation_G p f = some (.inl lt) → LTok Try.prog (slices_Equal_impl_Substation_impl_Substation_G p) 5 f lt := by
  apply glist_inl; intro f lt h
  simp only [List.mem_cons, List.not_mem_nil, or_false, Prod.mk.injEq, CE.inl.injEq, and_false, or_false, false_or, reduceCtorEq] at h
  
noncomputable def slices_Equal_impl_Substation_impl_Substation_p (p : Nat) (a0 : (List (Ty.T TSubstation))) (a1 : (List (Ty.T TSubstation))) : Option (Bool × Unit) :=
  (bif ((a0.length : Int) != (a1.length : Int)) then some (false, ())
 else (slices_Equal_impl_Substation_impl_Substation_l0_go p a0 a1 (a0.length : Int) p (0 : Int) (fun o3 => some (o3, ())) (fun _ => some (true, ()))))
theorem slices_Equal_impl_Substation_impl_Substation_run (p : Nat) (x : (parsT [.val (.slice TSubstation), .val (.slice TSubstation)]).T) : acall Try.prog (slices_Equal_impl_Substation_impl_Substation_G p) 5 1 70 (slices_Equal_impl_Substation_impl_Substation_lt p) (argAVs [.val (.slice TSubstation), .val (.slice TSubstation)] x) ⟨[], 0, []⟩ (outR [.bool]) = slices_Equal_impl_Substation_impl_Substation_p p x.1 x.2.1 := by kernel_rfl
noncomputable def slices_Equal_impl_Substation_impl_Substation_c (p : Nat) : PC := PC.fn true [.val (.slice TSubstation), .val (.slice TSubstation)] [.bool] fun x => slices_Equal_impl_Substation_impl_Substation_p p x.1 x.2.1
theorem slices_Equal_impl_Substation_impl_Substation_s (p : Nat) : PSound Try.prog 70 (slices_Equal_impl_Substation_impl_Substation_c p) := pure_sound (slices_Equal_impl_Substation_impl_Substation_E p) Try.checked.mixed (slices_Equal_impl_Substation_impl_Substation_I p) (slices_Equal_impl_Substation_impl_Substation_ltok_70 p) (fun _ => rfl) fun x y h => (slices_Equal_impl_Substation_impl_Substation_run p x).trans h
/-! slices.Equal[[]impl.Fuel,impl.Fuel] -/
noncomputable def slices_Equal_impl_Fuel_impl_Fuel_l0_r {α : Type} (p : Nat) (v0 : List (Ty.T TFuel)) (v1 : List (Ty.T TFuel)) (v2 : Int) (rec : (Int) → Option α) (v3 : Int) (k0 : (Bool) → Option α) (k1 : Unit → Option α) : Option α :=
  (bif (decide (v3 < v2)) then (if 0 ≤ v3 then (v0[v3.toNat]?).bind fun y1 => (if 0 ≤ v3 then (v1[v3.toNat]?).bind fun y2 => (bif (!((y1.1.toList == y2.1.toList) && ((y1.2.1 == y2.2.1) && ((y1.2.2.1 == y2.2.2.1) && ((y1.2.2.2 == y2.2.2.2) && true))))) then (k0 false)
 else (rec (IntKind.wrap .i64 (v3 + (1 : Int))))) else none) else none)
 else (k1 ()))
noncomputable def slices_Equal_impl_Fuel_impl_Fuel_l0_go {α : Type} (p : Nat) (v0 : List (Ty.T TFuel)) (v1 : List (Ty.T TFuel)) (v2 : Int) : Nat → (Int) → ((Bool) → Option α) → (Unit → Option α) → Option α
  | 0, _, _, _ => none
  | q + 1, v3, k0, k1 => slices_Equal_impl_Fuel_impl_Fuel_l0_r p v0 v1 v2 (fun v3 => slices_Equal_impl_Fuel_impl_Fuel_l0_go p v0 v1 v2 q v3 k0 k1) v3 k0 k1
def slices_Equal_impl_Fuel_impl_Fuel_l0_sh : Sh := ⟨[⟨0, false, [.sl TFuel]⟩, ⟨1, false, [.sl TFuel]⟩, ⟨12, false, [.int .i64]⟩, ⟨13, false, [.int .i64]⟩], 0, []⟩
noncomputable def slices_Equal_impl_Fuel_impl_Fuel_lc0 (p : Nat) : LC := LC.alts 0 [⟨0, slices_Equal_impl_Fuel_impl_Fuel_l0_sh, fun x {α} k => slices_Equal_impl_Fuel_impl_Fuel_l0_go p x.1.1.1 x.1.2.1.1 x.1.2.2.1.1 p x.1.2.2.2.1.1 (fun o0 => k .ret ⟨[(4, .one ⟨false, [.bool o0]⟩)], 0, []⟩) (fun _ => k (.exit 0) ⟨[], 0, []⟩)⟩]
noncomputable def slices_Equal_impl_Fuel_impl_Fuel_lt (p : Nat) : LT := (.node .leaf (.node .leaf (.node (.node .leaf (.loop [0, 1, 12, 13] [4] (some (slices_Equal_impl_Fuel_impl_Fuel_lc0 p)) .leaf)) .leaf)))
noncomputable def slices_Equal_impl_Fuel_impl_Fuel_G (p : Nat) : FuncId → Option CE := glist []
noncomputable def slices_Equal_impl_Fuel_impl_Fuel_c0 : Code := codeAt [1, 1, 0, 1, 0, 0] (bodyOf Try.f71)
noncomputable def slices_Equal_impl_Fuel_impl_Fuel_it0 {α : Type} (p n b : Nat) (k : Ex → St → Option α) (q : Nat) (st : St) : Option α :=
  iter (fun s q => aexec Try.prog (slices_Equal_impl_Fuel_impl_Fuel_G p) (fun g lt args st (k : D → St → Option α) => acall Try.prog (slices_Equal_impl_Fuel_impl_Fuel_G p) 5 (n + 0) g lt args st k) 5 b 26 slices_Equal_impl_Fuel_impl_Fuel_c0 .leaf s q) (canon b [0, 1, 12, 13]) q st (fun e s => k e (canon b [4] s))
theorem slices_Equal_impl_Fuel_impl_Fuel_l0_step {α : Type} (p n : Nat) (k : Ex → St → Option α) (v0 : List (Ty.T TFuel)) (v1 : List (Ty.T TFuel)) (v2 : Int) (q : Nat) (v3 : Int) : slices_Equal_impl_Fuel_impl_Fuel_it0 p n 0 k (q + 1) (slices_Equal_impl_Fuel_impl_Fuel_l0_sh.mk' (((v0, ()), (v1, ()), (v2, ()), (v3, ()), ()), (()))) =
  slices_Equal_impl_Fuel_impl_Fuel_l0_r p v0 v1 v2 (fun v3 => slices_Equal_impl_Fuel_impl_Fuel_it0 p n 0 k q (slices_Equal_impl_Fuel_impl_Fuel_l0_sh.mk' (((v0, ()), (v1, ()), (v2, ()), (v3, ()), ()), (())))) v3 (fun o0 => k .ret ⟨[(4, .one ⟨false, [.bool o0]⟩)], 0, []⟩) (fun _ => k (.exit 0) ⟨[], 0, []⟩) := by kernel_rfl
theorem slices_Equal_impl_Fuel_impl_Fuel_l0_ok {α : Type} (p n : Nat) (k : Ex → St → Option α) (v0 : List (Ty.T TFuel)) (v1 : List (Ty.T TFuel)) (v2 : Int) : ∀ (q : Nat) (v3 : Int), slices_Equal_impl_Fuel_impl_Fuel_it0 p n 0 k q (slices_Equal_impl_Fuel_impl_Fuel_l0_sh.mk' (((v0, ()), (v1, ()), (v2, ()), (v3, ()), ()), (()))) =
  slices_Equal_impl_Fuel_impl_Fuel_l0_go p v0 v1 v2 q v3 (fun o0 => k .ret ⟨[(4, .one ⟨false, [.bool o0]⟩)], 0, []⟩) (fun _ => k (.exit 0) ⟨[], 0, []⟩) := by
  intro q
  induction q with
  | zero => intros; rfl
  | succ q ih => intro v3; rw [slices_Equal_impl_Fuel_impl_Fuel_l0_step]; simp only [ih]; rfl
theorem slices_Equal_impl_Fuel_impl_Fuel_ltok_71_ls (p : Nat) : loopsOf (bodyOf Try.f71) (slices_Equal_impl_Fuel_impl_Fuel_lt p) = [⟨slices_Equal_impl_Fuel_impl_Fuel_c0, [0, 1, 12, 13], [4], slices_Equal_impl_Fuel_impl_Fuel_lc0 p, .leaf⟩] := by kernel_rfl
theorem slices_Equal_impl_Fuel_impl_Fuel_ltok_71_dep (p : Nat) : LT.dep (slices_Equal_impl_Fuel_impl_Fuel_lt p) = 0 := by kernel_rfl
theorem slices_Equal_impl_Fuel_impl_Fuel_ltok_71 (p : Nat) : LTok Try.prog (slices_Equal_impl_Fuel_impl_Fuel_G p) 5 71 (slices_Equal_impl_Fuel_impl_Fuel_lt p) := by
  intro α n base fn c hd hfn hc
  have hfn' : some fn = some Try.f71 := hfn.symm.trans Try.func71
  cases hfn'
  have hc' : c = bodyOf Try.f71 := by unfold bodyOf; rw [hc]; rfl
  subst hc'
  rw [slices_Equal_impl_Fuel_impl_Fuel_ltok_71_dep] at hd
  obtain ⟨n, rfl⟩ := Nat.exists_eq_add_of_le' hd
  apply LTS_of_loops
  rw [slices_Equal_impl_Fuel_impl_Fuel_ltok_71_ls]
  intro e he st k r h
  simp only [List.mem_cons, List.not_mem_nil, or_false] at he
  subst he
  · obtain ⟨a, ha, hb, x, rfl, h⟩ := altRun_ok h
    simp only [List.mem_cons, List.not_mem_nil, or_false] at ha
    subst ha
    · cases hb; exact ⟨p, (slices_Equal_impl_Fuel_impl_Fuel_l0_ok p n k _ _ _ p _).trans h⟩
theorem slices_Equal_impl_Fuel_impl_Fuel_E (p : Nat) : EnvS Try.prog (slices_Equal_impl_Fuel_impl_Fuel_G p) := by
  apply glist_env; intro f ce h
  simp only [List.mem_cons, List.not_mem_nil, or_false, Prod.mk.injEq] at h
  
theorem slices_Equal_impl_Fuel_impl_Fuel_I (p : Nat) : ∀ f lt, slices_Equal_impl_Fuel_impl_Fuel_G p f = some (.inl lt) → LTok Try.prog (slices_Equal_impl_Fuel_impl_Fuel_G p) 5 f lt := by
  apply glist_inl; intro f lt h
  simp only [List.mem_cons, List.not_mem_nil, or_false, Prod.mk.injEq, CE.inl.injEq, and_false, or_false, false_or, reduceCtorEq] at h
  
noncomputable def slices_Equal_impl_Fuel_impl_Fuel_p (p : Nat) (a0 : (List (Ty.T TFuel))) (a1 : (List (Ty.T TFuel))) : Option (Bool × Unit) :=
  (bif ((a0.length : Int) != (a1.length : Int)) then some (false, ())
 else (slices_Equal_impl_Fuel_impl_Fuel_l0_go p a0 a1 (a0.length : Int) p (0 : Int) (fun o3 => some (o3, ())) (fun _ => some (true, ()))))
theorem slices_Equal_impl_Fuel_impl_Fuel_run (p : Nat) (x : (parsT [.val (.slice TFuel), .val (.slice TFuel)]).T) : acall Try.prog (slices_Equal_impl_Fuel_impl_Fuel_G p) 5 1 71 (slices_Equal_impl_Fuel_impl_Fuel_lt p) (argAVs [.val (.slice TFuel), .val (.slice TFuel)] x) ⟨[], 0, []⟩ (outR [.bool]) = slices_Equal_impl_Fuel_impl_Fuel_p p x.1 x.2.1 := by kernel_rfl
noncomputable def slices_Equal_impl_Fuel_impl_Fuel_c (p : Nat) : PC := PC.fn true [.val (.slice TFuel), .val (.slice TFuel)] [.bool] fun x => slices_Equal_impl_Fuel_impl_Fuel_p p x.1 x.2.1
theorem slices_Equal_impl_Fuel_impl_Fuel_s (p : Nat) : PSound Try.prog 71 (slices_Equal_impl_Fuel_impl_Fuel_c p) := pure_sound (slices_Equal_impl_Fuel_impl_Fuel_E p) Try.checked.mixed (slices_Equal_impl_Fuel_impl_Fuel_I p) (slices_Equal_impl_Fuel_impl_Fuel_ltok_71 p) (fun _ => rfl) fun x y h => (slices_Equal_impl_Fuel_impl_Fuel_run p x).trans h
/-! slices.Equal[[]impl.Repair,impl.Repair] -/
noncomputable def slices_Equal_impl_Repair_impl_Repair_l0_r {α : Type} (p : Nat) (v0 : List (Ty.T TFuel)) (v1 : List (Ty.T TFuel)) (v2 : Int) (rec : (Int) → Option α) (v3 : Int) (k0 : (Bool) → Option α) (k1 : Unit → Option α) : Option α :=
  (bif (decide (v3 < v2)) then (if 0 ≤ v3 then (v0[v3.toNat]?).bind fun y1 => (if 0 ≤ v3 then (v1[v3.toNat]?).bind fun y2 => (bif (!((y1.1.toList == y2.1.toList) && ((y1.2.1 == y2.2.1) && ((y1.2.2.1 == y2.2.2.1) && ((y1.2.2.2 == y2.2.2.2) && true))))) then (k0 false)
 else (rec (IntKind.wrap .i64 (v3 + (1 : Int))))) else none) else none)
 else (k1 ()))
noncomputable def slices_Equal_impl_Repair_impl_Repair_l0_go {α : Type} (p : Nat) (v0 : List (Ty.T TFuel)) (v1 : List (Ty.T TFuel)) (v2 : Int) : Nat → (Int) → ((Bool) → Option α) → (Unit → Option α) → Option α
  | 0, _, _, _ => none
  | q + 1, v3, k0, k1 => slices_Equal_impl_Repair_impl_Repair_l0_r p v0 v1 v2 (fun v3 => slices_Equal_impl_Repair_impl_Repair_l0_go p v0 v1 v2 q v3 k0 k1) v3 k0 k1
def slices_Equal_impl_Repair_impl_Repair_l0_sh : Sh := ⟨[⟨0, false, [.sl TFuel]⟩, ⟨1, false, [.sl TFuel]⟩, ⟨12, false, [.int .i64]⟩, ⟨13, false, [.int .i64]⟩], 0, []⟩
noncomputable def slices_Equal_impl_Repair_impl_Repair_lc0 (p : Nat) : LC := LC.alts 0 [⟨0, slices_Equal_impl_Repair_impl_Repair_l0_sh, fun x {α} k => slices_Equal_impl_Repair_impl_Repair_l0_go p x.1.1.1 x.1.2.1.1 x.1.2.2.1.1 p x.1.2.2.2.1.1 (fun o0 => k .ret ⟨[(4, .one ⟨false, [.bool o0]⟩)], 0, []⟩) (fun _ => k (.exit 0) ⟨[], 0, []⟩)⟩]
noncomputable def slices_Equal_impl_Repair_impl_Repair_lt (p : Nat) : LT := (.node .leaf (.node .leaf (.node (.node .leaf (.loop [0, 1, 12, 13] [4] (some (slices_Equal_impl_Repair_impl_Repair_lc0 p)) .leaf)) .leaf)))
noncomputable def slices_Equal_impl_Repair_impl_Repair_G (p : Nat) : FuncId → Option CE := glist []
noncomputable def slices_Equal_impl_Repair_impl_Repair_c0 : Code := codeAt [1, 1, 0, 1, 0, 0] (bodyOf Try.f72)
noncomputable def slices_Equal_impl_Repair_impl_Repair_it0 {α : Type} (p n b : Nat) (k : Ex → St → Option α) (q : Nat) (st : St) : Option α :=
  iter (fun s q => aexec Try.prog (slices_Equal_impl_Repair_impl_Repair_G p) (fun g lt args st (k : D → St → Option α) => acall Try.prog (slices_Equal_impl_Repair_impl_Repair_G p) 5 (n + 0) g lt args st k) 5 b 26 slices_Equal_impl_Repair_impl_Repair_c0 .leaf s q) (canon b [0, 1, 12, 13]) q st (fun e s => k e (canon b [4] s))
theorem slices_Equal_impl_Repair_impl_Repair_l0_step {α : Type} (p n : Nat) (k : Ex → St → Option α) (v0 : List (Ty.T TFuel)) (v1 : List (Ty.T TFuel)) (v2 : Int) (q : Nat) (v3 : Int) : slices_Equal_impl_Repair_impl_Repair_it0 p n 0 k (q + 1) (slices_Equal_impl_Repair_impl_Repair_l0_sh.mk' (((v0, ()), (v1, ()), (v2, ()), (v3, ()), ()), (()))) =
  slices_Equal_impl_Repair_impl_Repair_l0_r p v0 v1 v2 (fun v3 => slices_Equal_impl_Repair_impl_Repair_it0 p n 0 k q (slices_Equal_impl_Repair_impl_Repair_l0_sh.mk' (((v0, ()), (v1, ()), (v2, ()), (v3, ()), ()), (())))) v3 (fun o0 => k .ret ⟨[(4, .one ⟨false, [.bool o0]⟩)], 0, []⟩) (fun _ => k (.exit 0) ⟨[], 0, []⟩) := by kernel_rfl
theorem slices_Equal_impl_Repair_impl_Repair_l0_ok {α : Type} (p n : Nat) (k : Ex → St → Option α) (v0 : List (Ty.T TFuel)) (v1 : List (Ty.T TFuel)) (v2 : Int) : ∀ (q : Nat) (v3 : Int), slices_Equal_impl_Repair_impl_Repair_it0 p n 0 k q (slices_Equal_impl_Repair_impl_Repair_l0_sh.mk' (((v0, ()), (v1, ()), (v2, ()), (v3, ()), ()), (()))) =
  slices_Equal_impl_Repair_impl_Repair_l0_go p v0 v1 v2 q v3 (fun o0 => k .ret ⟨[(4, .one ⟨false, [.bool o0]⟩)], 0, []⟩) (fun _ => k (.exit 0) ⟨[], 0, []⟩) := by
  intro q
  induction q with
  | zero => intros; rfl
  | succ q ih => intro v3; rw [slices_Equal_impl_Repair_impl_Repair_l0_step]; simp only [ih]; rfl
theorem slices_Equal_impl_Repair_impl_Repair_ltok_72_ls (p : Nat) : loopsOf (bodyOf Try.f72) (slices_Equal_impl_Repair_impl_Repair_lt p) = [⟨slices_Equal_impl_Repair_impl_Repair_c0, [0, 1, 12, 13], [4], slices_Equal_impl_Repair_impl_Repair_lc0 p, .leaf⟩] := by kernel_rfl
theorem slices_Equal_impl_Repair_impl_Repair_ltok_72_dep (p : Nat) : LT.dep (slices_Equal_impl_Repair_impl_Repair_lt p) = 0 := by kernel_rfl
theorem slices_Equal_impl_Repair_impl_Repair_ltok_72 (p : Nat) : LTok Try.prog (slices_Equal_impl_Repair_impl_Repair_G p) 5 72 (slices_Equal_impl_Repair_impl_Repair_lt p) := by
  intro α n base fn c hd hfn hc
  have hfn' : some fn = some Try.f72 := hfn.symm.trans Try.func72
  cases hfn'
  have hc' : c = bodyOf Try.f72 := by unfold bodyOf; rw [hc]; rfl
  subst hc'
  rw [slices_Equal_impl_Repair_impl_Repair_ltok_72_dep] at hd
  obtain ⟨n, rfl⟩ := Nat.exists_eq_add_of_le' hd
  apply LTS_of_loops
  rw [slices_Equal_impl_Repair_impl_Repair_ltok_72_ls]
  intro e he st k r h
  simp only [List.mem_cons, List.not_mem_nil, or_false] at he
  subst he
  · obtain ⟨a, ha, hb, x, rfl, h⟩ := altRun_ok h
    simp only [List.mem_cons, List.not_mem_nil, or_false] at ha
    subst ha
    · cases hb; exact ⟨p, (slices_Equal_impl_Repair_impl_Repair_l0_ok p n k _ _ _ p _).trans h⟩
theorem slices_Equal_impl_Repair_impl_Repair_E (p : Nat) : EnvS Try.prog (slices_Equal_impl_Repair_impl_Repair_G p) := by
  apply glist_env; intro f ce h
  simp only [List.mem_cons, List.not_mem_nil, or_false, Prod.mk.injEq] at h
  
theorem slices_Equal_impl_Repair_impl_Repair_I (p : Nat) : ∀ f lt, slices_Equal_impl_Repair_impl_Repair_G p f = some (.inl lt) → LTok Try.prog (slices_Equal_impl_Repair_impl_Repair_G p) 5 f lt := by
  apply glist_inl; intro f lt h
  simp only [List.mem_cons, List.not_mem_nil, or_false, Prod.mk.injEq, CE.inl.injEq, and_false, or_false, false_or, reduceCtorEq] at h
  
noncomputable def slices_Equal_impl_Repair_impl_Repair_p (p : Nat) (a0 : (List (Ty.T TFuel))) (a1 : (List (Ty.T TFuel))) : Option (Bool × Unit) :=
  (bif ((a0.length : Int) != (a1.length : Int)) then some (false, ())
 else (slices_Equal_impl_Repair_impl_Repair_l0_go p a0 a1 (a0.length : Int) p (0 : Int) (fun o3 => some (o3, ())) (fun _ => some (true, ()))))
theorem slices_Equal_impl_Repair_impl_Repair_run (p : Nat) (x : (parsT [.val (.slice TFuel), .val (.slice TFuel)]).T) : acall Try.prog (slices_Equal_impl_Repair_impl_Repair_G p) 5 1 72 (slices_Equal_impl_Repair_impl_Repair_lt p) (argAVs [.val (.slice TFuel), .val (.slice TFuel)] x) ⟨[], 0, []⟩ (outR [.bool]) = slices_Equal_impl_Repair_impl_Repair_p p x.1 x.2.1 := by kernel_rfl
noncomputable def slices_Equal_impl_Repair_impl_Repair_c (p : Nat) : PC := PC.fn true [.val (.slice TFuel), .val (.slice TFuel)] [.bool] fun x => slices_Equal_impl_Repair_impl_Repair_p p x.1 x.2.1
theorem slices_Equal_impl_Repair_impl_Repair_s (p : Nat) : PSound Try.prog 72 (slices_Equal_impl_Repair_impl_Repair_c p) := pure_sound (slices_Equal_impl_Repair_impl_Repair_E p) Try.checked.mixed (slices_Equal_impl_Repair_impl_Repair_I p) (slices_Equal_impl_Repair_impl_Repair_ltok_72 p) (fun _ => rfl) fun x y h => (slices_Equal_impl_Repair_impl_Repair_run p x).trans h
/-! slices.Equal[[]impl.Tenant,impl.Tenant] -/
noncomputable def slices_Equal_impl_Tenant_impl_Tenant_l0_r {α : Type} (p : Nat) (v0 : List (Ty.T TTenant)) (v1 : List (Ty.T TTenant)) (v2 : Int) (rec : (Int) → Option α) (v3 : Int) (k0 : (Bool) → Option α) (k1 : Unit → Option α) : Option α :=
  (bif (decide (v3 < v2)) then (if 0 ≤ v3 then (v0[v3.toNat]?).bind fun y1 => (if 0 ≤ v3 then (v1[v3.toNat]?).bind fun y2 => (bif (!((y1.1.toList == y2.1.toList) && ((y1.2.1 == y2.2.1) && ((y1.2.2 == y2.2.2) && true)))) then (k0 false)
 else (rec (IntKind.wrap .i64 (v3 + (1 : Int))))) else none) else none)
 else (k1 ()))
noncomputable def slices_Equal_impl_Tenant_impl_Tenant_l0_go {α : Type} (p : Nat) (v0 : List (Ty.T TTenant)) (v1 : List (Ty.T TTenant)) (v2 : Int) : Nat → (Int) → ((Bool) → Option α) → (Unit → Option α) → Option α
  | 0, _, _, _ => none
  | q + 1, v3, k0, k1 => slices_Equal_impl_Tenant_impl_Tenant_l0_r p v0 v1 v2 (fun v3 => slices_Equal_impl_Tenant_impl_Tenant_l0_go p v0 v1 v2 q v3 k0 k1) v3 k0 k1
def slices_Equal_impl_Tenant_impl_Tenant_l0_sh : Sh := ⟨[⟨0, false, [.sl TTenant]⟩, ⟨1, false, [.sl TTenant]⟩, ⟨12, false, [.int .i64]⟩, ⟨13, false, [.int .i64]⟩], 0, []⟩
noncomputable def slices_Equal_impl_Tenant_impl_Tenant_lc0 (p : Nat) : LC := LC.alts 0 [⟨0, slices_Equal_impl_Tenant_impl_Tenant_l0_sh, fun x {α} k => slices_Equal_impl_Tenant_impl_Tenant_l0_go p x.1.1.1 x.1.2.1.1 x.1.2.2.1.1 p x.1.2.2.2.1.1 (fun o0 => k .ret ⟨[(4, .one ⟨false, [.bool o0]⟩)], 0, []⟩) (fun _ => k (.exit 0) ⟨[], 0, []⟩)⟩]
noncomputable def slices_Equal_impl_Tenant_impl_Tenant_lt (p : Nat) : LT := (.node .leaf (.node .leaf (.node (.node .leaf (.loop [0, 1, 12, 13] [4] (some (slices_Equal_impl_Tenant_impl_Tenant_lc0 p)) .leaf)) .leaf)))
noncomputable def slices_Equal_impl_Tenant_impl_Tenant_G (p : Nat) : FuncId → Option CE := glist []
noncomputable def slices_Equal_impl_Tenant_impl_Tenant_c0 : Code := codeAt [1, 1, 0, 1, 0, 0] (bodyOf Try.f73)
noncomputable def slices_Equal_impl_Tenant_impl_Tenant_it0 {α : Type} (p n b : Nat) (k : Ex → St → Option α) (q : Nat) (st : St) : Option α :=
  iter (fun s q => aexec Try.prog (slices_Equal_impl_Tenant_impl_Tenant_G p) (fun g lt args st (k : D → St → Option α) => acall Try.prog (slices_Equal_impl_Tenant_impl_Tenant_G p) 5 (n + 0) g lt args st k) 5 b 26 slices_Equal_impl_Tenant_impl_Tenant_c0 .leaf s q) (canon b [0, 1, 12, 13]) q st (fun e s => k e (canon b [4] s))
theorem slices_Equal_impl_Tenant_impl_Tenant_l0_step {α : Type} (p n : Nat) (k : Ex → St → Option α) (v0 : List (Ty.T TTenant)) (v1 : List (Ty.T TTenant)) (v2 : Int) (q : Nat) (v3 : Int) : slices_Equal_impl_Tenant_impl_Tenant_it0 p n 0 k (q + 1) (slices_Equal_impl_Tenant_impl_Tenant_l0_sh.mk' (((v0, ()), (v1, ()), (v2, ()), (v3, ()), ()), (()))) =
  slices_Equal_impl_Tenant_impl_Tenant_l0_r p v0 v1 v2 (fun v3 => slices_Equal_impl_Tenant_impl_Tenant_it0 p n 0 k q (slices_Equal_impl_Tenant_impl_Tenant_l0_sh.mk' (((v0, ()), (v1, ()), (v2, ()), (v3, ()), ()), (())))) v3 (fun o0 => k .ret ⟨[(4, .one ⟨false, [.bool o0]⟩)], 0, []⟩) (fun _ => k (.exit 0) ⟨[], 0, []⟩) := by kernel_rfl
theorem slices_Equal_impl_Tenant_impl_Tenant_l0_ok {α : Type} (p n : Nat) (k : Ex → St → Option α) (v0 : List (Ty.T TTenant)) (v1 : List (Ty.T TTenant)) (v2 : Int) : ∀ (q : Nat) (v3 : Int), slices_Equal_impl_Tenant_impl_Tenant_it0 p n 0 k q (slices_Equal_impl_Tenant_impl_Tenant_l0_sh.mk' (((v0, ()), (v1, ()), (v2, ()), (v3, ()), ()), (()))) =
  slices_Equal_impl_Tenant_impl_Tenant_l0_go p v0 v1 v2 q v3 (fun o0 => k .ret ⟨[(4, .one ⟨false, [.bool o0]⟩)], 0, []⟩) (fun _ => k (.exit 0) ⟨[], 0, []⟩) := by
  intro q
  induction q with
  | zero => intros; rfl
  | succ q ih => intro v3; rw [slices_Equal_impl_Tenant_impl_Tenant_l0_step]; simp only [ih]; rfl
theorem slices_Equal_impl_Tenant_impl_Tenant_ltok_73_ls (p : Nat) : loopsOf (bodyOf Try.f73) (slices_Equal_impl_Tenant_impl_Tenant_lt p) = [⟨slices_Equal_impl_Tenant_impl_Tenant_c0, [0, 1, 12, 13], [4], slices_Equal_impl_Tenant_impl_Tenant_lc0 p, .leaf⟩] := by kernel_rfl
theorem slices_Equal_impl_Tenant_impl_Tenant_ltok_73_dep (p : Nat) : LT.dep (slices_Equal_impl_Tenant_impl_Tenant_lt p) = 0 := by kernel_rfl
theorem slices_Equal_impl_Tenant_impl_Tenant_ltok_73 (p : Nat) : LTok Try.prog (slices_Equal_impl_Tenant_impl_Tenant_G p) 5 73 (slices_Equal_impl_Tenant_impl_Tenant_lt p) := by
  intro α n base fn c hd hfn hc
  have hfn' : some fn = some Try.f73 := hfn.symm.trans Try.func73
  cases hfn'
  have hc' : c = bodyOf Try.f73 := by unfold bodyOf; rw [hc]; rfl
  subst hc'
  rw [slices_Equal_impl_Tenant_impl_Tenant_ltok_73_dep] at hd
  obtain ⟨n, rfl⟩ := Nat.exists_eq_add_of_le' hd
  apply LTS_of_loops
  rw [slices_Equal_impl_Tenant_impl_Tenant_ltok_73_ls]
  intro e he st k r h
  simp only [List.mem_cons, List.not_mem_nil, or_false] at he
  subst he
  · obtain ⟨a, ha, hb, x, rfl, h⟩ := altRun_ok h
    simp only [List.mem_cons, List.not_mem_nil, or_false] at ha
    subst ha
    · cases hb; exact ⟨p, (slices_Equal_impl_Tenant_impl_Tenant_l0_ok p n k _ _ _ p _).trans h⟩
theorem slices_Equal_impl_Tenant_impl_Tenant_E (p : Nat) : EnvS Try.prog (slices_Equal_impl_Tenant_impl_Tenant_G p) := by
  apply glist_env; intro f ce h
  simp only [List.mem_cons, List.not_mem_nil, or_false, Prod.mk.injEq] at h
  
theorem slices_Equal_impl_Tenant_impl_Tenant_I (p : Nat) : ∀ f lt, slices_Equal_impl_Tenant_impl_Tenant_G p f = some (.inl lt) → LTok Try.prog (slices_Equal_impl_Tenant_impl_Tenant_G p) 5 f lt := by
  apply glist_inl; intro f lt h
  simp only [List.mem_cons, List.not_mem_nil, or_false, Prod.mk.injEq, CE.inl.injEq, and_false, or_false, false_or, reduceCtorEq] at h
  
noncomputable def slices_Equal_impl_Tenant_impl_Tenant_p (p : Nat) (a0 : (List (Ty.T TTenant))) (a1 : (List (Ty.T TTenant))) : Option (Bool × Unit) :=
  (bif ((a0.length : Int) != (a1.length : Int)) then some (false, ())
 else (slices_Equal_impl_Tenant_impl_Tenant_l0_go p a0 a1 (a0.length : Int) p (0 : Int) (fun o3 => some (o3, ())) (fun _ => some (true, ()))))
theorem slices_Equal_impl_Tenant_impl_Tenant_run (p : Nat) (x : (parsT [.val (.slice TTenant), .val (.slice TTenant)]).T) : acall Try.prog (slices_Equal_impl_Tenant_impl_Tenant_G p) 5 1 73 (slices_Equal_impl_Tenant_impl_Tenant_lt p) (argAVs [.val (.slice TTenant), .val (.slice TTenant)] x) ⟨[], 0, []⟩ (outR [.bool]) = slices_Equal_impl_Tenant_impl_Tenant_p p x.1 x.2.1 := by kernel_rfl
noncomputable def slices_Equal_impl_Tenant_impl_Tenant_c (p : Nat) : PC := PC.fn true [.val (.slice TTenant), .val (.slice TTenant)] [.bool] fun x => slices_Equal_impl_Tenant_impl_Tenant_p p x.1 x.2.1
theorem slices_Equal_impl_Tenant_impl_Tenant_s (p : Nat) : PSound Try.prog 73 (slices_Equal_impl_Tenant_impl_Tenant_c p) := pure_sound (slices_Equal_impl_Tenant_impl_Tenant_E p) Try.checked.mixed (slices_Equal_impl_Tenant_impl_Tenant_I p) (slices_Equal_impl_Tenant_impl_Tenant_ltok_73 p) (fun _ => rfl) fun x y h => (slices_Equal_impl_Tenant_impl_Tenant_run p x).trans h
/-! slices.Equal[[]impl.Duty,impl.Duty] -/
noncomputable def slices_Equal_impl_Duty_impl_Duty_l0_r {α : Type} (p : Nat) (v0 : List (Ty.T TDuty)) (v1 : List (Ty.T TDuty)) (v2 : Int) (rec : (Int) → Option α) (v3 : Int) (k0 : (Bool) → Option α) (k1 : Unit → Option α) : Option α :=
  (bif (decide (v3 < v2)) then (if 0 ≤ v3 then (v0[v3.toNat]?).bind fun y1 => (if 0 ≤ v3 then (v1[v3.toNat]?).bind fun y2 => (bif (!((y1.1.toList == y2.1.toList) && ((y1.2.1 == y2.2.1) && ((y1.2.2.1 == y2.2.2.1) && ((y1.2.2.2 == y2.2.2.2) && true))))) then (k0 false)
 else (rec (IntKind.wrap .i64 (v3 + (1 : Int))))) else none) else none)
 else (k1 ()))
noncomputable def slices_Equal_impl_Duty_impl_Duty_l0_go {α : Type} (p : Nat) (v0 : List (Ty.T TDuty)) (v1 : List (Ty.T TDuty)) (v2 : Int) : Nat → (Int) → ((Bool) → Option α) → (Unit → Option α) → Option α
  | 0, _, _, _ => none
  | q + 1, v3, k0, k1 => slices_Equal_impl_Duty_impl_Duty_l0_r p v0 v1 v2 (fun v3 => slices_Equal_impl_Duty_impl_Duty_l0_go p v0 v1 v2 q v3 k0 k1) v3 k0 k1
def slices_Equal_impl_Duty_impl_Duty_l0_sh : Sh := ⟨[⟨0, false, [.sl TDuty]⟩, ⟨1, false, [.sl TDuty]⟩, ⟨12, false, [.int .i64]⟩, ⟨13, false, [.int .i64]⟩], 0, []⟩
noncomputable def slices_Equal_impl_Duty_impl_Duty_lc0 (p : Nat) : LC := LC.alts 0 [⟨0, slices_Equal_impl_Duty_impl_Duty_l0_sh, fun x {α} k => slices_Equal_impl_Duty_impl_Duty_l0_go p x.1.1.1 x.1.2.1.1 x.1.2.2.1.1 p x.1.2.2.2.1.1 (fun o0 => k .ret ⟨[(4, .one ⟨false, [.bool o0]⟩)], 0, []⟩) (fun _ => k (.exit 0) ⟨[], 0, []⟩)⟩]
noncomputable def slices_Equal_impl_Duty_impl_Duty_lt (p : Nat) : LT := (.node .leaf (.node .leaf (.node (.node .leaf (.loop [0, 1, 12, 13] [4] (some (slices_Equal_impl_Duty_impl_Duty_lc0 p)) .leaf)) .leaf)))
noncomputable def slices_Equal_impl_Duty_impl_Duty_G (p : Nat) : FuncId → Option CE := glist []
noncomputable def slices_Equal_impl_Duty_impl_Duty_c0 : Code := codeAt [1, 1, 0, 1, 0, 0] (bodyOf Try.f74)
noncomputable def slices_Equal_impl_Duty_impl_Duty_it0 {α : Type} (p n b : Nat) (k : Ex → St → Option α) (q : Nat) (st : St) : Option α :=
  iter (fun s q => aexec Try.prog (slices_Equal_impl_Duty_impl_Duty_G p) (fun g lt args st (k : D → St → Option α) => acall Try.prog (slices_Equal_impl_Duty_impl_Duty_G p) 5 (n + 0) g lt args st k) 5 b 26 slices_Equal_impl_Duty_impl_Duty_c0 .leaf s q) (canon b [0, 1, 12, 13]) q st (fun e s => k e (canon b [4] s))
theorem slices_Equal_impl_Duty_impl_Duty_l0_step {α : Type} (p n : Nat) (k : Ex → St → Option α) (v0 : List (Ty.T TDuty)) (v1 : List (Ty.T TDuty)) (v2 : Int) (q : Nat) (v3 : Int) : slices_Equal_impl_Duty_impl_Duty_it0 p n 0 k (q + 1) (slices_Equal_impl_Duty_impl_Duty_l0_sh.mk' (((v0, ()), (v1, ()), (v2, ()), (v3, ()), ()), (()))) =
  slices_Equal_impl_Duty_impl_Duty_l0_r p v0 v1 v2 (fun v3 => slices_Equal_impl_Duty_impl_Duty_it0 p n 0 k q (slices_Equal_impl_Duty_impl_Duty_l0_sh.mk' (((v0, ()), (v1, ()), (v2, ()), (v3, ()), ()), (())))) v3 (fun o0 => k .ret ⟨[(4, .one ⟨false, [.bool o0]⟩)], 0, []⟩) (fun _ => k (.exit 0) ⟨[], 0, []⟩) := by kernel_rfl
theorem slices_Equal_impl_Duty_impl_Duty_l0_ok {α : Type} (p n : Nat) (k : Ex → St → Option α) (v0 : List (Ty.T TDuty)) (v1 : List (Ty.T TDuty)) (v2 : Int) : ∀ (q : Nat) (v3 : Int), slices_Equal_impl_Duty_impl_Duty_it0 p n 0 k q (slices_Equal_impl_Duty_impl_Duty_l0_sh.mk' (((v0, ()), (v1, ()), (v2, ()), (v3, ()), ()), (()))) =
  slices_Equal_impl_Duty_impl_Duty_l0_go p v0 v1 v2 q v3 (fun o0 => k .ret ⟨[(4, .one ⟨false, [.bool o0]⟩)], 0, []⟩) (fun _ => k (.exit 0) ⟨[], 0, []⟩) := by
  intro q
  induction q with
  | zero => intros; rfl
  | succ q ih => intro v3; rw [slices_Equal_impl_Duty_impl_Duty_l0_step]; simp only [ih]; rfl
theorem slices_Equal_impl_Duty_impl_Duty_ltok_74_ls (p : Nat) : loopsOf (bodyOf Try.f74) (slices_Equal_impl_Duty_impl_Duty_lt p) = [⟨slices_Equal_impl_Duty_impl_Duty_c0, [0, 1, 12, 13], [4], slices_Equal_impl_Duty_impl_Duty_lc0 p, .leaf⟩] := by kernel_rfl
theorem slices_Equal_impl_Duty_impl_Duty_ltok_74_dep (p : Nat) : LT.dep (slices_Equal_impl_Duty_impl_Duty_lt p) = 0 := by kernel_rfl
theorem slices_Equal_impl_Duty_impl_Duty_ltok_74 (p : Nat) : LTok Try.prog (slices_Equal_impl_Duty_impl_Duty_G p) 5 74 (slices_Equal_impl_Duty_impl_Duty_lt p) := by
  intro α n base fn c hd hfn hc
  have hfn' : some fn = some Try.f74 := hfn.symm.trans Try.func74
  cases hfn'
  have hc' : c = bodyOf Try.f74 := by unfold bodyOf; rw [hc]; rfl
  subst hc'
  rw [slices_Equal_impl_Duty_impl_Duty_ltok_74_dep] at hd
  obtain ⟨n, rfl⟩ := Nat.exists_eq_add_of_le' hd
  apply LTS_of_loops
  rw [slices_Equal_impl_Duty_impl_Duty_ltok_74_ls]
  intro e he st k r h
  simp only [List.mem_cons, List.not_mem_nil, or_false] at he
  subst he
  · obtain ⟨a, ha, hb, x, rfl, h⟩ := altRun_ok h
    simp only [List.mem_cons, List.not_mem_nil, or_false] at ha
    subst ha
    · cases hb; exact ⟨p, (slices_Equal_impl_Duty_impl_Duty_l0_ok p n k _ _ _ p _).trans h⟩
theorem slices_Equal_impl_Duty_impl_Duty_E (p : Nat) : EnvS Try.prog (slices_Equal_impl_Duty_impl_Duty_G p) := by
  apply glist_env; intro f ce h
  simp only [List.mem_cons, List.not_mem_nil, or_false, Prod.mk.injEq] at h
  
theorem slices_Equal_impl_Duty_impl_Duty_I (p : Nat) : ∀ f lt, slices_Equal_impl_Duty_impl_Duty_G p f = some (.inl lt) → LTok Try.prog (slices_Equal_impl_Duty_impl_Duty_G p) 5 f lt := by
  apply glist_inl; intro f lt h
  simp only [List.mem_cons, List.not_mem_nil, or_false, Prod.mk.injEq, CE.inl.injEq, and_false, or_false, false_or, reduceCtorEq] at h
  
noncomputable def slices_Equal_impl_Duty_impl_Duty_p (p : Nat) (a0 : (List (Ty.T TDuty))) (a1 : (List (Ty.T TDuty))) : Option (Bool × Unit) :=
  (bif ((a0.length : Int) != (a1.length : Int)) then some (false, ())
 else (slices_Equal_impl_Duty_impl_Duty_l0_go p a0 a1 (a0.length : Int) p (0 : Int) (fun o3 => some (o3, ())) (fun _ => some (true, ()))))
theorem slices_Equal_impl_Duty_impl_Duty_run (p : Nat) (x : (parsT [.val (.slice TDuty), .val (.slice TDuty)]).T) : acall Try.prog (slices_Equal_impl_Duty_impl_Duty_G p) 5 1 74 (slices_Equal_impl_Duty_impl_Duty_lt p) (argAVs [.val (.slice TDuty), .val (.slice TDuty)] x) ⟨[], 0, []⟩ (outR [.bool]) = slices_Equal_impl_Duty_impl_Duty_p p x.1 x.2.1 := by kernel_rfl
noncomputable def slices_Equal_impl_Duty_impl_Duty_c (p : Nat) : PC := PC.fn true [.val (.slice TDuty), .val (.slice TDuty)] [.bool] fun x => slices_Equal_impl_Duty_impl_Duty_p p x.1 x.2.1
theorem slices_Equal_impl_Duty_impl_Duty_s (p : Nat) : PSound Try.prog 74 (slices_Equal_impl_Duty_impl_Duty_c p) := pure_sound (slices_Equal_impl_Duty_impl_Duty_E p) Try.checked.mixed (slices_Equal_impl_Duty_impl_Duty_I p) (slices_Equal_impl_Duty_impl_Duty_ltok_74 p) (fun _ => rfl) fun x y h => (slices_Equal_impl_Duty_impl_Duty_run p x).trans h
/-! impl.SameDesk -/
noncomputable def impl_SameDesk_l0_r {α : Type} (p : Nat) (v0 : List (Ty.T TPump)) (v1 : List (Ty.T TPump)) (v2 : Int) (rec : (Int) → Option α) (v3 : Int) (k0 : (Bool) → Option α) (k1 : Unit → Option α) : Option α :=
  (bif (decide (v3 < v2)) then (if 0 ≤ v3 then (v1[v3.toNat]?).bind fun y4 => (if 0 ≤ v3 then (v0[v3.toNat]?).bind fun y5 => ((impl_SamePump_p p y4 y5).bind fun r6 => (bif (!r6.1) then (k0 false)
 else (rec (IntKind.wrap .i64 (v3 + (1 : Int)))))) else none) else none)
 else (k1 ()))
noncomputable def impl_SameDesk_l0_go {α : Type} (p : Nat) (v0 : List (Ty.T TPump)) (v1 : List (Ty.T TPump)) (v2 : Int) : Nat → (Int) → ((Bool) → Option α) → (Unit → Option α) → Option α
  | 0, _, _, _ => none
  | q + 1, v3, k0, k1 => impl_SameDesk_l0_r p v0 v1 v2 (fun v3 => impl_SameDesk_l0_go p v0 v1 v2 q v3 k0 k1) v3 k0 k1
def impl_SameDesk_l0_sh : Sh := ⟨[⟨1, false, [.sl TPump]⟩, ⟨2, false, [.lit (.fn 69 [])]⟩, ⟨15, false, [.sl TPump]⟩, ⟨16, false, [.int .i64]⟩, ⟨17, false, [.int .i64]⟩], 2, [(1, .box [.sl (.int .i64), .sl TPipe, .sl (.int .i64), .sl TValve, .sl TPump, .sl TSubstation, .int .i64, .int .i64, .int .i64, .sl TFuel, .sl TFuel, .sl TTenant, .sl TDuty]), (0, .box [.sl (.int .i64), .sl TPipe, .sl (.int .i64), .sl TValve, .sl TPump, .sl TSubstation, .int .i64, .int .i64, .int .i64, .sl TFuel, .sl TFuel, .sl TTenant, .sl TDuty])]⟩
noncomputable def impl_SameDesk_lc0 (p : Nat) : LC := LC.alts 0 [⟨2, impl_SameDesk_l0_sh, fun x {α} k => impl_SameDesk_l0_go p x.1.1.1 x.1.2.2.1.1 x.1.2.2.2.1.1 p x.1.2.2.2.2.1.1 (fun o0 => k .ret ⟨[(6, .one ⟨false, [.bool o0]⟩)], 2, [(1, .box [.sl (.int .i64) x.2.1.1, .sl TPipe x.2.1.2.1, .sl (.int .i64) x.2.1.2.2.1, .sl TValve x.2.1.2.2.2.1, .sl TPump x.2.1.2.2.2.2.1, .sl TSubstation x.2.1.2.2.2.2.2.1, .int .i64 x.2.1.2.2.2.2.2.2.1, .int .i64 x.2.1.2.2.2.2.2.2.2.1, .int .i64 x.2.1.2.2.2.2.2.2.2.2.1, .sl TFuel x.2.1.2.2.2.2.2.2.2.2.2.1, .sl TFuel x.2.1.2.2.2.2.2.2.2.2.2.2.1, .sl TTenant x.2.1.2.2.2.2.2.2.2.2.2.2.2.1, .sl TDuty x.2.1.2.2.2.2.2.2.2.2.2.2.2.2.1]), (0, .box [.sl (.int .i64) x.2.2.1.1, .sl TPipe x.2.2.1.2.1, .sl (.int .i64) x.2.2.1.2.2.1, .sl TValve x.2.2.1.2.2.2.1, .sl TPump x.2.2.1.2.2.2.2.1, .sl TSubstation x.2.2.1.2.2.2.2.2.1, .int .i64 x.2.2.1.2.2.2.2.2.2.1, .int .i64 x.2.2.1.2.2.2.2.2.2.2.1, .int .i64 x.2.2.1.2.2.2.2.2.2.2.2.1, .sl TFuel x.2.2.1.2.2.2.2.2.2.2.2.2.1, .sl TFuel x.2.2.1.2.2.2.2.2.2.2.2.2.2.1, .sl TTenant x.2.2.1.2.2.2.2.2.2.2.2.2.2.2.1, .sl TDuty x.2.2.1.2.2.2.2.2.2.2.2.2.2.2.2.1])]⟩) (fun _ => k (.exit 0) ⟨[], 2, [(1, .box [.sl (.int .i64) x.2.1.1, .sl TPipe x.2.1.2.1, .sl (.int .i64) x.2.1.2.2.1, .sl TValve x.2.1.2.2.2.1, .sl TPump x.2.1.2.2.2.2.1, .sl TSubstation x.2.1.2.2.2.2.2.1, .int .i64 x.2.1.2.2.2.2.2.2.1, .int .i64 x.2.1.2.2.2.2.2.2.2.1, .int .i64 x.2.1.2.2.2.2.2.2.2.2.1, .sl TFuel x.2.1.2.2.2.2.2.2.2.2.2.1, .sl TFuel x.2.1.2.2.2.2.2.2.2.2.2.2.1, .sl TTenant x.2.1.2.2.2.2.2.2.2.2.2.2.2.1, .sl TDuty x.2.1.2.2.2.2.2.2.2.2.2.2.2.2.1]), (0, .box [.sl (.int .i64) x.2.2.1.1, .sl TPipe x.2.2.1.2.1, .sl (.int .i64) x.2.2.1.2.2.1, .sl TValve x.2.2.1.2.2.2.1, .sl TPump x.2.2.1.2.2.2.2.1, .sl TSubstation x.2.2.1.2.2.2.2.2.1, .int .i64 x.2.2.1.2.2.2.2.2.2.1, .int .i64 x.2.2.1.2.2.2.2.2.2.2.1, .int .i64 x.2.2.1.2.2.2.2.2.2.2.2.1, .sl TFuel x.2.2.1.2.2.2.2.2.2.2.2.2.1, .sl TFuel x.2.2.1.2.2.2.2.2.2.2.2.2.2.1, .sl TTenant x.2.2.1.2.2.2.2.2.2.2.2.2.2.2.1, .sl TDuty x.2.2.1.2.2.2.2.2.2.2.2.2.2.2.2.1])]⟩)⟩]
noncomputable def impl_SameDesk_lt_68 (p : Nat) : LT := (.node .leaf (.node .leaf (.node (.node .leaf (.loop [1, 2, 15, 16, 17] [6] (some (impl_SameDesk_lc0 p)) .leaf)) .leaf)))
noncomputable def impl_SameDesk_G (p : Nat) : FuncId → Option CE := glist [(65, .pure (impl_SameNetwork_c p)), (66, .pure (slices_Equal_int64_int64_c p)), (67, .pure (slices_Equal_impl_Valve_impl_Valve_c p)), (69, .pure (impl_SamePump_c p)), (70, .pure (slices_Equal_impl_Substation_impl_Substation_c p)), (71, .pure (slices_Equal_impl_Fuel_impl_Fuel_c p)), (72, .pure (slices_Equal_impl_Repair_impl_Repair_c p)), (73, .pure (slices_Equal_impl_Tenant_impl_Tenant_c p)), (74, .pure (slices_Equal_impl_Duty_impl_Duty_c p)), (68, .inl (impl_SameDesk_lt_68 p))]
noncomputable def impl_SameDesk_c0 : Code := codeAt [1, 1, 0, 1, 0, 0] (bodyOf Try.f68)
noncomputable def impl_SameDesk_it0 {α : Type} (p n b : Nat) (k : Ex → St → Option α) (q : Nat) (st : St) : Option α :=
  iter (fun s q => aexec Try.prog (impl_SameDesk_G p) (fun g lt args st (k : D → St → Option α) => acall Try.prog (impl_SameDesk_G p) 5 (n + 0) g lt args st k) 5 b 32 impl_SameDesk_c0 .leaf s q) (canon b [1, 2, 15, 16, 17]) q st (fun e s => k e (canon b [6] s))
theorem impl_SameDesk_l0_step {α : Type} (p n : Nat) (k : Ex → St → Option α) (v0 : List (Ty.T TPump)) (v1 : List (Ty.T TPump)) (v2 : Int) (v4 : List Int) (v5 : List (Ty.T TPipe)) (v6 : List Int) (v7 : List (Ty.T TValve)) (v8 : List (Ty.T TPump)) (v9 : List (Ty.T TSubstation)) (v10 : Int) (v11 : Int) (v12 : Int) (v13 : List (Ty.T TFuel)) (v14 : List (Ty.T TFuel)) (v15 : List (Ty.T TTenant)) (v16 : List (Ty.T TDuty)) (v17 : List Int) (v18 : List (Ty.T TPipe)) (v19 : List Int) (v20 : List (Ty.T TValve)) (v21 : List (Ty.T TPump)) (v22 : List (Ty.T TSubstation)) (v23 : Int) (v24 : Int) (v25 : Int) (v26 : List (Ty.T TFuel)) (v27 : List (Ty.T TFuel)) (v28 : List (Ty.T TTenant)) (v29 : List (Ty.T TDuty)) (q : Nat) (v3 : Int) : impl_SameDesk_it0 p n 2 k (q + 1) (impl_SameDesk_l0_sh.mk' (((v0, ()), ((), ()), (v1, ()), (v2, ()), (v3, ()), ()), ((v4, v5, v6, v7, v8, v9, v10, v11, v12, v13, v14, v15, v16, ()), (v17, v18, v19, v20, v21, v22, v23, v24, v25, v26, v27, v28, v29, ()), ()))) =
  impl_SameDesk_l0_r p v0 v1 v2 (fun v3 => impl_SameDesk_it0 p n 2 k q (impl_SameDesk_l0_sh.mk' (((v0, ()), ((), ()), (v1, ()), (v2, ()), (v3, ()), ()), ((v4, v5, v6, v7, v8, v9, v10, v11, v12, v13, v14, v15, v16, ()), (v17, v18, v19, v20, v21, v22, v23, v24, v25, v26, v27, v28, v29, ()), ())))) v3 (fun o0 => k .ret ⟨[(6, .one ⟨false, [.bool o0]⟩)], 2, [(1, .box [.sl (.int .i64) v4, .sl TPipe v5, .sl (.int .i64) v6, .sl TValve v7, .sl TPump v8, .sl TSubstation v9, .int .i64 v10, .int .i64 v11, .int .i64 v12, .sl TFuel v13, .sl TFuel v14, .sl TTenant v15, .sl TDuty v16]), (0, .box [.sl (.int .i64) v17, .sl TPipe v18, .sl (.int .i64) v19, .sl TValve v20, .sl TPump v21, .sl TSubstation v22, .int .i64 v23, .int .i64 v24, .int .i64 v25, .sl TFuel v26, .sl TFuel v27, .sl TTenant v28, .sl TDuty v29])]⟩) (fun _ => k (.exit 0) ⟨[], 2, [(1, .box [.sl (.int .i64) v4, .sl TPipe v5, .sl (.int .i64) v6, .sl TValve v7, .sl TPump v8, .sl TSubstation v9, .int .i64 v10, .int .i64 v11, .int .i64 v12, .sl TFuel v13, .sl TFuel v14, .sl TTenant v15, .sl TDuty v16]), (0, .box [.sl (.int .i64) v17, .sl TPipe v18, .sl (.int .i64) v19, .sl TValve v20, .sl TPump v21, .sl TSubstation v22, .int .i64 v23, .int .i64 v24, .int .i64 v25, .sl TFuel v26, .sl TFuel v27, .sl TTenant v28, .sl TDuty v29])]⟩) := by kernel_rfl
theorem impl_SameDesk_l0_ok {α : Type} (p n : Nat) (k : Ex → St → Option α) (v0 : List (Ty.T TPump)) (v1 : List (Ty.T TPump)) (v2 : Int) (v4 : List Int) (v5 : List (Ty.T TPipe)) (v6 : List Int) (v7 : List (Ty.T TValve)) (v8 : List (Ty.T TPump)) (v9 : List (Ty.T TSubstation)) (v10 : Int) (v11 : Int) (v12 : Int) (v13 : List (Ty.T TFuel)) (v14 : List (Ty.T TFuel)) (v15 : List (Ty.T TTenant)) (v16 : List (Ty.T TDuty)) (v17 : List Int) (v18 : List (Ty.T TPipe)) (v19 : List Int) (v20 : List (Ty.T TValve)) (v21 : List (Ty.T TPump)) (v22 : List (Ty.T TSubstation)) (v23 : Int) (v24 : Int) (v25 : Int) (v26 : List (Ty.T TFuel)) (v27 : List (Ty.T TFuel)) (v28 : List (Ty.T TTenant)) (v29 : List (Ty.T TDuty)) : ∀ (q : Nat) (v3 : Int), impl_SameDesk_it0 p n 2 k q (impl_SameDesk_l0_sh.mk' (((v0, ()), ((), ()), (v1, ()), (v2, ()), (v3, ()), ()), ((v4, v5, v6, v7, v8, v9, v10, v11, v12, v13, v14, v15, v16, ()), (v17, v18, v19, v20, v21, v22, v23, v24, v25, v26, v27, v28, v29, ()), ()))) =
  impl_SameDesk_l0_go p v0 v1 v2 q v3 (fun o0 => k .ret ⟨[(6, .one ⟨false, [.bool o0]⟩)], 2, [(1, .box [.sl (.int .i64) v4, .sl TPipe v5, .sl (.int .i64) v6, .sl TValve v7, .sl TPump v8, .sl TSubstation v9, .int .i64 v10, .int .i64 v11, .int .i64 v12, .sl TFuel v13, .sl TFuel v14, .sl TTenant v15, .sl TDuty v16]), (0, .box [.sl (.int .i64) v17, .sl TPipe v18, .sl (.int .i64) v19, .sl TValve v20, .sl TPump v21, .sl TSubstation v22, .int .i64 v23, .int .i64 v24, .int .i64 v25, .sl TFuel v26, .sl TFuel v27, .sl TTenant v28, .sl TDuty v29])]⟩) (fun _ => k (.exit 0) ⟨[], 2, [(1, .box [.sl (.int .i64) v4, .sl TPipe v5, .sl (.int .i64) v6, .sl TValve v7, .sl TPump v8, .sl TSubstation v9, .int .i64 v10, .int .i64 v11, .int .i64 v12, .sl TFuel v13, .sl TFuel v14, .sl TTenant v15, .sl TDuty v16]), (0, .box [.sl (.int .i64) v17, .sl TPipe v18, .sl (.int .i64) v19, .sl TValve v20, .sl TPump v21, .sl TSubstation v22, .int .i64 v23, .int .i64 v24, .int .i64 v25, .sl TFuel v26, .sl TFuel v27, .sl TTenant v28, .sl TDuty v29])]⟩) := by
  intro q
  induction q with
  | zero => intros; rfl
  | succ q ih => intro v3; rw [impl_SameDesk_l0_step]; simp only [ih]; rfl
theorem impl_SameDesk_ltok_68_ls (p : Nat) : loopsOf (bodyOf Try.f68) (impl_SameDesk_lt_68 p) = [⟨impl_SameDesk_c0, [1, 2, 15, 16, 17], [6], impl_SameDesk_lc0 p, .leaf⟩] := by kernel_rfl
theorem impl_SameDesk_ltok_68_dep (p : Nat) : LT.dep (impl_SameDesk_lt_68 p) = 0 := by kernel_rfl
theorem impl_SameDesk_ltok_68 (p : Nat) : LTok Try.prog (impl_SameDesk_G p) 5 68 (impl_SameDesk_lt_68 p) := by
  intro α n base fn c hd hfn hc
  have hfn' : some fn = some Try.f68 := hfn.symm.trans Try.func68
  cases hfn'
  have hc' : c = bodyOf Try.f68 := by unfold bodyOf; rw [hc]; rfl
  subst hc'
  rw [impl_SameDesk_ltok_68_dep] at hd
  obtain ⟨n, rfl⟩ := Nat.exists_eq_add_of_le' hd
  apply LTS_of_loops
  rw [impl_SameDesk_ltok_68_ls]
  intro e he st k r h
  simp only [List.mem_cons, List.not_mem_nil, or_false] at he
  subst he
  · obtain ⟨a, ha, hb, x, rfl, h⟩ := altRun_ok h
    simp only [List.mem_cons, List.not_mem_nil, or_false] at ha
    subst ha
    · cases hb; exact ⟨p, (impl_SameDesk_l0_ok p n k _ _ _ _ _ _ _ _ _ _ _ _ _ _ _ _ _ _ _ _ _ _ _ _ _ _ _ _ _ p _).trans h⟩
theorem impl_SameDesk_E (p : Nat) : EnvS Try.prog (impl_SameDesk_G p) := by
  apply glist_env; intro f ce h
  simp only [List.mem_cons, List.not_mem_nil, or_false, Prod.mk.injEq] at h
  rcases h with ⟨rfl, rfl⟩ | ⟨rfl, rfl⟩ | ⟨rfl, rfl⟩ | ⟨rfl, rfl⟩ | ⟨rfl, rfl⟩ | ⟨rfl, rfl⟩ | ⟨rfl, rfl⟩ | ⟨rfl, rfl⟩ | ⟨rfl, rfl⟩ | ⟨rfl, rfl⟩
  · exact impl_SameNetwork_s p
  · exact slices_Equal_int64_int64_s p
  · exact slices_Equal_impl_Valve_impl_Valve_s p
  · exact impl_SamePump_s p
  · exact slices_Equal_impl_Substation_impl_Substation_s p
  · exact slices_Equal_impl_Fuel_impl_Fuel_s p
  · exact slices_Equal_impl_Repair_impl_Repair_s p
  · exact slices_Equal_impl_Tenant_impl_Tenant_s p
  · exact slices_Equal_impl_Duty_impl_Duty_s p
  · exact trivial
theorem impl_SameDesk_I (p : Nat) : ∀ f lt, impl_SameDesk_G p f = some (.inl lt) → LTok Try.prog (impl_SameDesk_G p) 5 f lt := by
  apply glist_inl; intro f lt h
  simp only [List.mem_cons, List.not_mem_nil, or_false, Prod.mk.injEq, CE.inl.injEq, and_false, or_false, false_or, reduceCtorEq] at h
  rcases h with ⟨rfl, rfl⟩
  · exact (impl_SameDesk_ltok_68 p)
noncomputable def impl_SameDesk_p (p : Nat) (a0 : (Ty.T TDesk)) (a1 : (Ty.T TDesk)) : Option (Bool × Unit) :=
  ((impl_SameNetwork_p p a0.1 a1.1).bind fun r1 => (bif r1.1 then ((slices_Equal_int64_int64_p p a0.2.1 a1.2.1).bind fun r2 => (bif r2.1 then ((slices_Equal_impl_Valve_impl_Valve_p p a0.2.2.1 a1.2.2.1).bind fun r3 => (bif r3.1 then (bif ((a0.2.2.2.1.length : Int) != (a1.2.2.2.1.length : Int)) then some (false, ())
 else (impl_SameDesk_l0_go p a1.2.2.2.1 a0.2.2.2.1 (a0.2.2.2.1.length : Int) p (0 : Int) (fun o7 => (bif o7 then ((slices_Equal_impl_Substation_impl_Substation_p p a0.2.2.2.2.1 a1.2.2.2.2.1).bind fun r8 => (bif r8.1 then (bif ((a0.2.2.2.2.2.1.1 == a1.2.2.2.2.2.1.1) && ((a0.2.2.2.2.2.1.2.1 == a1.2.2.2.2.2.1.2.1) && ((a0.2.2.2.2.2.1.2.2 == a1.2.2.2.2.2.1.2.2) && true))) then ((slices_Equal_impl_Fuel_impl_Fuel_p p a0.2.2.2.2.2.2.1 a1.2.2.2.2.2.2.1).bind fun r9 => (bif r9.1 then ((slices_Equal_impl_Repair_impl_Repair_p p a0.2.2.2.2.2.2.2.1 a1.2.2.2.2.2.2.2.1).bind fun r10 => (bif r10.1 then ((slices_Equal_impl_Tenant_impl_Tenant_p p a0.2.2.2.2.2.2.2.2.1 a1.2.2.2.2.2.2.2.2.1).bind fun r11 => (bif r11.1 then ((slices_Equal_impl_Duty_impl_Duty_p p a0.2.2.2.2.2.2.2.2.2 a1.2.2.2.2.2.2.2.2.2).bind fun r12 => some (r12.1, ()))
 else some (false, ())))
 else some (false, ())))
 else some (false, ())))
 else some (false, ()))
 else some (false, ())))
 else some (false, ()))) (fun _ => ((slices_Equal_impl_Substation_impl_Substation_p p a0.2.2.2.2.1 a1.2.2.2.2.1).bind fun r13 => (bif r13.1 then (bif ((a0.2.2.2.2.2.1.1 == a1.2.2.2.2.2.1.1) && ((a0.2.2.2.2.2.1.2.1 == a1.2.2.2.2.2.1.2.1) && ((a0.2.2.2.2.2.1.2.2 == a1.2.2.2.2.2.1.2.2) && true))) then ((slices_Equal_impl_Fuel_impl_Fuel_p p a0.2.2.2.2.2.2.1 a1.2.2.2.2.2.2.1).bind fun r14 => (bif r14.1 then ((slices_Equal_impl_Repair_impl_Repair_p p a0.2.2.2.2.2.2.2.1 a1.2.2.2.2.2.2.2.1).bind fun r15 => (bif r15.1 then ((slices_Equal_impl_Tenant_impl_Tenant_p p a0.2.2.2.2.2.2.2.2.1 a1.2.2.2.2.2.2.2.2.1).bind fun r16 => (bif r16.1 then ((slices_Equal_impl_Duty_impl_Duty_p p a0.2.2.2.2.2.2.2.2.2 a1.2.2.2.2.2.2.2.2.2).bind fun r17 => some (r17.1, ()))
 else some (false, ())))
 else some (false, ())))
 else some (false, ())))
 else some (false, ()))
 else some (false, ()))))))
 else some (false, ())))
 else some (false, ())))
 else some (false, ())))
theorem impl_SameDesk_run (p : Nat) (x : (parsT [.val TDesk, .val TDesk]).T) : acall Try.prog (impl_SameDesk_G p) 5 2 13 .leaf (argAVs [.val TDesk, .val TDesk] x) ⟨[], 0, []⟩ (outR [.bool]) = impl_SameDesk_p p x.1 x.2.1 := by kernel_rfl
noncomputable def impl_SameDesk_c (p : Nat) : PC := PC.fn true [.val TDesk, .val TDesk] [.bool] fun x => impl_SameDesk_p p x.1 x.2.1
theorem impl_SameDesk_s (p : Nat) : PSound Try.prog 13 (impl_SameDesk_c p) := pure_sound (impl_SameDesk_E p) Try.checked.mixed (impl_SameDesk_I p) LTok_leaf (fun _ => rfl) fun x y h => (impl_SameDesk_run p x).trans h
/-! laws.eqInt64S -/
noncomputable def laws_eqInt64S_l0_r {α : Type} (p : Nat) (v0 : List Int) (v1 : List Int) (rec : (Int) → Option α) (v2 : Int) (k0 : (Bool) → Option α) (k1 : Unit → Option α) : Option α :=
  (bif (decide (v2 < (v0.length : Int))) then (if 0 ≤ v2 then (v0[v2.toNat]?).bind fun y1 => (if 0 ≤ v2 then (v1[v2.toNat]?).bind fun y2 => (bif (y1 != y2) then (k0 false)
 else (rec (IntKind.wrap .i64 (v2 + (1 : Int))))) else none) else none)
 else (k1 ()))
noncomputable def laws_eqInt64S_l0_go {α : Type} (p : Nat) (v0 : List Int) (v1 : List Int) : Nat → (Int) → ((Bool) → Option α) → (Unit → Option α) → Option α
  | 0, _, _, _ => none
  | q + 1, v2, k0, k1 => laws_eqInt64S_l0_r p v0 v1 (fun v2 => laws_eqInt64S_l0_go p v0 v1 q v2 k0 k1) v2 k0 k1
def laws_eqInt64S_l0_sh : Sh := ⟨[⟨0, false, [.sl (.int .i64)]⟩, ⟨1, false, [.sl (.int .i64)]⟩, ⟨5, false, [.int .i64]⟩], 0, []⟩
noncomputable def laws_eqInt64S_lc0 (p : Nat) : LC := LC.alts 0 [⟨0, laws_eqInt64S_l0_sh, fun x {α} k => laws_eqInt64S_l0_go p x.1.1.1 x.1.2.1.1 p x.1.2.2.1.1 (fun o0 => k .ret ⟨[(4, .one ⟨false, [.bool o0]⟩)], 0, []⟩) (fun _ => k (.exit 0) ⟨[], 0, []⟩)⟩]
noncomputable def laws_eqInt64S_lt (p : Nat) : LT := (.node .leaf (.node .leaf (.node (.node .leaf (.loop [0, 1, 5] [4] (some (laws_eqInt64S_lc0 p)) .leaf)) .leaf)))
noncomputable def laws_eqInt64S_G (p : Nat) : FuncId → Option CE := glist []
noncomputable def laws_eqInt64S_c0 : Code := codeAt [1, 1, 0, 1, 0, 0] (bodyOf Try.f16)
noncomputable def laws_eqInt64S_it0 {α : Type} (p n b : Nat) (k : Ex → St → Option α) (q : Nat) (st : St) : Option α :=
  iter (fun s q => aexec Try.prog (laws_eqInt64S_G p) (fun g lt args st (k : D → St → Option α) => acall Try.prog (laws_eqInt64S_G p) 5 (n + 0) g lt args st k) 5 b 26 laws_eqInt64S_c0 .leaf s q) (canon b [0, 1, 5]) q st (fun e s => k e (canon b [4] s))
theorem laws_eqInt64S_l0_step {α : Type} (p n : Nat) (k : Ex → St → Option α) (v0 : List Int) (v1 : List Int) (q : Nat) (v2 : Int) : laws_eqInt64S_it0 p n 0 k (q + 1) (laws_eqInt64S_l0_sh.mk' (((v0, ()), (v1, ()), (v2, ()), ()), (()))) =
  laws_eqInt64S_l0_r p v0 v1 (fun v2 => laws_eqInt64S_it0 p n 0 k q (laws_eqInt64S_l0_sh.mk' (((v0, ()), (v1, ()), (v2, ()), ()), (())))) v2 (fun o0 => k .ret ⟨[(4, .one ⟨false, [.bool o0]⟩)], 0, []⟩) (fun _ => k (.exit 0) ⟨[], 0, []⟩) := by kernel_rfl
theorem laws_eqInt64S_l0_ok {α : Type} (p n : Nat) (k : Ex → St → Option α) (v0 : List Int) (v1 : List Int) : ∀ (q : Nat) (v2 : Int), laws_eqInt64S_it0 p n 0 k q (laws_eqInt64S_l0_sh.mk' (((v0, ()), (v1, ()), (v2, ()), ()), (()))) =
  laws_eqInt64S_l0_go p v0 v1 q v2 (fun o0 => k .ret ⟨[(4, .one ⟨false, [.bool o0]⟩)], 0, []⟩) (fun _ => k (.exit 0) ⟨[], 0, []⟩) := by
  intro q
  induction q with
  | zero => intros; rfl
  | succ q ih => intro v2; rw [laws_eqInt64S_l0_step]; simp only [ih]; rfl
theorem laws_eqInt64S_ltok_16_ls (p : Nat) : loopsOf (bodyOf Try.f16) (laws_eqInt64S_lt p) = [⟨laws_eqInt64S_c0, [0, 1, 5], [4], laws_eqInt64S_lc0 p, .leaf⟩] := by kernel_rfl
theorem laws_eqInt64S_ltok_16_dep (p : Nat) : LT.dep (laws_eqInt64S_lt p) = 0 := by kernel_rfl
theorem laws_eqInt64S_ltok_16 (p : Nat) : LTok Try.prog (laws_eqInt64S_G p) 5 16 (laws_eqInt64S_lt p) := by
  intro α n base fn c hd hfn hc
  have hfn' : some fn = some Try.f16 := hfn.symm.trans Try.func16
  cases hfn'
  have hc' : c = bodyOf Try.f16 := by unfold bodyOf; rw [hc]; rfl
  subst hc'
  rw [laws_eqInt64S_ltok_16_dep] at hd
  obtain ⟨n, rfl⟩ := Nat.exists_eq_add_of_le' hd
  apply LTS_of_loops
  rw [laws_eqInt64S_ltok_16_ls]
  intro e he st k r h
  simp only [List.mem_cons, List.not_mem_nil, or_false] at he
  subst he
  · obtain ⟨a, ha, hb, x, rfl, h⟩ := altRun_ok h
    simp only [List.mem_cons, List.not_mem_nil, or_false] at ha
    subst ha
    · cases hb; exact ⟨p, (laws_eqInt64S_l0_ok p n k _ _ p _).trans h⟩
theorem laws_eqInt64S_E (p : Nat) : EnvS Try.prog (laws_eqInt64S_G p) := by
  apply glist_env; intro f ce h
  simp only [List.mem_cons, List.not_mem_nil, or_false, Prod.mk.injEq] at h
  
theorem laws_eqInt64S_I (p : Nat) : ∀ f lt, laws_eqInt64S_G p f = some (.inl lt) → LTok Try.prog (laws_eqInt64S_G p) 5 f lt := by
  apply glist_inl; intro f lt h
  simp only [List.mem_cons, List.not_mem_nil, or_false, Prod.mk.injEq, CE.inl.injEq, and_false, or_false, false_or, reduceCtorEq] at h
  
noncomputable def laws_eqInt64S_p (p : Nat) (a0 : (List Int)) (a1 : (List Int)) : Option (Bool × Unit) :=
  (bif ((a0.length : Int) != (a1.length : Int)) then some (false, ())
 else (laws_eqInt64S_l0_go p a0 a1 p (0 : Int) (fun o3 => some (o3, ())) (fun _ => some (true, ()))))
theorem laws_eqInt64S_run (p : Nat) (x : (parsT [.val (.slice (.int .i64)), .val (.slice (.int .i64))]).T) : acall Try.prog (laws_eqInt64S_G p) 5 1 16 (laws_eqInt64S_lt p) (argAVs [.val (.slice (.int .i64)), .val (.slice (.int .i64))] x) ⟨[], 0, []⟩ (outR [.bool]) = laws_eqInt64S_p p x.1 x.2.1 := by kernel_rfl
noncomputable def laws_eqInt64S_c (p : Nat) : PC := PC.fn true [.val (.slice (.int .i64)), .val (.slice (.int .i64))] [.bool] fun x => laws_eqInt64S_p p x.1 x.2.1
theorem laws_eqInt64S_s (p : Nat) : PSound Try.prog 16 (laws_eqInt64S_c p) := pure_sound (laws_eqInt64S_E p) Try.checked.mixed (laws_eqInt64S_I p) (laws_eqInt64S_ltok_16 p) (fun _ => rfl) fun x y h => (laws_eqInt64S_run p x).trans h
/-! laws.eqPipe -/
noncomputable def laws_eqPipe_G (p : Nat) : FuncId → Option CE := glist []
theorem laws_eqPipe_E (p : Nat) : EnvS Try.prog (laws_eqPipe_G p) := by
  apply glist_env; intro f ce h
  simp only [List.mem_cons, List.not_mem_nil, or_false, Prod.mk.injEq] at h
  
theorem laws_eqPipe_I (p : Nat) : ∀ f lt, laws_eqPipe_G p f = some (.inl lt) → LTok Try.prog (laws_eqPipe_G p) 5 f lt := by
  apply glist_inl; intro f lt h
  simp only [List.mem_cons, List.not_mem_nil, or_false, Prod.mk.injEq, CE.inl.injEq, and_false, or_false, false_or, reduceCtorEq] at h
  
noncomputable def laws_eqPipe_p (p : Nat) (a0 : (Ty.T TPipe)) (a1 : (Ty.T TPipe)) : Option (Bool × Unit) :=
  (bif (!(a0.1.toList == a1.1.toList)) then some (false, ())
 else (bif (a0.2.1 != a1.2.1) then some (false, ())
 else (bif (a0.2.2.1 != a1.2.2.1) then some (false, ())
 else (bif (a0.2.2.2.1 != a1.2.2.2.1) then some (false, ())
 else (bif (a0.2.2.2.2.1 != a1.2.2.2.2.1) then some (false, ())
 else (bif (a0.2.2.2.2.2 != a1.2.2.2.2.2) then some (false, ())
 else some (true, ())))))))
theorem laws_eqPipe_run (p : Nat) (x : (parsT [.val TPipe, .val TPipe]).T) : acall Try.prog (laws_eqPipe_G p) 5 1 106 .leaf (argAVs [.val TPipe, .val TPipe] x) ⟨[], 0, []⟩ (outR [.bool]) = laws_eqPipe_p p x.1 x.2.1 := by kernel_rfl
noncomputable def laws_eqPipe_c (p : Nat) : PC := PC.fn true [.val TPipe, .val TPipe] [.bool] fun x => laws_eqPipe_p p x.1 x.2.1
theorem laws_eqPipe_s (p : Nat) : PSound Try.prog 106 (laws_eqPipe_c p) := pure_sound (laws_eqPipe_E p) Try.checked.mixed (laws_eqPipe_I p) LTok_leaf (fun _ => rfl) fun x y h => (laws_eqPipe_run p x).trans h
/-! laws.eqPipeS -/
noncomputable def laws_eqPipeS_l0_r {α : Type} (p : Nat) (v0 : List (Ty.T TPipe)) (v1 : List (Ty.T TPipe)) (rec : (Int) → Option α) (v2 : Int) (k0 : (Bool) → Option α) (k1 : Unit → Option α) : Option α :=
  (bif (decide (v2 < (v0.length : Int))) then (if 0 ≤ v2 then (v0[v2.toNat]?).bind fun y1 => (if 0 ≤ v2 then (v1[v2.toNat]?).bind fun y2 => ((laws_eqPipe_p p y1 y2).bind fun r3 => (bif (!r3.1) then (k0 false)
 else (rec (IntKind.wrap .i64 (v2 + (1 : Int)))))) else none) else none)
 else (k1 ()))
noncomputable def laws_eqPipeS_l0_go {α : Type} (p : Nat) (v0 : List (Ty.T TPipe)) (v1 : List (Ty.T TPipe)) : Nat → (Int) → ((Bool) → Option α) → (Unit → Option α) → Option α
  | 0, _, _, _ => none
  | q + 1, v2, k0, k1 => laws_eqPipeS_l0_r p v0 v1 (fun v2 => laws_eqPipeS_l0_go p v0 v1 q v2 k0 k1) v2 k0 k1
def laws_eqPipeS_l0_sh : Sh := ⟨[⟨0, false, [.sl TPipe]⟩, ⟨1, false, [.sl TPipe]⟩, ⟨5, false, [.int .i64]⟩], 0, []⟩
noncomputable def laws_eqPipeS_lc0 (p : Nat) : LC := LC.alts 0 [⟨0, laws_eqPipeS_l0_sh, fun x {α} k => laws_eqPipeS_l0_go p x.1.1.1 x.1.2.1.1 p x.1.2.2.1.1 (fun o0 => k .ret ⟨[(4, .one ⟨false, [.bool o0]⟩)], 0, []⟩) (fun _ => k (.exit 0) ⟨[], 0, []⟩)⟩]
noncomputable def laws_eqPipeS_lt (p : Nat) : LT := (.node .leaf (.node .leaf (.node (.node .leaf (.loop [0, 1, 5] [4] (some (laws_eqPipeS_lc0 p)) .leaf)) .leaf)))
noncomputable def laws_eqPipeS_G (p : Nat) : FuncId → Option CE := glist [(106, .pure (laws_eqPipe_c p))]
noncomputable def laws_eqPipeS_c0 : Code := codeAt [1, 1, 0, 1, 0, 0] (bodyOf Try.f75)
noncomputable def laws_eqPipeS_it0 {α : Type} (p n b : Nat) (k : Ex → St → Option α) (q : Nat) (st : St) : Option α :=
  iter (fun s q => aexec Try.prog (laws_eqPipeS_G p) (fun g lt args st (k : D → St → Option α) => acall Try.prog (laws_eqPipeS_G p) 5 (n + 0) g lt args st k) 5 b 27 laws_eqPipeS_c0 .leaf s q) (canon b [0, 1, 5]) q st (fun e s => k e (canon b [4] s))
theorem laws_eqPipeS_l0_step {α : Type} (p n : Nat) (k : Ex → St → Option α) (v0 : List (Ty.T TPipe)) (v1 : List (Ty.T TPipe)) (q : Nat) (v2 : Int) : laws_eqPipeS_it0 p n 0 k (q + 1) (laws_eqPipeS_l0_sh.mk' (((v0, ()), (v1, ()), (v2, ()), ()), (()))) =
  laws_eqPipeS_l0_r p v0 v1 (fun v2 => laws_eqPipeS_it0 p n 0 k q (laws_eqPipeS_l0_sh.mk' (((v0, ()), (v1, ()), (v2, ()), ()), (())))) v2 (fun o0 => k .ret ⟨[(4, .one ⟨false, [.bool o0]⟩)], 0, []⟩) (fun _ => k (.exit 0) ⟨[], 0, []⟩) := by kernel_rfl
theorem laws_eqPipeS_l0_ok {α : Type} (p n : Nat) (k : Ex → St → Option α) (v0 : List (Ty.T TPipe)) (v1 : List (Ty.T TPipe)) : ∀ (q : Nat) (v2 : Int), laws_eqPipeS_it0 p n 0 k q (laws_eqPipeS_l0_sh.mk' (((v0, ()), (v1, ()), (v2, ()), ()), (()))) =
  laws_eqPipeS_l0_go p v0 v1 q v2 (fun o0 => k .ret ⟨[(4, .one ⟨false, [.bool o0]⟩)], 0, []⟩) (fun _ => k (.exit 0) ⟨[], 0, []⟩) := by
  intro q
  induction q with
  | zero => intros; rfl
  | succ q ih => intro v2; rw [laws_eqPipeS_l0_step]; simp only [ih]; rfl
theorem laws_eqPipeS_ltok_75_ls (p : Nat) : loopsOf (bodyOf Try.f75) (laws_eqPipeS_lt p) = [⟨laws_eqPipeS_c0, [0, 1, 5], [4], laws_eqPipeS_lc0 p, .leaf⟩] := by kernel_rfl
theorem laws_eqPipeS_ltok_75_dep (p : Nat) : LT.dep (laws_eqPipeS_lt p) = 0 := by kernel_rfl
theorem laws_eqPipeS_ltok_75 (p : Nat) : LTok Try.prog (laws_eqPipeS_G p) 5 75 (laws_eqPipeS_lt p) := by
  intro α n base fn c hd hfn hc
  have hfn' : some fn = some Try.f75 := hfn.symm.trans Try.func75
  cases hfn'
  have hc' : c = bodyOf Try.f75 := by unfold bodyOf; rw [hc]; rfl
  subst hc'
  rw [laws_eqPipeS_ltok_75_dep] at hd
  obtain ⟨n, rfl⟩ := Nat.exists_eq_add_of_le' hd
  apply LTS_of_loops
  rw [laws_eqPipeS_ltok_75_ls]
  intro e he st k r h
  simp only [List.mem_cons, List.not_mem_nil, or_false] at he
  subst he
  · obtain ⟨a, ha, hb, x, rfl, h⟩ := altRun_ok h
    simp only [List.mem_cons, List.not_mem_nil, or_false] at ha
    subst ha
    · cases hb; exact ⟨p, (laws_eqPipeS_l0_ok p n k _ _ p _).trans h⟩
theorem laws_eqPipeS_E (p : Nat) : EnvS Try.prog (laws_eqPipeS_G p) := by
  apply glist_env; intro f ce h
  simp only [List.mem_cons, List.not_mem_nil, or_false, Prod.mk.injEq] at h
  rcases h with ⟨rfl, rfl⟩
  · exact laws_eqPipe_s p
theorem laws_eqPipeS_I (p : Nat) : ∀ f lt, laws_eqPipeS_G p f = some (.inl lt) → LTok Try.prog (laws_eqPipeS_G p) 5 f lt := by
  apply glist_inl; intro f lt h
  simp only [List.mem_cons, List.not_mem_nil, or_false, Prod.mk.injEq, CE.inl.injEq, and_false, or_false, false_or, reduceCtorEq] at h
  
noncomputable def laws_eqPipeS_p (p : Nat) (a0 : (List (Ty.T TPipe))) (a1 : (List (Ty.T TPipe))) : Option (Bool × Unit) :=
  (bif ((a0.length : Int) != (a1.length : Int)) then some (false, ())
 else (laws_eqPipeS_l0_go p a0 a1 p (0 : Int) (fun o4 => some (o4, ())) (fun _ => some (true, ()))))
theorem laws_eqPipeS_run (p : Nat) (x : (parsT [.val (.slice TPipe), .val (.slice TPipe)]).T) : acall Try.prog (laws_eqPipeS_G p) 5 1 75 (laws_eqPipeS_lt p) (argAVs [.val (.slice TPipe), .val (.slice TPipe)] x) ⟨[], 0, []⟩ (outR [.bool]) = laws_eqPipeS_p p x.1 x.2.1 := by kernel_rfl
noncomputable def laws_eqPipeS_c (p : Nat) : PC := PC.fn true [.val (.slice TPipe), .val (.slice TPipe)] [.bool] fun x => laws_eqPipeS_p p x.1 x.2.1
theorem laws_eqPipeS_s (p : Nat) : PSound Try.prog 75 (laws_eqPipeS_c p) := pure_sound (laws_eqPipeS_E p) Try.checked.mixed (laws_eqPipeS_I p) (laws_eqPipeS_ltok_75 p) (fun _ => rfl) fun x y h => (laws_eqPipeS_run p x).trans h
/-! laws.eqNetwork -/
noncomputable def laws_eqNetwork_G (p : Nat) : FuncId → Option CE := glist [(16, .pure (laws_eqInt64S_c p)), (75, .pure (laws_eqPipeS_c p))]
theorem laws_eqNetwork_E (p : Nat) : EnvS Try.prog (laws_eqNetwork_G p) := by
  apply glist_env; intro f ce h
  simp only [List.mem_cons, List.not_mem_nil, or_false, Prod.mk.injEq] at h
  rcases h with ⟨rfl, rfl⟩ | ⟨rfl, rfl⟩
  · exact laws_eqInt64S_s p
  · exact laws_eqPipeS_s p
theorem laws_eqNetwork_I (p : Nat) : ∀ f lt, laws_eqNetwork_G p f = some (.inl lt) → LTok Try.prog (laws_eqNetwork_G p) 5 f lt := by
  apply glist_inl; intro f lt h
  simp only [List.mem_cons, List.not_mem_nil, or_false, Prod.mk.injEq, CE.inl.injEq, and_false, or_false, false_or, reduceCtorEq] at h
  
noncomputable def laws_eqNetwork_p (p : Nat) (a0 : (Ty.T TNetwork)) (a1 : (Ty.T TNetwork)) : Option (Bool × Unit) :=
  ((laws_eqInt64S_p p a0.1 a1.1).bind fun r1 => (bif (!r1.1) then some (false, ())
 else ((laws_eqPipeS_p p a0.2 a1.2).bind fun r2 => (bif (!r2.1) then some (false, ())
 else some (true, ())))))
theorem laws_eqNetwork_run (p : Nat) (x : (parsT [.val TNetwork, .val TNetwork]).T) : acall Try.prog (laws_eqNetwork_G p) 5 1 15 .leaf (argAVs [.val TNetwork, .val TNetwork] x) ⟨[], 0, []⟩ (outR [.bool]) = laws_eqNetwork_p p x.1 x.2.1 := by kernel_rfl
noncomputable def laws_eqNetwork_c (p : Nat) : PC := PC.fn true [.val TNetwork, .val TNetwork] [.bool] fun x => laws_eqNetwork_p p x.1 x.2.1
theorem laws_eqNetwork_s (p : Nat) : PSound Try.prog 15 (laws_eqNetwork_c p) := pure_sound (laws_eqNetwork_E p) Try.checked.mixed (laws_eqNetwork_I p) LTok_leaf (fun _ => rfl) fun x y h => (laws_eqNetwork_run p x).trans h
/-! laws.eqValve -/
noncomputable def laws_eqValve_G (p : Nat) : FuncId → Option CE := glist []
theorem laws_eqValve_E (p : Nat) : EnvS Try.prog (laws_eqValve_G p) := by
  apply glist_env; intro f ce h
  simp only [List.mem_cons, List.not_mem_nil, or_false, Prod.mk.injEq] at h
  
theorem laws_eqValve_I (p : Nat) : ∀ f lt, laws_eqValve_G p f = some (.inl lt) → LTok Try.prog (laws_eqValve_G p) 5 f lt := by
  apply glist_inl; intro f lt h
  simp only [List.mem_cons, List.not_mem_nil, or_false, Prod.mk.injEq, CE.inl.injEq, and_false, or_false, false_or, reduceCtorEq] at h
  
noncomputable def laws_eqValve_p (p : Nat) (a0 : (Ty.T TValve)) (a1 : (Ty.T TValve)) : Option (Bool × Unit) :=
  (bif (!(a0.1.toList == a1.1.toList)) then some (false, ())
 else (bif (!(a0.2.1.toList == a1.2.1.toList)) then some (false, ())
 else (bif (!(a0.2.2 == a1.2.2)) then some (false, ())
 else some (true, ()))))
theorem laws_eqValve_run (p : Nat) (x : (parsT [.val TValve, .val TValve]).T) : acall Try.prog (laws_eqValve_G p) 5 1 76 .leaf (argAVs [.val TValve, .val TValve] x) ⟨[], 0, []⟩ (outR [.bool]) = laws_eqValve_p p x.1 x.2.1 := by kernel_rfl
noncomputable def laws_eqValve_c (p : Nat) : PC := PC.fn true [.val TValve, .val TValve] [.bool] fun x => laws_eqValve_p p x.1 x.2.1
theorem laws_eqValve_s (p : Nat) : PSound Try.prog 76 (laws_eqValve_c p) := pure_sound (laws_eqValve_E p) Try.checked.mixed (laws_eqValve_I p) LTok_leaf (fun _ => rfl) fun x y h => (laws_eqValve_run p x).trans h
/-! laws.eqValveS -/
noncomputable def laws_eqValveS_l0_r {α : Type} (p : Nat) (v0 : List (Ty.T TValve)) (v1 : List (Ty.T TValve)) (rec : (Int) → Option α) (v2 : Int) (k0 : (Bool) → Option α) (k1 : Unit → Option α) : Option α :=
  (bif (decide (v2 < (v0.length : Int))) then (if 0 ≤ v2 then (v0[v2.toNat]?).bind fun y1 => (if 0 ≤ v2 then (v1[v2.toNat]?).bind fun y2 => ((laws_eqValve_p p y1 y2).bind fun r3 => (bif (!r3.1) then (k0 false)
 else (rec (IntKind.wrap .i64 (v2 + (1 : Int)))))) else none) else none)
 else (k1 ()))
noncomputable def laws_eqValveS_l0_go {α : Type} (p : Nat) (v0 : List (Ty.T TValve)) (v1 : List (Ty.T TValve)) : Nat → (Int) → ((Bool) → Option α) → (Unit → Option α) → Option α
  | 0, _, _, _ => none
  | q + 1, v2, k0, k1 => laws_eqValveS_l0_r p v0 v1 (fun v2 => laws_eqValveS_l0_go p v0 v1 q v2 k0 k1) v2 k0 k1
def laws_eqValveS_l0_sh : Sh := ⟨[⟨0, false, [.sl TValve]⟩, ⟨1, false, [.sl TValve]⟩, ⟨5, false, [.int .i64]⟩], 0, []⟩
noncomputable def laws_eqValveS_lc0 (p : Nat) : LC := LC.alts 0 [⟨0, laws_eqValveS_l0_sh, fun x {α} k => laws_eqValveS_l0_go p x.1.1.1 x.1.2.1.1 p x.1.2.2.1.1 (fun o0 => k .ret ⟨[(4, .one ⟨false, [.bool o0]⟩)], 0, []⟩) (fun _ => k (.exit 0) ⟨[], 0, []⟩)⟩]
noncomputable def laws_eqValveS_lt (p : Nat) : LT := (.node .leaf (.node .leaf (.node (.node .leaf (.loop [0, 1, 5] [4] (some (laws_eqValveS_lc0 p)) .leaf)) .leaf)))
noncomputable def laws_eqValveS_G (p : Nat) : FuncId → Option CE := glist [(76, .pure (laws_eqValve_c p))]
noncomputable def laws_eqValveS_c0 : Code := codeAt [1, 1, 0, 1, 0, 0] (bodyOf Try.f17)
noncomputable def laws_eqValveS_it0 {α : Type} (p n b : Nat) (k : Ex → St → Option α) (q : Nat) (st : St) : Option α :=
  iter (fun s q => aexec Try.prog (laws_eqValveS_G p) (fun g lt args st (k : D → St → Option α) => acall Try.prog (laws_eqValveS_G p) 5 (n + 0) g lt args st k) 5 b 27 laws_eqValveS_c0 .leaf s q) (canon b [0, 1, 5]) q st (fun e s => k e (canon b [4] s))
theorem laws_eqValveS_l0_step {α : Type} (p n : Nat) (k : Ex → St → Option α) (v0 : List (Ty.T TValve)) (v1 : List (Ty.T TValve)) (q : Nat) (v2 : Int) : laws_eqValveS_it0 p n 0 k (q + 1) (laws_eqValveS_l0_sh.mk' (((v0, ()), (v1, ()), (v2, ()), ()), (()))) =
  laws_eqValveS_l0_r p v0 v1 (fun v2 => laws_eqValveS_it0 p n 0 k q (laws_eqValveS_l0_sh.mk' (((v0, ()), (v1, ()), (v2, ()), ()), (())))) v2 (fun o0 => k .ret ⟨[(4, .one ⟨false, [.bool o0]⟩)], 0, []⟩) (fun _ => k (.exit 0) ⟨[], 0, []⟩) := by kernel_rfl
theorem laws_eqValveS_l0_ok {α : Type} (p n : Nat) (k : Ex → St → Option α) (v0 : List (Ty.T TValve)) (v1 : List (Ty.T TValve)) : ∀ (q : Nat) (v2 : Int), laws_eqValveS_it0 p n 0 k q (laws_eqValveS_l0_sh.mk' (((v0, ()), (v1, ()), (v2, ()), ()), (()))) =
  laws_eqValveS_l0_go p v0 v1 q v2 (fun o0 => k .ret ⟨[(4, .one ⟨false, [.bool o0]⟩)], 0, []⟩) (fun _ => k (.exit 0) ⟨[], 0, []⟩) := by
  intro q
  induction q with
  | zero => intros; rfl
  | succ q ih => intro v2; rw [laws_eqValveS_l0_step]; simp only [ih]; rfl
theorem laws_eqValveS_ltok_17_ls (p : Nat) : loopsOf (bodyOf Try.f17) (laws_eqValveS_lt p) = [⟨laws_eqValveS_c0, [0, 1, 5], [4], laws_eqValveS_lc0 p, .leaf⟩] := by kernel_rfl
theorem laws_eqValveS_ltok_17_dep (p : Nat) : LT.dep (laws_eqValveS_lt p) = 0 := by kernel_rfl
theorem laws_eqValveS_ltok_17 (p : Nat) : LTok Try.prog (laws_eqValveS_G p) 5 17 (laws_eqValveS_lt p) := by
  intro α n base fn c hd hfn hc
  have hfn' : some fn = some Try.f17 := hfn.symm.trans Try.func17
  cases hfn'
  have hc' : c = bodyOf Try.f17 := by unfold bodyOf; rw [hc]; rfl
  subst hc'
  rw [laws_eqValveS_ltok_17_dep] at hd
  obtain ⟨n, rfl⟩ := Nat.exists_eq_add_of_le' hd
  apply LTS_of_loops
  rw [laws_eqValveS_ltok_17_ls]
  intro e he st k r h
  simp only [List.mem_cons, List.not_mem_nil, or_false] at he
  subst he
  · obtain ⟨a, ha, hb, x, rfl, h⟩ := altRun_ok h
    simp only [List.mem_cons, List.not_mem_nil, or_false] at ha
    subst ha
    · cases hb; exact ⟨p, (laws_eqValveS_l0_ok p n k _ _ p _).trans h⟩
theorem laws_eqValveS_E (p : Nat) : EnvS Try.prog (laws_eqValveS_G p) := by
  apply glist_env; intro f ce h
  simp only [List.mem_cons, List.not_mem_nil, or_false, Prod.mk.injEq] at h
  rcases h with ⟨rfl, rfl⟩
  · exact laws_eqValve_s p
theorem laws_eqValveS_I (p : Nat) : ∀ f lt, laws_eqValveS_G p f = some (.inl lt) → LTok Try.prog (laws_eqValveS_G p) 5 f lt := by
  apply glist_inl; intro f lt h
  simp only [List.mem_cons, List.not_mem_nil, or_false, Prod.mk.injEq, CE.inl.injEq, and_false, or_false, false_or, reduceCtorEq] at h
  
noncomputable def laws_eqValveS_p (p : Nat) (a0 : (List (Ty.T TValve))) (a1 : (List (Ty.T TValve))) : Option (Bool × Unit) :=
  (bif ((a0.length : Int) != (a1.length : Int)) then some (false, ())
 else (laws_eqValveS_l0_go p a0 a1 p (0 : Int) (fun o4 => some (o4, ())) (fun _ => some (true, ()))))
theorem laws_eqValveS_run (p : Nat) (x : (parsT [.val (.slice TValve), .val (.slice TValve)]).T) : acall Try.prog (laws_eqValveS_G p) 5 1 17 (laws_eqValveS_lt p) (argAVs [.val (.slice TValve), .val (.slice TValve)] x) ⟨[], 0, []⟩ (outR [.bool]) = laws_eqValveS_p p x.1 x.2.1 := by kernel_rfl
noncomputable def laws_eqValveS_c (p : Nat) : PC := PC.fn true [.val (.slice TValve), .val (.slice TValve)] [.bool] fun x => laws_eqValveS_p p x.1 x.2.1
theorem laws_eqValveS_s (p : Nat) : PSound Try.prog 17 (laws_eqValveS_c p) := pure_sound (laws_eqValveS_E p) Try.checked.mixed (laws_eqValveS_I p) (laws_eqValveS_ltok_17 p) (fun _ => rfl) fun x y h => (laws_eqValveS_run p x).trans h
/-! laws.eqInt64SS -/
noncomputable def laws_eqInt64SS_l0_r {α : Type} (p : Nat) (v0 : List (List Int)) (v1 : List (List Int)) (rec : (Int) → Option α) (v2 : Int) (k0 : (Bool) → Option α) (k1 : Unit → Option α) : Option α :=
  (bif (decide (v2 < (v0.length : Int))) then (if 0 ≤ v2 then (v0[v2.toNat]?).bind fun y1 => (if 0 ≤ v2 then (v1[v2.toNat]?).bind fun y2 => ((laws_eqInt64S_p p y1 y2).bind fun r3 => (bif (!r3.1) then (k0 false)
 else (rec (IntKind.wrap .i64 (v2 + (1 : Int)))))) else none) else none)
 else (k1 ()))
noncomputable def laws_eqInt64SS_l0_go {α : Type} (p : Nat) (v0 : List (List Int)) (v1 : List (List Int)) : Nat → (Int) → ((Bool) → Option α) → (Unit → Option α) → Option α
  | 0, _, _, _ => none
  | q + 1, v2, k0, k1 => laws_eqInt64SS_l0_r p v0 v1 (fun v2 => laws_eqInt64SS_l0_go p v0 v1 q v2 k0 k1) v2 k0 k1
def laws_eqInt64SS_l0_sh : Sh := ⟨[⟨0, false, [.sl (.slice (.int .i64))]⟩, ⟨1, false, [.sl (.slice (.int .i64))]⟩, ⟨5, false, [.int .i64]⟩], 0, []⟩
noncomputable def laws_eqInt64SS_lc0 (p : Nat) : LC := LC.alts 0 [⟨0, laws_eqInt64SS_l0_sh, fun x {α} k => laws_eqInt64SS_l0_go p x.1.1.1 x.1.2.1.1 p x.1.2.2.1.1 (fun o0 => k .ret ⟨[(4, .one ⟨false, [.bool o0]⟩)], 0, []⟩) (fun _ => k (.exit 0) ⟨[], 0, []⟩)⟩]
noncomputable def laws_eqInt64SS_lt (p : Nat) : LT := (.node .leaf (.node .leaf (.node (.node .leaf (.loop [0, 1, 5] [4] (some (laws_eqInt64SS_lc0 p)) .leaf)) .leaf)))
noncomputable def laws_eqInt64SS_G (p : Nat) : FuncId → Option CE := glist [(16, .pure (laws_eqInt64S_c p))]
noncomputable def laws_eqInt64SS_c0 : Code := codeAt [1, 1, 0, 1, 0, 0] (bodyOf Try.f107)
noncomputable def laws_eqInt64SS_it0 {α : Type} (p n b : Nat) (k : Ex → St → Option α) (q : Nat) (st : St) : Option α :=
  iter (fun s q => aexec Try.prog (laws_eqInt64SS_G p) (fun g lt args st (k : D → St → Option α) => acall Try.prog (laws_eqInt64SS_G p) 5 (n + 0) g lt args st k) 5 b 27 laws_eqInt64SS_c0 .leaf s q) (canon b [0, 1, 5]) q st (fun e s => k e (canon b [4] s))
theorem laws_eqInt64SS_l0_step {α : Type} (p n : Nat) (k : Ex → St → Option α) (v0 : List (List Int)) (v1 : List (List Int)) (q : Nat) (v2 : Int) : laws_eqInt64SS_it0 p n 0 k (q + 1) (laws_eqInt64SS_l0_sh.mk' (((v0, ()), (v1, ()), (v2, ()), ()), (()))) =
  laws_eqInt64SS_l0_r p v0 v1 (fun v2 => laws_eqInt64SS_it0 p n 0 k q (laws_eqInt64SS_l0_sh.mk' (((v0, ()), (v1, ()), (v2, ()), ()), (())))) v2 (fun o0 => k .ret ⟨[(4, .one ⟨false, [.bool o0]⟩)], 0, []⟩) (fun _ => k (.exit 0) ⟨[], 0, []⟩) := by kernel_rfl
theorem laws_eqInt64SS_l0_ok {α : Type} (p n : Nat) (k : Ex → St → Option α) (v0 : List (List Int)) (v1 : List (List Int)) : ∀ (q : Nat) (v2 : Int), laws_eqInt64SS_it0 p n 0 k q (laws_eqInt64SS_l0_sh.mk' (((v0, ()), (v1, ()), (v2, ()), ()), (()))) =
  laws_eqInt64SS_l0_go p v0 v1 q v2 (fun o0 => k .ret ⟨[(4, .one ⟨false, [.bool o0]⟩)], 0, []⟩) (fun _ => k (.exit 0) ⟨[], 0, []⟩) := by
  intro q
  induction q with
  | zero => intros; rfl
  | succ q ih => intro v2; rw [laws_eqInt64SS_l0_step]; simp only [ih]; rfl
theorem laws_eqInt64SS_ltok_107_ls (p : Nat) : loopsOf (bodyOf Try.f107) (laws_eqInt64SS_lt p) = [⟨laws_eqInt64SS_c0, [0, 1, 5], [4], laws_eqInt64SS_lc0 p, .leaf⟩] := by kernel_rfl
theorem laws_eqInt64SS_ltok_107_dep (p : Nat) : LT.dep (laws_eqInt64SS_lt p) = 0 := by kernel_rfl
theorem laws_eqInt64SS_ltok_107 (p : Nat) : LTok Try.prog (laws_eqInt64SS_G p) 5 107 (laws_eqInt64SS_lt p) := by
  intro α n base fn c hd hfn hc
  have hfn' : some fn = some Try.f107 := hfn.symm.trans Try.func107
  cases hfn'
  have hc' : c = bodyOf Try.f107 := by unfold bodyOf; rw [hc]; rfl
  subst hc'
  rw [laws_eqInt64SS_ltok_107_dep] at hd
  obtain ⟨n, rfl⟩ := Nat.exists_eq_add_of_le' hd
  apply LTS_of_loops
  rw [laws_eqInt64SS_ltok_107_ls]
  intro e he st k r h
  simp only [List.mem_cons, List.not_mem_nil, or_false] at he
  subst he
  · obtain ⟨a, ha, hb, x, rfl, h⟩ := altRun_ok h
    simp only [List.mem_cons, List.not_mem_nil, or_false] at ha
    subst ha
    · cases hb; exact ⟨p, (laws_eqInt64SS_l0_ok p n k _ _ p _).trans h⟩
theorem laws_eqInt64SS_E (p : Nat) : EnvS Try.prog (laws_eqInt64SS_G p) := by
  apply glist_env; intro f ce h
  simp only [List.mem_cons, List.not_mem_nil, or_false, Prod.mk.injEq] at h
  rcases h with ⟨rfl, rfl⟩
  · exact laws_eqInt64S_s p
theorem laws_eqInt64SS_I (p : Nat) : ∀ f lt, laws_eqInt64SS_G p f = some (.inl lt) → LTok Try.prog (laws_eqInt64SS_G p) 5 f lt := by
  apply glist_inl; intro f lt h
  simp only [List.mem_cons, List.not_mem_nil, or_false, Prod.mk.injEq, CE.inl.injEq, and_false, or_false, false_or, reduceCtorEq] at h
  
noncomputable def laws_eqInt64SS_p (p : Nat) (a0 : (List (List Int))) (a1 : (List (List Int))) : Option (Bool × Unit) :=
  (bif ((a0.length : Int) != (a1.length : Int)) then some (false, ())
 else (laws_eqInt64SS_l0_go p a0 a1 p (0 : Int) (fun o4 => some (o4, ())) (fun _ => some (true, ()))))
theorem laws_eqInt64SS_run (p : Nat) (x : (parsT [.val (.slice (.slice (.int .i64))), .val (.slice (.slice (.int .i64)))]).T) : acall Try.prog (laws_eqInt64SS_G p) 5 1 107 (laws_eqInt64SS_lt p) (argAVs [.val (.slice (.slice (.int .i64))), .val (.slice (.slice (.int .i64)))] x) ⟨[], 0, []⟩ (outR [.bool]) = laws_eqInt64SS_p p x.1 x.2.1 := by kernel_rfl
noncomputable def laws_eqInt64SS_c (p : Nat) : PC := PC.fn true [.val (.slice (.slice (.int .i64))), .val (.slice (.slice (.int .i64)))] [.bool] fun x => laws_eqInt64SS_p p x.1 x.2.1
theorem laws_eqInt64SS_s (p : Nat) : PSound Try.prog 107 (laws_eqInt64SS_c p) := pure_sound (laws_eqInt64SS_E p) Try.checked.mixed (laws_eqInt64SS_I p) (laws_eqInt64SS_ltok_107 p) (fun _ => rfl) fun x y h => (laws_eqInt64SS_run p x).trans h
/-! laws.eqPump -/
noncomputable def laws_eqPump_G (p : Nat) : FuncId → Option CE := glist [(107, .pure (laws_eqInt64SS_c p))]
theorem laws_eqPump_E (p : Nat) : EnvS Try.prog (laws_eqPump_G p) := by
  apply glist_env; intro f ce h
  simp only [List.mem_cons, List.not_mem_nil, or_false, Prod.mk.injEq] at h
  rcases h with ⟨rfl, rfl⟩
  · exact laws_eqInt64SS_s p
theorem laws_eqPump_I (p : Nat) : ∀ f lt, laws_eqPump_G p f = some (.inl lt) → LTok Try.prog (laws_eqPump_G p) 5 f lt := by
  apply glist_inl; intro f lt h
  simp only [List.mem_cons, List.not_mem_nil, or_false, Prod.mk.injEq, CE.inl.injEq, and_false, or_false, false_or, reduceCtorEq] at h
  
noncomputable def laws_eqPump_p (p : Nat) (a0 : (Ty.T TPump)) (a1 : (Ty.T TPump)) : Option (Bool × Unit) :=
  (bif (!(a0.1.toList == a1.1.toList)) then some (false, ())
 else ((laws_eqInt64SS_p p a0.2 a1.2).bind fun r1 => (bif (!r1.1) then some (false, ())
 else some (true, ()))))
theorem laws_eqPump_run (p : Nat) (x : (parsT [.val TPump, .val TPump]).T) : acall Try.prog (laws_eqPump_G p) 5 1 77 .leaf (argAVs [.val TPump, .val TPump] x) ⟨[], 0, []⟩ (outR [.bool]) = laws_eqPump_p p x.1 x.2.1 := by kernel_rfl
noncomputable def laws_eqPump_c (p : Nat) : PC := PC.fn true [.val TPump, .val TPump] [.bool] fun x => laws_eqPump_p p x.1 x.2.1
theorem laws_eqPump_s (p : Nat) : PSound Try.prog 77 (laws_eqPump_c p) := pure_sound (laws_eqPump_E p) Try.checked.mixed (laws_eqPump_I p) LTok_leaf (fun _ => rfl) fun x y h => (laws_eqPump_run p x).trans h
/-! laws.eqPumpS -/
noncomputable def laws_eqPumpS_l0_r {α : Type} (p : Nat) (v0 : List (Ty.T TPump)) (v1 : List (Ty.T TPump)) (rec : (Int) → Option α) (v2 : Int) (k0 : (Bool) → Option α) (k1 : Unit → Option α) : Option α :=
  (bif (decide (v2 < (v0.length : Int))) then (if 0 ≤ v2 then (v0[v2.toNat]?).bind fun y1 => (if 0 ≤ v2 then (v1[v2.toNat]?).bind fun y2 => ((laws_eqPump_p p y1 y2).bind fun r3 => (bif (!r3.1) then (k0 false)
 else (rec (IntKind.wrap .i64 (v2 + (1 : Int)))))) else none) else none)
 else (k1 ()))
noncomputable def laws_eqPumpS_l0_go {α : Type} (p : Nat) (v0 : List (Ty.T TPump)) (v1 : List (Ty.T TPump)) : Nat → (Int) → ((Bool) → Option α) → (Unit → Option α) → Option α
  | 0, _, _, _ => none
  | q + 1, v2, k0, k1 => laws_eqPumpS_l0_r p v0 v1 (fun v2 => laws_eqPumpS_l0_go p v0 v1 q v2 k0 k1) v2 k0 k1
def laws_eqPumpS_l0_sh : Sh := ⟨[⟨0, false, [.sl TPump]⟩, ⟨1, false, [.sl TPump]⟩, ⟨5, false, [.int .i64]⟩], 0, []⟩
noncomputable def laws_eqPumpS_lc0 (p : Nat) : LC := LC.alts 0 [⟨0, laws_eqPumpS_l0_sh, fun x {α} k => laws_eqPumpS_l0_go p x.1.1.1 x.1.2.1.1 p x.1.2.2.1.1 (fun o0 => k .ret ⟨[(4, .one ⟨false, [.bool o0]⟩)], 0, []⟩) (fun _ => k (.exit 0) ⟨[], 0, []⟩)⟩]
noncomputable def laws_eqPumpS_lt (p : Nat) : LT := (.node .leaf (.node .leaf (.node (.node .leaf (.loop [0, 1, 5] [4] (some (laws_eqPumpS_lc0 p)) .leaf)) .leaf)))
noncomputable def laws_eqPumpS_G (p : Nat) : FuncId → Option CE := glist [(77, .pure (laws_eqPump_c p))]
noncomputable def laws_eqPumpS_c0 : Code := codeAt [1, 1, 0, 1, 0, 0] (bodyOf Try.f18)
noncomputable def laws_eqPumpS_it0 {α : Type} (p n b : Nat) (k : Ex → St → Option α) (q : Nat) (st : St) : Option α :=
  iter (fun s q => aexec Try.prog (laws_eqPumpS_G p) (fun g lt args st (k : D → St → Option α) => acall Try.prog (laws_eqPumpS_G p) 5 (n + 0) g lt args st k) 5 b 27 laws_eqPumpS_c0 .leaf s q) (canon b [0, 1, 5]) q st (fun e s => k e (canon b [4] s))
theorem laws_eqPumpS_l0_step {α : Type} (p n : Nat) (k : Ex → St → Option α) (v0 : List (Ty.T TPump)) (v1 : List (Ty.T TPump)) (q : Nat) (v2 : Int) : laws_eqPumpS_it0 p n 0 k (q + 1) (laws_eqPumpS_l0_sh.mk' (((v0, ()), (v1, ()), (v2, ()), ()), (()))) =
  laws_eqPumpS_l0_r p v0 v1 (fun v2 => laws_eqPumpS_it0 p n 0 k q (laws_eqPumpS_l0_sh.mk' (((v0, ()), (v1, ()), (v2, ()), ()), (())))) v2 (fun o0 => k .ret ⟨[(4, .one ⟨false, [.bool o0]⟩)], 0, []⟩) (fun _ => k (.exit 0) ⟨[], 0, []⟩) := by kernel_rfl
theorem laws_eqPumpS_l0_ok {α : Type} (p n : Nat) (k : Ex → St → Option α) (v0 : List (Ty.T TPump)) (v1 : List (Ty.T TPump)) : ∀ (q : Nat) (v2 : Int), laws_eqPumpS_it0 p n 0 k q (laws_eqPumpS_l0_sh.mk' (((v0, ()), (v1, ()), (v2, ()), ()), (()))) =
  laws_eqPumpS_l0_go p v0 v1 q v2 (fun o0 => k .ret ⟨[(4, .one ⟨false, [.bool o0]⟩)], 0, []⟩) (fun _ => k (.exit 0) ⟨[], 0, []⟩) := by
  intro q
  induction q with
  | zero => intros; rfl
  | succ q ih => intro v2; rw [laws_eqPumpS_l0_step]; simp only [ih]; rfl
theorem laws_eqPumpS_ltok_18_ls (p : Nat) : loopsOf (bodyOf Try.f18) (laws_eqPumpS_lt p) = [⟨laws_eqPumpS_c0, [0, 1, 5], [4], laws_eqPumpS_lc0 p, .leaf⟩] := by kernel_rfl
theorem laws_eqPumpS_ltok_18_dep (p : Nat) : LT.dep (laws_eqPumpS_lt p) = 0 := by kernel_rfl
theorem laws_eqPumpS_ltok_18 (p : Nat) : LTok Try.prog (laws_eqPumpS_G p) 5 18 (laws_eqPumpS_lt p) := by
  intro α n base fn c hd hfn hc
  have hfn' : some fn = some Try.f18 := hfn.symm.trans Try.func18
  cases hfn'
  have hc' : c = bodyOf Try.f18 := by unfold bodyOf; rw [hc]; rfl
  subst hc'
  rw [laws_eqPumpS_ltok_18_dep] at hd
  obtain ⟨n, rfl⟩ := Nat.exists_eq_add_of_le' hd
  apply LTS_of_loops
  rw [laws_eqPumpS_ltok_18_ls]
  intro e he st k r h
  simp only [List.mem_cons, List.not_mem_nil, or_false] at he
  subst he
  · obtain ⟨a, ha, hb, x, rfl, h⟩ := altRun_ok h
    simp only [List.mem_cons, List.not_mem_nil, or_false] at ha
    subst ha
    · cases hb; exact ⟨p, (laws_eqPumpS_l0_ok p n k _ _ p _).trans h⟩
theorem laws_eqPumpS_E (p : Nat) : EnvS Try.prog (laws_eqPumpS_G p) := by
  apply glist_env; intro f ce h
  simp only [List.mem_cons, List.not_mem_nil, or_false, Prod.mk.injEq] at h
  rcases h with ⟨rfl, rfl⟩
  · exact laws_eqPump_s p
theorem laws_eqPumpS_I (p : Nat) : ∀ f lt, laws_eqPumpS_G p f = some (.inl lt) → LTok Try.prog (laws_eqPumpS_G p) 5 f lt := by
  apply glist_inl; intro f lt h
  simp only [List.mem_cons, List.not_mem_nil, or_false, Prod.mk.injEq, CE.inl.injEq, and_false, or_false, false_or, reduceCtorEq] at h
  
noncomputable def laws_eqPumpS_p (p : Nat) (a0 : (List (Ty.T TPump))) (a1 : (List (Ty.T TPump))) : Option (Bool × Unit) :=
  (bif ((a0.length : Int) != (a1.length : Int)) then some (false, ())
 else (laws_eqPumpS_l0_go p a0 a1 p (0 : Int) (fun o4 => some (o4, ())) (fun _ => some (true, ()))))
theorem laws_eqPumpS_run (p : Nat) (x : (parsT [.val (.slice TPump), .val (.slice TPump)]).T) : acall Try.prog (laws_eqPumpS_G p) 5 1 18 (laws_eqPumpS_lt p) (argAVs [.val (.slice TPump), .val (.slice TPump)] x) ⟨[], 0, []⟩ (outR [.bool]) = laws_eqPumpS_p p x.1 x.2.1 := by kernel_rfl
noncomputable def laws_eqPumpS_c (p : Nat) : PC := PC.fn true [.val (.slice TPump), .val (.slice TPump)] [.bool] fun x => laws_eqPumpS_p p x.1 x.2.1
theorem laws_eqPumpS_s (p : Nat) : PSound Try.prog 18 (laws_eqPumpS_c p) := pure_sound (laws_eqPumpS_E p) Try.checked.mixed (laws_eqPumpS_I p) (laws_eqPumpS_ltok_18 p) (fun _ => rfl) fun x y h => (laws_eqPumpS_run p x).trans h
/-! laws.eqSubstation -/
noncomputable def laws_eqSubstation_G (p : Nat) : FuncId → Option CE := glist []
theorem laws_eqSubstation_E (p : Nat) : EnvS Try.prog (laws_eqSubstation_G p) := by
  apply glist_env; intro f ce h
  simp only [List.mem_cons, List.not_mem_nil, or_false, Prod.mk.injEq] at h
  
theorem laws_eqSubstation_I (p : Nat) : ∀ f lt, laws_eqSubstation_G p f = some (.inl lt) → LTok Try.prog (laws_eqSubstation_G p) 5 f lt := by
  apply glist_inl; intro f lt h
  simp only [List.mem_cons, List.not_mem_nil, or_false, Prod.mk.injEq, CE.inl.injEq, and_false, or_false, false_or, reduceCtorEq] at h
  
noncomputable def laws_eqSubstation_p (p : Nat) (a0 : (Ty.T TSubstation)) (a1 : (Ty.T TSubstation)) : Option (Bool × Unit) :=
  (bif (!(a0.1.toList == a1.1.toList)) then some (false, ())
 else (bif (a0.2.1 != a1.2.1) then some (false, ())
 else (bif (a0.2.2.1 != a1.2.2.1) then some (false, ())
 else (bif (a0.2.2.2.1 != a1.2.2.2.1) then some (false, ())
 else (bif (a0.2.2.2.2 != a1.2.2.2.2) then some (false, ())
 else some (true, ()))))))
theorem laws_eqSubstation_run (p : Nat) (x : (parsT [.val TSubstation, .val TSubstation]).T) : acall Try.prog (laws_eqSubstation_G p) 5 1 78 .leaf (argAVs [.val TSubstation, .val TSubstation] x) ⟨[], 0, []⟩ (outR [.bool]) = laws_eqSubstation_p p x.1 x.2.1 := by kernel_rfl
noncomputable def laws_eqSubstation_c (p : Nat) : PC := PC.fn true [.val TSubstation, .val TSubstation] [.bool] fun x => laws_eqSubstation_p p x.1 x.2.1
theorem laws_eqSubstation_s (p : Nat) : PSound Try.prog 78 (laws_eqSubstation_c p) := pure_sound (laws_eqSubstation_E p) Try.checked.mixed (laws_eqSubstation_I p) LTok_leaf (fun _ => rfl) fun x y h => (laws_eqSubstation_run p x).trans h
/-! laws.eqSubstationS -/
noncomputable def laws_eqSubstationS_l0_r {α : Type} (p : Nat) (v0 : List (Ty.T TSubstation)) (v1 : List (Ty.T TSubstation)) (rec : (Int) → Option α) (v2 : Int) (k0 : (Bool) → Option α) (k1 : Unit → Option α) : Option α :=
  (bif (decide (v2 < (v0.length : Int))) then (if 0 ≤ v2 then (v0[v2.toNat]?).bind fun y1 => (if 0 ≤ v2 then (v1[v2.toNat]?).bind fun y2 => ((laws_eqSubstation_p p y1 y2).bind fun r3 => (bif (!r3.1) then (k0 false)
 else (rec (IntKind.wrap .i64 (v2 + (1 : Int)))))) else none) else none)
 else (k1 ()))
noncomputable def laws_eqSubstationS_l0_go {α : Type} (p : Nat) (v0 : List (Ty.T TSubstation)) (v1 : List (Ty.T TSubstation)) : Nat → (Int) → ((Bool) → Option α) → (Unit → Option α) → Option α
  | 0, _, _, _ => none
  | q + 1, v2, k0, k1 => laws_eqSubstationS_l0_r p v0 v1 (fun v2 => laws_eqSubstationS_l0_go p v0 v1 q v2 k0 k1) v2 k0 k1
def laws_eqSubstationS_l0_sh : Sh := ⟨[⟨0, false, [.sl TSubstation]⟩, ⟨1, false, [.sl TSubstation]⟩, ⟨5, false, [.int .i64]⟩], 0, []⟩
noncomputable def laws_eqSubstationS_lc0 (p : Nat) : LC := LC.alts 0 [⟨0, laws_eqSubstationS_l0_sh, fun x {α} k => laws_eqSubstationS_l0_go p x.1.1.1 x.1.2.1.1 p x.1.2.2.1.1 (fun o0 => k .ret ⟨[(4, .one ⟨false, [.bool o0]⟩)], 0, []⟩) (fun _ => k (.exit 0) ⟨[], 0, []⟩)⟩]
noncomputable def laws_eqSubstationS_lt (p : Nat) : LT := (.node .leaf (.node .leaf (.node (.node .leaf (.loop [0, 1, 5] [4] (some (laws_eqSubstationS_lc0 p)) .leaf)) .leaf)))
noncomputable def laws_eqSubstationS_G (p : Nat) : FuncId → Option CE := glist [(78, .pure (laws_eqSubstation_c p))]
noncomputable def laws_eqSubstationS_c0 : Code := codeAt [1, 1, 0, 1, 0, 0] (bodyOf Try.f19)
noncomputable def laws_eqSubstationS_it0 {α : Type} (p n b : Nat) (k : Ex → St → Option α) (q : Nat) (st : St) : Option α :=
  iter (fun s q => aexec Try.prog (laws_eqSubstationS_G p) (fun g lt args st (k : D → St → Option α) => acall Try.prog (laws_eqSubstationS_G p) 5 (n + 0) g lt args st k) 5 b 27 laws_eqSubstationS_c0 .leaf s q) (canon b [0, 1, 5]) q st (fun e s => k e (canon b [4] s))
theorem laws_eqSubstationS_l0_step {α : Type} (p n : Nat) (k : Ex → St → Option α) (v0 : List (Ty.T TSubstation)) (v1 : List (Ty.T TSubstation)) (q : Nat) (v2 : Int) : laws_eqSubstationS_it0 p n 0 k (q + 1) (laws_eqSubstationS_l0_sh.mk' (((v0, ()), (v1, ()), (v2, ()), ()), (()))) =
  laws_eqSubstationS_l0_r p v0 v1 (fun v2 => laws_eqSubstationS_it0 p n 0 k q (laws_eqSubstationS_l0_sh.mk' (((v0, ()), (v1, ()), (v2, ()), ()), (())))) v2 (fun o0 => k .ret ⟨[(4, .one ⟨false, [.bool o0]⟩)], 0, []⟩) (fun _ => k (.exit 0) ⟨[], 0, []⟩) := by kernel_rfl
theorem laws_eqSubstationS_l0_ok {α : Type} (p n : Nat) (k : Ex → St → Option α) (v0 : List (Ty.T TSubstation)) (v1 : List (Ty.T TSubstation)) : ∀ (q : Nat) (v2 : Int), laws_eqSubstationS_it0 p n 0 k q (laws_eqSubstationS_l0_sh.mk' (((v0, ()), (v1, ()), (v2, ()), ()), (()))) =
  laws_eqSubstationS_l0_go p v0 v1 q v2 (fun o0 => k .ret ⟨[(4, .one ⟨false, [.bool o0]⟩)], 0, []⟩) (fun _ => k (.exit 0) ⟨[], 0, []⟩) := by
  intro q
  induction q with
  | zero => intros; rfl
  | succ q ih => intro v2; rw [laws_eqSubstationS_l0_step]; simp only [ih]; rfl
theorem laws_eqSubstationS_ltok_19_ls (p : Nat) : loopsOf (bodyOf Try.f19) (laws_eqSubstationS_lt p) = [⟨laws_eqSubstationS_c0, [0, 1, 5], [4], laws_eqSubstationS_lc0 p, .leaf⟩] := by kernel_rfl
theorem laws_eqSubstationS_ltok_19_dep (p : Nat) : LT.dep (laws_eqSubstationS_lt p) = 0 := by kernel_rfl
theorem laws_eqSubstationS_ltok_19 (p : Nat) : LTok Try.prog (laws_eqSubstationS_G p) 5 19 (laws_eqSubstationS_lt p) := by
  intro α n base fn c hd hfn hc
  have hfn' : some fn = some Try.f19 := hfn.symm.trans Try.func19
  cases hfn'
  have hc' : c = bodyOf Try.f19 := by unfold bodyOf; rw [hc]; rfl
  subst hc'
  rw [laws_eqSubstationS_ltok_19_dep] at hd
  obtain ⟨n, rfl⟩ := Nat.exists_eq_add_of_le' hd
  apply LTS_of_loops
  rw [laws_eqSubstationS_ltok_19_ls]
  intro e he st k r h
  simp only [List.mem_cons, List.not_mem_nil, or_false] at he
  subst he
  · obtain ⟨a, ha, hb, x, rfl, h⟩ := altRun_ok h
    simp only [List.mem_cons, List.not_mem_nil, or_false] at ha
    subst ha
    · cases hb; exact ⟨p, (laws_eqSubstationS_l0_ok p n k _ _ p _).trans h⟩
theorem laws_eqSubstationS_E (p : Nat) : EnvS Try.prog (laws_eqSubstationS_G p) := by
  apply glist_env; intro f ce h
  simp only [List.mem_cons, List.not_mem_nil, or_false, Prod.mk.injEq] at h
  rcases h with ⟨rfl, rfl⟩
  · exact laws_eqSubstation_s p
theorem laws_eqSubstationS_I (p : Nat) : ∀ f lt, laws_eqSubstationS_G p f = some (.inl lt) → LTok Try.prog (laws_eqSubstationS_G p) 5 f lt := by
  apply glist_inl; intro f lt h
  simp only [List.mem_cons, List.not_mem_nil, or_false, Prod.mk.injEq, CE.inl.injEq, and_false, or_false, false_or, reduceCtorEq] at h
  
noncomputable def laws_eqSubstationS_p (p : Nat) (a0 : (List (Ty.T TSubstation))) (a1 : (List (Ty.T TSubstation))) : Option (Bool × Unit) :=
  (bif ((a0.length : Int) != (a1.length : Int)) then some (false, ())
 else (laws_eqSubstationS_l0_go p a0 a1 p (0 : Int) (fun o4 => some (o4, ())) (fun _ => some (true, ()))))
theorem laws_eqSubstationS_run (p : Nat) (x : (parsT [.val (.slice TSubstation), .val (.slice TSubstation)]).T) : acall Try.prog (laws_eqSubstationS_G p) 5 1 19 (laws_eqSubstationS_lt p) (argAVs [.val (.slice TSubstation), .val (.slice TSubstation)] x) ⟨[], 0, []⟩ (outR [.bool]) = laws_eqSubstationS_p p x.1 x.2.1 := by kernel_rfl
noncomputable def laws_eqSubstationS_c (p : Nat) : PC := PC.fn true [.val (.slice TSubstation), .val (.slice TSubstation)] [.bool] fun x => laws_eqSubstationS_p p x.1 x.2.1
theorem laws_eqSubstationS_s (p : Nat) : PSound Try.prog 19 (laws_eqSubstationS_c p) := pure_sound (laws_eqSubstationS_E p) Try.checked.mixed (laws_eqSubstationS_I p) (laws_eqSubstationS_ltok_19 p) (fun _ => rfl) fun x y h => (laws_eqSubstationS_run p x).trans h
/-! laws.eqTank -/
noncomputable def laws_eqTank_G (p : Nat) : FuncId → Option CE := glist []
theorem laws_eqTank_E (p : Nat) : EnvS Try.prog (laws_eqTank_G p) := by
  apply glist_env; intro f ce h
  simp only [List.mem_cons, List.not_mem_nil, or_false, Prod.mk.injEq] at h
  
theorem laws_eqTank_I (p : Nat) : ∀ f lt, laws_eqTank_G p f = some (.inl lt) → LTok Try.prog (laws_eqTank_G p) 5 f lt := by
  apply glist_inl; intro f lt h
  simp only [List.mem_cons, List.not_mem_nil, or_false, Prod.mk.injEq, CE.inl.injEq, and_false, or_false, false_or, reduceCtorEq] at h
  
noncomputable def laws_eqTank_p (p : Nat) (a0 : (Ty.T TTank)) (a1 : (Ty.T TTank)) : Option (Bool × Unit) :=
  (bif (a0.1 != a1.1) then some (false, ())
 else (bif (a0.2.1 != a1.2.1) then some (false, ())
 else (bif (a0.2.2 != a1.2.2) then some (false, ())
 else some (true, ()))))
theorem laws_eqTank_run (p : Nat) (x : (parsT [.val TTank, .val TTank]).T) : acall Try.prog (laws_eqTank_G p) 5 1 20 .leaf (argAVs [.val TTank, .val TTank] x) ⟨[], 0, []⟩ (outR [.bool]) = laws_eqTank_p p x.1 x.2.1 := by kernel_rfl
noncomputable def laws_eqTank_c (p : Nat) : PC := PC.fn true [.val TTank, .val TTank] [.bool] fun x => laws_eqTank_p p x.1 x.2.1
theorem laws_eqTank_s (p : Nat) : PSound Try.prog 20 (laws_eqTank_c p) := pure_sound (laws_eqTank_E p) Try.checked.mixed (laws_eqTank_I p) LTok_leaf (fun _ => rfl) fun x y h => (laws_eqTank_run p x).trans h
/-! laws.eqFuel -/
noncomputable def laws_eqFuel_G (p : Nat) : FuncId → Option CE := glist []
theorem laws_eqFuel_E (p : Nat) : EnvS Try.prog (laws_eqFuel_G p) := by
  apply glist_env; intro f ce h
  simp only [List.mem_cons, List.not_mem_nil, or_false, Prod.mk.injEq] at h
  
theorem laws_eqFuel_I (p : Nat) : ∀ f lt, laws_eqFuel_G p f = some (.inl lt) → LTok Try.prog (laws_eqFuel_G p) 5 f lt := by
  apply glist_inl; intro f lt h
  simp only [List.mem_cons, List.not_mem_nil, or_false, Prod.mk.injEq, CE.inl.injEq, and_false, or_false, false_or, reduceCtorEq] at h
  
noncomputable def laws_eqFuel_p (p : Nat) (a0 : (Ty.T TFuel)) (a1 : (Ty.T TFuel)) : Option (Bool × Unit) :=
  (bif (!(a0.1.toList == a1.1.toList)) then some (false, ())
 else (bif (a0.2.1 != a1.2.1) then some (false, ())
 else (bif (a0.2.2.1 != a1.2.2.1) then some (false, ())
 else (bif (a0.2.2.2 != a1.2.2.2) then some (false, ())
 else some (true, ())))))
theorem laws_eqFuel_run (p : Nat) (x : (parsT [.val TFuel, .val TFuel]).T) : acall Try.prog (laws_eqFuel_G p) 5 1 79 .leaf (argAVs [.val TFuel, .val TFuel] x) ⟨[], 0, []⟩ (outR [.bool]) = laws_eqFuel_p p x.1 x.2.1 := by kernel_rfl
noncomputable def laws_eqFuel_c (p : Nat) : PC := PC.fn true [.val TFuel, .val TFuel] [.bool] fun x => laws_eqFuel_p p x.1 x.2.1
theorem laws_eqFuel_s (p : Nat) : PSound Try.prog 79 (laws_eqFuel_c p) := pure_sound (laws_eqFuel_E p) Try.checked.mixed (laws_eqFuel_I p) LTok_leaf (fun _ => rfl) fun x y h => (laws_eqFuel_run p x).trans h
/-! laws.eqFuelS -/
noncomputable def laws_eqFuelS_l0_r {α : Type} (p : Nat) (v0 : List (Ty.T TFuel)) (v1 : List (Ty.T TFuel)) (rec : (Int) → Option α) (v2 : Int) (k0 : (Bool) → Option α) (k1 : Unit → Option α) : Option α :=
  (bif (decide (v2 < (v0.length : Int))) then (if 0 ≤ v2 then (v0[v2.toNat]?).bind fun y1 => (if 0 ≤ v2 then (v1[v2.toNat]?).bind fun y2 => ((laws_eqFuel_p p y1 y2).bind fun r3 => (bif (!r3.1) then (k0 false)
 else (rec (IntKind.wrap .i64 (v2 + (1 : Int)))))) else none) else none)
 else (k1 ()))
noncomputable def laws_eqFuelS_l0_go {α : Type} (p : Nat) (v0 : List (Ty.T TFuel)) (v1 : List (Ty.T TFuel)) : Nat → (Int) → ((Bool) → Option α) → (Unit → Option α) → Option α
  | 0, _, _, _ => none
  | q + 1, v2, k0, k1 => laws_eqFuelS_l0_r p v0 v1 (fun v2 => laws_eqFuelS_l0_go p v0 v1 q v2 k0 k1) v2 k0 k1
def laws_eqFuelS_l0_sh : Sh := ⟨[⟨0, false, [.sl TFuel]⟩, ⟨1, false, [.sl TFuel]⟩, ⟨5, false, [.int .i64]⟩], 0, []⟩
noncomputable def laws_eqFuelS_lc0 (p : Nat) : LC := LC.alts 0 [⟨0, laws_eqFuelS_l0_sh, fun x {α} k => laws_eqFuelS_l0_go p x.1.1.1 x.1.2.1.1 p x.1.2.2.1.1 (fun o0 => k .ret ⟨[(4, .one ⟨false, [.bool o0]⟩)], 0, []⟩) (fun _ => k (.exit 0) ⟨[], 0, []⟩)⟩]
noncomputable def laws_eqFuelS_lt (p : Nat) : LT := (.node .leaf (.node .leaf (.node (.node .leaf (.loop [0, 1, 5] [4] (some (laws_eqFuelS_lc0 p)) .leaf)) .leaf)))
noncomputable def laws_eqFuelS_G (p : Nat) : FuncId → Option CE := glist [(79, .pure (laws_eqFuel_c p))]
noncomputable def laws_eqFuelS_c0 : Code := codeAt [1, 1, 0, 1, 0, 0] (bodyOf Try.f21)
noncomputable def laws_eqFuelS_it0 {α : Type} (p n b : Nat) (k : Ex → St → Option α) (q : Nat) (st : St) : Option α :=
  iter (fun s q => aexec Try.prog (laws_eqFuelS_G p) (fun g lt args st (k : D → St → Option α) => acall Try.prog (laws_eqFuelS_G p) 5 (n + 0) g lt args st k) 5 b 27 laws_eqFuelS_c0 .leaf s q) (canon b [0, 1, 5]) q st (fun e s => k e (canon b [4] s))
theorem laws_eqFuelS_l0_step {α : Type} (p n : Nat) (k : Ex → St → Option α) (v0 : List (Ty.T TFuel)) (v1 : List (Ty.T TFuel)) (q : Nat) (v2 : Int) : laws_eqFuelS_it0 p n 0 k (q + 1) (laws_eqFuelS_l0_sh.mk' (((v0, ()), (v1, ()), (v2, ()), ()), (()))) =
  laws_eqFuelS_l0_r p v0 v1 (fun v2 => laws_eqFuelS_it0 p n 0 k q (laws_eqFuelS_l0_sh.mk' (((v0, ()), (v1, ()), (v2, ()), ()), (())))) v2 (fun o0 => k .ret ⟨[(4, .one ⟨false, [.bool o0]⟩)], 0, []⟩) (fun _ => k (.exit 0) ⟨[], 0, []⟩) := by kernel_rfl
theorem laws_eqFuelS_l0_ok {α : Type} (p n : Nat) (k : Ex → St → Option α) (v0 : List (Ty.T TFuel)) (v1 : List (Ty.T TFuel)) : ∀ (q : Nat) (v2 : Int), laws_eqFuelS_it0 p n 0 k q (laws_eqFuelS_l0_sh.mk' (((v0, ()), (v1, ()), (v2, ()), ()), (()))) =
  laws_eqFuelS_l0_go p v0 v1 q v2 (fun o0 => k .ret ⟨[(4, .one ⟨false, [.bool o0]⟩)], 0, []⟩) (fun _ => k (.exit 0) ⟨[], 0, []⟩) := by
  intro q
  induction q with
  | zero => intros; rfl
  | succ q ih => intro v2; rw [laws_eqFuelS_l0_step]; simp only [ih]; rfl
theorem laws_eqFuelS_ltok_21_ls (p : Nat) : loopsOf (bodyOf Try.f21) (laws_eqFuelS_lt p) = [⟨laws_eqFuelS_c0, [0, 1, 5], [4], laws_eqFuelS_lc0 p, .leaf⟩] := by kernel_rfl
theorem laws_eqFuelS_ltok_21_dep (p : Nat) : LT.dep (laws_eqFuelS_lt p) = 0 := by kernel_rfl
theorem laws_eqFuelS_ltok_21 (p : Nat) : LTok Try.prog (laws_eqFuelS_G p) 5 21 (laws_eqFuelS_lt p) := by
  intro α n base fn c hd hfn hc
  have hfn' : some fn = some Try.f21 := hfn.symm.trans Try.func21
  cases hfn'
  have hc' : c = bodyOf Try.f21 := by unfold bodyOf; rw [hc]; rfl
  subst hc'
  rw [laws_eqFuelS_ltok_21_dep] at hd
  obtain ⟨n, rfl⟩ := Nat.exists_eq_add_of_le' hd
  apply LTS_of_loops
  rw [laws_eqFuelS_ltok_21_ls]
  intro e he st k r h
  simp only [List.mem_cons, List.not_mem_nil, or_false] at he
  subst he
  · obtain ⟨a, ha, hb, x, rfl, h⟩ := altRun_ok h
    simp only [List.mem_cons, List.not_mem_nil, or_false] at ha
    subst ha
    · cases hb; exact ⟨p, (laws_eqFuelS_l0_ok p n k _ _ p _).trans h⟩
theorem laws_eqFuelS_E (p : Nat) : EnvS Try.prog (laws_eqFuelS_G p) := by
  apply glist_env; intro f ce h
  simp only [List.mem_cons, List.not_mem_nil, or_false, Prod.mk.injEq] at h
  rcases h with ⟨rfl, rfl⟩
  · exact laws_eqFuel_s p
theorem laws_eqFuelS_I (p : Nat) : ∀ f lt, laws_eqFuelS_G p f = some (.inl lt) → LTok Try.prog (laws_eqFuelS_G p) 5 f lt := by
  apply glist_inl; intro f lt h
  simp only [List.mem_cons, List.not_mem_nil, or_false, Prod.mk.injEq, CE.inl.injEq, and_false, or_false, false_or, reduceCtorEq] at h
  
noncomputable def laws_eqFuelS_p (p : Nat) (a0 : (List (Ty.T TFuel))) (a1 : (List (Ty.T TFuel))) : Option (Bool × Unit) :=
  (bif ((a0.length : Int) != (a1.length : Int)) then some (false, ())
 else (laws_eqFuelS_l0_go p a0 a1 p (0 : Int) (fun o4 => some (o4, ())) (fun _ => some (true, ()))))
theorem laws_eqFuelS_run (p : Nat) (x : (parsT [.val (.slice TFuel), .val (.slice TFuel)]).T) : acall Try.prog (laws_eqFuelS_G p) 5 1 21 (laws_eqFuelS_lt p) (argAVs [.val (.slice TFuel), .val (.slice TFuel)] x) ⟨[], 0, []⟩ (outR [.bool]) = laws_eqFuelS_p p x.1 x.2.1 := by kernel_rfl
noncomputable def laws_eqFuelS_c (p : Nat) : PC := PC.fn true [.val (.slice TFuel), .val (.slice TFuel)] [.bool] fun x => laws_eqFuelS_p p x.1 x.2.1
theorem laws_eqFuelS_s (p : Nat) : PSound Try.prog 21 (laws_eqFuelS_c p) := pure_sound (laws_eqFuelS_E p) Try.checked.mixed (laws_eqFuelS_I p) (laws_eqFuelS_ltok_21 p) (fun _ => rfl) fun x y h => (laws_eqFuelS_run p x).trans h
/-! laws.eqRepair -/
noncomputable def laws_eqRepair_G (p : Nat) : FuncId → Option CE := glist []
theorem laws_eqRepair_E (p : Nat) : EnvS Try.prog (laws_eqRepair_G p) := by
  apply glist_env; intro f ce h
  simp only [List.mem_cons, List.not_mem_nil, or_false, Prod.mk.injEq] at h
  
theorem laws_eqRepair_I (p : Nat) : ∀ f lt, laws_eqRepair_G p f = some (.inl lt) → LTok Try.prog (laws_eqRepair_G p) 5 f lt := by
  apply glist_inl; intro f lt h
  simp only [List.mem_cons, List.not_mem_nil, or_false, Prod.mk.injEq, CE.inl.injEq, and_false, or_false, false_or, reduceCtorEq] at h
  
noncomputable def laws_eqRepair_p (p : Nat) (a0 : (Ty.T TFuel)) (a1 : (Ty.T TFuel)) : Option (Bool × Unit) :=
  (bif (!(a0.1.toList == a1.1.toList)) then some (false, ())
 else (bif (a0.2.1 != a1.2.1) then some (false, ())
 else (bif (a0.2.2.1 != a1.2.2.1) then some (false, ())
 else (bif (a0.2.2.2 != a1.2.2.2) then some (false, ())
 else some (true, ())))))
theorem laws_eqRepair_run (p : Nat) (x : (parsT [.val TFuel, .val TFuel]).T) : acall Try.prog (laws_eqRepair_G p) 5 1 80 .leaf (argAVs [.val TFuel, .val TFuel] x) ⟨[], 0, []⟩ (outR [.bool]) = laws_eqRepair_p p x.1 x.2.1 := by kernel_rfl
noncomputable def laws_eqRepair_c (p : Nat) : PC := PC.fn true [.val TFuel, .val TFuel] [.bool] fun x => laws_eqRepair_p p x.1 x.2.1
theorem laws_eqRepair_s (p : Nat) : PSound Try.prog 80 (laws_eqRepair_c p) := pure_sound (laws_eqRepair_E p) Try.checked.mixed (laws_eqRepair_I p) LTok_leaf (fun _ => rfl) fun x y h => (laws_eqRepair_run p x).trans h
end Go.Proofs.Ytekplllopcmooaa.W
