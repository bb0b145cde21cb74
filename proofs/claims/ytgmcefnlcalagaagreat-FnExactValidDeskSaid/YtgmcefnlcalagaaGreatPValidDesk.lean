/- Valves; the reference's and the program's check of a desk; the law in plain Lean. No condition. -/
import Derived.Test.YtgmcefnlcalagaaGreatPValid2
namespace Go.Proofs.YtgmcefnlcalagaaGreat.W
open Go Go.RowKit Go.Proofs.YtgmcefnlcalagaaGreat.AM
set_option linter.unusedVariables false
set_option linter.unusedSimpArgs false

def isP (s : ByteArray) (x : Ty.T TPipe) : Bool := x.1.toList == s.toList
def idxP (n : Ty.T TNetwork) (s : ByteArray) : Int := match n.2.findIdx? (isP s) with
  | some i => (i : Int)
  | none => -1
def hasP (n : Ty.T TNetwork) (s : ByteArray) : Bool := n.2.any (isP s)
theorem idxP_neg (n : Ty.T TNetwork) (s : ByteArray) : decide (idxP n s < 0) = !hasP n s := by
  unfold idxP hasP
  cases h : n.2.findIdx? (isP s) with
  | none => rw [findIdx?_none h]; rfl
  | some i => rw [findIdx?_some h]; exact decide_eq_false (by simp only; omega)

theorem spec_l18Pipe_eq {p : Nat} (hp : maxLen < p) (n : Ty.T TNetwork) (y : Ty.T TValve) (hn : n.2.length ≤ 1048576) : spec_l18Pipe_p p n y = some (idxP n y.2.1, ()) := by
  have hm : maxLen = 9223372036854775807 := rfl
  unfold spec_l18Pipe_p idxP
  have key := find_loop n.2 (isP y.2.1) (fun q i => spec_l18Pipe_l0_go p n y q i (fun o2 => some (o2, ())) (fun _ => some ((-1 : Int), ()))) (fun i => some (i, ())) (some (-1, ()))
    (fun q => by simp only [spec_l18Pipe_l0_go, spec_l18Pipe_l0_r, dlt_end, cond_false])
    (fun q i x hx => by
      have hi := lt_of_get hx
      simp only [spec_l18Pipe_l0_go, spec_l18Pipe_l0_r, dlt_get hx, cond_true, if_pos (Int.natCast_nonneg i), Int.toNat_natCast, hx, Option.bind_some, wrap_succ (show i < 9223372036854775807 by omega), isP])
    p (by omega)
  refine key.trans ?_
  cases n.2.findIdx? (isP y.2.1) <;> rfl

theorem impl_Network_pipeNamed_eq {p : Nat} (hp : maxLen < p) (n : Ty.T TNetwork) (s : ByteArray) (hn : n.2.length ≤ 1048576) : impl_Network_pipeNamed_p p n s = some (idxP n s, ()) := by
  have hm : maxLen = 9223372036854775807 := rfl
  unfold impl_Network_pipeNamed_p idxP
  have key := find_loop n.2 (isP s) (fun q i => impl_Network_pipeNamed_l0_go p n.2 (n.2.length : Int) s q i (fun o2 => some (o2, ())) (fun _ => some ((-1 : Int), ()))) (fun i => some (i, ())) (some (-1, ()))
    (fun q => by simp only [impl_Network_pipeNamed_l0_go, impl_Network_pipeNamed_l0_r, dlt_end, cond_false])
    (fun q i x hx => by
      have hi := lt_of_get hx
      simp only [impl_Network_pipeNamed_l0_go, impl_Network_pipeNamed_l0_r, dlt_get hx, cond_true, if_pos (Int.natCast_nonneg i), Int.toNat_natCast, hx, Option.bind_some, wrap_succ (show i < 9223372036854775807 by omega), isP])
    p (by omega)
  refine key.trans ?_
  cases n.2.findIdx? (isP s) <;> rfl

def sameV (y z : Ty.T TValve) : Bool := (z.2.1.toList == y.2.1.toList) && (z.2.2 == y.2.2)
def afterV (pre : List (Ty.T TValve)) (y : Ty.T TValve) : Bool := match pre.getLast? with
  | none => true
  | some z => rName z.1 y.1
def vValve (n : Ty.T TNetwork) (pre : List (Ty.T TValve)) (y : Ty.T TValve) : Bool := vName y.1 && (hasP n y.2.1 && (afterV pre y && !(pre.any (sameV y))))
def vValves (n : Ty.T TNetwork) (xs : List (Ty.T TValve)) : Bool := vNet n && (decide (xs.length ≤ 8) && preB (vValve n) [] xs)

theorem any_of_find {β α : Type} {l : List β} {c : β → Bool} {a b : α} (h : ∀ i, l.findIdx? c = some i → a = a) : (match l.findIdx? c with | some i => a | none => b) = bif l.any c then a else b := by
  cases hf : l.findIdx? c with
  | none => rw [findIdx?_none hf]; rfl
  | some i => rw [findIdx?_some hf]; rfl

theorem spec_l18Ok_l1_eq {p : Nat} {α : Type} (hp : maxLen < p) {xs pre post : List (Ty.T TValve)} {y : Ty.T TValve} (hx : pre ++ y :: post = xs) (hn : xs.length ≤ 1048576) (k0 : Bool → Option α) (k1 : Unit → Option α) :
    spec_l18Ok_l1_go p xs (pre.length : Int) p (0 : Int) k0 k1 = bif pre.any (sameV y) then k0 false else k1 () := by
  have hm : maxLen = 9223372036854775807 := rfl
  have hpl := pre_lt hx
  have key := find_loop pre (sameV y) (fun q i => spec_l18Ok_l1_go p xs (pre.length : Int) q i k0 k1) (fun _ => k0 false) (k1 ())
    (fun q => by simp only [spec_l18Ok_l1_go, spec_l18Ok_l1_r, dlt_end, cond_false])
    (fun q i x hi => by
      have hi' := lt_of_get hi
      simp only [spec_l18Ok_l1_go, spec_l18Ok_l1_r, dlt_get hi, cond_true, if_pos (Int.natCast_nonneg i), if_pos (Int.natCast_nonneg pre.length), Int.toNat_natCast, get_in hx hi, get_at hx, Option.bind_some, wrap_succ (show i < 9223372036854775807 by omega), sameV]
      cases (x.2.1.toList == y.2.1.toList) <;> cases (x.2.2 == y.2.2) <;> rfl)
    p (by omega)
  exact key.trans (any_of_find fun _ _ => rfl)

theorem impl_ValidValves_l1_eq {p : Nat} {α : Type} (hp : maxLen < p) (pre : List (Ty.T TValve)) (y : Ty.T TValve) (hn : pre.length ≤ 1048576) (k0 : Int → Option α) (k1 : Unit → Option α) (A : Option α) (h0 : ∀ i : Nat, k0 (i : Int) = A) :
    impl_ValidValves_l1_go p pre (pre.length : Int) y.2.1 y.2.2 p (0 : Int) k0 k1 = bif pre.any (sameV y) then A else k1 () := by
  have hm : maxLen = 9223372036854775807 := rfl
  have key := find_loop pre (sameV y) (fun q i => impl_ValidValves_l1_go p pre (pre.length : Int) y.2.1 y.2.2 q i k0 k1) (fun _ => A) (k1 ())
    (fun q => by simp only [impl_ValidValves_l1_go, impl_ValidValves_l1_r, dlt_end, cond_false])
    (fun q i x hi => by
      have hi' := lt_of_get hi
      simp only [impl_ValidValves_l1_go, impl_ValidValves_l1_r, dlt_get hi, cond_true, if_pos (Int.natCast_nonneg i), Int.toNat_natCast, hi, Option.bind_some, wrap_succ (show i < 9223372036854775807 by omega), sameV, h0]
      cases (x.2.1.toList == y.2.1.toList) <;> cases (x.2.2 == y.2.2) <;> rfl)
    p (by omega)
  exact key.trans (any_of_find fun _ _ => rfl)

theorem pre_cases {β : Type} (pre : List β) : pre = [] ∨ ∃ pre' z, pre = pre' ++ [z] := by
  rcases List.eq_nil_or_concat pre with h | ⟨a, b, h⟩
  · exact .inl h
  · exact .inr ⟨a, b, by rw [h, List.concat_eq_append]⟩

theorem spec_l18Ok_l0_eq {p : Nat} {α : Type} (hp : maxLen < p) (n : Ty.T TNetwork) (xs : List (Ty.T TValve)) (hn : n.2.length ≤ 1048576) (hl : xs.length ≤ 1048576) (k0 : Bool → Option α) (k1 : Unit → Option α) :
    spec_l18Ok_l0_go p n xs p (0 : Int) k0 k1 = bif preB (vValve n) [] xs then k1 () else k0 false := by
  have hm : maxLen = 9223372036854775807 := rfl
  exact pre_loop xs (vValve n) (fun q i => spec_l18Ok_l0_go p n xs q i k0 k1) (k0 false) (k1 ())
    (fun q => by simp only [spec_l18Ok_l0_go, spec_l18Ok_l0_r, dlt_end, cond_false])
    (fun q pre y post hx => by
      have hpl := pre_lt hx
      simp only [spec_l18Ok_l0_go, spec_l18Ok_l0_r, dlt_get (get_at hx), cond_true, if_pos (Int.natCast_nonneg pre.length), Int.toNat_natCast, get_at hx, Option.bind_some, spec_l01Name_eq hp, spec_l18Pipe_eq hp n _ hn, idxP_neg, spec_l18Ok_l1_eq hp hx hl, wrap_succ (show pre.length < 9223372036854775807 by omega)]
      rcases pre_cases pre with rfl | ⟨pre', z, rfl⟩
      · simp only [List.length_nil, pos_zero, cond_false]
        unfold vValve
        cases vName y.1 <;> cases hasP n y.2.1 <;> rfl
      · have hz : xs[pre'.length]? = some z := get_in hx (by simp)
        simp only [List.length_append, List.length_singleton, pos_succ, cond_true, wrap_pred (show pre'.length < 9223372036854775807 by simp at hpl; omega), if_pos (Int.natCast_nonneg pre'.length), Int.toNat_natCast, hz, Option.bind_some]
        have ha : afterV (pre' ++ [z]) y = Op.bytesLess z.1.toList y.1.toList := by unfold afterV; simp [rName]
        unfold vValve
        rw [ha]
        cases vName y.1 <;> cases hasP n y.2.1 <;> cases Op.bytesLess z.1.toList y.1.toList <;> cases (pre' ++ [z]).any (sameV y) <;> rfl)
    p (by omega)

theorem impl_ValidValves_l0_eq {p : Nat} {α : Type} (hp : maxLen < p) (n : Ty.T TNetwork) (xs : List (Ty.T TValve)) (hn : n.2.length ≤ 1048576) (hl : xs.length ≤ 1048576) (k0 : Bool → Option α) (k1 : Unit → Option α) :
    impl_ValidValves_l0_go p xs xs (xs.length : Int) n.1 n.2 p (0 : Int) k0 k1 = bif preB (vValve n) [] xs then k1 () else k0 false := by
  have hm : maxLen = 9223372036854775807 := rfl
  have hi : ∀ y : Ty.T TValve, impl_Network_pipeNamed_p p (n.1, n.2) y.2.1 = some (idxP n y.2.1, ()) := fun y => impl_Network_pipeNamed_eq hp n y.2.1 hn
  exact pre_loop xs (vValve n) (fun q i => impl_ValidValves_l0_go p xs xs (xs.length : Int) n.1 n.2 q i k0 k1) (k0 false) (k1 ())
    (fun q => by simp only [impl_ValidValves_l0_go, impl_ValidValves_l0_r, dlt_end, cond_false])
    (fun q pre y post hx => by
      have hpl := pre_lt hx
      have h1 : ∀ A B : Option α, impl_ValidValves_l1_go p pre (pre.length : Int) y.2.1 y.2.2 p (0 : Int) (fun o => bif decide (o ≥ (0 : Int)) then A else B) (fun _ => bif decide ((-1 : Int) ≥ (0 : Int)) then A else B) = bif pre.any (sameV y) then A else B := fun A B =>
        impl_ValidValves_l1_eq hp pre y (by omega) _ _ A (fun i => by rw [decide_eq_true (show (i : Int) ≥ 0 by omega)]; rfl)
      have hs : (xs.take pre.length).drop (0 : Int).toNat = pre := by have := sub_pre hx; rwa [Int.toNat_natCast] at this
      simp only [impl_ValidValves_l0_go, impl_ValidValves_l0_r, dlt_get (get_at hx), cond_true, if_pos (Int.natCast_nonneg pre.length), get_at hx, Option.bind_some, impl_IsName_eq hp, hi, idxP_neg, hs, h1, if_pos (show 0 ≤ (0 : Int) ∧ (0 : Int) ≤ (pre.length : Int) ∧ (pre.length : Int) ≤ (xs.length : Int) by omega), Int.toNat_natCast, wrap_succ (show pre.length < 9223372036854775807 by omega)]
      rcases pre_cases pre with rfl | ⟨pre', z, rfl⟩
      · simp only [List.length_nil, pos_zero, cond_false, get_at hx]
        unfold vValve
        cases vName y.1 <;> cases hasP n y.2.1 <;> rfl
      · have hz : xs[pre'.length]? = some z := get_in hx (by simp)
        have hy : xs[pre'.length + 1]? = some y := by have := get_at hx; simpa using this
        simp only [List.length_append, List.length_singleton, pos_succ, cond_true, wrap_pred (show pre'.length < 9223372036854775807 by simp at hpl; omega), if_pos (Int.natCast_nonneg pre'.length), Int.toNat_natCast, hz, hy, Option.bind_some, less_not]
        have ha : afterV (pre' ++ [z]) y = Op.bytesLess z.1.toList y.1.toList := by unfold afterV; simp [rName]
        unfold vValve
        rw [ha]
        cases vName y.1 <;> cases hasP n y.2.1 <;> cases Op.bytesLess z.1.toList y.1.toList <;> cases (pre' ++ [z]).any (sameV y) <;> rfl)
    p (by omega)

theorem spec_l18Ok_eq {p : Nat} (hp : maxLen < p) (n : Ty.T TNetwork) (xs : List (Ty.T TValve)) (hn : wt TNetwork n ≤ 1048576) (hw : wt (.slice TValve) xs ≤ 1048576) : spec_l18Ok_p p n xs = some (vValves n xs, ()) := by
  have hz : wt TNetwork n = wt (.slice (.int .i64)) n.1 + wt (.slice TPipe) n.2 := rfl
  have l2 := wt_len (e := TPipe) n.2
  have l3 := wt_len (e := TValve) xs
  unfold spec_l18Ok_p vValves
  rw [spec_l04Ok_eq hp n hn, spec_l18Ok_l0_eq hp n xs (by omega) (by omega)]
  simp only [Option.bind_some]
  cases vNet n
  · rfl
  by_cases h : xs.length ≤ 8
  · rw [decide_eq_true h, decide_eq_false (show ¬ (xs.length : Int) > 8 by omega)]; cases preB (vValve n) [] xs <;> rfl
  · rw [decide_eq_false h, decide_eq_true (show (xs.length : Int) > 8 by omega)]; rfl

theorem impl_ValidValves_eq {p : Nat} (hp : maxLen < p) (n : Ty.T TNetwork) (xs : List (Ty.T TValve)) (hn : wt TNetwork n ≤ 1048576) (hw : wt (.slice TValve) xs ≤ 1048576) : impl_ValidValves_p p n xs = some (vValves n xs, ()) := by
  have hz : wt TNetwork n = wt (.slice (.int .i64)) n.1 + wt (.slice TPipe) n.2 := rfl
  have l2 := wt_len (e := TPipe) n.2
  have l3 := wt_len (e := TValve) xs
  unfold impl_ValidValves_p vValves
  rw [impl_ValidNetwork_eq hp n hn, impl_ValidValves_l0_eq hp n xs (by omega) (by omega)]
  simp only [Option.bind_some]
  cases vNet n
  · rfl
  by_cases h : xs.length ≤ 8
  · rw [decide_eq_true h, decide_eq_false (show ¬ (xs.length : Int) > 8 by omega)]; cases preB (vValve n) [] xs <;> rfl
  · rw [decide_eq_false h, decide_eq_true (show (xs.length : Int) > 8 by omega)]; rfl

def vFlows (n : Ty.T TNetwork) (xs : List Int) : Bool := ((xs.length : Int) == (n.2.length : Int)) && xs.all (fun z => vIn z (-100000) 100000)

theorem impl_Network_flowsOk_eq {p : Nat} (hp : maxLen < p) (n : Ty.T TNetwork) (xs : List Int) (hl : xs.length ≤ 1048576) : impl_Network_flowsOk_p p n xs = some (vFlows n xs, ()) := by
  unfold impl_Network_flowsOk_p vFlows
  rw [impl_allWithin_eq hp _ _ _ hl]
  exact and_seq _ _ _ rfl

theorem spec_l30Flows_eq {p : Nat} (hp : maxLen < p) (n : Ty.T TNetwork) (xs : List Int) (hl : xs.length ≤ 1048576) : spec_l30Flows_p p n xs = some (vFlows n xs, ()) := by
  have hm : maxLen = 9223372036854775807 := rfl
  unfold spec_l30Flows_p vFlows
  have key := all_loop xs (fun z => vIn z (-100000) 100000) (fun q i => spec_l30Flows_l0_go p xs q i (fun o3 => some (o3, ())) (fun _ => some (((xs.length : Int) == (n.2.length : Int)), ()))) (some (false, ())) (some (((xs.length : Int) == (n.2.length : Int)), ()))
    (fun q => by simp only [spec_l30Flows_l0_go, spec_l30Flows_l0_r, dlt_end, cond_false])
    (fun q i y hy => by
      have hi := lt_of_get hy
      simp only [spec_l30Flows_l0_go, spec_l30Flows_l0_r, spec_l03Flow_p, dlt_get hy, cond_true, if_pos (Int.natCast_nonneg i), Int.toNat_natCast, hy, Option.bind_some, spec_l00In_eq, wrap_succ (show i < 9223372036854775807 by omega)]
      exact cond_not _ _ _)
    p (by omega)
  refine key.trans ?_
  cases xs.all (fun z => vIn z (-100000) 100000) <;> cases ((xs.length : Int) == (n.2.length : Int)) <;> rfl

def vDesk (x : Ty.T TDesk) : Bool := vNet x.1 && (vFlows x.1 x.2.1 && (vValves x.1 x.2.2.1 && (vList TPump vPump (fun a b => rName a.1 b.1) 8 x.2.2.2.1 && (vList TSubstation vSub (fun a b => rName a.1 b.1) 12 x.2.2.2.2.1 && (vTank x.2.2.2.2.2.1 && (vList TFuel vFuel (fun a b => rName a.1 b.1) 6 x.2.2.2.2.2.2.1 && (vList TFuel vRepair (fun a b => rName a.1 b.1) 8 x.2.2.2.2.2.2.2.1 && (vList TTenant vTenant (fun a b => rName a.1 b.1) 12 x.2.2.2.2.2.2.2.2.1 && vList TDuty vDuty rDuty 32 x.2.2.2.2.2.2.2.2.2))))))))

theorem deskWt (x : Ty.T TDesk) : wt TDesk x = wt TNetwork x.1 + (wt (.slice (.int .i64)) x.2.1 + (wt (.slice TValve) x.2.2.1 + (wt (.slice TPump) x.2.2.2.1 + (wt (.slice TSubstation) x.2.2.2.2.1 + (0 + (wt (.slice TFuel) x.2.2.2.2.2.2.1 + (wt (.slice TFuel) x.2.2.2.2.2.2.2.1 + (wt (.slice TTenant) x.2.2.2.2.2.2.2.2.1 + wt (.slice TDuty) x.2.2.2.2.2.2.2.2.2)))))))) := rfl

theorem impl_ValidDesk_eq {p : Nat} (hp : maxLen < p) (x : Ty.T TDesk) (hw : wt TDesk x ≤ 1048576) : impl_ValidDesk_p p x = some (vDesk x, ()) := by
  have hz := deskWt x
  have l2 := wt_len (e := .int .i64) x.2.1
  unfold impl_ValidDesk_p
  simp only [impl_ValidNetwork_eq hp x.1 (by omega), impl_Network_flowsOk_eq hp x.1 x.2.1 (by omega), impl_ValidValves_eq hp x.1 x.2.2.1 (by omega) (by omega), impl_pumpsOk_eq hp x.2.2.2.1 (by omega), impl_ValidSubstations_eq hp x.2.2.2.2.1 (by omega), impl_ValidTank_eq hp, impl_ValidFuels_eq hp x.2.2.2.2.2.2.1 (by omega), impl_ValidRepairs_eq hp x.2.2.2.2.2.2.2.1 (by omega), impl_ValidTenants_eq hp x.2.2.2.2.2.2.2.2.1 (by omega), impl_ValidDuties_eq hp x.2.2.2.2.2.2.2.2.2 (by omega), Option.bind_some]
  exact and_seq _ _ _ (and_seq _ _ _ (and_seq _ _ _ (and_seq _ _ _ (and_seq _ _ _ (and_seq _ _ _ (and_seq _ _ _ (and_seq _ _ _ (and_seq _ _ _ rfl))))))))

theorem spec_ValidDesk_eq {p : Nat} (hp : maxLen < p) (x : Ty.T TDesk) (hw : wt TDesk x ≤ 1048576) : spec_ValidDesk_p p x = some (vDesk x, ()) := by
  have hz := deskWt x
  have l2 := wt_len (e := .int .i64) x.2.1
  unfold spec_ValidDesk_p spec_l32Ok_p
  simp only [spec_l30Flows_eq hp x.1 x.2.1 (by omega), spec_l18Ok_eq hp x.1 x.2.2.1 (by omega) (by omega), spec_l08List_eq hp x.2.2.2.1 (by omega), spec_l12Ok_eq hp x.2.2.2.2.1 (by omega), spec_l14Ok_eq hp, spec_l16Ok_eq hp x.2.2.2.2.2.2.1 (by omega), spec_l20Ok_eq hp x.2.2.2.2.2.2.2.1 (by omega), spec_l22Ok_eq hp x.2.2.2.2.2.2.2.2.1 (by omega), spec_l26Ok_eq hp x.2.2.2.2.2.2.2.2.2 (by omega), Option.bind_some]
  rw [and_seq _ _ _ (and_seq _ _ _ (and_seq _ _ _ (and_seq _ _ _ (and_seq _ _ _ (and_seq _ _ _ (and_seq _ _ _ (and_seq _ _ _ rfl)))))))]
  simp only [Option.bind_some]
  unfold vDesk
  have hv : vValves x.1 x.2.2.1 = (vNet x.1 && vValves x.1 x.2.2.1) := by unfold vValves; cases vNet x.1 <;> rfl
  rw [hv]
  cases vNet x.1 <;> cases vFlows x.1 x.2.1 <;> rfl

theorem FnExactValidDesk_law (x : Ty.T TDesk) (hx : TDesk.wf x) : laws_FnExactValidDesk_p (maxLen + 1) x = some true := by
  have hp : maxLen < maxLen + 1 := Nat.lt_succ_self _
  unfold laws_FnExactValidDesk_p
  rw [laws_szDesk_eq hp x hx (by omega) (by omega)]
  simp only [Option.bind_some]
  by_cases c : (1048576 : Int) < ((wt TDesk x : Nat) : Int)
  · rw [szf_big c]; rfl
  rw [szf_small (by omega), decide_eq_false (by omega), cond_false]
  simp only [laws_toDesk_eq hp x (by omega), spec_ValidDesk_eq hp x (by omega), impl_ValidDesk_eq hp x (by omega), laws_eqDesk_eq hp x x (by omega), tbeq_refl, Option.bind_some]
  cases vDesk x <;> rfl

end Go.Proofs.YtgmcefnlcalagaaGreat.W
