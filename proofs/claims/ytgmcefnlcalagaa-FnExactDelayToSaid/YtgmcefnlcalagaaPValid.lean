/- What the reference and the program check of desks: both come to the same plain words. Printed by valid.py. No condition. -/
import Derived.Test.YtgmcefnlcalagaaPV0
import Derived.Test.YtgmcefnlcalagaaPLaws
namespace Go.Proofs.Ytgmcefnlcalagaa.W
open Go Go.RowKit Go.Proofs.Ytgmcefnlcalagaa.AM
set_option linter.unusedVariables false
set_option linter.unusedSimpArgs false

theorem spec_l00In_eq {p : Nat} (n lo hi : Int) : spec_l00In_p p n lo hi = some (vIn n lo hi, ()) := by
  unfold spec_l00In_p vIn; cases decide (n ≥ lo) <;> rfl
theorem impl_within_eq {p : Nat} (n lo hi : Int) : impl_within_p p n lo hi = some (vIn n lo hi, ()) := by
  unfold impl_within_p vIn; cases decide (n ≥ lo) <;> rfl
theorem spec_l01Small_eq {p : Nat} (c : Int) : spec_l01Small_p p c = some (vSmall c, ()) := by
  unfold spec_l01Small_p vSmall; cases decide (c ≥ 97) <;> rfl
theorem spec_l01Digit_eq {p : Nat} (c : Int) : spec_l01Digit_p p c = some (vDigit c, ()) := by
  unfold spec_l01Digit_p vDigit; cases decide (c ≥ 48) <;> rfl

theorem spec_l01Name_l0_eq {p : Nat} {α : Type} (hp : maxLen < p) (s : ByteArray) (hs : s.size ≤ 10) (k0 : Bool → Option α) (k1 : Unit → Option α) :
    spec_l01Name_l0_go p s p (0 : Int) k0 k1 = bif (List.range s.size).all (fun i => vSmall (byteAt s i) || vDigit (byteAt s i)) then k1 () else k0 false := by
  have hm : maxLen = 9223372036854775807 := rfl
  exact idx_loop s.size (fun i => vSmall (byteAt s i) || vDigit (byteAt s i)) (fun q i => spec_l01Name_l0_go p s q i k0 k1) (k0 false) (k1 ())
    (fun q => by simp only [spec_l01Name_l0_go, spec_l01Name_l0_r, dlt_end, cond_false])
    (fun q i hi => by
      simp only [spec_l01Name_l0_go, spec_l01Name_l0_r, decide_eq_true (show (i : Int) < (s.size : Int) by omega), cond_true, if_pos (show 0 ≤ (i : Int) ∧ (i : Int) < (s.size : Int) by omega), spec_l01Small_eq, spec_l01Digit_eq, Option.bind_some, Int.toNat_natCast, wrap_succ (show i < 9223372036854775807 by omega), byteAt]
      cases vSmall ((s.get! i).toNat : Int) <;> cases vDigit ((s.get! i).toNat : Int) <;> rfl)
    p (by omega)

theorem spec_l01Name_eq {p : Nat} (hp : maxLen < p) (s : ByteArray) : spec_l01Name_p p s = some (vName s, ()) := by
  unfold spec_l01Name_p vName
  rw [size_zero]
  by_cases h1 : s.size = 0
  · rw [decide_eq_true h1, cond_true, decide_eq_false (show ¬ 1 ≤ s.size by omega)]; rfl
  rw [decide_eq_false h1, cond_false, decide_eq_true (show 1 ≤ s.size by omega)]
  by_cases h2 : s.size ≤ 10
  · rw [decide_eq_false (show ¬ (s.size : Int) > 10 by omega), cond_false, decide_eq_true h2, if_pos (by omega), spec_l01Small_eq, spec_l01Name_l0_eq hp s h2]
    simp only [Option.bind_some, Bool.true_and]
    show (bif !vSmall (byteAt s 0) then _ else _) = _
    cases vSmall (byteAt s 0)
    · rfl
    cases (List.range s.size).all (fun i => vSmall (byteAt s i) || vDigit (byteAt s i)) <;> rfl
  · rw [decide_eq_true (show (s.size : Int) > 10 by omega), cond_true, decide_eq_false h2]; rfl

theorem impl_onlyNameBytes_eq {p : Nat} (hp : maxLen < p) (s : ByteArray) (hs : s.size ≤ 1048576) : impl_onlyNameBytes_p p s = some ((List.range s.size).all (fun i => vSmall (byteAt s i) || vDigit (byteAt s i)), ()) := by
  have hm : maxLen = 9223372036854775807 := rfl
  unfold impl_onlyNameBytes_p
  have key := idx_loop s.size (fun i => vSmall (byteAt s i) || vDigit (byteAt s i)) (fun q i => impl_onlyNameBytes_l0_go p s (s.size : Int) q i (fun o1 => some (o1, ())) (fun _ => some (true, ()))) (some (false, ())) (some (true, ()))
    (fun q => by simp only [impl_onlyNameBytes_l0_go, impl_onlyNameBytes_l0_r, dlt_end, cond_false])
    (fun q i hi => by
      simp only [impl_onlyNameBytes_l0_go, impl_onlyNameBytes_l0_r, decide_eq_true (show (i : Int) < (s.size : Int) by omega), cond_true, if_pos (show 0 ≤ (i : Int) ∧ (i : Int) < (s.size : Int) by omega), Int.toNat_natCast, wrap_succ (show i < 9223372036854775807 by omega)]
      exact nameByte _ _ _)
    p (by omega)
  refine key.trans ?_
  cases (List.range s.size).all (fun i => vSmall (byteAt s i) || vDigit (byteAt s i)) <;> rfl

theorem impl_IsName_eq {p : Nat} (hp : maxLen < p) (s : ByteArray) : impl_IsName_p p s = some (vName s, ()) := by
  unfold impl_IsName_p vName
  by_cases h1 : s.size = 0
  · rw [decide_eq_true (show (s.size : Int) < 1 by omega), cond_true, decide_eq_false (show ¬ 1 ≤ s.size by omega)]; rfl
  rw [decide_eq_false (show ¬ (s.size : Int) < 1 by omega), cond_false, decide_eq_true (show 1 ≤ s.size by omega)]
  by_cases h2 : s.size ≤ 10
  · rw [decide_eq_false (show ¬ (s.size : Int) > 10 by omega), cond_false, decide_eq_true h2, if_pos (by omega), if_pos (by omega), impl_onlyNameBytes_eq hp s (by omega)]
    simp only [Option.bind_some, Bool.true_and]
    show (bif decide (byteAt s 0 < 97) then _ else bif decide (byteAt s 0 > 122) then _ else _) = _
    unfold vSmall
    by_cases a1 : byteAt s 0 < 97
    · rw [decide_eq_true a1, decide_eq_false (show ¬ byteAt s 0 ≥ 97 by omega)]; rfl
    rw [decide_eq_false a1, decide_eq_true (show byteAt s 0 ≥ 97 by omega)]
    by_cases a2 : byteAt s 0 > 122
    · rw [decide_eq_true a2, decide_eq_false (show ¬ byteAt s 0 ≤ 122 by omega)]; rfl
    rw [decide_eq_false a2, decide_eq_true (show byteAt s 0 ≤ 122 by omega)]; rfl
  · rw [decide_eq_true (show (s.size : Int) > 10 by omega), cond_true, decide_eq_false h2]; rfl

/-! ### Networks -/

def vPipe (x : Ty.T TPipe) : Bool := vName x.1 && (vIn x.2.1 0 15 && (vIn x.2.2.1 0 15 && ((x.2.1 != x.2.2.1) && (vIn x.2.2.2.1 1 10000 && (vIn x.2.2.2.2.1 20 1000 && vIn x.2.2.2.2.2 0 5000)))))

theorem spec_l03Ok_eq {p : Nat} (hp : maxLen < p) (x : Ty.T TPipe) : spec_l03Ok_p p x = some (vPipe x, ()) := by
  unfold spec_l03Ok_p
  simp only [spec_l01Name_eq hp, spec_l00In_eq, Option.bind_some]
  exact eq_seq _ _ _ (eq_seq _ _ _ (eq_seq _ _ _ (or_seq _ _ _ (and_seq _ _ _ (and_seq _ _ _ rfl)))))
theorem impl_nodeOk_eq {p : Nat} (n : Int) : impl_nodeOk_p p n = some (vIn n 0 15, ()) := by
  unfold impl_nodeOk_p; rw [impl_within_eq]; rfl
theorem impl_ValidPipe_eq {p : Nat} (hp : maxLen < p) (x : Ty.T TPipe) : impl_ValidPipe_p p x = some (vPipe x, ()) := by
  unfold impl_ValidPipe_p
  simp only [impl_IsName_eq hp, impl_within_eq, impl_nodeOk_eq, Option.bind_some]
  exact and_seq _ _ _ (and_seq _ _ _ (and_seq _ _ _ (and_seq _ _ _ (and_seq _ _ _ (and_seq _ _ _ rfl)))))

def vEnds (n : Ty.T TNetwork) (x : Ty.T TPipe) : Bool := decide (x.2.1 < (n.1.length : Int)) && decide (x.2.2.1 < (n.1.length : Int))
def rName (a b : ByteArray) : Bool := Op.bytesLess a.toList b.toList
def vNet (n : Ty.T TNetwork) : Bool := decide (1 ≤ n.1.length) && (decide (n.1.length ≤ 16) && (n.1.all (fun z => vIn z (-100000) 100000) && (decide (n.2.length ≤ 20) && ordB (fun x => vPipe x && vEnds n x) (fun a b => rName a.1 b.1) n.2)))

theorem spec_l04Fits_eq {p : Nat} (hp : maxLen < p) (n : Ty.T TNetwork) (x : Ty.T TPipe) : spec_l04Fits_p p n x = some (vPipe x && vEnds n x, ()) := by
  unfold spec_l04Fits_p
  rw [spec_l03Ok_eq hp]
  exact and_seq _ _ _ (and_seq _ _ _ rfl)

theorem impl_Network_hasEnds_eq {p : Nat} (hp : maxLen < p) (n : Ty.T TNetwork) (x : Ty.T TPipe) (hn : n.1.length ≤ 1048576) (hv : vPipe x = true) : impl_Network_hasEnds_p p n x = some (vEnds n x, ()) := by
  have h1 : 0 ≤ x.2.1 ∧ 0 ≤ x.2.2.1 := by
    simp only [vPipe, vIn, Bool.and_eq_true, decide_eq_true_eq] at hv
    exact ⟨hv.2.1.1, hv.2.2.1.1⟩
  have hw : IntKind.wrap .i64 ((n.1.length : Int) - (1 : Int)) = (n.1.length : Int) - 1 := wrap_in (by omega) (by omega)
  have e : ∀ z : Int, 0 ≤ z → vIn z 0 ((n.1.length : Int) - 1) = decide (z < (n.1.length : Int)) := fun z hz => by
    unfold vIn
    rw [decide_eq_true (show z ≥ 0 by omega), Bool.true_and]
    by_cases h : z < (n.1.length : Int)
    · rw [decide_eq_true h, decide_eq_true (by omega)]
    · rw [decide_eq_false h, decide_eq_false (by omega)]
  unfold impl_Network_hasEnds_p impl_Network_hasNode_p
  simp only [impl_within_eq, hw, Option.bind_some, e _ h1.1, e _ h1.2]
  exact and_seq _ _ _ rfl

theorem spec_l04Ok_l0_eq {p : Nat} {α : Type} (hp : maxLen < p) (n : Ty.T TNetwork) (hn : n.1.length ≤ 1048576) (k0 : Bool → Option α) (k1 : Unit → Option α) :
    spec_l04Ok_l0_go p n p (0 : Int) k0 k1 = bif n.1.all (fun z => vIn z (-100000) 100000) then k1 () else k0 false := by
  have hm : maxLen = 9223372036854775807 := rfl
  exact all_loop n.1 (fun z => vIn z (-100000) 100000) (fun q i => spec_l04Ok_l0_go p n q i k0 k1) (k0 false) (k1 ())
    (fun q => by simp only [spec_l04Ok_l0_go, spec_l04Ok_l0_r, dlt_end, cond_false])
    (fun q i y hy => by
      have hi := lt_of_get hy
      simp only [spec_l04Ok_l0_go, spec_l04Ok_l0_r, dlt_get hy, cond_true, if_pos (Int.natCast_nonneg i), Int.toNat_natCast, hy, Option.bind_some, spec_l00In_eq, wrap_succ (show i < 9223372036854775807 by omega)]
      exact cond_not _ _ _)
    p (by omega)

theorem impl_allWithin_eq {p : Nat} (hp : maxLen < p) (xs : List Int) (lo hi : Int) (hx : xs.length ≤ 1048576) : impl_allWithin_p p xs lo hi = some (xs.all (fun z => vIn z lo hi), ()) := by
  have hm : maxLen = 9223372036854775807 := rfl
  unfold impl_allWithin_p
  have key := all_loop xs (fun z => vIn z lo hi) (fun q i => impl_allWithin_l0_go p xs (xs.length : Int) hi lo q i (fun o2 => some ((!(decide (o2 ≥ (0 : Int)))), ())) (fun _ => some ((!(decide ((-1 : Int) ≥ (0 : Int)))), ()))) (some (false, ())) (some (true, ()))
    (fun q => by simp only [impl_allWithin_l0_go, impl_allWithin_l0_r, dlt_end, cond_false]; rfl)
    (fun q i y hy => by
      have hi' := lt_of_get hy
      simp only [impl_allWithin_l0_go, impl_allWithin_l0_r, dlt_get hy, cond_true, if_pos (Int.natCast_nonneg i), Int.toNat_natCast, hy, Option.bind_some, wrap_succ (show i < 9223372036854775807 by omega), decide_eq_true (show (i : Int) ≥ 0 by omega)]
      unfold vIn
      cases decide (y ≥ lo) <;> cases decide (y ≤ hi) <;> rfl)
    p (by omega)
  refine key.trans ?_
  cases xs.all (fun z => vIn z lo hi) <;> rfl

theorem spec_l04Ok_l1_eq {p : Nat} {α : Type} (hp : maxLen < p) (n : Ty.T TNetwork) (hn : n.2.length ≤ 1048576) (k0 : Bool → Option α) (k1 : Unit → Option α) :
    spec_l04Ok_l1_go p n p (0 : Int) k0 k1 = bif ordB (fun x => vPipe x && vEnds n x) (fun a b => rName a.1 b.1) n.2 then k1 () else k0 false := by
  have hm : maxLen = 9223372036854775807 := rfl
  exact ord_loop n.2 (fun x => vPipe x && vEnds n x) (fun a b => rName a.1 b.1) (fun q i => spec_l04Ok_l1_go p n q i k0 k1) (k0 false) (k1 ())
    (fun q => by simp only [spec_l04Ok_l1_go, spec_l04Ok_l1_r, dlt_end, cond_false])
    (fun q y hy => by
      simp only [spec_l04Ok_l1_go, spec_l04Ok_l1_r, dlt_get hy, cond_true, if_pos (Int.natCast_nonneg 0), Int.toNat_natCast, hy, Option.bind_some, spec_l04Fits_eq hp, pos_zero, cond_false, wrap_succ (show 0 < 9223372036854775807 by omega)]
      exact cond_not _ _ _)
    (fun q i z y hz hy _ => by
      have hi := lt_of_get hy
      simp only [spec_l04Ok_l1_go, spec_l04Ok_l1_r, dlt_get hy, cond_true, if_pos (Int.natCast_nonneg (i + 1)), if_pos (Int.natCast_nonneg i), Int.toNat_natCast, hy, hz, Option.bind_some, spec_l04Fits_eq hp, pos_succ, wrap_pred (show i < 9223372036854775807 by omega), wrap_succ1 (show i + 1 < 9223372036854775807 by omega)]
      show _ = bif ((vPipe y && vEnds n y) && rName z.1 y.1) then _ else _
      cases (vPipe y && vEnds n y) <;> cases hr : rName z.1 y.1 <;> simp [rName] at hr ⊢ <;> simp [hr])
    p (by omega)

theorem spec_l04Ok_eq {p : Nat} (hp : maxLen < p) (n : Ty.T TNetwork) (hw : wt TNetwork n ≤ 1048576) : spec_l04Ok_p p n = some (vNet n, ()) := by
  have hz : wt TNetwork n = wt (.slice (.int .i64)) n.1 + wt (.slice TPipe) n.2 := rfl
  have l1 := wt_len (e := .int .i64) n.1
  have l2 := wt_len (e := TPipe) n.2
  unfold spec_l04Ok_p vNet
  rw [spec_l04Ok_l0_eq hp n (by omega), spec_l04Ok_l1_eq hp n (by omega)]
  cases n.1.all (fun z => vIn z (-100000) 100000)
  · simp
  by_cases h1 : 1 ≤ n.1.length
  · rw [decide_eq_false (show ¬ (n.1.length : Int) < 1 by omega), decide_eq_true h1]
    by_cases h2 : n.1.length ≤ 16
    · rw [decide_eq_false (show ¬ (n.1.length : Int) > 16 by omega), decide_eq_true h2]
      by_cases h3 : n.2.length ≤ 20
      · rw [decide_eq_false (show ¬ (n.2.length : Int) > 20 by omega), decide_eq_true h3]
        cases ordB (fun x => vPipe x && vEnds n x) (fun a b => rName a.1 b.1) n.2 <;> rfl
      · rw [decide_eq_true (show (n.2.length : Int) > 20 by omega), decide_eq_false h3]; rfl
    · rw [decide_eq_true (show (n.1.length : Int) > 16 by omega), decide_eq_false h2]; rfl
  · rw [decide_eq_true (show (n.1.length : Int) < 1 by omega), decide_eq_false h1]; rfl

theorem impl_ValidNetwork_l0_eq {p : Nat} {α : Type} (hp : maxLen < p) (n : Ty.T TNetwork) (hn1 : n.1.length ≤ 1048576) (hn : n.2.length ≤ 1048576) (k0 : Bool → Option α) (k1 : Unit → Option α) :
    impl_ValidNetwork_l0_go p n.2 (n.2.length : Int) n.1 n.2 p (0 : Int) k0 k1 = bif ordB (fun x => vPipe x && vEnds n x) (fun a b => rName a.1 b.1) n.2 then k1 () else k0 false := by
  have hm : maxLen = 9223372036854775807 := rfl
  have he : ∀ y : Ty.T TPipe, vPipe y = true → impl_Network_hasEnds_p p (n.1, n.2) y = some (vEnds n y, ()) := fun y hy => impl_Network_hasEnds_eq hp n y hn1 hy
  exact ord_loop n.2 (fun x => vPipe x && vEnds n x) (fun a b => rName a.1 b.1) (fun q i => impl_ValidNetwork_l0_go p n.2 (n.2.length : Int) n.1 n.2 q i k0 k1) (k0 false) (k1 ())
    (fun q => by simp only [impl_ValidNetwork_l0_go, impl_ValidNetwork_l0_r, dlt_end, cond_false])
    (fun q y hy => by
      simp only [impl_ValidNetwork_l0_go, impl_ValidNetwork_l0_r, dlt_get hy, cond_true, if_pos (Int.natCast_nonneg 0), Int.toNat_natCast, hy, Option.bind_some, impl_ValidPipe_eq hp, pos_zero, cond_false, wrap_succ (show 0 < 9223372036854775807 by omega)]
      cases hv : vPipe y with
      | false => rfl
      | true => rw [he y hv]; cases vEnds n y <;> rfl)
    (fun q i z y hz hy _ => by
      have hi := lt_of_get hy
      simp only [impl_ValidNetwork_l0_go, impl_ValidNetwork_l0_r, dlt_get hy, cond_true, if_pos (Int.natCast_nonneg (i + 1)), if_pos (Int.natCast_nonneg i), Int.toNat_natCast, hy, hz, Option.bind_some, impl_ValidPipe_eq hp, pos_succ, less_not, wrap_pred (show i < 9223372036854775807 by omega), wrap_succ1 (show i + 1 < 9223372036854775807 by omega)]
      cases hv : vPipe y with
      | false => rfl
      | true =>
        rw [he y hv]
        show (bif !vEnds n y then _ else bif !rName z.1 y.1 then _ else _) = _
        cases vEnds n y <;> cases rName z.1 y.1 <;> rfl)
    p (by omega)

theorem impl_ValidNetwork_eq {p : Nat} (hp : maxLen < p) (n : Ty.T TNetwork) (hw : wt TNetwork n ≤ 1048576) : impl_ValidNetwork_p p n = some (vNet n, ()) := by
  have hz : wt TNetwork n = wt (.slice (.int .i64)) n.1 + wt (.slice TPipe) n.2 := rfl
  have l1 := wt_len (e := .int .i64) n.1
  have l2 := wt_len (e := TPipe) n.2
  unfold impl_ValidNetwork_p vNet
  rw [impl_allWithin_eq hp n.1 _ _ (by omega), impl_ValidNetwork_l0_eq hp n (by omega) (by omega)]
  simp only [Option.bind_some]
  by_cases h1 : 1 ≤ n.1.length
  · rw [decide_eq_false (show ¬ (n.1.length : Int) < 1 by omega), decide_eq_true h1]
    by_cases h2 : n.1.length ≤ 16
    · rw [decide_eq_false (show ¬ (n.1.length : Int) > 16 by omega), decide_eq_true h2]
      cases n.1.all (fun z => vIn z (-100000) 100000)
      · rfl
      by_cases h3 : n.2.length ≤ 20
      · rw [decide_eq_false (show ¬ (n.2.length : Int) > 20 by omega), decide_eq_true h3]
        cases ordB (fun x => vPipe x && vEnds n x) (fun a b => rName a.1 b.1) n.2 <;> rfl
      · rw [decide_eq_true (show (n.2.length : Int) > 20 by omega), decide_eq_false h3]; rfl
    · rw [decide_eq_true (show (n.1.length : Int) > 16 by omega), decide_eq_false h2]; rfl
  · rw [decide_eq_true (show (n.1.length : Int) < 1 by omega), decide_eq_false h1]; rfl

end Go.Proofs.Ytgmcefnlcalagaa.W
