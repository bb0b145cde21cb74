/- The reference's order of a tree's nodes is the program's list of ways. No condition. -/
import Derived.Test.YtgmcefnlcalagaaPNet
namespace Go.Proofs.Ytgmcefnlcalagaa.W
open Go Go.RowKit Go.Proofs.Ytgmcefnlcalagaa.AM
set_option linter.unusedVariables false
set_option linter.unusedSimpArgs false

def seenOf (N : Nat) (known : List Int) : List Bool := (List.range N).map fun (j : Nat) => known.contains (j : Int)
def wcode (E : List (Int × Int)) (w : Way) : Int := if (E.getD w.2.2.toNat (0, 0)).1 = w.2.1 then w.2.2 + 1 else -w.2.2 - 1
def byOf (E : List (Int × Int)) (N : Nat) (ws : List Way) : List Int := ws.foldl (fun by0 w => by0.set w.1.toNat (wcode E w)) (List.replicate N 0)

theorem seen_len (N : Nat) (l : List Int) : (seenOf N l).length = N := by simp [seenOf]
theorem seen_get {N : Nat} {l : List Int} {b : Int} (hb : inR N b) (d : Bool) : (seenOf N l).getD b.toNat d = l.contains b := by
  have := inR_toNat hb
  unfold seenOf
  rw [List.getD_eq_getElem?_getD, List.getElem?_map, List.getElem?_range this.1, Option.map_some, Option.getD_some, this.2]
theorem seen_set {N : Nat} {l : List Int} {b : Int} (hb : inR N b) : (seenOf N l).set b.toNat true = seenOf N (l ++ [b]) := by
  have hb' := inR_toNat hb
  apply List.ext_getElem?
  intro j
  unfold seenOf
  rw [List.getElem?_set, List.getElem?_map, List.getElem?_map]
  by_cases h : b.toNat = j
  · subst h
    rw [if_pos rfl, if_pos (by simpa using hb'.1), List.getElem?_range hb'.1]
    have e : (l ++ [b]).contains (((b.toNat : Nat)) : Int) = true := by rw [hb'.2]; exact List.contains_iff_mem.2 (by simp)
    simp only [Option.map_some, e]
  · rw [if_neg h]
    by_cases hj : j < N
    · rw [List.getElem?_range hj]
      simp only [Option.map_some, Option.some.injEq]
      rw [Bool.eq_iff_iff, List.contains_iff_mem, List.contains_iff_mem, List.mem_append]
      constructor
      · exact .inl
      · rintro (q | q)
        · exact q
        · simp at q; omega
    · rw [List.getElem?_eq_none (by simpa using Nat.le_of_not_lt hj)]; rfl
theorem by_len (E : List (Int × Int)) : ∀ (ws : List Way) (l : List Int), (ws.foldl (fun by0 w => by0.set w.1.toNat (wcode E w)) l).length = l.length := by
  intro ws
  induction ws with
  | nil => intro l; rfl
  | cons w ws ih => intro l; rw [List.foldl_cons, ih, List.length_set]
theorem byOf_len (E : List (Int × Int)) (N : Nat) (ws : List Way) : (byOf E N ws).length = N := by unfold byOf; rw [by_len]; simp
theorem byOf_add (E : List (Int × Int)) (N : Nat) (ws : List Way) (w : Way) : byOf E N (ws ++ [w]) = (byOf E N ws).set w.1.toNat (wcode E w) := by
  unfold byOf; rw [List.foldl_append]; rfl

theorem order_l1_eq {p : Nat} {α : Type} (hp : maxLen < p) {n : Ty.T TNetwork} (hn : GoodNet n) {src : Int} (k : Nat) (a : Int) (K : List Int → List Int → List Bool → Option α) :
    ∀ (l : List (Ty.T TPipe)) (i : Nat) (s : BS) (q : Nat), n.2.drop i = l → BInv (edges n) [] n.1.length src s → s.1[k]? = some a → l.length < q →
    spec_l07Order_l1_go p n (k : Int) q (i : Int) s.1 (byOf (edges n) n.1.length s.2) (seenOf n.1.length s.1) K =
      K (bIn [] a i (l.map ends) s).1 (byOf (edges n) n.1.length (bIn [] a i (l.map ends) s).2) (seenOf n.1.length (bIn [] a i (l.map ends) s).1) := by
  have hm : maxLen = 9223372036854775807 := rfl
  have hpl := hn.pipes
  have hN := hn.hi
  intro l
  induction l with
  | nil =>
    intro i s q hd _ _ hq
    obtain ⟨q, rfl⟩ := Nat.exists_eq_add_of_lt hq
    rw [show ([] : List (Ty.T TPipe)).length + q + 1 = q + 1 by simp]
    simp only [spec_l07Order_l1_go, spec_l07Order_l1_r, drop_nil hd, cond_false, bIn, List.map_nil]
  | cons x l ih =>
    intro i s q hd hs hk hq
    obtain ⟨q, rfl⟩ := Nat.exists_eq_add_of_lt hq
    obtain ⟨hx, hd'⟩ := drop_cons hd
    have hi := lt_of_get hx
    have hlen := hs.len
    have hkl := lt_of_get hk
    have hE := hn.edges (ends x) (List.mem_of_getElem? (edges_get hx))
    obtain ⟨hinv, t, ht⟩ := bStep_inv hn.edges hs (List.mem_of_getElem? hk) (edges_get hx)
    have hk' : (bStep [] a i (ends x) s).1[k]? = some a := by rw [ht, List.getElem?_append_left hkl]; exact hk
    have hrec := ih (i + 1) (bStep [] a i (ends x) s) (l.length + 1 + q) hd' hinv hk' (by omega)
    rw [show (x :: l).length + q + 1 = (l.length + 1 + q) + 1 by simp]
    have r1 : 0 ≤ x.2.1 ∧ x.2.1 < ((seenOf n.1.length s.1).length : Int) := by rw [seen_len]; exact hE.1
    have r2 : 0 ≤ x.2.2.1 ∧ x.2.2.1 < ((seenOf n.1.length s.1).length : Int) := by rw [seen_len]; exact hE.2.1
    have b1 : 0 ≤ x.2.1 ∧ x.2.1 < ((byOf (edges n) n.1.length s.2).length : Int) := by rw [byOf_len]; exact hE.1
    have b2 : 0 ≤ x.2.2.1 ∧ x.2.2.1 < ((byOf (edges n) n.1.length s.2).length : Int) := by rw [byOf_len]; exact hE.2.1
    have g1 : (seenOf n.1.length s.1).getD x.2.1.toNat (Ty.zero .bool) = s.1.contains x.2.1 := seen_get hE.1 _
    have g2 : (seenOf n.1.length s.1).getD x.2.2.1.toNat (Ty.zero .bool) = s.1.contains x.2.2.1 := seen_get hE.2.1 _
    have hne : x.2.1 ≠ x.2.2.1 := hE.2.2
    have hgE : (edges n).getD i (0, 0) = ends x := by rw [List.getD_eq_getElem?_getD, edges_get hx]; rfl
    simp only [spec_l07Order_l1_go, spec_l07Order_l1_r, dlt_get hx, cond_true, if_pos (Int.natCast_nonneg i), Int.toNat_natCast, hx, Option.bind_some,
      if_pos (show 0 ≤ (k : Int) ∧ (k : Int) < (s.1.length : Int) by omega), getD_of hk, if_pos r1, if_pos r2, if_pos b1, if_pos b2, g1, g2, wrap_succ (show i < 9223372036854775807 by omega),
      List.map_cons, bIn]
    rw [← hrec]
    unfold bStep otherE
    have h0 : ([] : List Int).contains (i : Int) = false := rfl
    have hc : ∀ b : Int, capOk (s.1.length + ((List.replicate 1 (Ty.zero (.int .i64))).set 0 b).length) 8 = true := fun b => cap_small (by simp; omega) (by omega)
    have ea : ∀ b : Int, s.1 ++ ((List.replicate 1 (Ty.zero (.int .i64))).set 0 b) = s.1 ++ [b] := fun b => rfl
    by_cases q1 : a = x.2.1
    · subst q1
      have e1 : (x.2.1 == x.2.1) = true := beq_self_eq_true _
      have e2 : (x.2.2.1 == x.2.1) = false := beq_eq_false_iff_ne.2 (fun q => hne q.symm)
      have hkk : (s.1 ++ [x.2.2.1])[k]? = some x.2.1 := by rw [List.getElem?_append_left hkl]; exact hk
      have hr : 0 ≤ (k : Int) ∧ (k : Int) < ((s.1 ++ [x.2.2.1]).length : Int) := by rw [List.length_append]; omega
      have hw : wcode (edges n) (x.2.2.1, x.2.1, (i : Int)) = ((i + 1 : Nat) : Int) := by
        unfold wcode
        simp only [Int.toNat_natCast]
        rw [hgE, if_pos (show (ends x).1 = x.2.1 from rfl)]; omega
      simp only [e1, e2, cond_true, cond_false]
      rw [if_pos (show x.2.1 = (ends x).1 from rfl)]
      simp only
      have e3 : (ends x).2 = x.2.2.1 := rfl
      have e4 : seenOf n.1.length (s.1 ++ [x.2.2.1]) = (seenOf n.1.length s.1).set x.2.2.1.toNat true := (seen_set hE.2.1).symm
      rw [e3]
      cases h2 : s.1.contains x.2.2.1 with
      | true => simp only [Bool.not_true, cond_false, or_true, if_true]
      | false =>
        simp only [Bool.not_false, cond_true, hc, ea, if_pos hr, getD_of hkk, e2, cond_false, h0, h2, Bool.false_eq_true, or_self, if_false, byOf_add, hw, e4]
    · have e1 : (x.2.1 == a) = false := beq_eq_false_iff_ne.2 (fun q => q1 q.symm)
      simp only [e1, cond_false]
      rw [if_neg (show ¬ a = (ends x).1 from q1)]
      by_cases q2 : a = x.2.2.1
      · subst q2
        have e2 : (x.2.2.1 == x.2.2.1) = true := beq_self_eq_true _
        have hwr : IntKind.wrap .i64 (IntKind.wrap .i64 (0 - (i : Int)) - (1 : Int)) = -(i : Int) - 1 := by
          rw [wrap_in (n := 0 - (i : Int)) (by omega) (by omega), wrap_in (by omega) (by omega)]; omega
        have hw : wcode (edges n) (x.2.1, x.2.2.1, (i : Int)) = -(i : Int) - 1 := by
          unfold wcode
          simp only [Int.toNat_natCast]
          rw [hgE, if_neg (show ¬ (ends x).1 = x.2.2.1 from hne)]
        simp only [e2, cond_true]
        rw [if_pos (show x.2.2.1 = (ends x).2 from rfl)]
        simp only
        have e3 : (ends x).1 = x.2.1 := rfl
        have e4 : seenOf n.1.length (s.1 ++ [x.2.1]) = (seenOf n.1.length s.1).set x.2.1.toNat true := (seen_set hE.1).symm
        rw [e3]
        cases h2 : s.1.contains x.2.1 with
        | true => simp only [Bool.not_true, cond_false, or_true, if_true]
        | false =>
          simp only [Bool.not_false, cond_true, hc, ea, h0, h2, Bool.false_eq_true, or_self, if_false, byOf_add, hw, hwr, e4]
      · have e2 : (x.2.2.1 == a) = false := beq_eq_false_iff_ne.2 (fun q => q2 q.symm)
        simp only [e2, cond_false]
        rw [if_neg (show ¬ a = (ends x).2 from q2)]

theorem order_l0_eq {p : Nat} {α : Type} (hp : maxLen < p) {n : Ty.T TNetwork} (hn : GoodNet n) {src : Int} (K : List Int → List Int → Option α) :
    ∀ (f k : Nat) (s : BS) (q : Nat), BInv (edges n) [] n.1.length src s → n.1.length ≤ f + k → k ≤ n.1.length → f < q →
    spec_l07Order_l0_go p n q (k : Int) s.1 (byOf (edges n) n.1.length s.2) (seenOf n.1.length s.1) K = K (bOut (edges n) [] f k s).1 (byOf (edges n) n.1.length (bOut (edges n) [] f k s).2) := by
  have hm : maxLen = 9223372036854775807 := rfl
  have hpl := hn.pipes
  have hN := hn.hi
  intro f
  induction f with
  | zero =>
    intro k s q hs hk hk2 hq
    obtain ⟨q, rfl⟩ := Nat.exists_eq_add_of_lt hq
    have := hs.len
    rw [show 0 + q + 1 = q + 1 by omega]
    simp only [spec_l07Order_l0_go, spec_l07Order_l0_r, decide_eq_false (show ¬ (k : Int) < (s.1.length : Int) by omega), cond_false, bOut]
  | succ f ih =>
    intro k s q hs hk hk2 hq
    obtain ⟨q, rfl⟩ := Nat.exists_eq_add_of_lt hq
    have hlen := hs.len
    rw [show f + 1 + q + 1 = (f + 1 + q) + 1 by omega]
    simp only [spec_l07Order_l0_go, spec_l07Order_l0_r, bOut]
    cases hg : s.1[k]? with
    | none =>
      have : s.1.length ≤ k := List.getElem?_eq_none_iff.1 hg
      rw [decide_eq_false (show ¬ (k : Int) < (s.1.length : Int) by omega), cond_false]
    | some a =>
      have hlt := lt_of_get hg
      obtain ⟨h1, t, h2⟩ := bIn_inv hn.edges (edges n) 0 s rfl hs (List.mem_of_getElem? hg)
      rw [decide_eq_true (show (k : Int) < (s.1.length : Int) by omega), cond_true]
      have key := order_l1_eq hp hn k a (fun o2 o3 o4 => spec_l07Order_l0_go p n (f + 1 + q) (IntKind.wrap .i64 ((k : Int) + (1 : Int))) o2 o3 o4 K) n.2 0 s p rfl hs hg (by omega)
      refine Eq.trans key ?_
      rw [wrap_succ (show k < 9223372036854775807 by omega)]
      exact ih (k + 1) _ (f + 1 + q) h1 (by omega) (by omega) (by omega)

theorem spec_l07Order_eq {p : Nat} (hp : maxLen < p) {n : Ty.T TNetwork} (hn : GoodNet n) {src : Int} (hs : inR n.1.length src) :
    spec_l07Order_p p n src = some ((found n [] src).1, byOf (edges n) n.1.length (found n [] src).2, ()) := by
  have hm : maxLen = 9223372036854775807 := rfl
  have hN := hn.hi
  have hs' : 0 ≤ src ∧ src < ((List.replicate ((n.1.length : Int)).toNat (Ty.zero .bool)).length : Int) := by
    rw [List.length_replicate, Int.toNat_natCast]; exact hs
  unfold spec_l07Order_p
  rw [if_pos (by refine ⟨?_, ?_, ?_, ?_⟩ <;> omega), if_pos (by refine ⟨?_, ?_, ?_, ?_⟩ <;> omega), if_pos hs', Int.toNat_natCast]
  have e1 : (List.replicate n.1.length (Ty.zero .bool)).set src.toNat true = seenOf n.1.length [src] := by
    have : List.replicate n.1.length (Ty.zero .bool) = seenOf n.1.length [] := by
      unfold seenOf
      apply List.ext_getElem?
      intro j
      rw [List.getElem?_replicate, List.getElem?_map]
      by_cases hj : j < n.1.length
      · rw [if_pos hj, List.getElem?_range hj]; rfl
      · rw [if_neg hj, List.getElem?_eq_none (by simpa using Nat.le_of_not_lt hj)]; rfl
    rw [this, seen_set hs]; rfl
  rw [e1]
  exact order_l0_eq hp hn (fun o5 o6 => some (o5, o6, ())) n.1.length 0 ([src], []) p (bfs_start hs) (by omega) (by omega) (by omega)

end Go.Proofs.Ytgmcefnlcalagaa.W
