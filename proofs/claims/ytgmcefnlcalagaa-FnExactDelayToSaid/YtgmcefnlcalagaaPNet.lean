/- The program's and the reference's walks over networks come to the plain ones: what is found from a node on, trees, ways. No condition. -/
import Derived.Test.YtgmcefnlcalagaaPG0
import Derived.Test.YtgmcefnlcalagaaPValid
namespace Go.Proofs.Ytgmcefnlcalagaa.W
open Go Go.RowKit Go.Proofs.Ytgmcefnlcalagaa.AM
set_option linter.unusedVariables false
set_option linter.unusedSimpArgs false

def ends (x : Ty.T TPipe) : Int × Int := (x.2.1, x.2.2.1)
def edges (n : Ty.T TNetwork) : List (Int × Int) := n.2.map ends

theorem ordF_all {β : Type} {v : β → Bool} {r : β → β → Bool} : ∀ (l : List β) (z : β), ordF v r z l = true → ∀ y ∈ l, v y = true := by
  intro l
  induction l with
  | nil => intro z _ y hy; cases hy
  | cons x l ih =>
    intro z h y hy
    simp only [ordF, Bool.and_eq_true] at h
    rcases List.mem_cons.1 hy with rfl | hy
    · exact h.1.1
    · exact ih x h.2 y hy

theorem ordB_all {β : Type} {v : β → Bool} {r : β → β → Bool} {l : List β} (h : ordB v r l = true) : ∀ y ∈ l, v y = true := by
  cases l with
  | nil => intro y hy; cases hy
  | cons x l =>
    simp only [ordB, Bool.and_eq_true] at h
    intro y hy
    rcases List.mem_cons.1 hy with rfl | hy
    · exact h.1
    · exact ordF_all l x h.2 y hy

structure GoodNet (n : Ty.T TNetwork) : Prop where
  lo : 1 ≤ n.1.length
  hi : n.1.length ≤ 16
  pipes : n.2.length ≤ 20
  ok : ∀ x ∈ n.2, vPipe x = true ∧ vEnds n x = true
  nodes : ∀ z ∈ n.1, -100000 ≤ z ∧ z ≤ 100000

theorem vNet_good {n : Ty.T TNetwork} (h : vNet n = true) : GoodNet n := by
  simp only [vNet, Bool.and_eq_true, decide_eq_true_eq] at h
  refine ⟨h.1, h.2.1, h.2.2.2.1, fun x hx => ?_, fun z hz => ?_⟩
  · have := ordB_all h.2.2.2.2 x hx
    simpa using this
  · have := List.all_eq_true.1 h.2.2.1 z hz
    simpa [vIn] using this

theorem pipe_facts {x : Ty.T TPipe} (h : vPipe x = true) : (0 ≤ x.2.1 ∧ 0 ≤ x.2.2.1 ∧ x.2.1 ≠ x.2.2.1) ∧ (1 ≤ x.2.2.2.1 ∧ x.2.2.2.1 ≤ 10000) ∧ (20 ≤ x.2.2.2.2.1 ∧ x.2.2.2.2.1 ≤ 1000) ∧ (0 ≤ x.2.2.2.2.2 ∧ x.2.2.2.2.2 ≤ 5000) := by
  simp only [vPipe, vIn, Bool.and_eq_true, decide_eq_true_eq, bne_iff_ne] at h
  exact ⟨⟨h.2.1.1, h.2.2.1.1, h.2.2.2.1⟩, h.2.2.2.2.1, h.2.2.2.2.2.1, h.2.2.2.2.2.2⟩

theorem GoodNet.edges {n : Ty.T TNetwork} (h : GoodNet n) : GoodE n.1.length (edges n) := by
  intro e he
  obtain ⟨x, hx, rfl⟩ := List.mem_map.1 he
  obtain ⟨h1, h2⟩ := h.ok x hx
  obtain ⟨⟨q1, q2, q3⟩, -⟩ := pipe_facts h1
  simp only [vEnds, Bool.and_eq_true, decide_eq_true_eq] at h2
  exact ⟨⟨q1, h2.1⟩, ⟨q2, h2.2⟩, q3⟩

theorem edges_get {n : Ty.T TNetwork} {i : Nat} {x : Ty.T TPipe} (h : n.2[i]? = some x) : (edges n)[i]? = some (ends x) := by
  unfold edges; rw [List.getElem?_map, h]; rfl

theorem slices_Contains_eq {p : Nat} (hp : maxLen < p) (xs : List Int) (v : Int) (hx : xs.length ≤ 1048576) : slices_Contains_int64_int64_p p xs v = some (xs.contains v, ()) := by
  have hm : maxLen = 9223372036854775807 := rfl
  unfold slices_Contains_int64_int64_p slices_Index_int64_int64_p
  have key := find_loop xs (fun y => v == y) (fun q i => slices_Index_int64_int64_l0_go p xs v (xs.length : Int) q i (fun o2 => some (o2, ())) (fun _ => some ((-1 : Int), ()))) (fun i => some (i, ())) (some (-1, ()))
    (fun q => by simp only [slices_Index_int64_int64_l0_go, slices_Index_int64_int64_l0_r, dlt_end, cond_false])
    (fun q i y hy => by
      have hi := lt_of_get hy
      simp only [slices_Index_int64_int64_l0_go, slices_Index_int64_int64_l0_r, dlt_get hy, cond_true, if_pos (Int.natCast_nonneg i), Int.toNat_natCast, hy, Option.bind_some, wrap_succ (show i < 9223372036854775807 by omega)])
    p (by omega)
  rw [key, List.contains_eq_any_beq]
  cases hf : xs.findIdx? (fun y => v == y) with
  | none => rw [findIdx?_none hf]; rfl
  | some i =>
    rw [findIdx?_some hf]
    simp only [Option.bind_some]
    rw [decide_eq_true (show (i : Int) ≥ 0 by omega)]

theorem impl_Pipe_other_eq {p : Nat} (x : Ty.T TPipe) (a : Int) : impl_Pipe_other_p p x a = some (match otherE (ends x) a with | some b => (b, true, ()) | none => (0, false, ())) := by
  unfold impl_Pipe_other_p otherE ends
  by_cases h1 : a = x.2.1
  · rw [if_pos h1, show (a == x.2.1) = true from beq_iff_eq.2 h1]; rfl
  · rw [if_neg h1, show (a == x.2.1) = false from beq_eq_false_iff_ne.2 h1, cond_false]
    by_cases h2 : a = x.2.2.1
    · rw [if_pos h2, show (a == x.2.2.1) = true from beq_iff_eq.2 h2]; rfl
    · rw [if_neg h2, show (a == x.2.2.1) = false from beq_eq_false_iff_ne.2 h2]; rfl

theorem drop_cons {β : Type} {xs l : List β} {i : Nat} {x : β} (h : xs.drop i = x :: l) : xs[i]? = some x ∧ xs.drop (i + 1) = l := by
  constructor
  · have := congrArg (·[0]?) h
    simpa using this
  · rw [← List.drop_drop, h]; rfl

theorem drop_nil {β : Type} {xs : List β} {i : Nat} (h : xs.drop i = []) : decide ((i : Int) < (xs.length : Int)) = false := by
  have := List.drop_eq_nil_iff.1 h
  exact decide_eq_false (by omega)

theorem getD_of {l : List Int} {k : Nat} {a d : Int} (h : l[k]? = some a) : l.getD k d = a := by
  rw [List.getD_eq_getElem?_getD, h]; rfl

theorem cap_small {n b : Nat} (h : n ≤ 1000) (hb : b ≤ 1000) : capOk n b = true := by
  unfold capOk
  have h1 : n * b ≤ 1000 * 1000 := Nat.mul_le_mul h hb
  rw [Nat.ble_eq_true_of_le (by omega), Nat.ble_eq_true_of_le (by omega)]; rfl

theorem map_drop {n : Ty.T TNetwork} {i : Nat} {l : List (Ty.T TPipe)} (h : n.2.drop i = l) : (edges n).drop i = l.map ends := by
  unfold edges; rw [← List.map_drop, h]

/-! ### What is found from a node on -/

theorem reached_l1_eq {p : Nat} {α : Type} (hp : maxLen < p) {n : Ty.T TNetwork} (hn : GoodNet n) (closed : List Int) (hcl : closed.length ≤ 1048576) {src : Int} (k : Nat) (a : Int) (K : List Int → Option α) :
    ∀ (l : List (Ty.T TPipe)) (i : Nat) (s : BS) (q : Nat), n.2.drop i = l → BInv (edges n) closed n.1.length src s → s.1[k]? = some a → l.length < q →
    impl_Network_reached_l1_go p closed (k : Int) n.2 (n.2.length : Int) q (i : Int) s.1 K = K (bIn closed a i (l.map ends) s).1 := by
  have hm : maxLen = 9223372036854775807 := rfl
  have hpl := hn.pipes
  have hN := hn.hi
  intro l
  induction l with
  | nil =>
    intro i s q hd _ _ hq
    obtain ⟨q, rfl⟩ := Nat.exists_eq_add_of_lt hq
    rw [show ([] : List (Ty.T TPipe)).length + q + 1 = q + 1 by simp]
    simp only [impl_Network_reached_l1_go, impl_Network_reached_l1_r, drop_nil hd, cond_false, bIn, List.map_nil]
  | cons x l ih =>
    intro i s q hd hs hk hq
    obtain ⟨q, rfl⟩ := Nat.exists_eq_add_of_lt hq
    obtain ⟨hx, hd'⟩ := drop_cons hd
    have hi := lt_of_get hx
    have hlen := hs.len
    have hkl := lt_of_get hk
    obtain ⟨hinv, t, ht⟩ := bStep_inv hn.edges hs (List.mem_of_getElem? hk) (edges_get hx)
    have hk' : (bStep closed a i (ends x) s).1[k]? = some a := by rw [ht, List.getElem?_append_left hkl]; exact hk
    have hrec := ih (i + 1) (bStep closed a i (ends x) s) (l.length + 1 + q) hd' hinv hk' (by omega)
    rw [show (x :: l).length + q + 1 = (l.length + 1 + q) + 1 by simp]
    simp only [impl_Network_reached_l1_go, impl_Network_reached_l1_r, dlt_get hx, cond_true, if_pos (Int.natCast_nonneg i), Int.toNat_natCast, hx, Option.bind_some,
      if_pos (show 0 ≤ (k : Int) ∧ (k : Int) < (s.1.length : Int) by omega), getD_of hk, impl_Pipe_other_eq, slices_Contains_eq hp closed _ hcl, slices_Contains_eq hp s.1 _ (show s.1.length ≤ 1048576 by omega), wrap_succ (show i < 9223372036854775807 by omega),
      List.map_cons, bIn]
    rw [← hrec]
    unfold bStep
    cases ho : otherE (ends x) a with
    | none => rfl
    | some b =>
      simp only [cond_true]
      cases h1 : closed.contains (i : Int) with
      | true => simp
      | false =>
        cases h2 : s.1.contains b with
        | true => simp
        | false =>
          have hc : capOk (s.1.length + ((List.replicate 1 (Ty.zero (.int .i64))).set 0 b).length) 8 = true := cap_small (by simp; omega) (by omega)
          simp only [Bool.not_false, cond_true, hc, Bool.false_eq_true, or_self, if_false]
          rfl

theorem reached_l0_eq {p : Nat} {α : Type} (hp : maxLen < p) {n : Ty.T TNetwork} (hn : GoodNet n) (closed : List Int) (hcl : closed.length ≤ 1048576) {src : Int} (K : List Int → Option α) :
    ∀ (f k : Nat) (s : BS) (q : Nat), BInv (edges n) closed n.1.length src s → n.1.length ≤ f + k → k ≤ n.1.length → f < q →
    impl_Network_reached_l0_go p closed n.2 q (k : Int) s.1 K = K (bOut (edges n) closed f k s).1 := by
  have hm : maxLen = 9223372036854775807 := rfl
  have hpl := hn.pipes
  have hN := hn.hi
  intro f
  induction f with
  | zero =>
    intro k s q hs hk hk2 hq
    obtain ⟨q, rfl⟩ := Nat.exists_eq_add_of_lt hq
    have := hs.len
    rw [show 0 + q + 1 = q + 1 by omega]
    simp only [impl_Network_reached_l0_go, impl_Network_reached_l0_r, decide_eq_false (show ¬ (k : Int) < (s.1.length : Int) by omega), cond_false, bOut]
  | succ f ih =>
    intro k s q hs hk hk2 hq
    obtain ⟨q, rfl⟩ := Nat.exists_eq_add_of_lt hq
    have hlen := hs.len
    rw [show f + 1 + q + 1 = (f + 1 + q) + 1 by omega]
    simp only [impl_Network_reached_l0_go, impl_Network_reached_l0_r, bOut]
    cases hg : s.1[k]? with
    | none =>
      have : s.1.length ≤ k := List.getElem?_eq_none_iff.1 hg
      rw [decide_eq_false (show ¬ (k : Int) < (s.1.length : Int) by omega), cond_false]
    | some a =>
      have hlt := lt_of_get hg
      obtain ⟨h1, t, h2⟩ := bIn_inv hn.edges (edges n) 0 s rfl hs (List.mem_of_getElem? hg)
      rw [decide_eq_true (show (k : Int) < (s.1.length : Int) by omega), cond_true]
      have key := reached_l1_eq hp hn closed hcl k a (fun o5 => impl_Network_reached_l0_go p closed n.2 (f + 1 + q) (IntKind.wrap .i64 ((k : Int) + (1 : Int))) o5 K) n.2 0 s p rfl hs hg (by omega)
      refine Eq.trans key ?_
      rw [wrap_succ (show k < 9223372036854775807 by omega)]
      exact ih (k + 1) _ (f + 1 + q) h1 (by omega) (by omega) (by omega)

/-- All that is found from a node on without closed pipes. -/
def found (n : Ty.T TNetwork) (closed : List Int) (src : Int) : BS := bfs (edges n) closed n.1.length src

theorem impl_Network_reached_eq {p : Nat} (hp : maxLen < p) {n : Ty.T TNetwork} (hn : GoodNet n) (closed : List Int) (hcl : closed.length ≤ 1048576) {src : Int} (hs : inR n.1.length src) :
    impl_Network_reached_p p n src closed = some (sortI (found n closed src).1, ()) := by
  have hm : maxLen = 9223372036854775807 := rfl
  have hN := hn.hi
  unfold impl_Network_reached_p
  have key := reached_l0_eq hp hn closed hcl (src := src) (fun o6 => (if 0 < o6.length ∧ o6.length < 4611686018427387904 then some ((sortI o6), ()) else none)) n.1.length 0 ([src], []) p (bfs_start hs) (by omega) (by omega) (by omega)
  refine Eq.trans key ?_
  have hi := bfs_inv (closed := closed) hn.edges hs
  have h1 := hi.len
  have h2 : 0 < (bfs (edges n) closed n.1.length src).1.length := by rw [hi.shape]; simp
  exact if_pos ⟨h2, by show (bfs (edges n) closed n.1.length src).1.length < _; omega⟩

def isTree (n : Ty.T TNetwork) : Bool := decide (n.2.length + 1 = n.1.length) && decide ((found n [] 0).1.length = n.1.length)

theorem impl_Network_isTree_eq {p : Nat} (hp : maxLen < p) {n : Ty.T TNetwork} (hn : GoodNet n) : impl_Network_isTree_p p n = some (isTree n, ()) := by
  have hN := hn.hi
  have hlo := hn.lo
  unfold impl_Network_isTree_p isTree
  rw [wrap_in (show -9223372036854775808 ≤ (n.1.length : Int) - 1 by omega) (by omega), impl_Network_reached_eq hp hn [] (by simp) (src := 0) ⟨by omega, by omega⟩]
  simp only [Option.bind_some, sort_len]
  by_cases h1 : n.2.length + 1 = n.1.length
  · rw [decide_eq_true h1, show ((n.2.length : Int) == (n.1.length : Int) - 1) = true from beq_iff_eq.2 (by omega)]
    by_cases h2 : (found n [] 0).1.length = n.1.length
    · rw [decide_eq_true h2, show (((found n [] 0).1.length : Int) == (n.1.length : Int)) = true from beq_iff_eq.2 (by omega)]; rfl
    · rw [decide_eq_false h2, show (((found n [] 0).1.length : Int) == (n.1.length : Int)) = false from beq_eq_false_iff_ne.2 (by omega)]; rfl
  · rw [decide_eq_false h1, show ((n.2.length : Int) == (n.1.length : Int) - 1) = false from beq_eq_false_iff_ne.2 (by omega)]; rfl

/-! ### Ways -/

theorem ways_l1_eq {p : Nat} {α : Type} (hp : maxLen < p) {n : Ty.T TNetwork} (hn : GoodNet n) {src : Int} (k : Nat) (a : Int) (K : List (Ty.T Tway) → List Int → Option α) :
    ∀ (l : List (Ty.T TPipe)) (i : Nat) (s : BS) (q : Nat), n.2.drop i = l → BInv (edges n) [] n.1.length src s → s.1[k]? = some a → l.length < q →
    impl_Network_ways_l1_go p (k : Int) n.2 (n.2.length : Int) q (i : Int) s.2 s.1 K = K (bIn [] a i (l.map ends) s).2 (bIn [] a i (l.map ends) s).1 := by
  have hm : maxLen = 9223372036854775807 := rfl
  have hpl := hn.pipes
  have hN := hn.hi
  intro l
  induction l with
  | nil =>
    intro i s q hd _ _ hq
    obtain ⟨q, rfl⟩ := Nat.exists_eq_add_of_lt hq
    rw [show ([] : List (Ty.T TPipe)).length + q + 1 = q + 1 by simp]
    simp only [impl_Network_ways_l1_go, impl_Network_ways_l1_r, drop_nil hd, cond_false, bIn, List.map_nil]
  | cons x l ih =>
    intro i s q hd hs hk hq
    obtain ⟨q, rfl⟩ := Nat.exists_eq_add_of_lt hq
    obtain ⟨hx, hd'⟩ := drop_cons hd
    have hi := lt_of_get hx
    have hlen := hs.len
    have hwl := hs.wlen
    have hkl := lt_of_get hk
    obtain ⟨hinv, t, ht⟩ := bStep_inv hn.edges hs (List.mem_of_getElem? hk) (edges_get hx)
    have hk' : (bStep [] a i (ends x) s).1[k]? = some a := by rw [ht, List.getElem?_append_left hkl]; exact hk
    have hrec := ih (i + 1) (bStep [] a i (ends x) s) (l.length + 1 + q) hd' hinv hk' (by omega)
    rw [show (x :: l).length + q + 1 = (l.length + 1 + q) + 1 by simp]
    simp only [impl_Network_ways_l1_go, impl_Network_ways_l1_r, dlt_get hx, cond_true, if_pos (Int.natCast_nonneg i), Int.toNat_natCast, hx, Option.bind_some,
      if_pos (show 0 ≤ (k : Int) ∧ (k : Int) < (s.1.length : Int) by omega), getD_of hk, impl_Pipe_other_eq, slices_Contains_eq hp s.1 _ (show s.1.length ≤ 1048576 by omega), wrap_succ (show i < 9223372036854775807 by omega),
      List.map_cons, bIn]
    rw [← hrec]
    unfold bStep
    cases ho : otherE (ends x) a with
    | none => rfl
    | some b =>
      simp only [cond_true]
      cases h2 : s.1.contains b with
      | true => simp
      | false =>
        have e1 : s.1 ++ ((List.replicate 1 (Ty.zero (.int .i64))).set 0 b) = s.1 ++ [b] := rfl
        have hc : capOk (s.1.length + ((List.replicate 1 (Ty.zero (.int .i64))).set 0 b).length) 8 = true := cap_small (by simp; omega) (by omega)
        have hc2 : ∀ w : Ty.T Tway, capOk (s.2.length + ((List.replicate 1 (Ty.zero Tway)).set 0 w).length) 24 = true := fun w => cap_small (by simp; omega) (by omega)
        have hkk : (s.1 ++ [b])[k]? = some a := by rw [List.getElem?_append_left hkl]; exact hk
        have hr : 0 ≤ (k : Int) ∧ (k : Int) < ((s.1 ++ [b]).length : Int) := by rw [List.length_append]; omega
        have h0 : ([] : List Int).contains (i : Int) = false := rfl
        simp only [Bool.not_false, cond_true, hc, hc2, e1, if_pos hr, getD_of hkk, h0, Bool.false_eq_true, or_self, if_false]
        rfl

theorem ways_l0_eq {p : Nat} {α : Type} (hp : maxLen < p) {n : Ty.T TNetwork} (hn : GoodNet n) {src : Int} (K : List (Ty.T Tway) → Option α) :
    ∀ (f k : Nat) (s : BS) (q : Nat), BInv (edges n) [] n.1.length src s → n.1.length ≤ f + k → k ≤ n.1.length → f < q →
    impl_Network_ways_l0_go p n.2 q (k : Int) s.2 s.1 K = K (bOut (edges n) [] f k s).2 := by
  have hm : maxLen = 9223372036854775807 := rfl
  have hpl := hn.pipes
  have hN := hn.hi
  intro f
  induction f with
  | zero =>
    intro k s q hs hk hk2 hq
    obtain ⟨q, rfl⟩ := Nat.exists_eq_add_of_lt hq
    have := hs.len
    rw [show 0 + q + 1 = q + 1 by omega]
    simp only [impl_Network_ways_l0_go, impl_Network_ways_l0_r, decide_eq_false (show ¬ (k : Int) < (s.1.length : Int) by omega), cond_false, bOut]
  | succ f ih =>
    intro k s q hs hk hk2 hq
    obtain ⟨q, rfl⟩ := Nat.exists_eq_add_of_lt hq
    have hlen := hs.len
    rw [show f + 1 + q + 1 = (f + 1 + q) + 1 by omega]
    simp only [impl_Network_ways_l0_go, impl_Network_ways_l0_r, bOut]
    cases hg : s.1[k]? with
    | none =>
      have : s.1.length ≤ k := List.getElem?_eq_none_iff.1 hg
      rw [decide_eq_false (show ¬ (k : Int) < (s.1.length : Int) by omega), cond_false]
    | some a =>
      have hlt := lt_of_get hg
      obtain ⟨h1, t, h2⟩ := bIn_inv hn.edges (edges n) 0 s rfl hs (List.mem_of_getElem? hg)
      rw [decide_eq_true (show (k : Int) < (s.1.length : Int) by omega), cond_true]
      have key := ways_l1_eq hp hn k a (fun o4 o5 => impl_Network_ways_l0_go p n.2 (f + 1 + q) (IntKind.wrap .i64 ((k : Int) + (1 : Int))) o4 o5 K) n.2 0 s p rfl hs hg (by omega)
      refine Eq.trans key ?_
      rw [wrap_succ (show k < 9223372036854775807 by omega)]
      exact ih (k + 1) _ (f + 1 + q) h1 (by omega) (by omega) (by omega)

theorem impl_Network_ways_eq {p : Nat} (hp : maxLen < p) {n : Ty.T TNetwork} (hn : GoodNet n) {src : Int} (hs : inR n.1.length src) : impl_Network_ways_p p n src = some ((found n [] src).2, ()) := by
  have hm : maxLen = 9223372036854775807 := rfl
  have hN := hn.hi
  unfold impl_Network_ways_p
  exact ways_l0_eq hp hn (fun o6 => some (o6, ())) n.1.length 0 ([src], []) p (bfs_start hs) (by omega) (by omega) (by omega)

/-! ### The reference: trees -/

theorem tree_l0_eq {p : Nat} {α : Type} (hp : maxLen < p) {n : Ty.T TNetwork} (hn : GoodNet n) (K : List Int → Option α) :
    ∀ (m i q : Nat), i + m = n.1.length → m < q → spec_l04Tree_l0_go p n q (i : Int) (part0 i) K = K (part0 n.1.length) := by
  have hN := hn.hi
  intro m
  induction m with
  | zero =>
    intro i q hi hq
    obtain ⟨q, rfl⟩ := Nat.exists_eq_add_of_lt hq
    rw [show 0 + q + 1 = q + 1 by omega]
    have : i = n.1.length := by omega
    subst this
    simp only [spec_l04Tree_l0_go, spec_l04Tree_l0_r, dlt_end, cond_false]
  | succ m ih =>
    intro i q hi hq
    obtain ⟨q, rfl⟩ := Nat.exists_eq_add_of_lt hq
    rw [show m + 1 + q + 1 = (m + 1 + q) + 1 by omega]
    have hl : (part0 i).length = i := by simp [part0]
    have hc : capOk ((part0 i).length + ((List.replicate 1 (Ty.zero (.int .i64))).set 0 (i : Int)).length) 8 = true := cap_small (by rw [hl]; simp; omega) (by omega)
    have e : part0 i ++ ((List.replicate 1 (Ty.zero (.int .i64))).set 0 (i : Int)) = part0 (i + 1) := by
      show part0 i ++ [(i : Int)] = _
      unfold part0; rw [List.range_succ, List.map_append]; rfl
    simp only [spec_l04Tree_l0_go, spec_l04Tree_l0_r, decide_eq_true (show (i : Int) < (n.1.length : Int) by omega), cond_true, hc, e, wrap_succ (show i < 9223372036854775807 by omega)]
    exact ih (i + 1) (m + 1 + q) (by omega) (by omega)

theorem tree_l2_eq {p : Nat} {α : Type} (a b : Int) (K : List Int → Option α) : ∀ (l pre : List Int) (q : Nat), (pre ++ l).length ≤ 1000 → l.length < q →
    spec_l04Tree_l2_go p a b q (pre.length : Int) (pre ++ l) K = K (pre ++ l.map fun v => if v = b then a else v) := by
  intro l
  induction l with
  | nil =>
    intro pre q hl hq
    obtain ⟨q, rfl⟩ := Nat.exists_eq_add_of_lt hq
    rw [show ([] : List Int).length + q + 1 = q + 1 by simp]
    simp only [List.append_nil, spec_l04Tree_l2_go, spec_l04Tree_l2_r, dlt_end, cond_false, List.map_nil]
  | cons v l ih =>
    intro pre q hl hq
    obtain ⟨q, rfl⟩ := Nat.exists_eq_add_of_lt hq
    rw [show (v :: l).length + q + 1 = (l.length + 1 + q) + 1 by simp]
    have hlt : pre.length < (pre ++ v :: l).length := by simp
    have hg : (pre ++ v :: l)[pre.length]? = some v := by simp
    simp only [spec_l04Tree_l2_go, spec_l04Tree_l2_r, decide_eq_true (show (pre.length : Int) < ((pre ++ v :: l).length : Int) by omega), cond_true, if_pos (show 0 ≤ (pre.length : Int) ∧ (pre.length : Int) < ((pre ++ v :: l).length : Int) by omega), Int.toNat_natCast, getD_of hg, wrap_succ (show pre.length < 9223372036854775807 by omega)]
    by_cases h : v = b
    · have e1 : (pre ++ v :: l).set pre.length a = (pre ++ [a]) ++ l := by simp
      have := ih (pre ++ [a]) (l.length + 1 + q) (by simp at hl ⊢; omega) (by omega)
      rw [show (pre ++ [a]).length = pre.length + 1 by simp] at this
      rw [show (v == b) = true from beq_iff_eq.2 h, cond_true, e1, this]
      simp [h]
    · have := ih (pre ++ [v]) (l.length + 1 + q) (by simp at hl ⊢; omega) (by omega)
      rw [show (pre ++ [v]).length = pre.length + 1 by simp] at this
      rw [show (v == b) = false from beq_eq_false_iff_ne.2 h, cond_false, show pre ++ v :: l = (pre ++ [v]) ++ l by simp, this]
      simp [h]

theorem tree_l1_eq {p : Nat} {α : Type} (hp : maxLen < p) {n : Ty.T TNetwork} (hn : GoodNet n) (K : List Int → Option α) :
    ∀ (l : List (Ty.T TPipe)) (i : Nat) (out : List Int) (s : List Int × Nat) (q : Nat), n.2.drop i = l → JInv n.1.length s → out.length = s.2 → s.2 ≤ i → l.length < q →
    ∃ out', spec_l04Tree_l1_go p n q (i : Int) out s.1 K = K out' ∧ out'.length = (joins (l.map ends) s).2 := by
  have hm : maxLen = 9223372036854775807 := rfl
  have hN := hn.hi
  have hpl := hn.pipes
  intro l
  induction l with
  | nil =>
    intro i out s q hd _ ho _ hq
    obtain ⟨q, rfl⟩ := Nat.exists_eq_add_of_lt hq
    rw [show ([] : List (Ty.T TPipe)).length + q + 1 = q + 1 by simp]
    exact ⟨out, by simp only [spec_l04Tree_l1_go, spec_l04Tree_l1_r, drop_nil hd, cond_false], ho⟩
  | cons x l ih =>
    intro i out s q hd hs ho hsi hq
    obtain ⟨q, rfl⟩ := Nat.exists_eq_add_of_lt hq
    rw [show (x :: l).length + q + 1 = (l.length + 1 + q) + 1 by simp]
    obtain ⟨hx, hd'⟩ := drop_cons hd
    have hi := lt_of_get hx
    have hE := hn.edges (ends x) (List.mem_of_getElem? (edges_get hx))
    have r1 : 0 ≤ x.2.1 ∧ x.2.1 < (s.1.length : Int) := by rw [hs.len]; exact hE.1
    have r2 : 0 ≤ x.2.2.1 ∧ x.2.2.1 < (s.1.length : Int) := by rw [hs.len]; exact hE.2.1
    have hinv := joinStep_inv hE hs
    simp only [spec_l04Tree_l1_go, spec_l04Tree_l1_r, dlt_get hx, cond_true, if_pos (Int.natCast_nonneg i), Int.toNat_natCast, hx, Option.bind_some, if_pos r1, if_pos r2, wrap_succ (show i < 9223372036854775807 by omega)]
    show ∃ out' : List Int, (bif (s.1.getD x.2.1.toNat 0 == s.1.getD x.2.2.1.toNat 0) then _ else _) = _ ∧ out'.length = (joins (l.map ends) (joinStep (ends x) s)).2
    by_cases h : s.1.getD x.2.1.toNat 0 = s.1.getD x.2.2.1.toNat 0
    · have e : joinStep (ends x) s = s := if_pos h
      rw [e]
      rw [show (s.1.getD x.2.1.toNat 0 == s.1.getD x.2.2.1.toNat 0) = true from beq_iff_eq.2 h, cond_true]
      exact ih (i + 1) out s (l.length + 1 + q) hd' hs ho (by omega) (by omega)
    · have e : joinStep (ends x) s = (s.1.map fun v => if v = s.1.getD x.2.2.1.toNat 0 then s.1.getD x.2.1.toNat 0 else v, s.2 + 1) := if_neg h
      rw [e] at hinv ⊢
      have hc : capOk (out.length + ((List.replicate 1 (Ty.zero (.int .i64))).set 0 (i : Int)).length) 8 = true := cap_small (by simp; omega) (by omega)
      rw [show (s.1.getD x.2.1.toNat 0 == s.1.getD x.2.2.1.toNat 0) = false from beq_eq_false_iff_ne.2 h, cond_false, hc, cond_true]
      have k2 := tree_l2_eq (p := p) (s.1.getD x.2.1.toNat 0) (s.1.getD x.2.2.1.toNat 0) (fun o4 => spec_l04Tree_l1_go p n (l.length + 1 + q) ((i + 1 : Nat) : Int) (out ++ ((List.replicate 1 (Ty.zero (.int .i64))).set 0 (i : Int))) o4 K) s.1 [] p (by simp [hs.len]; omega) (by rw [hs.len]; omega)
      obtain ⟨out', h1, h2⟩ := ih (i + 1) (out ++ [(i : Int)]) _ (l.length + 1 + q) hd' hinv (by simp [ho]) (by simp; omega) (by omega)
      exact ⟨out', Eq.trans k2 h1, h2⟩

theorem spec_l04IsTree_eq {p : Nat} (hp : maxLen < p) {n : Ty.T TNetwork} (hn : GoodNet n) : spec_l04IsTree_p p n = some (isTree n, ()) := by
  have hm : maxLen = 9223372036854775807 := rfl
  have hN := hn.hi
  have hlo := hn.lo
  have hpl := hn.pipes
  unfold spec_l04IsTree_p isTree spec_l04Tree_p
  rw [wrap_in (show -9223372036854775808 ≤ (n.1.length : Int) - 1 by omega) (by omega)]
  have k0 := tree_l0_eq hp hn (fun o1 => spec_l04Tree_l1_go p n p (0 : Int) (List.replicate 0 (Ty.zero (.int .i64))) o1 (fun o5 => some (o5, ()))) n.1.length 0 p (by omega) (by omega)
  obtain ⟨out', k1, k2⟩ := tree_l1_eq hp hn (fun o5 => some (o5, ())) n.2 0 [] (part0 n.1.length, 0) p rfl (part0_inv _) rfl (by omega) (by omega)
  have k3 : spec_l04Tree_l0_go p n p (0 : Int) (List.replicate 0 (Ty.zero (.int .i64))) (fun o1 => (spec_l04Tree_l1_go p n p (0 : Int) (List.replicate 0 (Ty.zero (.int .i64))) o1 (fun o5 => some (o5, ())))) = some (out', ()) := Eq.trans k0 k1
  rw [k3]
  simp only [Option.bind_some]
  by_cases h1 : n.2.length + 1 = n.1.length
  · rw [decide_eq_true h1, show ((n.2.length : Int) == (n.1.length : Int) - 1) = true from beq_iff_eq.2 (by omega)]
    have hlen : (edges n).length = n.2.length := by simp [edges]
    have ht := tree_iff (by omega) hn.edges (by rw [hlen]; exact h1)
    have k2' : out'.length = (joins (edges n) (part0 n.1.length, 0)).2 := k2
    by_cases h2 : (found n [] 0).1.length = n.1.length
    · have := ht.2 h2
      rw [decide_eq_true h2, show ((out'.length : Int) == (n.2.length : Int)) = true from beq_iff_eq.2 (by omega)]; rfl
    · have : ¬ (joins (edges n) (part0 n.1.length, 0)).2 = (edges n).length := fun q => h2 (ht.1 q)
      rw [decide_eq_false h2, show ((out'.length : Int) == (n.2.length : Int)) = false from beq_eq_false_iff_ne.2 (by omega)]; rfl
  · rw [decide_eq_false h1, show ((n.2.length : Int) == (n.1.length : Int) - 1) = false from beq_eq_false_iff_ne.2 (by omega)]; rfl

end Go.Proofs.Ytgmcefnlcalagaa.W
