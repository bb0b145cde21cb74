/- The delay of water on its way through a tree; the law in plain Lean. No condition. -/
import Derived.Test.YtgmcefnlcalagaaPDiv
import Derived.Test.YtgmcefnlcalagaaPOrder
namespace Go.Proofs.Ytgmcefnlcalagaa.W
open Go Go.RowKit Go.Proofs.Ytgmcefnlcalagaa.AM
set_option linter.unusedVariables false
set_option linter.unusedSimpArgs false

/-! codes -/
def vFlows (n : Ty.T TNetwork) (xs : List Int) : Bool := ((xs.length : Int) == (n.2.length : Int)) && xs.all (fun z => vIn z (-100000) 100000)

theorem impl_Network_flowsOk_eq {p : Nat} (hp : maxLen < p) (n : Ty.T TNetwork) (xs : List Int) (hl : xs.length ≤ 1048576) : impl_Network_flowsOk_p p n xs = some (vFlows n xs, ()) := by
  unfold impl_Network_flowsOk_p vFlows
  rw [impl_allWithin_eq hp _ _ _ hl]
  exact and_seq _ _ _ rfl

theorem spec_l07Flows_eq {p : Nat} (hp : maxLen < p) (n : Ty.T TNetwork) (xs : List Int) (hl : xs.length ≤ 1048576) : spec_l07Flows_p p n xs = some (vFlows n xs, ()) := by
  have hm : maxLen = 9223372036854775807 := rfl
  unfold spec_l07Flows_p vFlows
  have key := all_loop xs (fun z => vIn z (-100000) 100000) (fun q i => spec_l07Flows_l0_go p xs q i (fun o3 => some (o3, ())) (fun _ => some (((xs.length : Int) == (n.2.length : Int)), ()))) (some (false, ())) (some (((xs.length : Int) == (n.2.length : Int)), ()))
    (fun q => by simp only [spec_l07Flows_l0_go, spec_l07Flows_l0_r, dlt_end, cond_false])
    (fun q i y hy => by
      have hi := lt_of_get hy
      simp only [spec_l07Flows_l0_go, spec_l07Flows_l0_r, spec_l03Flow_p, dlt_get hy, cond_true, if_pos (Int.natCast_nonneg i), Int.toNat_natCast, hy, Option.bind_some, spec_l00In_eq, wrap_succ (show i < 9223372036854775807 by omega)]
      exact cond_not _ _ _)
    p (by omega)
  refine key.trans ?_
  cases xs.all (fun z => vIn z (-100000) 100000) <;> cases ((xs.length : Int) == (n.2.length : Int)) <;> rfl

def vNode (n : Ty.T TNetwork) (a : Int) : Bool := vIn a 0 ((n.1.length : Int) - 1)
theorem vNode_in {n : Ty.T TNetwork} {a : Int} (h : vNode n a = true) : inR n.1.length a := by
  unfold vNode vIn at h
  simp only [Bool.and_eq_true, decide_eq_true_eq] at h
  exact ⟨h.1, by omega⟩

theorem spec_l04Node_eq {p : Nat} {n : Ty.T TNetwork} (hn : n.1.length ≤ 1048576) (a : Int) : spec_l04Node_p p n a = some (vNode n a, ()) := by
  unfold spec_l04Node_p vNode
  rw [spec_l00In_eq, wrap_in (by omega) (by omega)]; rfl
theorem impl_Network_hasNode_eq {p : Nat} {n : Ty.T TNetwork} (hn : n.1.length ≤ 1048576) (a : Int) : impl_Network_hasNode_p p n a = some (vNode n a, ()) := by
  unfold impl_Network_hasNode_p vNode
  rw [impl_within_eq, wrap_in (by omega) (by omega)]; rfl

def askCode (n : Ty.T TNetwork) (src : Int) : Int := bif !vNet n then 1 else bif !vNode n src then 2 else 0
def flowCode (n : Ty.T TNetwork) (src : Int) (fl : List Int) : Int := bif !vNet n then 1 else bif !vNode n src then 2 else bif !vFlows n fl then 7 else bif !isTree n then 6 else 0

theorem spec_l07Ask_eq {p : Nat} (hp : maxLen < p) (n : Ty.T TNetwork) (hw : wt TNetwork n ≤ 1048576) (src : Int) : spec_l07Ask_p p n src = some (askCode n src, ()) := by
  have hz : wt TNetwork n = wt (.slice (.int .i64)) n.1 + wt (.slice TPipe) n.2 := rfl
  have l1 := wt_len (e := .int .i64) n.1
  unfold spec_l07Ask_p askCode
  rw [spec_l04Ok_eq hp n hw, spec_l04Node_eq (by omega)]
  simp only [Option.bind_some]
  cases vNet n <;> cases vNode n src <;> rfl

theorem spec_l07Given_eq {p : Nat} (hp : maxLen < p) (n : Ty.T TNetwork) (hw : wt TNetwork n ≤ 1048576) (src : Int) (fl : List Int) (hl : fl.length ≤ 1048576) : spec_l07Given_p p n src 0 fl = some (flowCode n src fl, ()) := by
  unfold spec_l07Given_p flowCode spec_l03Press_p
  rw [spec_l07Ask_eq hp n hw, spec_l00In_eq, spec_l07Flows_eq hp n fl hl]
  simp only [Option.bind_some]
  unfold askCode
  cases hv : vNet n
  · rfl
  have hn := vNet_good hv
  rw [spec_l04IsTree_eq hp hn]
  cases vNode n src <;> cases vFlows n fl <;> cases isTree n <;> rfl

theorem impl_flowsCode_eq {p : Nat} (hp : maxLen < p) (n : Ty.T TNetwork) (hw : wt TNetwork n ≤ 1048576) (src : Int) (fl : List Int) (hl : fl.length ≤ 1048576) : impl_flowsCode_p p n src fl 0 = some (flowCode n src fl, ()) := by
  have hz : wt TNetwork n = wt (.slice (.int .i64)) n.1 + wt (.slice TPipe) n.2 := rfl
  have l1 := wt_len (e := .int .i64) n.1
  unfold impl_flowsCode_p impl_treeCode_p flowCode impl_pressureOk_p
  rw [impl_ValidNetwork_eq hp n hw, impl_Network_hasNode_eq (by omega), impl_within_eq, impl_Network_flowsOk_eq hp n fl hl]
  simp only [Option.bind_some]
  cases hv : vNet n
  · rfl
  have hn := vNet_good hv
  rw [impl_Network_isTree_eq hp hn]
  cases vNode n src <;> cases vFlows n fl <;> cases isTree n <;> rfl

/-! one pipe's delay -/
def waterI (l d : Int) : Int := divR (l * d * d * 7854) 10000
def waterN (x : Ty.T TPipe) : Int := waterI x.2.2.2.1 x.2.2.2.2.1
def delayN (x : Ty.T TPipe) (f : Int) : Int := (waterN x + (f.natAbs : Int) - 1).tdiv (f.natAbs : Int)

theorem mul3 {l d : Int} (h1 : 1 ≤ l ∧ l ≤ 10000) (h2 : 20 ≤ d ∧ d ≤ 1000) : (0 ≤ l * d ∧ l * d ≤ 10000000) ∧ (0 ≤ l * d * d ∧ l * d * d ≤ 10000000000) := by
  have a := mul_bd (a := l) (b := d) (A := 10000) (B := 1000) (by omega) (by omega) (by omega) (by omega)
  have b := mul_bd (a := l * d) (b := d) (A := 10000000) (B := 1000) (by omega) (by omega) (by omega) (by omega)
  exact ⟨⟨a.1, by omega⟩, ⟨b.1, by omega⟩⟩

theorem waterI_bd {l d : Int} (h1 : 1 ≤ l ∧ l ≤ 10000) (h2 : 20 ≤ d ∧ d ≤ 1000) : 0 ≤ waterI l d ∧ waterI l d ≤ 78540000000001 := by
  obtain ⟨-, h3, h4⟩ := mul3 h1 h2
  unfold waterI
  refine ⟨divR_nonneg (by omega) (by omega), ?_⟩
  have := divR_bd (a := l * d * d * 7854) (b := 10000) (by omega) (M := 78540000000000) (by omega)
  omega
theorem water_bd {x : Ty.T TPipe} (h : vPipe x = true) : 0 ≤ waterN x ∧ waterN x ≤ 78540000000001 := by
  obtain ⟨-, h1, h2, -⟩ := pipe_facts h
  exact waterI_bd h1 h2

theorem mul3_wrap {l d : Int} (h1 : 1 ≤ l ∧ l ≤ 10000) (h2 : 20 ≤ d ∧ d ≤ 1000) : IntKind.wrap .i64 (IntKind.wrap .i64 (IntKind.wrap .i64 (l * d) * d) * (7854 : Int)) = l * d * d * 7854 ∧ (-2000000000000000000 ≤ l * d * d * 7854 ∧ l * d * d * 7854 ≤ 2000000000000000000) := by
  obtain ⟨⟨q1, q2⟩, q3, q4⟩ := mul3 h1 h2
  refine ⟨?_, by omega, by omega⟩
  rw [wrap_in (n := l * d) (by omega) (by omega), wrap_in (n := l * d * d) (by omega) (by omega), wrap_in (n := l * d * d * 7854) (by omega) (by omega)]

theorem spec_l03Water_eq {p : Nat} {x : Ty.T TPipe} (h : vPipe x = true) : spec_l03Water_p p x = some (waterN x, ()) := by
  obtain ⟨-, h1, h2, -⟩ := pipe_facts h
  obtain ⟨e, b⟩ := mul3_wrap h1 h2
  unfold spec_l03Water_p
  refine (congrArg (fun r => (spec_l01Div_p p r 10000).bind fun r1 => some (r1.1, ())) e).trans ?_
  rw [spec_l01Div_eq b (by omega)]
  rfl
theorem impl_Pipe_water_eq {p : Nat} {x : Ty.T TPipe} (h : vPipe x = true) : impl_Pipe_water_p p x = some (waterN x, ()) := by
  obtain ⟨-, h1, h2, -⟩ := pipe_facts h
  obtain ⟨e, b⟩ := mul3_wrap h1 h2
  unfold impl_Pipe_water_p
  refine (congrArg (fun r => (impl_divRound_p p r 10000).bind fun r1 => some (r1.1, ())) e).trans ?_
  rw [impl_divRound_eq b (by omega)]
  rfl

theorem delay_bd {x : Ty.T TPipe} (h : vPipe x = true) {f : Int} (hf : 0 < f ∧ f ≤ 100000) : 0 ≤ delayN x f ∧ delayN x f ≤ 100000000000000 := by
  have hw := water_bd h
  unfold delayN
  rw [show ((f.natAbs : Nat) : Int) = f by omega, Int.tdiv_eq_ediv_of_nonneg (by omega)]
  refine ⟨Int.ediv_nonneg (by omega) (by omega), ?_⟩
  have := Int.ediv_le_self (a := waterN x + f - 1) f (by omega)
  omega

theorem spec_l03Delay_eq {p : Nat} {x : Ty.T TPipe} (h : vPipe x = true) {f : Int} (hf : 0 < f ∧ f ≤ 100000) : spec_l03Delay_p p x f = some (delayN x f, ()) := by
  have hw := water_bd h
  have hb := delay_bd h hf
  unfold spec_l03Delay_p
  rw [spec_l03Water_eq h, spec_l03Abs_eq (by omega)]
  simp only [Option.bind_some]
  unfold delayN at hb ⊢
  rw [if_neg (by omega), wrap_in (n := waterN x + (f.natAbs : Int)) (by omega) (by omega), wrap_in (n := waterN x + (f.natAbs : Int) - 1) (by omega) (by omega), wrap_in (by omega) (by omega)]
theorem impl_Pipe_delay_eq {p : Nat} {x : Ty.T TPipe} (h : vPipe x = true) {f : Int} (hf : 0 < f ∧ f ≤ 100000) : impl_Pipe_delay_p p x f = some (delayN x f, ()) := by
  have hw := water_bd h
  have hb := delay_bd h hf
  unfold impl_Pipe_delay_p impl_divUp_p
  rw [impl_Pipe_water_eq h, impl_abs_eq (by omega)]
  simp only [Option.bind_some]
  unfold delayN at hb ⊢
  rw [if_neg (by omega), wrap_in (n := waterN x + (f.natAbs : Int)) (by omega) (by omega), wrap_in (n := waterN x + (f.natAbs : Int) - 1) (by omega) (by omega), wrap_in (by omega) (by omega)]
  rfl

/-! ways -/
theorem way_facts {n : Ty.T TNetwork} (hn : GoodNet n) {src : Int} {s : BS} (hi : BInv (edges n) [] n.1.length src s) {pre post : List Way} {w : Way} (hx : pre ++ w :: post = s.2) :
    ∃ (i : Nat) (x : Ty.T TPipe), w.2.2 = (i : Int) ∧ n.2[i]? = some x ∧ ((x.2.1 = w.2.1 ∧ x.2.2.1 = w.1) ∨ (x.2.2.1 = w.2.1 ∧ x.2.1 = w.1)) ∧ x.2.1 ≠ x.2.2.1 ∧ w.2.1 ∈ src :: pre.map (·.1) ∧ w.1 ∉ src :: pre.map (·.1) ∧ inR n.1.length w.1 ∧ inR n.1.length w.2.1 ∧ i < 20 := by
  obtain ⟨h1, h2, i, e, h3, h4, h5, -⟩ := hi.ways pre w post hx
  have hr : ∀ a ∈ src :: s.2.map (·.1), inR n.1.length a := fun a ha => hi.rng a (by rw [hi.shape]; exact ha)
  unfold edges at h4
  rw [List.getElem?_map] at h4
  cases hg : n.2[i]? with
  | none => rw [hg] at h4; cases h4
  | some x =>
    rw [hg] at h4
    simp only [Option.map_some, Option.some.injEq] at h4
    subst h4
    have hv := hn.ok x (List.mem_of_getElem? hg)
    obtain ⟨⟨-, -, hne⟩, -⟩ := pipe_facts hv.1
    have hw1 : inR n.1.length w.1 := hr _ (by rw [← hx]; simp)
    have hw2 : inR n.1.length w.2.1 := hr _ (by
      rw [← hx]
      rcases List.mem_cons.1 h1 with q | q
      · rw [q]; exact List.mem_cons_self ..
      · simp only [List.map_append, List.mem_cons, List.mem_append]; exact .inr (.inl q))
    refine ⟨i, x, h3, hg, ?_, hne, h1, h2, hw1, hw2, by have := lt_of_get hg; have := hn.pipes; omega⟩
    unfold otherE ends at h5
    split at h5
    · rename_i q; exact .inl ⟨q.symm, Option.some.inj h5⟩
    · split at h5
      · rename_i q; exact .inr ⟨q.symm, Option.some.inj h5⟩
      · cases h5

def pipeOf (n : Ty.T TNetwork) (w : Way) : Ty.T TPipe := n.2.getD w.2.2.toNat (Ty.zero TPipe)
def alongN (n : Ty.T TNetwork) (fl : List Int) (w : Way) : Int := if (pipeOf n w).2.1 = w.2.1 then fl.getD w.2.2.toNat 0 else -(fl.getD w.2.2.toNat 0)

theorem vFlows_get {n : Ty.T TNetwork} {fl : List Int} (h : vFlows n fl = true) {i : Nat} (hi : i < n.2.length) : ∃ f, fl[i]? = some f ∧ -100000 ≤ f ∧ f ≤ 100000 := by
  unfold vFlows at h
  simp only [Bool.and_eq_true, beq_iff_eq] at h
  have hl : i < fl.length := by have := h.1; omega
  refine ⟨fl[i], List.getElem?_eq_getElem hl, ?_⟩
  have := List.all_eq_true.1 h.2 fl[i] (List.getElem_mem hl)
  unfold vIn at this
  simp only [Bool.and_eq_true, decide_eq_true_eq] at this
  omega

theorem along_bd {n : Ty.T TNetwork} (hn : GoodNet n) {fl : List Int} (hf : vFlows n fl = true) {src : Int} {s : BS} (hi : BInv (edges n) [] n.1.length src s) {pre post : List Way} {w : Way} (hx : pre ++ w :: post = s.2) : alongN n fl w ≤ 100000 := by
  obtain ⟨i, x, h3, hg, -⟩ := way_facts hn hi hx
  obtain ⟨f, hf1, hf2⟩ := vFlows_get hf (lt_of_get hg)
  unfold alongN
  rw [h3, Int.toNat_natCast, getD_of hf1]
  split <;> omega

theorem pipeOf_ok {n : Ty.T TNetwork} (hn : GoodNet n) {src : Int} {s : BS} (hi : BInv (edges n) [] n.1.length src s) {pre post : List Way} {w : Way} (hx : pre ++ w :: post = s.2) : vPipe (pipeOf n w) = true := by
  obtain ⟨i, x, h3, hg, -⟩ := way_facts hn hi hx
  have : pipeOf n w = x := by unfold pipeOf; rw [h3, Int.toNat_natCast, List.getD_eq_getElem?_getD, hg]; rfl
  rw [this]
  exact (hn.ok x (List.mem_of_getElem? hg)).1

theorem impl_way_along_eq {p : Nat} {n : Ty.T TNetwork} (hn : GoodNet n) {fl : List Int} (hf : vFlows n fl = true) {src : Int} {s : BS} (hi : BInv (edges n) [] n.1.length src s) {pre post : List Way} {w : Way} (hx : pre ++ w :: post = s.2) :
    impl_way_along_p p w n fl = some (alongN n fl w, ()) := by
  obtain ⟨i, x, h3, hg, hor, hne, -⟩ := way_facts hn hi hx
  obtain ⟨f, hf1, hf2⟩ := vFlows_get hf (lt_of_get hg)
  have hpo : pipeOf n w = x := by unfold pipeOf; rw [h3, Int.toNat_natCast, List.getD_eq_getElem?_getD, hg]; rfl
  unfold impl_way_along_p alongN
  rw [hpo, h3, if_pos (Int.natCast_nonneg i), Int.toNat_natCast, hg, getD_of hf1, if_pos (Int.natCast_nonneg i), hf1, if_pos (Int.natCast_nonneg i)]
  simp only [Option.bind_some]
  rcases hor with ⟨q1, q2⟩ | ⟨q1, q2⟩
  · rw [if_pos q1, q2, beq_self_eq_true]; rfl
  · rw [if_neg (fun h => hne (h.trans q1.symm)), show (x.2.2.1 == w.1) = false from beq_false_of_ne (fun h => hne (q2.trans h.symm)), cond_false, wrap_in (by omega) (by omega)]
    congr 2; omega

theorem wcode_eq {n : Ty.T TNetwork} {w : Way} {i : Nat} {x : Ty.T TPipe} (h3 : w.2.2 = (i : Int)) (hg : n.2[i]? = some x) : wcode (edges n) w = if x.2.1 = w.2.1 then (i : Int) + 1 else -(i : Int) - 1 := by
  unfold wcode
  rw [h3, Int.toNat_natCast, List.getD_eq_getElem?_getD, edges_get hg]; rfl

theorem spec_l07Along_eq {p : Nat} {n : Ty.T TNetwork} (hn : GoodNet n) {fl : List Int} (hf : vFlows n fl = true) {src : Int} {s : BS} (hi : BInv (edges n) [] n.1.length src s) {pre post : List Way} {w : Way} (hx : pre ++ w :: post = s.2) :
    spec_l07Along_p p fl (wcode (edges n) w) = some (alongN n fl w, ()) := by
  obtain ⟨i, x, h3, hg, hor, hne, -, -, -, -, h20⟩ := way_facts hn hi hx
  obtain ⟨f, hf1, hf2⟩ := vFlows_get hf (lt_of_get hg)
  have hpo : pipeOf n w = x := by unfold pipeOf; rw [h3, Int.toNat_natCast, List.getD_eq_getElem?_getD, hg]; rfl
  rw [wcode_eq h3 hg]
  unfold spec_l07Along_p alongN
  rw [hpo, h3, Int.toNat_natCast, getD_of hf1]
  by_cases q : x.2.1 = w.2.1
  · rw [if_pos q, if_pos q, decide_eq_true (by omega), cond_true, wrap_in (n := (i : Int) + 1 - 1) (by omega) (by omega), if_pos (by omega), show ((i : Int) + 1 - 1).toNat = i by omega, hf1]; rfl
  · rw [if_neg q, if_neg q, decide_eq_false (by omega), cond_false, wrap_in (n := 0 - (-(i : Int) - 1)) (by omega) (by omega), wrap_in (n := 0 - (-(i : Int) - 1) - 1) (by omega) (by omega), if_pos (by omega), show (0 - (-(i : Int) - 1) - 1).toNat = i by omega, hf1]
    simp only [Option.bind_some]
    rw [wrap_in (by omega) (by omega)]
    congr 2; omega

theorem spec_l07Before_eq {p : Nat} {n : Ty.T TNetwork} (hn : GoodNet n) {src : Int} {s : BS} (hi : BInv (edges n) [] n.1.length src s) {pre post : List Way} {w : Way} (hx : pre ++ w :: post = s.2) :
    spec_l07Before_p p n (wcode (edges n) w) = some (w.2.1, ()) := by
  obtain ⟨i, x, h3, hg, hor, hne, -, -, -, -, h20⟩ := way_facts hn hi hx
  rw [wcode_eq h3 hg]
  unfold spec_l07Before_p
  by_cases q : x.2.1 = w.2.1
  · rw [if_pos q, decide_eq_true (by omega), cond_true, wrap_in (n := (i : Int) + 1 - 1) (by omega) (by omega), if_pos (by omega), show ((i : Int) + 1 - 1).toNat = i by omega, hg]
    simp only [Option.bind_some, q]
  · have q2 : x.2.2.1 = w.2.1 := by
      rcases hor with h | h
      · exact absurd h.1 q
      · exact h.1
    rw [if_neg q, decide_eq_false (by omega), cond_false, wrap_in (n := 0 - (-(i : Int) - 1)) (by omega) (by omega), wrap_in (n := 0 - (-(i : Int) - 1) - 1) (by omega) (by omega), if_pos (by omega), show (0 - (-(i : Int) - 1) - 1).toNat = i by omega, hg]
    simp only [Option.bind_some, q2]

theorem spec_wayPipe_eq {p : Nat} {n : Ty.T TNetwork} (hn : GoodNet n) {src : Int} {s : BS} (hi : BInv (edges n) [] n.1.length src s) {pre post : List Way} {w : Way} (hx : pre ++ w :: post = s.2) :
    ∃ r : Int, spec_l03Abs_p p (wcode (edges n) w) = some (r, ()) ∧ 0 ≤ IntKind.wrap .i64 (r - 1) ∧ n.2[(IntKind.wrap .i64 (r - 1)).toNat]? = some (pipeOf n w) := by
  obtain ⟨i, x, h3, hg, hor, hne, -, -, -, -, h20⟩ := way_facts hn hi hx
  have hpo : pipeOf n w = x := by unfold pipeOf; rw [h3, Int.toNat_natCast, List.getD_eq_getElem?_getD, hg]; rfl
  have hc : ((wcode (edges n) w).natAbs : Int) = (i : Int) + 1 ∧ -100 ≤ wcode (edges n) w ∧ wcode (edges n) w ≤ 100 := by
    rw [wcode_eq h3 hg]; split <;> omega
  refine ⟨(i : Int) + 1, ?_, ?_, ?_⟩
  · rw [spec_l03Abs_eq (by omega), hc.1]
  · rw [wrap_in (by omega) (by omega)]; omega
  · rw [wrap_in (by omega) (by omega), show ((i : Int) + 1 - 1).toNat = i by omega, hg, hpo]

theorem by_keep (E : List (Int × Int)) {j : Nat} : ∀ (ws : List Way) (l : List Int), (∀ w ∈ ws, w.1.toNat ≠ j) → (ws.foldl (fun by0 w => by0.set w.1.toNat (wcode E w)) l).getD j 0 = l.getD j 0 := by
  intro ws
  induction ws with
  | nil => intro l _; rfl
  | cons w ws ih =>
    intro l h
    rw [List.foldl_cons, ih _ (fun x hx => h x (List.mem_cons_of_mem _ hx)), List.getD_eq_getElem?_getD, List.getElem?_set_ne (h w (List.mem_cons_self ..)), List.getD_eq_getElem?_getD]

theorem post_new {n : Ty.T TNetwork} {src : Int} {s : BS} (hi : BInv (edges n) [] n.1.length src s) {pre post : List Way} {w : Way} (hx : pre ++ w :: post = s.2) : ∀ v ∈ post, v.1.toNat ≠ w.1.toNat := by
  intro v hv
  have hr : ∀ a ∈ s.2.map (·.1), inR n.1.length a := fun a ha => hi.rng a (by rw [hi.shape]; exact List.mem_cons_of_mem _ ha)
  have hnd : (s.2.map (·.1)).Nodup := (List.nodup_cons.1 (by rw [← hi.shape]; exact hi.nodup)).2
  rw [← hx, List.map_append, List.map_cons] at hnd
  have h1 := (List.nodup_cons.1 (List.nodup_append.1 hnd).2.1).1
  have h2 := inR_toNat (hr v.1 (by rw [← hx]; simp only [List.map_append, List.map_cons, List.mem_append, List.mem_cons]; exact .inr (.inr (List.mem_map_of_mem hv))))
  have h3 := inR_toNat (hr w.1 (by rw [← hx]; simp))
  intro q
  exact h1 (List.mem_map.2 ⟨v, hv, by omega⟩)

theorem byOf_get {n : Ty.T TNetwork} {src : Int} {s : BS} (hi : BInv (edges n) [] n.1.length src s) {pre post : List Way} {w : Way} (hx : pre ++ w :: post = s.2) (hw : inR n.1.length w.1) : (byOf (edges n) n.1.length s.2).getD w.1.toNat 0 = wcode (edges n) w := by
  have h3 := inR_toNat hw
  rw [← hx]
  unfold byOf
  rw [List.foldl_append, List.foldl_cons, by_keep _ _ _ (post_new hi hx), List.getD_eq_getElem?_getD, List.getElem?_set_self (by rw [by_len]; simpa using h3.1)]
  rfl

/-! the walks -/
def stepV (n : Ty.T TNetwork) (fl : List Int) (v : List Int) (w : Way) : Int := if alongN n fl w ≤ 0 then -1 else if v.getD w.2.1.toNat 0 < 0 then -1 else v.getD w.2.1.toNat 0 + delayN (pipeOf n w) (alongN n fl w)
def stepD (n : Ty.T TNetwork) (fl : List Int) (v : List Int) (w : Way) : List Int := v.set w.1.toNat (stepV n fl v w)
def valD (n : Ty.T TNetwork) (fl : List Int) (ws : List Way) : List Int := ws.foldl (stepD n fl) (List.replicate n.1.length 0)

theorem valD_add (n : Ty.T TNetwork) (fl : List Int) (ws : List Way) (w : Way) : valD n fl (ws ++ [w]) = stepD n fl (valD n fl ws) w := by
  unfold valD; rw [List.foldl_append]; rfl
theorem foldD_len (n : Ty.T TNetwork) (fl : List Int) : ∀ (ws : List Way) (l : List Int), (ws.foldl (stepD n fl) l).length = l.length := by
  intro ws
  induction ws with
  | nil => intro l; rfl
  | cons w ws ih => intro l; rw [List.foldl_cons, ih]; unfold stepD; rw [List.length_set]
theorem valD_len (n : Ty.T TNetwork) (fl : List Int) (ws : List Way) : (valD n fl ws).length = n.1.length := by unfold valD; rw [foldD_len]; simp

theorem snoc_cases (pre : List Way) : pre = [] ∨ ∃ p0 w, pre = p0 ++ [w] := by
  rcases List.eq_nil_or_concat pre with h | ⟨a, b, h⟩
  · exact .inl h
  · exact .inr ⟨a, b, by rw [h, List.concat_eq_append]⟩

theorem getD_set_self {l : List Int} {j : Nat} {a d : Int} (h : j < l.length) : (l.set j a).getD j d = a := by
  rw [List.getD_eq_getElem?_getD, List.getElem?_set_self h]; rfl
theorem getD_set_ne {l : List Int} {j k : Nat} {a d : Int} (h : j ≠ k) : (l.set j a).getD k d = l.getD k d := by
  rw [List.getD_eq_getElem?_getD, List.getElem?_set_ne h, List.getD_eq_getElem?_getD]
theorem getD_rep {N j : Nat} : (List.replicate N (0 : Int)).getD j 0 = 0 := by
  rw [List.getD_eq_getElem?_getD, List.getElem?_replicate]; split <;> rfl

/-- Every value lies within its bound. -/
theorem valD_bd {n : Ty.T TNetwork} (hn : GoodNet n) {fl : List Int} (hf : vFlows n fl = true) {src : Int} {s : BS} (hi : BInv (edges n) [] n.1.length src s) :
    ∀ (m : Nat) (pre post : List Way), pre.length = m → pre ++ post = s.2 → ∀ j : Nat, -1 ≤ (valD n fl pre).getD j 0 ∧ (valD n fl pre).getD j 0 ≤ (m : Int) * 100000000000000 := by
  intro m
  induction m with
  | zero =>
    intro pre post hl _ j
    cases List.length_eq_zero_iff.1 hl
    show -1 ≤ (List.replicate n.1.length (0 : Int)).getD j 0 ∧ (List.replicate n.1.length (0 : Int)).getD j 0 ≤ _
    rw [getD_rep]; omega
  | succ m ih =>
    intro pre post hl hx j
    rcases snoc_cases pre with rfl | ⟨p0, w, rfl⟩
    · simp at hl
    have hx' : p0 ++ w :: post = s.2 := by rw [← hx]; simp
    have h0 := ih p0 (w :: post) (by simpa using hl) hx'
    have ha := along_bd hn hf hi hx'
    rw [valD_add]
    by_cases q : w.1.toNat = j
    · by_cases hj : j < (valD n fl p0).length
      · unfold stepD
        rw [q, getD_set_self hj]
        unfold stepV
        have := h0 w.2.1.toNat
        by_cases c : alongN n fl w ≤ 0
        · rw [if_pos c]; omega
        · have hd := delay_bd (pipeOf_ok hn hi hx') (f := alongN n fl w) (by omega)
          rw [if_neg c]
          split <;> omega
      · have : (stepD n fl (valD n fl p0) w).getD j 0 = 0 := by
          rw [List.getD_eq_getElem?_getD, List.getElem?_eq_none (by unfold stepD; rw [List.length_set]; omega)]; rfl
        rw [this]; omega
    · unfold stepD
      rw [getD_set_ne q]
      have := h0 j
      omega

/-- The reference's walk back ends as the program's value says. -/
theorem spec_l0_eq {p : Nat} {α : Type} {n : Ty.T TNetwork} (hn : GoodNet n) {fl : List Int} (hf : vFlows n fl = true) {src : Int} {s : BS} (hi : BInv (edges n) [] n.1.length src s) (k0 : Int → Int → Int → Option α) (k1 : Int → Option α) (A : Option α) (hA : ∀ v, k0 0 3 v = A) :
    ∀ (m : Nat) (pre post : List Way), pre.length = m → pre ++ post = s.2 → ∀ (b acc : Int) (q : Nat), b ∈ src :: pre.map (·.1) → m < q → 0 ≤ acc → acc ≤ (100 - (m : Int)) * 100000000000000 → m ≤ 50 →
      spec_DelayTo_l0_go p src fl n.1 n.2 (byOf (edges n) n.1.length s.2) q b acc k0 k1 = if (valD n fl pre).getD b.toNat 0 < 0 then A else k1 (acc + (valD n fl pre).getD b.toNat 0) := by
  have hsrc : ∀ (pre post : List Way), pre ++ post = s.2 → ∀ w ∈ pre, w.1 ≠ src := fun pre post hx w hw hc => by
    have hnd := (List.nodup_cons.1 (by rw [← hi.shape]; exact hi.nodup)).1
    exact hnd (List.mem_map.2 ⟨w, by rw [← hx]; exact List.mem_append_left _ hw, hc⟩)
  have hsR : inR n.1.length src := hi.rng src (by rw [hi.shape]; exact List.mem_cons_self ..)
  have hsv : ∀ (m : Nat) (pre post : List Way), pre.length = m → pre ++ post = s.2 → (valD n fl pre).getD src.toNat 0 = 0 := by
    intro m
    induction m with
    | zero => intro pre post hl _; cases List.length_eq_zero_iff.1 hl; exact getD_rep
    | succ m ih =>
      intro pre post hl hx
      rcases snoc_cases pre with rfl | ⟨p0, w, rfl⟩
      · simp at hl
      have hx' : p0 ++ w :: post = s.2 := by rw [← hx]; simp
      obtain ⟨i, x, -, -, -, -, -, -, hw1, -⟩ := way_facts hn hi hx'
      have h1 := inR_toNat hw1
      have h2 := inR_toNat hsR
      have := hsrc _ post hx w (by simp)
      rw [valD_add]
      unfold stepD
      rw [getD_set_ne (by omega)]
      exact ih p0 (w :: post) (by simpa using hl) hx'
  intro m
  induction m with
  | zero =>
    intro pre post hl hx b acc q hb hq h0 h1 hm
    cases List.length_eq_zero_iff.1 hl
    simp only [List.map_nil, List.mem_singleton] at hb
    subst hb
    obtain ⟨q, rfl⟩ : ∃ r, q = r + 1 := ⟨q - 1, by omega⟩
    have e : (valD n fl []).getD b.toNat 0 = 0 := hsv 0 [] post rfl hx
    rw [e, if_neg (by omega), show acc + 0 = acc by omega]
    simp only [spec_DelayTo_l0_go, spec_DelayTo_l0_r]
    rw [show (b != b) = false by simp, cond_false]
  | succ m ih =>
    intro pre post hl hx b acc q hb hq h0 h1 hm
    rcases snoc_cases pre with rfl | ⟨p0, w, rfl⟩
    · simp at hl
    have hx' : p0 ++ w :: post = s.2 := by rw [← hx]; simp
    obtain ⟨i, x, h3, hg, hor, hne, hb1, hb2, hw1, hw2, h20⟩ := way_facts hn hi hx'
    have hl0 : p0.length = m := by simpa using hl
    have t1 := inR_toNat hw1
    rw [valD_add]
    by_cases c : b = w.1
    · subst c
      obtain ⟨q, rfl⟩ : ∃ r, q = r + 1 := ⟨q - 1, by omega⟩
      obtain ⟨r, hr1, hr2, hr3⟩ := spec_wayPipe_eq (p := p) hn hi hx'
      have hbd := along_bd hn hf hi hx'
      simp only [spec_DelayTo_l0_go, spec_DelayTo_l0_r]
      rw [show (w.1 != src) = true by simpa using hsrc _ post hx w (by simp), cond_true, byOf_len, if_pos (show 0 ≤ w.1 ∧ w.1 < (n.1.length : Int) from hw1)]
      simp only [show Ty.zero (.int .i64) = (0 : Int) from rfl, byOf_get hi hx' hw1, spec_l07Along_eq hn hf hi hx', hr1, Option.bind_some, if_pos hr2, hr3, spec_l07Before_eq hn hi hx', show ((n.1, n.2) : Ty.T TNetwork) = n from rfl]
      unfold stepD
      rw [getD_set_self (by rw [valD_len]; exact t1.1)]
      unfold stepV
      by_cases d : alongN n fl w ≤ 0
      · rw [decide_eq_true d, cond_true, if_pos d, if_pos (by omega), hA]
      · have hdl := delay_bd (pipeOf_ok hn hi hx') (f := alongN n fl w) (by omega)
        have hvb := valD_bd hn hf hi m p0 (w :: post) hl0 hx' w.2.1.toNat
        rw [decide_eq_false d, cond_false, if_neg d, spec_l03Delay_eq (pipeOf_ok hn hi hx') (by omega)]
        simp only [Option.bind_some]
        rw [wrap_in (by omega) (by omega), ih p0 (w :: post) hl0 hx' w.2.1 _ q hb1 (by omega) (by omega) (by omega) (by omega)]
        by_cases g : (valD n fl p0).getD w.2.1.toNat 0 < 0
        · rw [if_pos g, if_pos g, if_pos (by omega)]
        · rw [if_neg g, if_neg g, if_neg (by omega)]
          congr 1; omega
    · have hb' : b ∈ src :: p0.map (·.1) := by
        simp only [List.map_append, List.mem_cons, List.mem_append, List.map_cons, List.map_nil, List.mem_singleton] at hb
        rcases hb with h | h | h
        · rw [h]; exact List.mem_cons_self ..
        · exact List.mem_cons_of_mem _ h
        · exact absurd h (by simpa using c)
      have hbR : inR n.1.length b := hi.rng b (by
        rw [hi.shape, ← hx']
        rcases List.mem_cons.1 hb' with h | h
        · rw [h]; exact List.mem_cons_self ..
        · simp only [List.map_append, List.mem_cons, List.mem_append]; exact .inr (.inl h))
      have t2 := inR_toNat hbR
      unfold stepD
      rw [getD_set_ne (by omega)]
      exact ih p0 (w :: post) hl0 hx' b acc q hb' (by omega) h0 (by omega) (by omega)

/-- The program's walk fills in the values. -/
theorem impl_l0_eq {p : Nat} {α : Type} {n : Ty.T TNetwork} (hn : GoodNet n) {fl : List Int} (hf : vFlows n fl = true) {src : Int} {s : BS} (hi : BInv (edges n) [] n.1.length src s) (hl : s.2.length ≤ 50) (K : List Int → Option α) :
    ∀ (post pre : List Way) (q : Nat), pre ++ post = s.2 → post.length < q →
      impl_DelayTo_l0_go p fl (s.2.length : Int) n.1 n.2 s.2 q (pre.length : Int) (valD n fl pre) K = K (valD n fl s.2) := by
  intro post
  induction post with
  | nil =>
    intro pre q hx hq
    obtain ⟨q, rfl⟩ : ∃ r, q = r + 1 := ⟨q - 1, by simp at hq; omega⟩
    rw [List.append_nil] at hx
    subst hx
    simp only [impl_DelayTo_l0_go, impl_DelayTo_l0_r, dlt_end, cond_false]
  | cons w post ih =>
    intro pre q hx hq
    obtain ⟨q, rfl⟩ : ∃ r, q = r + 1 := ⟨q - 1, by omega⟩
    obtain ⟨i, x, h3, hg, hor, hne, hb1, hb2, hw1, hw2, h20⟩ := way_facts hn hi hx
    have hget : s.2[pre.length]? = some w := get_at hx
    have hgd : s.2.getD pre.length (Ty.zero Tway) = w := by rw [List.getD_eq_getElem?_getD, hget]; rfl
    have hlt := lt_of_get hget
    have hbd := along_bd hn hf hi hx
    have hvb := valD_bd hn hf hi pre.length pre (w :: post) rfl hx w.2.1.toNat
    have hpo : pipeOf n w = x := by unfold pipeOf; rw [h3, Int.toNat_natCast, List.getD_eq_getElem?_getD, hg]; rfl
    have hnx := ih (pre ++ [w]) q (by rw [← hx]; simp) (by simp at hq; omega)
    rw [valD_add, List.length_append, List.length_singleton] at hnx
    rw [← hnx]
    simp only [impl_DelayTo_l0_go, impl_DelayTo_l0_r, dlt_get hget, cond_true, Int.toNat_natCast, hgd]
    rw [if_pos ⟨Int.natCast_nonneg _, by omega⟩, show ((w.1, w.2) : Ty.T Tway) = w from rfl, show ((n.1, n.2) : Ty.T TNetwork) = n from rfl, impl_way_along_eq hn hf hi hx, wrap_succ (show pre.length < 9223372036854775807 by omega)]
    have l1 : 0 ≤ w.1 ∧ w.1 < ((valD n fl pre).length : Int) := by rw [valD_len]; exact hw1
    have l2 : 0 ≤ w.2.1 ∧ w.2.1 < ((valD n fl pre).length : Int) := by rw [valD_len]; exact hw2
    simp only [Option.bind_some, if_pos l1, if_pos l2, show Ty.zero (.int .i64) = (0 : Int) from rfl, h3, if_pos (Int.natCast_nonneg i), Int.toNat_natCast, hg]
    unfold stepD stepV
    by_cases d : alongN n fl w ≤ 0
    · rw [decide_eq_true d, cond_true, if_pos d]
    · have hdl := delay_bd (pipeOf_ok hn hi hx) (f := alongN n fl w) (by omega)
      have hpv := pipeOf_ok hn hi hx
      rw [hpo] at hdl hpv
      rw [decide_eq_false d, cond_false, if_neg d, impl_Pipe_delay_eq hpv (by omega), hpo]
      by_cases g : (valD n fl pre).getD w.2.1.toNat 0 < 0
      · rw [decide_eq_true g, cond_true, if_pos g]
      · rw [decide_eq_false g, cond_false, if_neg g]
        simp only [Option.bind_some]
        rw [wrap_in (by omega) (by omega)]

/-- In a tree all nodes are found from each node. -/
theorem tree_all {n : Ty.T TNetwork} (hn : GoodNet n) (ht : isTree n = true) {src : Int} (hs : inR n.1.length src) : ∀ a, inR n.1.length a → a ∈ (found n [] src).1 := by
  unfold isTree at ht
  simp only [Bool.and_eq_true, decide_eq_true_eq] at ht
  have hE := hn.edges
  have hlo := hn.lo
  have hle : (edges n).length + 1 = n.1.length := by unfold edges; rw [List.length_map]; exact ht.1
  have h1 := (tree_iff hlo hE hle).2 ht.2
  have hJ := joins_inv (edges n) _ hE (part0_inv n.1.length)
  have hcnt := hJ.cnt
  have h2 : cntV n.1.length (joins (edges n) (part0 n.1.length, 0)).1 = 1 := by omega
  have hcl := bfs_closed (closed := []) hE hs
  have p0 : ∀ u v, inR n.1.length u → inR n.1.length v → cl (part0 n.1.length, 0).1 u = cl (part0 n.1.length, 0).1 v → u = v := fun u v hu hv h => by
    have h1 := inR_toNat hu
    have h2 := inR_toNat hv
    have q : ∀ w, inR n.1.length w → cl (part0 n.1.length) w = w := fun w hw => by
      have h3 := inR_toNat hw
      unfold cl part0
      simp [List.getD_eq_getElem?_getD, List.getElem?_range h3.1, h3.2]
    simp only at h
    rw [q u hu, q v hv] at h
    exact h
  have hset := joins_set (fun u => u ∈ (found n [] src).1) (edges n) (part0 n.1.length, 0) hE (part0_inv n.1.length) (fun e he => by
      obtain ⟨j, hj, hj2⟩ := List.getElem_of_mem he
      have hg : (edges n)[j]? = some e := by rw [List.getElem?_eq_getElem hj, hj2]
      have hne := (hE e he).2.2
      constructor
      · intro q; exact hcl e.1 q j e e.2 hg rfl (by unfold otherE; rw [if_pos rfl])
      · intro q; exact hcl e.2 q j e e.1 hg rfl (by unfold otherE; rw [if_neg (fun x => hne x.symm), if_pos rfl])) (fun u v hu hv huv => by rw [p0 u v hu hv huv])
  exact fun a ha => (hset a src ha hs (cnt_one hJ h2 ha hs)).2 (bfs_src hE hs)

/-! the law -/
def delayR (n : Ty.T TNetwork) (src : Int) (fl : List Int) (at' : Int) : Int × Int :=
  bif askCode n src != 0 then (0, askCode n src) else bif !vNode n at' then (0, 2) else bif flowCode n src fl != 0 then (0, flowCode n src fl) else
    if (valD n fl (found n [] src).2).getD at'.toNat 0 < 0 then (0, 3) else ((valD n fl (found n [] src).2).getD at'.toNat 0, 0)

theorem flow_yes {n : Ty.T TNetwork} {src : Int} {fl : List Int} (h : (flowCode n src fl != 0) = false) : vNet n = true ∧ vNode n src = true ∧ vFlows n fl = true ∧ isTree n = true := by
  unfold flowCode at h
  cases h1 : vNet n <;> cases h2 : vNode n src <;> cases h3 : vFlows n fl <;> cases h4 : isTree n <;> simp_all

theorem spec_DelayTo_eq {p : Nat} (hp : maxLen < p) (n : Ty.T TNetwork) (hw : wt TNetwork n ≤ 1048576) (src : Int) (fl : List Int) (hl : fl.length ≤ 1048576) (at' : Int) : spec_DelayTo_p p n src fl at' = some ((delayR n src fl at').1, (delayR n src fl at').2, ()) := by
  have hm : maxLen = 9223372036854775807 := rfl
  have hz : wt TNetwork n = wt (.slice (.int .i64)) n.1 + wt (.slice TPipe) n.2 := rfl
  have l1 := wt_len (e := .int .i64) n.1
  unfold spec_DelayTo_p delayR
  rw [spec_l07Ask_eq hp n hw, spec_l04Node_eq (by omega), spec_l07Given_eq hp n hw src fl hl]
  simp only [Option.bind_some]
  cases c1 : askCode n src != 0
  case true => rfl
  cases c2 : vNode n at'
  case false => rfl
  cases c3 : flowCode n src fl != 0
  case true => rfl
  obtain ⟨h1, h2, h3, h4⟩ := flow_yes c3
  have hn := vNet_good h1
  have hs := vNode_in h2
  have hi := bfs_inv (closed := []) hn.edges hs
  have hlen := hi.len
  have hwl := hi.wlen
  have hN := hn.hi
  have hall := tree_all hn h4 hs at' (vNode_in c2)
  have hmem : at' ∈ src :: (found n [] src).2.map (·.1) := by
    have := hi.shape
    unfold found at hall ⊢
    rw [this] at hall; exact hall
  simp only [cond_false, Bool.not_true, spec_l07Order_eq hp hn hs, Option.bind_some]
  have key := spec_l0_eq (p := p) hn h3 hi (fun o11 o12 o13 => some (o11, o12, ())) (fun o14 => some (o14, (0 : Int), ())) (some ((0 : Int), (3 : Int), ())) (fun _ => rfl) _ (found n [] src).2 [] rfl (List.append_nil _) at' 0 p hmem
    (by unfold found; omega) (by omega) (by unfold found; omega) (by unfold found; omega)
  refine Eq.trans key ?_
  rw [show (0 : Int) + (valD n fl (found n [] src).2).getD at'.toNat 0 = (valD n fl (found n [] src).2).getD at'.toNat 0 by omega]
  split <;> rfl

theorem impl_DelayTo_eq {p : Nat} (hp : maxLen < p) (n : Ty.T TNetwork) (hw : wt TNetwork n ≤ 1048576) (src : Int) (fl : List Int) (hl : fl.length ≤ 1048576) (at' : Int) : impl_DelayTo_p p n src fl at' = some ((delayR n src fl at').1, (delayR n src fl at').2, ()) := by
  have hm : maxLen = 9223372036854775807 := rfl
  have hz : wt TNetwork n = wt (.slice (.int .i64)) n.1 + wt (.slice TPipe) n.2 := rfl
  have l1 := wt_len (e := .int .i64) n.1
  unfold impl_DelayTo_p delayR
  rw [impl_ValidNetwork_eq hp n hw, impl_Network_hasNode_eq (by omega), impl_flowsCode_eq hp n hw src fl hl]
  simp only [Option.bind_some]
  cases c0 : vNet n
  · unfold askCode; rw [c0]; rfl
  have e1 : askCode n src = bif !vNode n src then 2 else 0 := by unfold askCode; rw [c0]; rfl
  cases c2 : vNode n at'
  · rw [e1]; cases vNode n src <;> rfl
  cases c3 : flowCode n src fl != 0
  case true =>
    rw [e1]
    cases q : vNode n src
    · unfold flowCode; rw [c0, q]; rfl
    · rfl
  obtain ⟨h1, h2, h3, h4⟩ := flow_yes c3
  have hn := vNet_good h1
  have hs := vNode_in h2
  have ha := vNode_in c2
  have hi := bfs_inv (closed := []) hn.edges hs
  have hlen := hi.len
  have hwl := hi.wlen
  have hN := hn.hi
  rw [e1, h2]
  simp only [cond_false, Bool.not_true, show ((0 : Int) != 0) = false from rfl]
  rw [if_pos (by refine ⟨?_, ?_, ?_, ?_⟩ <;> omega), impl_Network_ways_eq hp hn hs]
  simp only [Option.bind_some, Int.toNat_natCast]
  have key := impl_l0_eq (p := p) hn h3 hi (by omega) (fun o8 => (if 0 ≤ at' ∧ at' < (o8.length : Int) then (if 0 ≤ at' ∧ at' < (o8.length : Int) then ((impl_orNotFound_p p (o8.getD at'.toNat (Ty.zero (.int .i64))) (decide ((o8.getD at'.toNat (Ty.zero (.int .i64))) ≥ (0 : Int)))).bind fun r9 => some (r9.1, r9.2.1, ())) else none) else none)) (found n [] src).2 [] p rfl (by unfold found; omega)
  refine Eq.trans key ?_
  have l2 : 0 ≤ at' ∧ at' < ((valD n fl (found n [] src).2).length : Int) := by rw [valD_len]; exact ha
  have l3 : 0 ≤ at' ∧ at' < ((valD n fl (bfs (edges n) [] n.1.length src).2).length : Int) := l2
  simp only [if_pos l3]
  show _ = some _
  by_cases g : (valD n fl (found n [] src).2).getD at'.toNat 0 < 0
  · have g' : decide ((valD n fl (bfs (edges n) [] n.1.length src).2).getD at'.toNat (Ty.zero (.int .i64)) ≥ (0 : Int)) = false := decide_eq_false (by show ¬ ((valD n fl (found n [] src).2).getD at'.toNat 0 ≥ 0); omega)
    rw [g', if_pos g]; rfl
  · have g' : decide ((valD n fl (bfs (edges n) [] n.1.length src).2).getD at'.toNat (Ty.zero (.int .i64)) ≥ (0 : Int)) = true := decide_eq_true (by show ((valD n fl (found n [] src).2).getD at'.toNat 0 ≥ 0); omega)
    rw [g', if_neg g]; rfl

theorem FnExactDelayTo_law (n : Ty.T TNetwork) (src : Int) (fl : List Int) (at' : Int) (hx : TNetwork.wf n) (hsrc : Ty.wf (.int .i64) src) (hfl : Ty.wf (.slice (.int .i64)) fl) (hat : Ty.wf (.int .i64) at') : laws_FnExactDelayTo_p (maxLen + 1) n src fl at' = some true := by
  have hp : maxLen < maxLen + 1 := Nat.lt_succ_self _
  unfold laws_FnExactDelayTo_p
  by_cases c0 : (fl.length : Int) > 1048576
  · rw [decide_eq_true c0]; rfl
  rw [decide_eq_false c0, cond_false, laws_szNetwork_eq hp n hx (by omega) (by omega)]
  simp only [Option.bind_some]
  by_cases c : (1048576 : Int) < ((wt TNetwork n : Nat) : Int)
  · rw [szf_big c]; rfl
  have hl : fl.length ≤ 1048576 := by omega
  have hwl : wt (.slice (.int .i64)) fl ≤ 1048576 := by
    have : wt (.slice (.int .i64)) fl = fl.length + (fl.map fun _ => 0).sum := rfl
    rw [this, map_zero (fun _ => rfl)]; omega
  rw [szf_small (by omega), decide_eq_false (by omega), cond_false]
  simp only [laws_toNetwork_eq hp n (by omega), laws_toInt64S_eq hp fl (by omega), spec_DelayTo_eq hp n (by omega) src fl hl at', impl_DelayTo_eq hp n (by omega) src fl hl at', laws_eqNetwork_eq hp n n (by omega), laws_eqInt64S_eq hp fl fl (by omega), tbeq_refl, Option.bind_some]
  rw [show ((delayR n src fl at').1 != (delayR n src fl at').1) = false by simp, show ((delayR n src fl at').2 != (delayR n src fl at').2) = false by simp]
  rfl

end Go.Proofs.Ytgmcefnlcalagaa.W
