/- The abstract machine: drawn orders; the order of edges, and runs op by op. No condition. -/
import Derived.Test.YtgmcefnlcalagaaAm18
import Derived.Orders
namespace Go.Proofs.Ytgmcefnlcalagaa.AM
open Go Go.RowKit
set_option linter.unusedSimpArgs false
set_option linter.unusedVariables false

section
variable {P : Program} {ops : Array Oper} {Q : Exit → Act → World → Prop}

theorem mem_ready {listed : Array Bool} (hs : listed.size = ops.size) {i : Nat} : i ∈ Region.ready .any ops listed ↔
    listed[i]? = some false ∧ ∃ o, ops[i]? = some o ∧ ∀ e ∈ o.after, Region.binds .any e = true → listed[e.on]? = some true := by
  have hb : ∀ {b : Bool}, (listed[i]?).getD b = listed.getD i b := fun {b} => (Array.getD_eq_getD_getElem? ..).symm
  have gt : ∀ k, listed.getD k false = true ↔ listed[k]? = some true := fun k => by
    rw [Array.getD_eq_getD_getElem?]
    cases listed[k]? with
    | none => simp
    | some b => cases b <;> simp
  have gf : listed.getD i true = false ↔ listed[i]? = some false := by
    rw [Array.getD_eq_getD_getElem?]
    cases listed[i]? with
    | none => simp
    | some b => cases b <;> simp
  unfold Region.ready
  simp only [List.mem_filter, List.mem_range, Bool.and_eq_true, Bool.not_eq_true']
  rw [gf]
  constructor
  · rintro ⟨h1, h2, h3⟩
    refine ⟨h2, ?_⟩
    cases ho : ops[i]? with
    | none => rw [ho] at h3; simp at h3
    | some o =>
      rw [ho] at h3
      refine ⟨o, rfl, fun e he hbn => ?_⟩
      simp only [Option.map_some, Option.getD_some, Array.all_eq_true', Bool.or_eq_true, Bool.not_eq_true'] at h3
      rcases h3 e he with q | q
      · rw [hbn] at q; cases q
      · exact (gt _).1 q
  · rintro ⟨h2, o, ho, h3⟩
    refine ⟨by rw [← hs]; exact (Array.getElem?_eq_some_iff.1 h2).1, h2, ?_⟩
    rw [ho]
    simp only [Option.map_some, Option.getD_some, Array.all_eq_true', Bool.or_eq_true, Bool.not_eq_true']
    intro e he
    cases hbn : Region.binds .any e with
    | false => exact .inl rfl
    | true => exact .inr ((gt _).2 (h3 e he hbn))

theorem count_set : ∀ {l : List Bool} {i : Nat}, l[i]? = some false → (l.set i true).count false + 1 = l.count false := by
  intro l
  induction l with
  | nil => intro i h; simp at h
  | cons b l ih =>
    intro i h
    cases i with
    | zero => simp at h; subst h; simp
    | succ i =>
      have := ih (i := i) (by simpa using h)
      cases b <;> simp [List.count_cons] <;> omega

/-- What holds of every order that the edges allow. -/
theorem wpAny_inv (Inv : Array Bool → Act → World → Prop) (hs : ∀ listed a w, Inv listed a w → listed.size = ops.size)
    (hedge : ∀ i o, ops[i]? = some o → ∀ e ∈ o.after, Region.binds .any e = true → e.on < i)
    (hdone : ∀ listed a w, Inv listed a w → (∀ i, i < ops.size → listed[i]? = some true) → Q .normal a w)
    (hstep : ∀ listed a w i o, Inv listed a w → ops[i]? = some o → listed[i]? = some false → (∀ e ∈ o.after, Region.binds .any e = true → listed[e.on]? = some true) →
      wpOp P ops Q i (fun a' w' => Inv (listed.setIfInBounds i true) a' w') a w) :
    ∀ (fuel : Nat) (listed : Array Bool) (a : Act) (w : World), Inv listed a w → listed.toList.count false ≤ fuel → wpAny P .any ops Q fuel listed a w := by
  have nil : ∀ listed a w, Inv listed a w → Region.ready .any ops listed = [] → Q .normal a w := fun listed a w hi hr => by
    have hsz := hs _ _ _ hi
    refine hdone _ _ _ hi fun i => ?_
    induction i using Nat.strongRecOn with
    | ind i ih =>
      intro hlt
      rcases hb : listed[i]? with _ | b
      · rw [Array.getElem?_eq_none_iff] at hb; omega
      cases b with
      | true => rfl
      | false =>
        exfalso
        have : i ∈ Region.ready .any ops listed := (mem_ready hsz).2 ⟨hb, ops[i], by simp [hlt], fun e he hbn => by
          have h1 := hedge i _ (by simp [hlt]) e he hbn
          exact ih e.on h1 (by omega)⟩
        rw [hr] at this
        cases this
  intro fuel
  induction fuel with
  | zero =>
    intro listed a w hi hc
    have hr : Region.ready .any ops listed = [] := by
      apply List.eq_nil_iff_forall_not_mem.2
      intro i hm
      obtain ⟨h1, -⟩ := (mem_ready (hs _ _ _ hi)).1 hm
      have := count_set (l := listed.toList) (i := i) (by simpa using h1)
      omega
    exact ⟨hr, nil _ _ _ hi hr⟩
  | succ fuel ih =>
    intro listed a w hi hc
    refine ⟨nil _ _ _ hi, fun i hm => ?_⟩
    obtain ⟨h1, o, ho, he⟩ := (mem_ready (hs _ _ _ hi)).1 hm
    refine wpOp_mono (fun a' w' hi' => ih _ a' w' hi' ?_) (hstep listed a w i o hi ho h1 he)
    have := count_set (l := listed.toList) (i := i) (by simpa using h1)
    rw [Array.toList_setIfInBounds]
    omega

end

/-! ### What comes before by edges -/

theorem testBit_orBits : ∀ (l : List Nat) (a j : Nat), Nat.testBit (orBits l a) j = (Nat.testBit a j || l.any fun x => Nat.testBit x j) := by
  intro l
  induction l with
  | nil => intro a j; simp [orBits]
  | cons x l ih =>
    intro a j
    simp only [orBits, ih, Nat.testBit_or, List.any_cons, Bool.or_assoc]

def bitOf (acc : List Nat) (o : Oper) : Nat := orBits (o.after.toList.map fun e => bif Region.binds .any e then 2 ^ e.on ||| acc.getD e.on 0 else 0) 0

theorem ancs_step : ∀ (os : List Oper) (acc : List Nat), (∀ j, j < acc.length → (ancs os acc)[j]? = acc[j]?) ∧
    ∀ j o, os[j]? = some o → ∃ acc', acc'.length = acc.length + j ∧ (∀ k, k < acc.length + j → (ancs os acc)[k]? = acc'[k]?) ∧ (ancs os acc)[acc.length + j]? = some (bitOf acc' o) := by
  intro os
  induction os with
  | nil => intro acc; exact ⟨fun j hj => rfl, fun j o hj => by simp at hj⟩
  | cons o os ih =>
    intro acc
    obtain ⟨h1, h2⟩ := ih (acc ++ [bitOf acc o])
    have e : ancs (o :: os) acc = ancs os (acc ++ [bitOf acc o]) := rfl
    have low : ∀ j, j < acc.length → (ancs (o :: os) acc)[j]? = acc[j]? := fun j hj => by
      rw [e, h1 j (by simp; omega), List.getElem?_append_left hj]
    refine ⟨low, fun j o' hj => ?_⟩
    cases j with
    | zero =>
      simp at hj; subst hj
      refine ⟨acc, rfl, low, ?_⟩
      rw [e, h1 _ (by simp)]
      simp
    | succ j =>
      obtain ⟨acc', g1, g2, g3⟩ := h2 j o' (by simpa using hj)
      simp only [List.length_append, List.length_cons, List.length_nil] at g1 g2 g3
      rw [e]
      exact ⟨acc', by omega, fun k hk => g2 k (by omega), by rw [show acc.length + (j + 1) = acc.length + (0 + 1) + j from by omega]; exact g3⟩

/-- The bits of operation i: of each edge its own and those of what it leads to. -/
theorem ancs_bit {l : List Oper} {i j : Nat} {o : Oper} (ho : l[i]? = some o) (hedge : ∀ e ∈ o.after, Region.binds .any e = true → e.on < i) :
    Nat.testBit ((ancs l []).getD i 0) j = true ↔ ∃ e ∈ o.after, Region.binds .any e = true ∧ (j = e.on ∨ Nat.testBit ((ancs l []).getD e.on 0) j = true) := by
  obtain ⟨acc, g1, g2, g3⟩ := (ancs_step l []).2 i o ho
  simp only [List.length_nil, Nat.zero_add] at g1 g2 g3
  have hg : (ancs l []).getD i 0 = bitOf acc o := by rw [List.getD_eq_getElem?_getD, g3]; rfl
  have hk : ∀ k, k < i → acc.getD k 0 = (ancs l []).getD k 0 := fun k hk => by
    rw [List.getD_eq_getElem?_getD, List.getD_eq_getElem?_getD, g2 k hk]
  rw [hg]
  unfold bitOf
  rw [testBit_orBits]
  simp only [Nat.zero_testBit, Bool.false_or, List.any_eq_true, List.mem_map, Array.mem_toList_iff]
  constructor
  · rintro ⟨x, ⟨e, he, rfl⟩, hb⟩
    cases hbn : Region.binds .any e with
    | false => rw [hbn] at hb; simp at hb
    | true =>
      rw [hbn] at hb
      simp only [cond_true, Nat.testBit_or, Bool.or_eq_true] at hb
      refine ⟨e, he, hbn, hb.imp (fun q => ?_) (fun q => ?_)⟩
      · rw [Nat.testBit_two_pow] at q; exact (of_decide_eq_true q).symm
      · rw [hk _ (hedge e he hbn)] at q; exact q
  · rintro ⟨e, he, hbn, hb⟩
    refine ⟨_, ⟨e, he, rfl⟩, ?_⟩
    rw [hbn]
    simp only [cond_true, Nat.testBit_or, Bool.or_eq_true]
    refine hb.imp (fun q => ?_) (fun q => ?_)
    · rw [Nat.testBit_two_pow, q]; simp
    · rw [hk _ (hedge e he hbn)]; exact q

/-! ### What a cell says, for the blocks to which it leads -/

/-- X' knows of the blocks in S no more than X, and stands beside it. -/
structure LeOn (S : Nat → Prop) (X X' : Cx) : Prop where
  n : ∀ r, S r → r < X'.n
  T : ∀ b, X.T b → X'.T b
  blk : ∀ b, X.T b → X'.w.heap[b]? = X.w.heap[b]?
  get : ∀ r b, S r → X'.H.get r = some b → X.H.get r = some b ∧ X'.ι r = X.ι r
  size : ∀ (b : Nat) (cs : Array Value) (t : TypeId) (fz : Nat × Nat), X.w.heap[b]? = some (Obj.cells cs t fz) → ∃ (cs' : Array Value) (t' : TypeId) (fz' : Nat × Nat), X'.w.heap[b]? = some (Obj.cells cs' t' fz') ∧ cs'.size = cs.size

theorem SlV.on {S : Nat → Prop} {X X' : Cx} (h : LeOn S X X') {r sz off len : Nat} {u : Value} (hι : X'.ι r = X.ι r) (hs : SlV X r sz off len u) : SlV X' r sz off len u := by
  obtain ⟨A, cap, hu, hl, hc⟩ := hs
  refine ⟨A, cap, hu, hl, hc.imp id ?_⟩
  rintro ⟨b, o, cs, t, fz, h1, h2, h3, h4⟩
  obtain ⟨cs', t', fz', h5, h6⟩ := h.size b cs t fz h3
  exact ⟨b, o, cs', t', fz', hι.trans h1, h2, h5, by omega⟩

theorem CB.on {S : Nat → Prop} {X X' : Cx} (h : LeOn S X X') {c : Cell} {u : Value} (hS : ∀ r ∈ cRefs c, S r) (hc : CB X c u) : CB X' c u := by
  cases c with
  | int k n => exact hc
  | bool b => exact hc
  | str s => exact hc
  | sl e xs => exact TRel.mono h.T h.blk hc
  | emp e => exact hc
  | nilF => exact hc
  | nilI => exact hc
  | err => exact hc
  | junk => trivial
  | own r v =>
    have hr : S r := hS r (by simp [cRefs])
    refine ⟨h.n r hr, fun v' e xs' hg => ?_⟩
    obtain ⟨g1, g2⟩ := h.get r _ hr hg
    obtain ⟨c1, c2⟩ := hc.2 _ _ _ g1
    exact ⟨c1, fun hv => (c2 hv).on h g2⟩
  | sub r v off len =>
    have hr : S r := hS r (by simp [cRefs])
    refine ⟨h.n r hr, fun v' e xs' hg => ?_⟩
    obtain ⟨g1, g2⟩ := h.get r _ hr hg
    obtain ⟨c1, c2⟩ := hc.2 _ _ _ g1
    exact ⟨c1, fun hv => ⟨(c2 hv).1, (c2 hv).2.on h g2⟩⟩
  | elt r v i k =>
    have hr : S r := hS r (by simp [cRefs])
    refine ⟨h.n r hr, fun v' e xs' hg => ?_⟩
    obtain ⟨g1, g2⟩ := h.get r _ hr hg
    obtain ⟨c1, c2⟩ := hc.2 _ _ _ g1
    refine ⟨c1, fun hv => ?_⟩
    obtain ⟨c3, b, o, c4, c5⟩ := c2 hv
    exact ⟨c3, b, o, g2.trans c4, c5⟩
  | ptr r off =>
    have hr : S r := hS r (by simp [cRefs])
    refine ⟨h.n r hr, fun cs' hg => ?_⟩
    obtain ⟨g1, g2⟩ := h.get r _ hr hg
    obtain ⟨b, c1, c2⟩ := hc.2 _ g1
    exact ⟨b, g2.trans c1, c2⟩
  | ref τ x k =>
    obtain ⟨b, o, row, c1, c2, c3, c4⟩ := hc
    exact ⟨b, o, row, c1, h.T b c2, TRel.mono h.T h.blk c3, c4.mono (h.blk b c2)⟩
  | fn f caps =>
    obtain ⟨vals, c1, c2, c3⟩ := hc
    refine ⟨vals, c1, c2, fun j r off hj => ?_⟩
    have hr : S r := hS r (by
      simp only [cRefs, List.mem_map]
      exact ⟨(r, off), List.mem_of_getElem? hj, rfl⟩)
    refine ⟨h.n r hr, fun cs' hg => ?_⟩
    obtain ⟨g1, g2⟩ := h.get r _ hr hg
    obtain ⟨b, c6, c7⟩ := (c3 j r off hj).2 _ g1
    exact ⟨b, g2.trans c6, c7⟩

theorem AVRel.on {S : Nat → Prop} {X X' : Cx} (h : LeOn S X X') {v : AV} {u : Value} (hS : ∀ r ∈ (v.cs.map cRefs).flatten, S r) (hv : AVRel X v u) : AVRel X' v u := by
  have hc : ∀ c ∈ v.cs, ∀ r ∈ cRefs c, S r := fun c hc r hr => hS r (List.mem_flatten.2 ⟨cRefs c, List.mem_map.2 ⟨c, hc, rfl⟩, hr⟩)
  unfold AVRel at *
  split at hv
  · rename_i e
    rw [if_pos e]
    obtain ⟨vs, h1, h2, h3⟩ := hv
    refine ⟨vs, h1, h2, fun j c hj => ?_⟩
    obtain ⟨u', p1, p2, p3⟩ := h3 j c hj
    exact ⟨u', p1, p2, p3.on h (hc c (List.mem_of_getElem? hj))⟩
  · rename_i e
    rw [if_neg e]
    obtain ⟨c, h1, h2, h3⟩ := hv
    exact ⟨c, h1, h2, h3.on h (hc c (by rw [h1]; simp))⟩

theorem DRel.on {S : Nat → Prop} {X X' : Cx} (h : LeOn S X X') {d : D} {u : Value} (hS : ∀ r ∈ dRefs d, S r) (hd : DRel X d u) : DRel X' d u := by
  cases d with
  | one v => exact AVRel.on h hS hd
  | tup vs =>
    obtain ⟨us, h1, h2, h3⟩ := hd
    refine ⟨us, h1, h2, fun j v hj => ?_⟩
    obtain ⟨x, h4, h5⟩ := h3 j v hj
    refine ⟨x, h4, h5.on h fun r hr => hS r ?_⟩
    exact List.mem_flatten.2 ⟨_, List.mem_map.2 ⟨v, List.mem_of_getElem? hj, rfl⟩, hr⟩

/-! ### The drawn part, operation by operation -/

def wantedB (all : List Oper) (fr : List (Nat × D)) (o : Oper) : Option Bool := wantedK all fr o (some true) (some false)

theorem wantedK_split {α : Type} {all : List Oper} {fr : List (Nat × D)} {o : Oper} {kt kf : Option α} {r : α} (h : wantedK all fr o kt kf = some r) :
    (wantedB all fr o = some true ∧ kt = some r) ∨ (wantedB all fr o = some false ∧ kf = some r) := by
  unfold wantedB wantedK at *
  split at h
  · exact .inl ⟨rfl, h⟩
  · split at h
    · rename_i b _ _ x _
      cases b <;> cases x <;> simp at h ⊢ <;> exact h
    · exact .inr ⟨rfl, h⟩
    · cases h

def vis (p : Nat → Bool) : List (Nat × Nat × Blk) → Heap
  | [] => []
  | (i, r, x) :: t => bif p i then (r, x) :: vis p t else vis p t

theorem visible_vis (b : Nat) (l : List (Nat × Nat × Blk)) : visible b l = vis (Nat.testBit b) l := by
  induction l with
  | nil => rfl
  | cons x l ih => obtain ⟨i, r, x⟩ := x; simp only [visible, vis, ih]

theorem vis_congr {p q : Nat → Bool} {l : List (Nat × Nat × Blk)} (h : ∀ j r b, (j, r, b) ∈ l → p j = q j) : vis p l = vis q l := by
  induction l with
  | nil => rfl
  | cons x l ih =>
    obtain ⟨i, r, x⟩ := x
    simp only [vis, h i r x (by simp), ih fun j r b hm => h j r b (by simp [hm])]

theorem vis_append (p : Nat → Bool) (l l' : List (Nat × Nat × Blk)) : vis p (l ++ l') = vis p l ++ vis p l' := by
  induction l with
  | nil => rfl
  | cons x l ih =>
    obtain ⟨i, r, x⟩ := x
    simp only [vis, List.cons_append, ih]
    cases p i <;> rfl

theorem vis_all {p : Nat → Bool} {l : List (Nat × Nat × Blk)} (h : ∀ j r b, (j, r, b) ∈ l → p j = true) : vis p l = l.map (·.2) := by
  induction l with
  | nil => rfl
  | cons x l ih =>
    obtain ⟨i, r, x⟩ := x
    simp only [vis, h i r x (by simp), ih fun j r b hm => h j r b (by simp [hm]), cond_true, List.map_cons]

theorem vis_none {p : Nat → Bool} {l : List (Nat × Nat × Blk)} (h : ∀ j r b, (j, r, b) ∈ l → p j = false) : vis p l = [] := by
  induction l with
  | nil => rfl
  | cons x l ih =>
    obtain ⟨i, r, x⟩ := x
    simp only [vis, h i r x (by simp), ih fun j r b hm => h j r b (by simp [hm]), cond_false]

theorem mem_tag {i n : Nat} {bs : List Blk} {j r : Nat} {b : Blk} : (j, r, b) ∈ tagBlks i n bs ↔ j = i ∧ n ≤ r ∧ bs[r - n]? = some b := by
  induction bs generalizing n with
  | nil => simp [tagBlks]
  | cons x bs ih =>
    simp only [tagBlks, List.mem_cons, Prod.mk.injEq, ih]
    constructor
    · rintro (⟨rfl, rfl, rfl⟩ | ⟨rfl, h1, h2⟩)
      · simp
      · refine ⟨rfl, by omega, ?_⟩
        rw [show r - n = (r - (n + 1)) + 1 from by omega]
        simpa using h2
    · rintro ⟨rfl, h1, h2⟩
      by_cases e : r = n
      · subst e
        simp at h2
        exact .inl ⟨rfl, rfl, h2.symm⟩
      · refine .inr ⟨rfl, by omega, ?_⟩
        rw [show r - n = (r - (n + 1)) + 1 from by omega] at h2
        simpa using h2

def Uniq (l : List (Nat × Nat × Blk)) : Prop := ∀ j r b j' b', (j, r, b) ∈ l → (j', r, b') ∈ l → j = j' ∧ b = b'

theorem get_vis_of {p : Nat → Bool} {l : List (Nat × Nat × Blk)} {r : Nat} {b : Blk} (h : Heap.get (vis p l) r = some b) : ∃ j, p j = true ∧ (j, r, b) ∈ l := by
  induction l with
  | nil => cases h
  | cons x l ih =>
    obtain ⟨i, r', x⟩ := x
    simp only [vis] at h
    cases hp : p i with
    | false => rw [hp] at h; obtain ⟨j, h1, h2⟩ := ih h; exact ⟨j, h1, by simp [h2]⟩
    | true =>
      rw [hp] at h
      simp only [cond_true, Heap.get] at h
      by_cases e : r' = r
      · subst e
        rw [beq_true] at h
        cases h
        exact ⟨i, hp, by simp⟩
      · rw [beq_false e] at h
        obtain ⟨j, h1, h2⟩ := ih h
        exact ⟨j, h1, by simp [h2]⟩

theorem get_vis_mem {p : Nat → Bool} {l : List (Nat × Nat × Blk)} {j r : Nat} {b : Blk} (hp : p j = true) (hm : (j, r, b) ∈ l) : ∃ b', Heap.get (vis p l) r = some b' := by
  induction l with
  | nil => cases hm
  | cons x l ih =>
    obtain ⟨i, r', x⟩ := x
    simp only [vis]
    cases hq : p i with
    | false =>
      rcases List.mem_cons.1 hm with q | q
      · cases q; rw [hp] at hq; cases hq
      · exact ih q
    | true =>
      simp only [cond_true, Heap.get]
      by_cases e : r' = r
      · subst e; rw [beq_true]; exact ⟨_, rfl⟩
      · rw [beq_false e]
        rcases List.mem_cons.1 hm with q | q
        · cases q; exact absurd rfl e
        · exact ih q

theorem get_vis {p : Nat → Bool} {l : List (Nat × Nat × Blk)} (hu : Uniq l) {j r : Nat} {b : Blk} (hp : p j = true) (hm : (j, r, b) ∈ l) : Heap.get (vis p l) r = some b := by
  obtain ⟨b', hb⟩ := get_vis_mem hp hm
  obtain ⟨j', -, hm'⟩ := get_vis_of hb
  rw [hb, (hu j r b j' b' hm hm').2]

theorem get_app (A B : Heap) (r : Nat) : Heap.get (A ++ B) r = (Heap.get A r).or (Heap.get B r) := by
  induction A with
  | nil => rfl
  | cons x A ih =>
    obtain ⟨i, b⟩ := x
    simp only [List.cons_append, Heap.get]
    by_cases e : i = r
    · subst e; rw [beq_true]; rfl
    · rw [beq_false e]; exact ih

/-- What one operation of the drawn part does. -/
structure QStep (P : Program) (G : FuncId → Option CE) (l : List Oper) (anc : List Nat) (H0 : Heap) (n0 : Nat) (FR : Nat → List (Nat × D)) (NN : Nat → Nat) (NW : Nat → List (Nat × Nat × Blk)) (OUT : Nat → D × List Blk) (i : Nat) (o : Oper) : Prop where
  run : (wantedB l (FR i) o = some true ∧ qop P G (visible (anc.getD i 0) (NW i) ++ H0) (NN i) (liveFr (FR i) (opTmps o)) o (fun d bs => some (d, bs)) = some (OUT i)) ∨ (wantedB l (FR i) o = some false ∧ OUT i = (.tup [], []))
  arr : ∀ b ∈ (OUT i).2, isArr b = true
  refs : refsOk n0 (newBlks (NN i) (OUT i).2 ++ visible (anc.getD i 0) (NW i)) (OUT i).1 = true
  fr : FR (i + 1) = put (FR i) o.dst (OUT i).1
  nn : NN (i + 1) = NN i + (OUT i).2.length
  nw : NW (i + 1) = tagBlks i (NN i) (OUT i).2 ++ NW i

theorem QStep.congr {P : Program} {G : FuncId → Option CE} {l : List Oper} {anc : List Nat} {H0 : Heap} {n0 : Nat} {FR FR' : Nat → List (Nat × D)} {NN NN' : Nat → Nat} {NW NW' : Nat → List (Nat × Nat × Blk)} {OUT OUT' : Nat → D × List Blk} {i : Nat} {o : Oper}
    (h : QStep P G l anc H0 n0 FR NN NW OUT i o) (h1 : FR' i = FR i) (h2 : NN' i = NN i) (h3 : NW' i = NW i) (h4 : OUT' i = OUT i) (h5 : FR' (i + 1) = FR (i + 1)) (h6 : NN' (i + 1) = NN (i + 1)) (h7 : NW' (i + 1) = NW (i + 1)) : QStep P G l anc H0 n0 FR' NN' NW' OUT' i o :=
  ⟨by rw [h1, h2, h3, h4]; exact h.run, by rw [h4]; exact h.arr, by rw [h2, h3, h4]; exact h.refs, by rw [h5, h1, h4]; exact h.fr, by rw [h6, h2, h4]; exact h.nn, by rw [h7, h2, h3, h4]; exact h.nw⟩

theorem qrun_steps {α : Type} {P : Program} {G : FuncId → Option CE} {l : List Oper} {anc : List Nat} {H0 : Heap} {n0 : Nat} {k : List (Nat × D) → Nat → List (Nat × Nat × Blk) → Option α} {r : α} :
    ∀ (os : List Oper) (i : Nat) (fr : List (Nat × D)) (n : Nat) (news : List (Nat × Nat × Blk)), qrun P G l anc H0 n0 i os fr n news k = some r →
    ∃ (FR : Nat → List (Nat × D)) (NN : Nat → Nat) (NW : Nat → List (Nat × Nat × Blk)) (OUT : Nat → D × List Blk), FR i = fr ∧ NN i = n ∧ NW i = news ∧
      (∀ j o, os[j]? = some o → QStep P G l anc H0 n0 FR NN NW OUT (i + j) o) ∧ k (FR (i + os.length)) (NN (i + os.length)) (NW (i + os.length)) = some r := by
  intro os
  induction os with
  | nil => intro i fr n news h; exact ⟨fun _ => fr, fun _ => n, fun _ => news, fun _ => (.tup [], []), rfl, rfl, rfl, fun j o hj => by simp at hj, h⟩
  | cons o os ih =>
    intro i fr n news h
    -- the first operation's outcome, and the rest
    have key : ∃ d bs, ((wantedB l fr o = some true ∧ qop P G (visible (anc.getD i 0) news ++ H0) n (liveFr fr (opTmps o)) o (fun d bs => some (d, bs)) = some (d, bs)) ∨ (wantedB l fr o = some false ∧ (d, bs) = ((.tup [] : D), ([] : List Blk)))) ∧
        (∀ b ∈ bs, isArr b = true) ∧ refsOk n0 (newBlks n bs ++ visible (anc.getD i 0) news) d = true ∧ qrun P G l anc H0 n0 (i + 1) os (put fr o.dst d) (n + bs.length) (tagBlks i n bs ++ news) k = some r := by
      simp only [qrun, splitD_eq] at h
      rcases wantedK_split h with ⟨h1, h2⟩ | ⟨h1, h2⟩
      · rw [qop_nat] at h2
        obtain ⟨p, h3, h4⟩ := obind h2
        obtain ⟨h5, h6⟩ := bif_true h4
        simp only [Bool.and_eq_true, List.all_eq_true] at h5
        exact ⟨p.1, p.2, .inl ⟨h1, h3⟩, h5.1, h5.2, h6⟩
      · exact ⟨.tup [], [], .inr ⟨h1, rfl⟩, by simp, by simp [refsOk, dRefs], by simpa [tagBlks] using h2⟩
    obtain ⟨d, bs, k1, k2, k3, k4⟩ := key
    obtain ⟨FR, NN, NW, OUT, e1, e2, e3, e4, e5⟩ := ih _ _ _ _ k4
    refine ⟨fun j => if j = i then fr else FR j, fun j => if j = i then n else NN j, fun j => if j = i then news else NW j, fun j => if j = i then (d, bs) else OUT j, by simp, by simp, by simp, fun j o' hj => ?_, ?_⟩
    · cases j with
      | zero =>
        simp at hj; subst hj
        exact ⟨by simpa using k1, by simpa using k2, by simpa using k3, by simpa using e1, by simpa using e2, by simpa using e3⟩
      | succ j =>
        have := e4 j o' (by simpa using hj)
        rw [show i + 1 + j = i + (j + 1) from by omega] at this
        exact this.congr (by simp) (by simp) (by simp) (by simp) (by simp; omega) (by simp; omega) (by simp; omega)
    · rw [show i + 1 + os.length = i + (o :: os).length from by simp; omega] at e5
      simpa using e5

end Go.Proofs.Ytgmcefnlcalagaa.AM
