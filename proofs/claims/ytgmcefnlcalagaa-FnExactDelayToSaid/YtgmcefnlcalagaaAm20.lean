/- The abstract machine: what holds at every point of a drawn order. No condition. -/
import Derived.Test.YtgmcefnlcalagaaAm19
namespace Go.Proofs.Ytgmcefnlcalagaa.AM
open Go Go.RowKit
set_option linter.unusedSimpArgs false
set_option linter.unusedVariables false

/-- A region whose first m operations may come in any order, and what each of them comes to. -/
structure Drw (P : Program) (G : FuncId → Option CE) (l : List Oper) (m : Nat) (H0 : Heap) (n0 : Nat) (FR : Nat → List (Nat × D)) (NN : Nat → Nat) (NW : Nat → List (Nat × Nat × Blk)) (OUT : Nat → D × List Blk) : Prop where
  edge : ∀ i o, l[i]? = some o → ∀ e ∈ o.after, Region.binds .any e = true → e.on < i
  reads : ∀ i o t, i < m → l[i]? = some o → t ∈ opTmps o ++ guardTmps l o → ∀ j o', j < m → l[j]? = some o' → o'.dst = some t → Nat.testBit ((ancs l []).getD i 0) j = true
  writes : ∀ i o t, i < m → l[i]? = some o → o.dst = some t → ∀ j o', j < m → l[j]? = some o' → o'.dst = some t → i = j
  tail : ∀ i o, m ≤ i → l[i]? = some o → ∀ j, j < i → Nat.testBit ((ancs l []).getD i 0) j = true
  steps : ∀ j o, j < m → l[j]? = some o → QStep P G l (ancs l []) H0 n0 FR NN NW OUT j o
  le : m ≤ l.length
  nn : NN 0 = n0
  nw : NW 0 = []

section
variable {P : Program} {G : FuncId → Option CE} {l : List Oper} {m n0 : Nat} {H0 : Heap} {FR : Nat → List (Nat × D)} {NN : Nat → Nat} {NW : Nat → List (Nat × Nat × Blk)} {OUT : Nat → D × List Blk}

theorem Drw.at (h : Drw P G l m H0 n0 FR NN NW OUT) {i : Nat} (hi : i < m) : ∃ o, l[i]? = some o ∧ QStep P G l (ancs l []) H0 n0 FR NN NW OUT i o :=
  ⟨l[i]'(by have := h.le; omega), by simp, h.steps i _ hi (by simp)⟩

theorem Drw.mono (h : Drw P G l m H0 n0 FR NN NW OUT) {i j : Nat} (hij : i ≤ j) (hj : j ≤ m) : NN i ≤ NN j := by
  induction j with
  | zero => have : i = 0 := by omega
            subst this; exact Nat.le_refl _
  | succ j ih =>
    by_cases e : i = j + 1
    · subst e; exact Nat.le_refl _
    · obtain ⟨o, -, s⟩ := h.at (i := j) (by omega)
      have := ih (by omega) (by omega)
      rw [s.nn]; omega

theorem Drw.ge (h : Drw P G l m H0 n0 FR NN NW OUT) {i : Nat} (hi : i ≤ m) : n0 ≤ NN i := by
  have := h.mono (Nat.zero_le i) hi
  rwa [h.nn] at this

theorem Drw.mem (h : Drw P G l m H0 n0 FR NN NW OUT) {i : Nat} (hi : i ≤ m) {j r : Nat} {b : Blk} : (j, r, b) ∈ NW i ↔ j < i ∧ NN j ≤ r ∧ (OUT j).2[r - NN j]? = some b := by
  induction i with
  | zero => rw [h.nw]; simp
  | succ i ih =>
    obtain ⟨o, -, s⟩ := h.at (i := i) (by omega)
    rw [s.nw, List.mem_append, mem_tag, ih (by omega)]
    constructor
    · rintro (⟨rfl, h1, h2⟩ | ⟨h1, h2⟩)
      · exact ⟨by omega, h1, h2⟩
      · exact ⟨by omega, h2⟩
    · rintro ⟨h1, h2⟩
      by_cases e : j = i
      · subst e; exact .inl ⟨rfl, h2⟩
      · exact .inr ⟨by omega, h2⟩

theorem Drw.lt (h : Drw P G l m H0 n0 FR NN NW OUT) {j r : Nat} {b : Blk} (hj : j < m) (hb : (OUT j).2[r - NN j]? = some b) (hr : NN j ≤ r) : r < NN (j + 1) := by
  obtain ⟨o, -, s⟩ := h.at hj
  rw [s.nn]
  have := (List.getElem?_eq_some_iff.1 hb).1
  omega

/-- Every new block is one operation's. -/
theorem Drw.range (h : Drw P G l m H0 n0 FR NN NW OUT) {j r : Nat} {b : Blk} (hm : (j, r, b) ∈ NW m) : j < m ∧ n0 ≤ r ∧ NN j ≤ r ∧ r < NN (j + 1) ∧ (OUT j).2[r - NN j]? = some b := by
  obtain ⟨h1, h2, h3⟩ := (h.mem (Nat.le_refl m)).1 hm
  have := h.ge (i := j) (by omega)
  exact ⟨h1, by omega, h2, h.lt h1 h3 h2, h3⟩

theorem Drw.same (h : Drw P G l m H0 n0 FR NN NW OUT) {i j r : Nat} (hi : i < m) (hj : j < m) (h1 : NN i ≤ r) (h2 : r < NN (i + 1)) (h3 : NN j ≤ r) (h4 : r < NN (j + 1)) : i = j := by
  rcases Nat.lt_trichotomy i j with q | q | q
  · have := h.mono (i := i + 1) (j := j) (by omega) (by omega); omega
  · exact q
  · have := h.mono (i := j + 1) (j := i) (by omega) (by omega); omega

theorem Drw.uniq (h : Drw P G l m H0 n0 FR NN NW OUT) : Uniq (NW m) := by
  intro j r b j' b' h1 h2
  obtain ⟨a1, -, a2, a3, a4⟩ := h.range h1
  obtain ⟨b1, -, b2, b3, b4⟩ := h.range h2
  have := h.same a1 b1 a2 a3 b2 b3
  subst this
  rw [a4] at b4
  exact ⟨rfl, Option.some.inj b4⟩

theorem Drw.isArr (h : Drw P G l m H0 n0 FR NN NW OUT) {j r : Nat} {b : Blk} (hm : (j, r, b) ∈ NW m) : AM.isArr b = true := by
  obtain ⟨a1, -, -, -, a4⟩ := h.range hm
  obtain ⟨o, -, s⟩ := h.at a1
  exact s.arr b (List.mem_of_getElem? a4)

/-- Edges lead back. -/
theorem Drw.anc_lt (h : Drw P G l m H0 n0 FR NN NW OUT) : ∀ (i : Nat) (o : Oper), l[i]? = some o → ∀ j, Nat.testBit ((ancs l []).getD i 0) j = true → j < i := by
  intro i
  induction i using Nat.strongRecOn with
  | ind i ih =>
    intro o ho j hb
    obtain ⟨e, he, hbn, q⟩ := (ancs_bit ho (h.edge i o ho)).1 hb
    have h1 := h.edge i o ho e he hbn
    rcases q with rfl | q
    · exact h1
    · have hlt : e.on < l.length := by have := (List.getElem?_eq_some_iff.1 ho).1; omega
      have := ih e.on h1 l[e.on] (by simp) j q
      omega

theorem Drw.anc_trans (h : Drw P G l m H0 n0 FR NN NW OUT) : ∀ (i : Nat) (o : Oper), l[i]? = some o → ∀ j k, Nat.testBit ((ancs l []).getD i 0) j = true → Nat.testBit ((ancs l []).getD j 0) k = true → Nat.testBit ((ancs l []).getD i 0) k = true := by
  intro i
  induction i using Nat.strongRecOn with
  | ind i ih =>
    intro o ho j k hb hk
    obtain ⟨e, he, hbn, q⟩ := (ancs_bit ho (h.edge i o ho)).1 hb
    have h1 := h.edge i o ho e he hbn
    refine (ancs_bit ho (h.edge i o ho)).2 ⟨e, he, hbn, .inr ?_⟩
    rcases q with rfl | q
    · exact hk
    · have hlt : e.on < l.length := by have := (List.getElem?_eq_some_iff.1 ho).1; omega
      exact ih e.on h1 l[e.on] (by simp) j k q hk

/-- What is listed with all that its edges lead to holds all that comes before by edges. -/
theorem Drw.anc_listed (h : Drw P G l m H0 n0 FR NN NW OUT) {p : Nat → Bool} (hp : ∀ j o, p j = true → l[j]? = some o → ∀ e ∈ o.after, Region.binds .any e = true → p e.on = true) :
    ∀ (i : Nat) (o : Oper), l[i]? = some o → (∀ e ∈ o.after, Region.binds .any e = true → p e.on = true) → ∀ j, Nat.testBit ((ancs l []).getD i 0) j = true → p j = true := by
  intro i
  induction i using Nat.strongRecOn with
  | ind i ih =>
    intro o ho hi j hb
    obtain ⟨e, he, hbn, q⟩ := (ancs_bit ho (h.edge i o ho)).1 hb
    have h1 := h.edge i o ho e he hbn
    rcases q with rfl | q
    · exact hi e he hbn
    · have hlt : e.on < l.length := by have := (List.getElem?_eq_some_iff.1 ho).1; omega
      exact ih e.on h1 l[e.on] (by simp) (hp e.on _ (hi e he hbn) (by simp)) j q

/-- What an operation sees of new memory. -/
theorem Drw.seen (h : Drw P G l m H0 n0 FR NN NW OUT) {i : Nat} (hi : i < m) : visible ((ancs l []).getD i 0) (NW i) = vis (Nat.testBit ((ancs l []).getD i 0)) (NW m) := by
  rw [visible_vis]
  have key : ∀ k, i ≤ k → k ≤ m → vis (Nat.testBit ((ancs l []).getD i 0)) (NW k) = vis (Nat.testBit ((ancs l []).getD i 0)) (NW i) := by
    intro k
    induction k with
    | zero => intro h1 h2; have : i = 0 := by omega
              subst this; rfl
    | succ k ih =>
      intro h1 h2
      by_cases e : i = k + 1
      · subst e; rfl
      · obtain ⟨o, -, s⟩ := h.at (i := k) (by omega)
        obtain ⟨oi, hoi, -⟩ := h.at hi
        rw [s.nw, vis_append, ih (by omega) (by omega), vis_none, List.nil_append]
        intro j r b hm
        obtain ⟨rfl, -⟩ := mem_tag.1 hm
        cases hb : Nat.testBit ((ancs l []).getD i 0) j with
        | false => rfl
        | true => have := h.anc_lt i oi hoi j hb; omega
  exact (key m (by omega) (Nat.le_refl _)).symm

/-- What a slot holds at operation i: what its writer came to, or what it held at the start. -/
theorem Drw.look (h : Drw P G l m H0 n0 FR NN NW OUT) {i : Nat} (hi : i ≤ m) {t : Nat} {d : D} (hl : look (FR i) t = some d) :
    (∃ j o, j < i ∧ l[j]? = some o ∧ o.dst = some t ∧ d = (OUT j).1) ∨ (AM.look (FR 0) t = some d ∧ ∀ j o, j < i → l[j]? = some o → o.dst ≠ some t) := by
  induction i with
  | zero => exact .inr ⟨hl, fun j o hj => by omega⟩
  | succ i ih =>
    obtain ⟨o, ho, s⟩ := h.at (i := i) (by omega)
    rw [s.fr, look_put] at hl
    by_cases e : o.dst = some t
    · rw [if_pos e] at hl
      cases hl
      exact .inl ⟨i, o, by omega, ho, e, rfl⟩
    · rw [if_neg e] at hl
      rcases ih (by omega) hl with ⟨j, o', h1, h2⟩ | ⟨h1, h2⟩
      · exact .inl ⟨j, o', by omega, h2⟩
      · refine .inr ⟨h1, fun j o' hj hl' => ?_⟩
        by_cases e2 : j = i
        · subst e2
          rw [ho] at hl'; cases hl'
          exact e
        · exact h2 j o' (by omega) hl'

/-- To what an operation's result leads: to old blocks, to its own new ones, and to those of what comes before by edges. -/
theorem Drw.refs (h : Drw P G l m H0 n0 FR NN NW OUT) {j : Nat} (hj : j < m) : ∀ r ∈ dRefs (OUT j).1, r < n0 ∨ ∃ k b, (k = j ∨ Nat.testBit ((ancs l []).getD j 0) k = true) ∧ (k, r, b) ∈ NW m := by
  obtain ⟨o, ho, s⟩ := h.at hj
  intro r hr
  have h1 := List.all_eq_true.1 s.refs r hr
  rw [Bool.or_eq_true] at h1
  rcases h1 with h1 | h1
  · exact .inl (Nat.le_of_ble_eq_true h1)
  · right
    rw [h.seen hj] at h1
    cases hg : Heap.get (newBlks (NN j) (OUT j).2 ++ vis (Nat.testBit ((ancs l []).getD j 0)) (NW m)) r with
    | none => rw [hg] at h1; simp [isNone?] at h1
    | some b =>
      rw [Heap.get_new] at hg
      split at hg
      · exact ⟨j, b, .inl rfl, (h.mem (Nat.le_refl m)).2 ⟨hj, by omega, hg⟩⟩
      · obtain ⟨k, h2, h3⟩ := get_vis_of hg
        exact ⟨k, b, .inr h2, h3⟩

end

/-- What holds when the operations in p have run, in whatever order. -/
structure InvA (l : List Oper) (m : Nat) (NN : Nat → Nat) (NW : Nat → List (Nat × Nat × Blk)) (OUT : Nat → D × List Blk) (Z : Nat → Prop) (X0 : Cx) (N : Nat) (a0 : Act) (p : Nat → Bool) (a : Act) (w : World) (ι : Nat → Option (Nat × Nat)) (T : Nat → Prop) : Prop where
  step : Step Z X0 ⟨ι, T, w, vis p (NW m) ++ X0.H, NN m⟩
  below : Below X0.w.heap.size X0.w w
  old : ∀ t, (∀ j o, j < m → p j = true → l[j]? = some o → o.dst ≠ some t) → a.tmps[t]? = a0.tmps[t]?
  outs : ∀ j o t, j < m → p j = true → l[j]? = some o → o.dst = some t → ∃ u, a.tmps[t]? = some u ∧ DRel ⟨ι, T, w, vis p (NW m) ++ X0.H, NN m⟩ (OUT j).1 u
  size : a.tmps.size = N
  defers : a.defers = []
  closed : ∀ j o, p j = true → l[j]? = some o → ∀ e ∈ o.after, Region.binds .any e = true → p e.on = true
  head : ∀ j, p j = true → j < m

section
variable {P : Program} {G : FuncId → Option CE} {l : List Oper} {m : Nat} {FR : Nat → List (Nat × D)} {NN : Nat → Nat} {NW : Nat → List (Nat × Nat × Blk)} {OUT : Nat → D × List Blk}
variable {Z : Nat → Prop} {X0 : Cx} {N : Nat} {a0 a : Act} {p : Nat → Bool} {w : World} {ι : Nat → Option (Nat × Nat)} {T : Nat → Prop}

theorem getV {q : Nat → Bool} {r : Nat} {b : Blk} (hH : HBl X0) (h : Heap.get (vis q (NW m) ++ X0.H) r = some b) : (∃ j, q j = true ∧ (j, r, b) ∈ NW m) ∨ (X0.H.get r = some b ∧ r < X0.n) := by
  rw [get_app] at h
  cases hg : Heap.get (vis q (NW m)) r with
  | none => rw [hg] at h; exact .inr ⟨h, (hH r b h).1⟩
  | some b' =>
    rw [hg] at h
    cases h
    exact .inl (get_vis_of hg)

theorem Drw.getNew (h : Drw P G l m X0.H X0.n FR NN NW OUT) {q : Nat → Bool} {j r : Nat} {b : Blk} (hq : q j = true) (hm : (j, r, b) ∈ NW m) : Heap.get (vis q (NW m) ++ X0.H) r = some b := by
  rw [get_app, get_vis h.uniq hq hm]; rfl

theorem Drw.getOld (h : Drw P G l m X0.H X0.n FR NN NW OUT) {q : Nat → Bool} {r : Nat} (hr : r < X0.n) : Heap.get (vis q (NW m) ++ X0.H) r = X0.H.get r := by
  rw [get_app]
  cases hg : Heap.get (vis q (NW m)) r with
  | none => rfl
  | some b =>
    obtain ⟨j, -, hm⟩ := get_vis_of hg
    have := (h.range hm).2.1
    omega

theorem arr_BRel {X X' : Cx} {r : Nat} {b : Blk} (ha : isArr b = true) (hι : X'.ι r = X.ι r) (hT : ∀ b, X.T b → X'.T b) (hb : ∀ b, X.T b → X'.w.heap[b]? = X.w.heap[b]?) (hw : ∀ k o, X.ι r = some (k, o) → X'.w.heap[k]? = X.w.heap[k]?) (h : BRel X r b) : BRel X' r b := by
  cases b with
  | box cs => cases ha
  | arr v e xs =>
    rcases h with ⟨h1, h2⟩ | ⟨b, o, cs, t, h1, h2, h3, h4⟩
    · exact .inl ⟨hι.trans h1, h2⟩
    · refine .inr ⟨b, o, cs, t, hι.trans h1, (hw b o h1).trans h2, h3, fun i x hx => ?_⟩
      obtain ⟨row, h5, h6⟩ := h4 i x hx
      exact ⟨row, TRel.mono hT hb h5, h6⟩

/-- From the start to any point: what an old block's cells say stands. -/
theorem Drw.leX (h : Drw P G l m X0.H X0.n FR NN NW OUT) (h0 : HR Z X0) {q : Nat → Bool} {n : Nat} (hn : X0.n ≤ n) (hb : Below X0.w.heap.size X0.w w) (hT : ∀ b, X0.T b → T b) (hι : ∀ r b, X0.H.get r = some b → ι r = X0.ι r) :
    Le X0 ⟨ι, T, w, vis q (NW m) ++ X0.H, n⟩ where
  n := hn
  T := hT
  blk := fun b hb' => hb.block b (h0.T b hb')
  box := by
    intro r cs' hr hg
    have hg' : X0.H.get r = some (.box cs') := by rw [← h.getOld hr]; exact hg
    exact ⟨cs', hg', hι r _ hg'⟩
  arr := by
    intro r v' e xs' hr hg
    have hg' : X0.H.get r = some (.arr v' e xs') := by rw [← h.getOld hr]; exact hg
    exact ⟨v', xs', hg', Nat.le_refl _, fun _ => ⟨rfl, hι r _ hg'⟩⟩
  size := by
    intro b cs t fz hb'
    exact ⟨cs, t, fz, (hb.block b (lt_of_cells hb')).trans hb', rfl⟩

theorem InvA.ιold (h : Drw P G l m X0.H X0.n FR NN NW OUT) (h0 : HR Z X0) (hi : InvA l m NN NW OUT Z X0 N a0 p a w ι T) {r : Nat} {b : Blk} (hg : X0.H.get r = some b) : ι r = X0.ι r := by
  have hr := (h0.blk r b hg).1
  have hg' : Heap.get (vis p (NW m) ++ X0.H) r = some b := by rw [h.getOld hr]; exact hg
  cases b with
  | box cs => obtain ⟨_, _, q⟩ := hi.step.le.box r cs hr hg'; exact q
  | arr v e xs =>
    obtain ⟨v0, xs0, q0, -, q⟩ := hi.step.le.arr r v e xs hr hg'
    rw [hg] at q0; cases q0
    exact (q rfl).2

/-- What one sees of it. -/
theorem InvA.sub (h : Drw P G l m X0.H X0.n FR NN NW OUT) (h0 : HR Z X0) (hi : InvA l m NN NW OUT Z X0 N a0 p a w ι T) {q : Nat → Bool} (hq : ∀ j, q j = true → p j = true) {n : Nat} (hn : X0.n ≤ n) (hr : ∀ j r b, (j, r, b) ∈ NW m → q j = true → r < n) :
    Step Z X0 ⟨ι, T, w, vis q (NW m) ++ X0.H, n⟩ := by
  have hle : Le X0 ⟨ι, T, w, vis q (NW m) ++ X0.H, n⟩ := h.leX h0 hn hi.below hi.step.le.T (fun r b hg => hi.ιold h h0 hg)
  have up : ∀ r b, Heap.get (vis q (NW m) ++ X0.H) r = some b → Heap.get (vis p (NW m) ++ X0.H) r = some b := fun r b hg => by
    rcases getV h0.blk hg with ⟨j, h1, h2⟩ | ⟨h1, h2⟩
    · exact h.getNew (hq j h1) h2
    · rw [h.getOld h2]; exact h1
  refine ⟨hle, ⟨fun r b hg => ?_, fun r r' b b' k o o' g g' i i' => ?_, fun r b k o g i => ?_, hi.step.hr.T⟩, hi.step.keep, hi.step.T⟩
  · have hB := (hi.step.hr.blk r b (up r b hg)).2
    rcases getV h0.blk hg with ⟨j, h1, h2⟩ | ⟨h1, h2⟩
    · exact ⟨hr j r b h2 h1, arr_BRel (X := ⟨ι, T, w, vis p (NW m) ++ X0.H, NN m⟩) (h.isArr h2) rfl (fun _ x => x) (fun _ _ => rfl) (fun _ _ _ => rfl) hB⟩
    · refine ⟨Nat.lt_of_lt_of_le h2 hn, (h0.blk r b h1).2.mono hle (hi.ιold h h0 h1) fun k o hk => ?_⟩
      exact hi.below.block k (own_lt (h0.blk r b h1).2 hk)
  · exact hi.step.hr.inj r r' b b' k o o' (up r b g) (up r' b' g') i i'
  · exact hi.step.hr.apart r b k o (up r b g) i

/-- What the operation reads. -/
theorem InvA.frame (h : Drw P G l m X0.H X0.n FR NN NW OUT) (h0 : HR Z X0) (hi : InvA l m NN NW OUT Z X0 N a0 p a w ι T) (hf : FRel X0 (FR 0) a0.tmps) {q : Nat → Bool} (hq : ∀ j, q j = true → p j = true) {n i : Nat} (him : i ≤ m) (hn : NN i ≤ n) (hr : ∀ j r b, (j, r, b) ∈ NW m → q j = true → r < n)
    {t : Nat} {d : D} (hl : look (FR i) t = some d) (hw : ∀ j o, j < m → l[j]? = some o → o.dst = some t → p j = true ∧ j < i) : ∃ u, a.tmps[t]? = some u ∧ DRel ⟨ι, T, w, vis q (NW m) ++ X0.H, n⟩ d u := by
  have hle := (hi.sub h h0 hq (Nat.le_trans (h.ge him) hn) hr).le
  rcases h.look him hl with ⟨j, o, h1, h2, h3, rfl⟩ | ⟨h1, h2⟩
  · obtain ⟨u, e1, e2⟩ := hi.outs j o t (by omega) (hw j o (by omega) h2 h3).1 h2 h3
    refine ⟨u, e1, DRel.on (X := ⟨ι, T, w, vis p (NW m) ++ X0.H, NN m⟩) (X' := ⟨ι, T, w, vis q (NW m) ++ X0.H, n⟩) (S := fun r => r < n) ⟨fun r hr' => hr', fun b hb => hb, fun b _ => rfl, fun r b _ hg => ⟨?_, rfl⟩, fun b cs t fz hb => ⟨cs, t, fz, hb, rfl⟩⟩ (fun r hr' => ?_) e2⟩
    · rcases getV h0.blk hg with ⟨k, g1, g2⟩ | ⟨g1, g2⟩
      · exact h.getNew (hq k g1) g2
      · show Heap.get (vis p (NW m) ++ X0.H) r = _
        rw [h.getOld g2]; exact g1
    · rcases h.refs (j := j) (by omega) r hr' with g | ⟨k, b, g1, g2⟩
      · exact Nat.lt_of_lt_of_le g (Nat.le_trans (h.ge him) hn)
      · obtain ⟨c1, -, c2, c3, -⟩ := h.range g2
        have hk : k ≤ j := by
          rcases g1 with rfl | g1
          · exact Nat.le_refl _
          · exact Nat.le_of_lt (h.anc_lt j o h2 k g1)
        have := h.mono (i := k + 1) (j := i) (by omega) him
        show r < n
        omega
  · obtain ⟨u, e1, e2⟩ := hf t d h1
    refine ⟨u, ?_, e2.mono hle⟩
    rw [hi.old t fun j o hj _ hl' hd => h2 j o (hw j o hj hl' hd).2 hl' hd]
    exact e1

end
end Go.Proofs.Ytgmcefnlcalagaa.AM
