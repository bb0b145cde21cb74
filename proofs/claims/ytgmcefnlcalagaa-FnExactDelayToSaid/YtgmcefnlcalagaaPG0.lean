/- Plain laws of graphs on numbers: the walk that finds all nodes, classes of joined nodes, trees. No program in sight. No condition. -/
import Derived.Test.YtgmcefnlcalagaaPV0
namespace Go.Proofs.Ytgmcefnlcalagaa.W
open Go Go.RowKit Go.Proofs.Ytgmcefnlcalagaa.AM
set_option linter.unusedSimpArgs false
set_option linter.unusedVariables false

/-! ### Counting -/

theorem filter_pull {β : Type} [DecidableEq β] (p : β → Bool) (b : β) : ∀ (l : List β), l.Nodup → b ∈ l → p b = true → (l.filter p).length = (l.filter fun x => p x && !(decide (x = b))).length + 1 := by
  intro l
  induction l with
  | nil => intro _ h; cases h
  | cons x l ih =>
    intro hn hb hp
    have hn' := List.nodup_cons.1 hn
    by_cases hx : x = b
    · subst hx
      have hrest : (l.filter fun y => p y && !(decide (y = x))) = l.filter p := by
        apply List.filter_congr
        intro y hy
        have : y ≠ x := fun e => hn'.1 (e ▸ hy)
        simp [this]
      simp [List.filter_cons, hp, hrest]
    · have hb' : b ∈ l := by
        rcases List.mem_cons.1 hb with e | e
        · exact absurd e.symm hx
        · exact e
      have := ih hn'.2 hb' hp
      simp only [List.filter_cons]
      cases hpx : p x with
      | false => simpa [hpx] using this
      | true => simpa [hpx, hx] using this

def inR (N : Nat) (a : Int) : Prop := 0 ≤ a ∧ a < (N : Int)

theorem nodup_len : ∀ (N : Nat) (l : List Int), l.Nodup → (∀ a ∈ l, inR N a) → l.length ≤ N := by
  intro N
  induction N with
  | zero =>
    intro l _ h
    cases l with
    | nil => simp
    | cons a l => have := h a (List.mem_cons_self ..); unfold inR at this; omega
  | succ N ih =>
    intro l hn h
    by_cases hm : (N : Int) ∈ l
    · have h1 := filter_pull (fun _ => true) (N : Int) l hn hm rfl
      have h2 : (l.filter fun _ => true) = l := List.filter_eq_self.2 (fun _ _ => rfl)
      rw [h2] at h1
      have h3 := ih (l.filter fun x => true && !(decide (x = (N : Int)))) (hn.filter _) (fun a ha => by
        obtain ⟨q1, q2⟩ := List.mem_filter.1 ha
        have := h a q1
        have q3 : a ≠ (N : Int) := by simpa using q2
        unfold inR at *
        omega)
      omega
    · have := ih l hn (fun a ha => by
        have := h a ha
        have q3 : a ≠ (N : Int) := fun e => hm (e ▸ ha)
        unfold inR at *
        omega)
      omega

/-- N different numbers below N are all of them. -/
theorem nodup_all {N : Nat} {l : List Int} (hn : l.Nodup) (h : ∀ a ∈ l, inR N a) (hl : l.length = N) : ∀ a, inR N a → a ∈ l := by
  intro a ha
  rcases Decidable.em (a ∈ l) with hm | hm
  · exact hm
  · have := nodup_len N (a :: l) (List.nodup_cons.2 ⟨hm, hn⟩) (fun b hb => by
      rcases List.mem_cons.1 hb with e | e
      · rw [e]; exact ha
      · exact h b e)
    simp at this; omega

/-! ### The walk from a node -/

def GoodE (N : Nat) (E : List (Int × Int)) : Prop := ∀ e ∈ E, inR N e.1 ∧ inR N e.2 ∧ e.1 ≠ e.2

def otherE (e : Int × Int) (a : Int) : Option Int := if a = e.1 then some e.2 else if a = e.2 then some e.1 else none

abbrev Way := Int × Int × Int
abbrev BS := List Int × List Way

def bStep (closed : List Int) (a : Int) (i : Nat) (e : Int × Int) (s : BS) : BS :=
  match otherE e a with
  | some b => if closed.contains (i : Int) = true ∨ s.1.contains b = true then s else (s.1 ++ [b], s.2 ++ [(b, a, (i : Int))])
  | none => s

def bIn (closed : List Int) (a : Int) : Nat → List (Int × Int) → BS → BS
  | _, [], s => s
  | i, e :: l, s => bIn closed a (i + 1) l (bStep closed a i e s)

def bOut (E : List (Int × Int)) (closed : List Int) : Nat → Nat → BS → BS
  | 0, _, s => s
  | f + 1, k, s => match s.1[k]? with
    | some a => bOut E closed f (k + 1) (bIn closed a 0 E s)
    | none => s

/-- All that is found from a node on, and how. -/
def bfs (E : List (Int × Int)) (closed : List Int) (N : Nat) (src : Int) : BS := bOut E closed N 0 ([src], [])

/-- A way's pipe joins its nodes; its node before is known before; its node is new. -/
def WOk (E : List (Int × Int)) (closed : List Int) (src : Int) (ws : List Way) : Prop :=
  ∀ pre w post, pre ++ w :: post = ws → w.2.1 ∈ src :: pre.map (·.1) ∧ w.1 ∉ src :: pre.map (·.1) ∧ ∃ (i : Nat) (e : Int × Int), w.2.2 = (i : Int) ∧ E[i]? = some e ∧ otherE e w.2.1 = some w.1 ∧ closed.contains (i : Int) = false

structure BInv (E : List (Int × Int)) (closed : List Int) (N : Nat) (src : Int) (s : BS) : Prop where
  nodup : s.1.Nodup
  rng : ∀ a ∈ s.1, inR N a
  shape : s.1 = src :: s.2.map (·.1)
  ways : WOk E closed src s.2

theorem BInv.len {E : List (Int × Int)} {closed : List Int} {N : Nat} {src : Int} {s : BS} (h : BInv E closed N src s) : s.1.length ≤ N := nodup_len N s.1 h.nodup h.rng

theorem BInv.wlen {E : List (Int × Int)} {closed : List Int} {N : Nat} {src : Int} {s : BS} (h : BInv E closed N src s) : s.2.length + 1 = s.1.length := by rw [h.shape]; simp

theorem otherE_rng {N : Nat} {e : Int × Int} (h : inR N e.1 ∧ inR N e.2 ∧ e.1 ≠ e.2) {a b : Int} (ho : otherE e a = some b) : inR N b := by
  unfold otherE at ho
  split at ho
  · cases ho; exact h.2.1
  · split at ho
    · cases ho; exact h.1
    · cases ho

theorem bStep_inv {E : List (Int × Int)} {closed : List Int} {N : Nat} {src : Int} (hE : GoodE N E) {s : BS} (h : BInv E closed N src s) {a : Int} (ha : a ∈ s.1) {i : Nat} {e : Int × Int} (he : E[i]? = some e) :
    BInv E closed N src (bStep closed a i e s) ∧ ∃ t, (bStep closed a i e s).1 = s.1 ++ t := by
  unfold bStep
  cases ho : otherE e a with
  | none => exact ⟨h, [], by simp⟩
  | some b =>
    simp only
    split
    · exact ⟨h, [], by simp⟩
    · rename_i hc
      obtain ⟨hc1, hc2⟩ := not_or.1 hc
      have hc1 : closed.contains (i : Int) = false := by simpa using hc1
      have hb : b ∉ s.1 := fun hm => hc2 (List.contains_iff_mem.2 hm)
      have hm : e ∈ E := List.mem_of_getElem? he
      refine ⟨⟨?_, ?_, ?_, ?_⟩, [b], rfl⟩
      · rw [List.nodup_append]
        exact ⟨h.nodup, by simp, fun x hx y hy => by simp at hy; subst hy; exact fun q => hb (q ▸ hx)⟩
      · intro x hx
        rcases List.mem_append.1 hx with q | q
        · exact h.rng x q
        · simp at q; subst q; exact otherE_rng (hE e hm) ho
      · simp only [List.map_append, List.map_cons, List.map_nil]
        rw [h.shape]; simp
      · intro pre w post hw
        rcases List.eq_nil_or_concat post with rfl | ⟨post', z, rfl⟩
        · have := List.append_inj' hw rfl
          obtain ⟨h1, h2⟩ := this
          simp at h2
          subst h1; subst h2
          refine ⟨?_, ?_, i, e, rfl, he, ho, hc1⟩
          · rw [← h.shape]; exact ha
          · rw [← h.shape]; exact hb
        · rw [List.concat_eq_append] at hw
          have : (pre ++ w :: post') ++ [z] = s.2 ++ [(b, a, (i : Int))] := Eq.trans (by simp) hw
          have := List.append_inj' this rfl
          exact h.ways pre w post' this.1

theorem bIn_inv {E : List (Int × Int)} {closed : List Int} {N : Nat} {src : Int} (hE : GoodE N E) {a : Int} : ∀ (l : List (Int × Int)) (i : Nat) (s : BS), E.drop i = l → BInv E closed N src s → a ∈ s.1 →
    BInv E closed N src (bIn closed a i l s) ∧ ∃ t, (bIn closed a i l s).1 = s.1 ++ t := by
  intro l
  induction l with
  | nil => intro i s _ h _; exact ⟨h, [], by simp [bIn]⟩
  | cons e l ih =>
    intro i s hd h ha
    have he : E[i]? = some e := by
      have := congrArg (·[0]?) hd
      simpa using this
    have hd' : E.drop (i + 1) = l := by
      rw [← List.drop_drop, hd]; rfl
    obtain ⟨h1, t1, h2⟩ := bStep_inv hE h ha he
    obtain ⟨h3, t2, h4⟩ := ih (i + 1) (bStep closed a i e s) hd' h1 (by rw [h2]; exact List.mem_append_left _ ha)
    exact ⟨h3, t1 ++ t2, by simp only [bIn]; rw [h4, h2, List.append_assoc]⟩

/-- Behind the round of a node all that it leads to is known. -/
theorem bIn_closed {E : List (Int × Int)} {closed : List Int} {N : Nat} {src : Int} (hE : GoodE N E) {a : Int} : ∀ (l : List (Int × Int)) (i : Nat) (s : BS), E.drop i = l → BInv E closed N src s → a ∈ s.1 →
    ∀ (j : Nat) (e : Int × Int) (b : Int), l[j]? = some e → closed.contains ((i + j : Nat) : Int) = false → otherE e a = some b → b ∈ (bIn closed a i l s).1 := by
  intro l
  induction l with
  | nil => intro i s _ _ _ j e b hj; simp at hj
  | cons e0 l ih =>
    intro i s hd h ha j e b hj hc ho
    have he : E[i]? = some e0 := by
      have := congrArg (·[0]?) hd
      simpa using this
    have hd' : E.drop (i + 1) = l := by
      rw [← List.drop_drop, hd]; rfl
    obtain ⟨h1, t1, h2⟩ := bStep_inv hE h ha he
    have ha' : a ∈ (bStep closed a i e0 s).1 := by rw [h2]; exact List.mem_append_left _ ha
    cases j with
    | succ j =>
      simp only [bIn]
      exact ih (i + 1) _ hd' h1 ha' j e b (by simpa using hj) (by rw [show i + 1 + j = i + (j + 1) by omega]; exact hc) ho
    | zero =>
      simp at hj; subst hj
      obtain ⟨-, t, h4⟩ := bIn_inv hE l (i + 1) (bStep closed a i e0 s) hd' h1 ha'
      simp only [bIn]
      rw [h4]
      apply List.mem_append_left
      unfold bStep
      rw [ho]
      simp only
      split
      · rename_i q
        rcases q with q | q
        · rw [show i + 0 = i by omega] at hc
          rw [hc] at q; cases q
        · exact List.contains_iff_mem.1 q
      · simp

theorem bOut_inv {E : List (Int × Int)} {closed : List Int} {N : Nat} {src : Int} (hE : GoodE N E) : ∀ (f k : Nat) (s : BS), BInv E closed N src s →
    BInv E closed N src (bOut E closed f k s) ∧ ∃ t, (bOut E closed f k s).1 = s.1 ++ t := by
  intro f
  induction f with
  | zero => intro k s h; exact ⟨h, [], by simp [bOut]⟩
  | succ f ih =>
    intro k s h
    simp only [bOut]
    cases ha : s.1[k]? with
    | none => exact ⟨h, [], by simp⟩
    | some a =>
      obtain ⟨h1, t1, h2⟩ := bIn_inv hE E 0 s rfl h (List.mem_of_getElem? ha)
      obtain ⟨h3, t2, h4⟩ := ih (k + 1) _ h1
      exact ⟨h3, t1 ++ t2, by rw [h4, h2, List.append_assoc]⟩

/-- What has been found is closed under the pipes that are not closed. -/
theorem bOut_closed {E : List (Int × Int)} {closed : List Int} {N : Nat} {src : Int} (hE : GoodE N E) : ∀ (f k : Nat) (s : BS), BInv E closed N src s → N ≤ f + k →
    (∀ (k' : Nat) (a : Int), k' < k → s.1[k']? = some a → ∀ (j : Nat) (e : Int × Int) (b : Int), E[j]? = some e → closed.contains (j : Int) = false → otherE e a = some b → b ∈ s.1) →
    ∀ (a : Int), a ∈ (bOut E closed f k s).1 → ∀ (j : Nat) (e : Int × Int) (b : Int), E[j]? = some e → closed.contains (j : Int) = false → otherE e a = some b → b ∈ (bOut E closed f k s).1 := by
  intro f
  induction f with
  | zero =>
    intro k s h hk hq a ha
    simp only [bOut] at ha ⊢
    obtain ⟨k', h1, h2⟩ := List.getElem_of_mem ha
    have := h.len
    exact hq k' a (by omega) (by rw [List.getElem?_eq_getElem h1, h2])
  | succ f ih =>
    intro k s h hk hq a ha
    simp only [bOut] at ha ⊢
    cases hg : s.1[k]? with
    | none =>
      rw [hg] at ha
      simp only at ha ⊢
      obtain ⟨k', h1, h2⟩ := List.getElem_of_mem ha
      have : s.1.length ≤ k := List.getElem?_eq_none_iff.1 hg
      exact hq k' a (by omega) (by rw [List.getElem?_eq_getElem h1, h2])
    | some c =>
      rw [hg] at ha
      simp only at ha ⊢
      have hc := List.mem_of_getElem? hg
      obtain ⟨h1, t1, h2⟩ := bIn_inv hE E 0 s rfl h hc
      refine ih (k + 1) _ h1 (by omega) ?_ a ha
      intro k' a' hk' ha' j e b hj hcl ho
      have hlt : k < s.1.length := lt_of_get hg
      rcases Nat.lt_or_ge k' k with q | q
      · rw [h2, List.getElem?_append_left (by omega)] at ha'
        rw [h2]
        exact List.mem_append_left _ (hq k' a' q ha' j e b hj hcl ho)
      · have : k' = k := by omega
        subst this
        rw [h2, List.getElem?_append_left hlt, hg] at ha'
        cases ha'
        exact bIn_closed hE E 0 s rfl h hc j e b hj (by simpa using hcl) ho

theorem bfs_start {E : List (Int × Int)} {closed : List Int} {N : Nat} {src : Int} (hs : inR N src) : BInv E closed N src ([src], []) :=
  ⟨by simp, fun a ha => by simp at ha; subst ha; exact hs, rfl, fun pre w post h => by simp at h⟩

theorem bfs_inv {E : List (Int × Int)} {closed : List Int} {N : Nat} {src : Int} (hE : GoodE N E) (hs : inR N src) : BInv E closed N src (bfs E closed N src) := (bOut_inv hE N 0 _ (bfs_start hs)).1

theorem bfs_closed {E : List (Int × Int)} {closed : List Int} {N : Nat} {src : Int} (hE : GoodE N E) (hs : inR N src) : ∀ (a : Int), a ∈ (bfs E closed N src).1 → ∀ (j : Nat) (e : Int × Int) (b : Int), E[j]? = some e → closed.contains (j : Int) = false → otherE e a = some b → b ∈ (bfs E closed N src).1 :=
  bOut_closed hE N 0 _ (bfs_start hs) (by omega) (fun k' a hk => by omega)

theorem bfs_src {E : List (Int × Int)} {closed : List Int} {N : Nat} {src : Int} (hE : GoodE N E) (hs : inR N src) : src ∈ (bfs E closed N src).1 := by
  rw [(bfs_inv hE hs).shape]; exact List.mem_cons_self ..

/-! ### Classes of joined nodes -/

/-- One pipe joins two classes, or none: the classes, and how many pipes have joined some. -/
def joinStep (e : Int × Int) (s : List Int × Nat) : List Int × Nat :=
  let a := s.1.getD e.1.toNat 0
  let b := s.1.getD e.2.toNat 0
  if a = b then s else (s.1.map fun v => if v = b then a else v, s.2 + 1)

def joins (E : List (Int × Int)) (s : List Int × Nat) : List Int × Nat := E.foldl (fun s e => joinStep e s) s

def part0 (N : Nat) : List Int := (List.range N).map fun (j : Nat) => (j : Int)

/-- How many values a list of classes has. -/
def cntV (N : Nat) (part : List Int) : Nat := ((List.range N).filter fun (j : Nat) => part.contains (j : Int)).length

structure JInv (N : Nat) (s : List Int × Nat) : Prop where
  len : s.1.length = N
  rng : ∀ a ∈ s.1, inR N a
  cnt : cntV N s.1 + s.2 = N

theorem part0_inv (N : Nat) : JInv N (part0 N, 0) := by
  refine ⟨by simp [part0], ?_, ?_⟩
  · intro a ha
    simp only [part0, List.mem_map, List.mem_range] at ha
    obtain ⟨j, h1, rfl⟩ := ha
    exact ⟨by omega, by omega⟩
  · simp only [cntV, Nat.add_zero]
    rw [List.filter_eq_self.2 ?_]
    · simp
    · intro j hj
      rw [List.contains_iff_mem]
      exact List.mem_map.2 ⟨j, hj, rfl⟩

theorem getD_mem {l : List Int} {i : Nat} (h : i < l.length) : l.getD i 0 ∈ l := by
  rw [List.getD_eq_getElem?_getD, List.getElem?_eq_getElem h]; exact List.getElem_mem h

theorem inR_toNat {N : Nat} {a : Int} (h : inR N a) : a.toNat < N ∧ (a.toNat : Int) = a := by unfold inR at h; omega

theorem joinStep_inv {N : Nat} {e : Int × Int} (he : inR N e.1 ∧ inR N e.2 ∧ e.1 ≠ e.2) {s : List Int × Nat} (h : JInv N s) : JInv N (joinStep e s) := by
  unfold joinStep
  simp only
  split
  · exact h
  · rename_i hne
    have h1 := inR_toNat he.1
    have h2 := inR_toNat he.2.1
    have ha := getD_mem (l := s.1) (i := e.1.toNat) (by rw [h.len]; exact h1.1)
    have hb := getD_mem (l := s.1) (i := e.2.toNat) (by rw [h.len]; exact h2.1)
    generalize s.1.getD e.1.toNat 0 = a at *
    generalize s.1.getD e.2.toNat 0 = b at *
    have hbr := inR_toNat (h.rng b hb)
    refine ⟨by simp [h.len], ?_, ?_⟩
    · intro x hx
      obtain ⟨v, hv, rfl⟩ := List.mem_map.1 hx
      split
      · exact h.rng a ha
      · exact h.rng v hv
    · have key := filter_pull (fun (j : Nat) => s.1.contains (j : Int)) b.toNat (List.range N) List.nodup_range (List.mem_range.2 hbr.1) (by rw [hbr.2]; exact List.contains_iff_mem.2 hb)
      have e1 : ((List.range N).filter fun (j : Nat) => (s.1.map fun v => if v = b then a else v).contains (j : Int)) = (List.range N).filter fun (j : Nat) => s.1.contains (j : Int) && !(decide (j = b.toNat)) := by
        apply List.filter_congr
        intro j hj
        rw [Bool.eq_iff_iff]
        simp only [List.contains_iff_mem, List.mem_map, Bool.and_eq_true, Bool.not_eq_true', decide_eq_false_iff_not]
        constructor
        · rintro ⟨v, hv, hvj⟩
          split at hvj
          · subst hvj
            exact ⟨ha, fun q => hne (by omega)⟩
          · rename_i hvb
            subst hvj
            exact ⟨hv, fun q => hvb (by omega)⟩
        · rintro ⟨h3, h4⟩
          exact ⟨_, h3, if_neg (by omega)⟩
      have := h.cnt
      unfold cntV at this ⊢
      rw [e1]
      simp only
      omega

theorem joins_inv {N : Nat} : ∀ (E : List (Int × Int)) (s : List Int × Nat), GoodE N E → JInv N s → JInv N (joins E s) := by
  intro E
  induction E with
  | nil => intro s _ h; exact h
  | cons e E ih =>
    intro s hE h
    exact ih (joinStep e s) (fun x hx => hE x (List.mem_cons_of_mem _ hx)) (joinStep_inv (hE e (List.mem_cons_self ..)) h)

def cl (part : List Int) (u : Int) : Int := part.getD u.toNat 0

theorem joinStep_eq {N : Nat} {e : Int × Int} {s : List Int × Nat} (h : JInv N s) {u v : Int} (hu : inR N u) (hv : inR N v) (huv : cl s.1 u = cl s.1 v) : cl (joinStep e s).1 u = cl (joinStep e s).1 v := by
  unfold joinStep
  simp only
  split
  · exact huv
  · have h1 := inR_toNat hu
    have h2 := inR_toNat hv
    unfold cl at *
    simp only [List.getD_eq_getElem?_getD, List.getElem?_map, List.getElem?_eq_getElem (show u.toNat < s.1.length by rw [h.len]; exact h1.1), List.getElem?_eq_getElem (show v.toNat < s.1.length by rw [h.len]; exact h2.1), Option.map_some, Option.getD_some] at huv ⊢
    rw [huv]

theorem joinStep_self {N : Nat} {e : Int × Int} (he : inR N e.1 ∧ inR N e.2 ∧ e.1 ≠ e.2) {s : List Int × Nat} (h : JInv N s) : cl (joinStep e s).1 e.1 = cl (joinStep e s).1 e.2 := by
  unfold joinStep
  simp only
  split
  · rename_i q; exact q
  · have h1 := inR_toNat he.1
    have h2 := inR_toNat he.2.1
    rename_i hne
    unfold cl at *
    simp only [List.getD_eq_getElem?_getD, List.getElem?_map, List.getElem?_eq_getElem (show e.1.toNat < s.1.length by rw [h.len]; exact h1.1), List.getElem?_eq_getElem (show e.2.toNat < s.1.length by rw [h.len]; exact h2.1), Option.map_some, Option.getD_some] at hne ⊢
    simp

/-- Nodes of one class are in a set together, if each pipe's ends are. -/
theorem joins_set {N : Nat} (R : Int → Prop) : ∀ (E : List (Int × Int)) (s : List Int × Nat), GoodE N E → JInv N s → (∀ e ∈ E, R e.1 ↔ R e.2) → (∀ u v, inR N u → inR N v → cl s.1 u = cl s.1 v → (R u ↔ R v)) →
    ∀ u v, inR N u → inR N v → cl (joins E s).1 u = cl (joins E s).1 v → (R u ↔ R v) := by
  intro E
  induction E with
  | nil => intro s _ _ _ h; exact h
  | cons e E ih =>
    intro s hE h hR hs
    have he := hE e (List.mem_cons_self ..)
    refine ih (joinStep e s) (fun x hx => hE x (List.mem_cons_of_mem _ hx)) (joinStep_inv he h) (fun x hx => hR x (List.mem_cons_of_mem _ hx)) ?_
    intro u v hu hv huv
    have hre := hR e (List.mem_cons_self ..)
    have h1 := inR_toNat hu
    have h2 := inR_toNat hv
    unfold joinStep at huv
    simp only at huv
    split at huv
    · exact hs u v hu hv huv
    · have key : ∀ w, inR N w → cl (s.1.map fun x => if x = s.1.getD e.2.toNat 0 then s.1.getD e.1.toNat 0 else x) w = if cl s.1 w = cl s.1 e.2 then cl s.1 e.1 else cl s.1 w := fun w hw => by
        have h3 := inR_toNat hw
        unfold cl
        simp only [List.getD_eq_getElem?_getD, List.getElem?_map, List.getElem?_eq_getElem (show w.toNat < s.1.length by rw [h.len]; exact h3.1), Option.map_some, Option.getD_some]
      rw [key u hu, key v hv] at huv
      by_cases q1 : cl s.1 u = cl s.1 e.2
      · have r1 := hs u e.2 hu he.2.1 q1
        by_cases q2 : cl s.1 v = cl s.1 e.2
        · exact r1.trans (hs v e.2 hv he.2.1 q2).symm
        · rw [if_pos q1, if_neg q2] at huv
          exact (r1.trans hre.symm).trans (hs v e.1 hv he.1 huv.symm).symm
      · by_cases q2 : cl s.1 v = cl s.1 e.2
        · rw [if_neg q1, if_pos q2] at huv
          exact (hs u e.1 hu he.1 huv).trans (hre.trans (hs v e.2 hv he.2.1 q2).symm)
        · rw [if_neg q1, if_neg q2] at huv
          exact hs u v hu hv huv

theorem joins_keep {N : Nat} : ∀ (E : List (Int × Int)) (s : List Int × Nat), GoodE N E → JInv N s → ∀ u v, inR N u → inR N v → cl s.1 u = cl s.1 v → cl (joins E s).1 u = cl (joins E s).1 v := by
  intro E
  induction E with
  | nil => intro s _ _ u v _ _ h; exact h
  | cons e E ih =>
    intro s hE h u v hu hv huv
    exact ih (joinStep e s) (fun x hx => hE x (List.mem_cons_of_mem _ hx)) (joinStep_inv (hE e (List.mem_cons_self ..)) h) u v hu hv (joinStep_eq h hu hv huv)

theorem joins_edges {N : Nat} : ∀ (E : List (Int × Int)) (s : List Int × Nat), GoodE N E → JInv N s → ∀ e ∈ E, cl (joins E s).1 e.1 = cl (joins E s).1 e.2 := by
  intro E
  induction E with
  | nil => intro s _ _ e he; cases he
  | cons e0 E ih =>
    intro s hE h e he
    have h0 := hE e0 (List.mem_cons_self ..)
    have hE' : GoodE N E := fun x hx => hE x (List.mem_cons_of_mem _ hx)
    rcases List.mem_cons.1 he with rfl | he
    · exact joins_keep E (joinStep e s) hE' (joinStep_inv h0 h) _ _ h0.1 h0.2.1 (joinStep_self h0 h)
    · exact ih (joinStep e0 s) hE' (joinStep_inv h0 h) e he

theorem cl_mem {N : Nat} {s : List Int × Nat} (h : JInv N s) {u : Int} (hu : inR N u) : cl s.1 u ∈ s.1 := getD_mem (by rw [h.len]; exact (inR_toNat hu).1)

/-- One class alone: all nodes are of it. -/
theorem cnt_one {N : Nat} {s : List Int × Nat} (h : JInv N s) (h1 : cntV N s.1 = 1) {u v : Int} (hu : inR N u) (hv : inR N v) : cl s.1 u = cl s.1 v := by
  have m1 := cl_mem h hu
  have m2 := cl_mem h hv
  have r1 := inR_toNat (h.rng _ m1)
  have r2 := inR_toNat (h.rng _ m2)
  unfold cntV at h1
  have a1 : (cl s.1 u).toNat ∈ (List.range N).filter fun (j : Nat) => s.1.contains (j : Int) := List.mem_filter.2 ⟨List.mem_range.2 r1.1, by rw [r1.2]; exact List.contains_iff_mem.2 m1⟩
  have a2 : (cl s.1 v).toNat ∈ (List.range N).filter fun (j : Nat) => s.1.contains (j : Int) := List.mem_filter.2 ⟨List.mem_range.2 r2.1, by rw [r2.2]; exact List.contains_iff_mem.2 m2⟩
  match hq : (List.range N).filter fun (j : Nat) => s.1.contains (j : Int), h1, a1, a2 with
  | [x], _, a1, a2 =>
    simp only [List.mem_singleton] at a1 a2
    omega

theorem one_cnt {N : Nat} (hN : 1 ≤ N) {s : List Int × Nat} (h : JInv N s) (hall : ∀ u, inR N u → cl s.1 u = cl s.1 0) : cntV N s.1 = 1 := by
  have h0 : inR N 0 := ⟨by omega, by omega⟩
  have m0 := cl_mem h h0
  have r0 := inR_toNat (h.rng _ m0)
  have key := filter_pull (fun (j : Nat) => s.1.contains (j : Int)) (cl s.1 0).toNat (List.range N) List.nodup_range (List.mem_range.2 r0.1) (by rw [r0.2]; exact List.contains_iff_mem.2 m0)
  have e1 : ((List.range N).filter fun (j : Nat) => s.1.contains (j : Int) && !(decide (j = (cl s.1 0).toNat))) = [] := by
    rw [List.filter_eq_nil_iff]
    intro j hj
    simp only [Bool.and_eq_true, Bool.not_eq_true', decide_eq_false_iff_not, not_and, Decidable.not_not]
    intro hm
    obtain ⟨k, hk, hk2⟩ := List.getElem_of_mem (List.contains_iff_mem.1 hm)
    rw [h.len] at hk
    have := hall (k : Int) ⟨by omega, by omega⟩
    unfold cl at this
    rw [Int.toNat_natCast, List.getD_eq_getElem?_getD, List.getElem?_eq_getElem (by rw [h.len]; exact hk), Option.getD_some, hk2] at this
    have e0 : cl s.1 0 = (j : Int) := this.symm
    rw [e0]; simp
  unfold cntV
  rw [key, e1]; rfl

/-- So many pipes as join classes: it is a tree just if the walk from node 0 finds all nodes. -/
theorem tree_iff {N : Nat} {E : List (Int × Int)} (hN : 1 ≤ N) (hE : GoodE N E) (hl : E.length + 1 = N) : ((joins E (part0 N, 0)).2 = E.length) ↔ ((bfs E [] N 0).1.length = N) := by
  have hJ := joins_inv E _ hE (part0_inv N)
  have h0 : inR N 0 := ⟨by omega, by omega⟩
  have hB := bfs_inv (closed := []) hE h0
  have hcl := bfs_closed (closed := []) hE h0
  have hcnt := hJ.cnt
  have p0 : ∀ u v, inR N u → inR N v → cl (part0 N, 0).1 u = cl (part0 N, 0).1 v → u = v := fun u v hu hv h => by
    have h1 := inR_toNat hu
    have h2 := inR_toNat hv
    have q : ∀ w, inR N w → cl (part0 N) w = w := fun w hw => by
      have h3 := inR_toNat hw
      unfold cl part0
      simp [List.getD_eq_getElem?_getD, List.getElem?_range h3.1, h3.2]
    simp only at h
    rw [q u hu, q v hv] at h
    exact h
  constructor
  · intro h
    have h1 : cntV N (joins E (part0 N, 0)).1 = 1 := by omega
    have hset := joins_set (fun u => u ∈ (bfs E [] N 0).1) E (part0 N, 0) hE (part0_inv N) (fun e he => by
      obtain ⟨j, hj, hj2⟩ := List.getElem_of_mem he
      have hg : E[j]? = some e := by rw [List.getElem?_eq_getElem hj, hj2]
      have hne := (hE e he).2.2
      constructor
      · intro q; exact hcl e.1 q j e e.2 hg rfl (by unfold otherE; rw [if_pos rfl])
      · intro q; exact hcl e.2 q j e e.1 hg rfl (by unfold otherE; rw [if_neg (fun x => hne x.symm), if_pos rfl])) (fun u v hu hv huv => by rw [p0 u v hu hv huv])
    have hall : ∀ u, inR N u → u ∈ (bfs E [] N 0).1 := fun u hu => (hset u 0 hu h0 (cnt_one hJ h1 hu h0)).2 (bfs_src hE h0)
    have hge : N ≤ (bfs E [] N 0).1.length := by
      have hsub : ∀ a ∈ part0 N, a ∈ (bfs E [] N 0).1 := fun a ha => hall a ((part0_inv N).rng a ha)
      have : ∀ (l m : List Int), l.Nodup → (∀ a ∈ l, a ∈ m) → l.length ≤ m.length := by
        intro l
        induction l with
        | nil => intro m _ _; simp
        | cons x l ih =>
          intro m hn hs
          have hn' := List.nodup_cons.1 hn
          have hx := hs x (List.mem_cons_self ..)
          have := ih (m.erase x) hn'.2 (fun a ha => (List.mem_erase_of_ne (fun e => hn'.1 (by rw [← e]; exact ha))).2 (hs a (List.mem_cons_of_mem _ ha)))
          rw [List.length_erase_of_mem hx] at this
          have hpos : 0 < m.length := List.length_pos_of_mem hx
          simp; omega
      have hnd : (part0 N).Nodup := by
        unfold part0
        rw [List.nodup_iff_pairwise_ne, List.pairwise_map]
        exact List.Pairwise.imp (fun h q => h (by omega)) List.nodup_range
      have := this (part0 N) _ hnd hsub
      simpa [part0] using this
    have := hB.len
    omega
  · intro h
    have hmem := nodup_all hB.nodup hB.rng h
    -- all that is found is of the class of node 0
    have hw : ∀ (n : Nat) (ws post : List Way), ws.length = n → ws ++ post = (bfs E [] N 0).2 → ∀ a ∈ 0 :: ws.map (·.1), cl (joins E (part0 N, 0)).1 a = cl (joins E (part0 N, 0)).1 0 := by
      intro n
      induction n with
      | zero =>
        intro ws post hl0 _ a ha
        have : ws = [] := List.length_eq_zero_iff.1 hl0
        subst this
        simp at ha; rw [ha]
      | succ n ih =>
        intro ws post hl1 hpp a ha
        rcases List.eq_nil_or_concat ws with rfl | ⟨ws', w, rfl⟩
        · cases hl1
        rw [List.concat_eq_append] at *
        have ihw := ih ws' (w :: post) (by simpa using hl1) (by rw [← hpp]; simp)
        simp only [List.map_append, List.map_cons, List.map_nil] at ha
        have ha' : a ∈ (0 :: ws'.map (·.1)) ∨ a = w.1 := by
          rcases List.mem_cons.1 ha with q | q
          · exact .inl (by rw [q]; exact List.mem_cons_self ..)
          · rcases List.mem_append.1 q with q | q
            · exact .inl (List.mem_cons_of_mem _ q)
            · exact .inr (by simpa using q)
        rcases ha' with q | rfl
        · exact ihw a q
        · obtain ⟨h1, -, i, e, -, h3, h4, -⟩ := hB.ways ws' w post (by rw [← hpp]; simp)
          have hb := ihw w.2.1 h1
          have he := joins_edges E (part0 N, 0) hE (part0_inv N) e (List.mem_of_getElem? h3)
          unfold otherE at h4
          split at h4
          · rename_i q; rw [← Option.some.inj h4, ← he, ← q]; exact hb
          · split at h4
            · rename_i q; rw [← Option.some.inj h4, he, ← q]; exact hb
            · cases h4
    have hone := one_cnt hN hJ (fun u hu => hw _ (bfs E [] N 0).2 [] rfl (by simp) u (by rw [← hB.shape]; exact hmem u hu))
    omega

end Go.Proofs.Ytgmcefnlcalagaa.W
