/- The abstract machine: operations that write. No condition. -/
import Derived.Test.YtgmcefnlcalagaaAm10
import Derived.Laws.CopyRow
namespace Go.Proofs.Ytgmcefnlcalagaa.AM
open Go Go.RowKit
set_option linter.unusedSimpArgs false
set_option linter.unusedVariables false

/-- What holds of the abstract heap as a whole: own blocks lie apart, none of them in T or Z. -/
structure HR (Z : Nat → Prop) (X : Cx) : Prop where
  blk : HBl X
  inj : ∀ (r r' : Nat) (b b' : Blk) (k o o' : Nat), X.H.get r = some b → X.H.get r' = some b' → X.ι r = some (k, o) → X.ι r' = some (k, o') → r = r'
  apart : ∀ (r : Nat) (b : Blk) (k o : Nat), X.H.get r = some b → X.ι r = some (k, o) → ¬ X.T k ∧ ¬ Z k
  T : ∀ b, X.T b → b < X.w.heap.size

/-- Since w0 nothing of Z has turned. -/
structure Keep (Z : Nat → Prop) (w w' : World) : Prop where
  os : w'.os = w.os
  tape : w'.tape = w.tape
  output : w'.output = w.output
  size : w.heap.size ≤ w'.heap.size
  block : ∀ b, Z b → w'.heap[b]? = w.heap[b]?

theorem Keep.refl (Z : Nat → Prop) (w : World) : Keep Z w w := ⟨rfl, rfl, rfl, Nat.le_refl _, fun _ _ => rfl⟩
theorem Keep.trans {Z : Nat → Prop} {a b c : World} (h : Keep Z a b) (k : Keep Z b c) : Keep Z a c :=
  ⟨k.os.trans h.os, k.tape.trans h.tape, k.output.trans h.output, Nat.le_trans h.size k.size, fun i hi => (k.block i hi).trans (h.block i hi)⟩
theorem Keep.of_below {Z : Nat → Prop} {w w' : World} (h : Below w.heap.size w w') (hZ : ∀ b, Z b → b < w.heap.size) : Keep Z w w' :=
  ⟨h.os, h.tape, h.output, h.size, fun b hb => h.block b (hZ b hb)⟩

theorem Le.refl (X : Cx) : Le X X where
  n := Nat.le_refl _
  T := fun _ h => h
  blk := fun _ _ => rfl
  box := fun r cs' _ h => ⟨cs', h, rfl⟩
  arr := fun r v' e xs' _ h => ⟨v', xs', h, Nat.le_refl _, fun _ => ⟨rfl, rfl⟩⟩
  size := fun b cs t fz h => ⟨cs, t, fz, h, rfl⟩

theorem Le.trans {X Y W : Cx} (h : Le X Y) (k : Le Y W) : Le X W where
  n := Nat.le_trans h.n k.n
  T := fun b hb => k.T b (h.T b hb)
  blk := fun b hb => (k.blk b (h.T b hb)).trans (h.blk b hb)
  box := by
    intro r cs' hr hg
    obtain ⟨cs1, g1, i1⟩ := k.box r cs' (Nat.lt_of_lt_of_le hr h.n) hg
    obtain ⟨cs2, g2, i2⟩ := h.box r cs1 hr g1
    exact ⟨cs2, g2, i1.trans i2⟩
  arr := by
    intro r v' e xs' hr hg
    obtain ⟨v1, xs1, g1, l1, e1⟩ := k.arr r v' e xs' (Nat.lt_of_lt_of_le hr h.n) hg
    obtain ⟨v2, xs2, g2, l2, e2⟩ := h.arr r v1 e xs1 hr g1
    refine ⟨v2, xs2, g2, Nat.le_trans l2 l1, fun ev => ?_⟩
    obtain ⟨a1, a2⟩ := e1 (by omega)
    obtain ⟨b1, b2⟩ := e2 (by omega)
    exact ⟨a1.trans b1, a2.trans b2⟩
  size := by
    intro b cs t fz hb
    obtain ⟨c1, t1, f1, h1, s1⟩ := h.size b cs t fz hb
    obtain ⟨c2, t2, f2, h2, s2⟩ := k.size b c1 t1 f1 h1
    exact ⟨c2, t2, f2, h2, by omega⟩

/-- One step of the machine: from X to X'. -/
structure Step (Z : Nat → Prop) (X X' : Cx) : Prop where
  le : Le X X'
  hr : HR Z X'
  keep : Keep Z X.w X'.w
  T : ∀ b, X'.T b → X.T b ∨ ¬ Z b

theorem Step.refl {Z : Nat → Prop} {X : Cx} (h : HR Z X) : Step Z X X := ⟨Le.refl X, h, Keep.refl _ _, fun _ h => .inl h⟩
theorem Step.trans {Z : Nat → Prop} {X Y W : Cx} (h : Step Z X Y) (k : Step Z Y W) : Step Z X W :=
  ⟨h.le.trans k.le, k.hr, h.keep.trans k.keep, fun b hb => (k.T b hb).elim (h.T b) .inr⟩

theorem own_lt {X : Cx} {r : Nat} {b : Blk} {k o : Nat} (hb : BRel X r b) (hi : X.ι r = some (k, o)) : k < X.w.heap.size := by
  cases b with
  | arr v e xs =>
    rcases hb with ⟨h1, -⟩ | ⟨k', o', cs, t, h1, h2, -⟩
    · rw [h1] at hi; cases hi
    · rw [h1] at hi; cases hi; exact lt_of_cells h2
  | box cs =>
    obtain ⟨k', vs, t, h1, h2, -⟩ := hb
    rw [h1] at hi; cases hi; exact lt_of_cells h2

/-- New memory. -/
theorem Step.gr {Z : Nat → Prop} {X X' : Cx} {bs : List Blk} (h : HR Z X) (g : GR X bs X') (hZ : ∀ b, Z b → b < X.w.heap.size) : Step Z X X' := by
  have hle := g.le h.T
  have hget : ∀ r, X'.H.get r = if X.n ≤ r ∧ r < X.n + bs.length then bs[r - X.n]? else X.H.get r := fun r => by rw [g.H, Heap.get_new]
  have hold : ∀ r b, ¬ (X.n ≤ r ∧ r < X.n + bs.length) → X'.H.get r = some b → X.H.get r = some b ∧ r < X.n := fun r b hn hg => by
    rw [hget, if_neg hn] at hg
    exact ⟨hg, (h.blk r b hg).1⟩
  refine ⟨hle, ⟨?_, ?_, ?_, ?_⟩, Keep.of_below g.below hZ, fun b hb => ?_⟩
  · intro r b hg
    by_cases hn : X.n ≤ r ∧ r < X.n + bs.length
    · rw [hget, if_pos hn] at hg
      have := g.new (r - X.n) b hg
      rw [show X.n + (r - X.n) = r from by omega] at this
      exact ⟨by rw [g.n]; omega, this⟩
    · obtain ⟨h1, h2⟩ := hold r b hn hg
      have hB := (h.blk r b h1).2
      exact ⟨by rw [g.n]; omega, hB.mono hle (g.ι r h2) (fun k o hk => g.below.block k (own_lt hB hk))⟩
  · intro r r' b b' k o o' hg hg' hi hi'
    by_cases hn : X.n ≤ r ∧ r < X.n + bs.length <;> by_cases hn' : X.n ≤ r' ∧ r' < X.n + bs.length
    · have := g.inj (r - X.n) (r' - X.n) k o o' (by omega) (by omega) (by rw [show X.n + (r - X.n) = r from by omega]; exact hi) (by rw [show X.n + (r' - X.n) = r' from by omega]; exact hi')
      omega
    · rw [hget, if_pos hn] at hg
      obtain ⟨h1, h2⟩ := hold r' b' hn' hg'
      have f := (g.fresh (r - X.n) b k o hg (by rw [show X.n + (r - X.n) = r from by omega]; exact hi)).1
      rw [g.ι r' h2] at hi'
      have := own_lt (h.blk r' b' h1).2 hi'
      omega
    · rw [hget, if_pos hn'] at hg'
      obtain ⟨h1, h2⟩ := hold r b hn hg
      have f := (g.fresh (r' - X.n) b' k o' hg' (by rw [show X.n + (r' - X.n) = r' from by omega]; exact hi')).1
      rw [g.ι r h2] at hi
      have := own_lt (h.blk r b h1).2 hi
      omega
    · obtain ⟨h1, h2⟩ := hold r b hn hg
      obtain ⟨h3, h4⟩ := hold r' b' hn' hg'
      rw [g.ι r h2] at hi
      rw [g.ι r' h4] at hi'
      exact h.inj r r' b b' k o o' h1 h3 hi hi'
  · intro r b k o hg hi
    by_cases hn : X.n ≤ r ∧ r < X.n + bs.length
    · rw [hget, if_pos hn] at hg
      obtain ⟨f1, f2⟩ := g.fresh (r - X.n) b k o hg (by rw [show X.n + (r - X.n) = r from by omega]; exact hi)
      exact ⟨f2, fun hz => by have := hZ k hz; omega⟩
    · obtain ⟨h1, h2⟩ := hold r b hn hg
      rw [g.ι r h2] at hi
      obtain ⟨a1, a2⟩ := h.apart r b k o h1 hi
      have hlt := own_lt (h.blk r b h1).2 hi
      exact ⟨fun ht => (g.T' k ht).elim a1 (fun q => by omega), a2⟩
  · intro b hb
    rcases g.T' b hb with q | q
    · exact Nat.lt_of_lt_of_le (h.T b q) g.below.size
    · exact q.2
  · rcases g.T' b hb with q | q
    · exact .inl q
    · exact .inr fun hz => by have := hZ b hz; omega

theorem Heap.get_set (H : Heap) (r r' : Nat) (b : Blk) : (H.set r b).get r' = if r = r' then (H.get r).map (fun _ => b) else H.get r' := by
  induction H with
  | nil => simp [Heap.set, Heap.get]
  | cons x H ih =>
    obtain ⟨i, c⟩ := x
    simp only [Heap.set]
    by_cases h1 : i = r
    · subst h1
      simp only [beq_true, cond_true, Heap.get]
      by_cases h2 : i = r'
      · subst h2; simp [beq_true, Heap.get]
      · rw [if_neg h2]; simp [beq_false h2, Heap.get]
    · rw [beq_false h1]
      simp only [cond_false, Heap.get]
      by_cases h2 : i = r'
      · subst h2
        rw [if_neg (fun e => h1 e.symm)]
        simp [beq_true]
      · rw [beq_false h2]
        simp only [cond_false]
        rw [ih, beq_false h1]
        simp only [cond_false]

theorem Heap.get_drop (H : Heap) (r r' : Nat) : (H.drop r).get r' = if r = r' then none else H.get r' := by
  induction H with
  | nil => simp [Heap.drop, Heap.get]
  | cons x H ih =>
    obtain ⟨i, c⟩ := x
    simp only [Heap.drop]
    by_cases h1 : i = r
    · subst h1
      simp only [beq_true, cond_true]
      rw [ih]
      by_cases h2 : i = r'
      · rw [if_pos h2, if_pos h2]
      · rw [if_neg h2, if_neg h2]; simp [Heap.get, beq_false h2]
    · rw [beq_false h1]
      simp only [cond_false, Heap.get]
      by_cases h2 : i = r'
      · subst h2
        rw [if_neg (fun e => h1 e.symm)]
        simp [beq_true]
      · rw [beq_false h2]
        simp only [cond_false]
        exact ih

theorem setRow_other (w : World) (g : Nat) (cs : Array Value) (k : Nat) (h : k ≠ g) : (w.setRow g cs).heap[k]? = w.heap[k]? := by
  simp only [World.setRow, Array.getElem?_modify]
  rw [if_neg (fun e => h e.symm)]

theorem setRow_size (w : World) (g : Nat) (cs : Array Value) : (w.setRow g cs).heap.size = w.heap.size := by
  simp [World.setRow]

/-- The context in which own block r's cells have been written. -/
def Cx.write (X : Cx) (b : Nat) (cs' : Array Value) (r : Nat) (blk : Blk) : Cx := ⟨X.ι, X.T, X.w.setRow b cs', X.H.set r blk, X.n⟩

def sameKind : Blk → Blk → Prop
  | .arr v e xs, .arr v' e' xs' => v = v' ∧ e = e' ∧ xs.length = xs'.length
  | .box _, .box _ => True
  | _, _ => False

theorem write_le {Z : Nat → Prop} {X : Cx} (h : HR Z X) {r b o : Nat} {blk blk' : Blk} {cs cs' : Array Value} {t : TypeId} (hg : X.H.get r = some blk) (hi : X.ι r = some (b, o)) (hb : X.w.heap[b]? = some (.cells cs t (0, 0)))
    (hs : cs'.size = cs.size) (hk : sameKind blk blk') : Le X (X.write b cs' r blk') where
  n := Nat.le_refl _
  T := fun _ h => h
  blk := fun k hk' => setRow_other _ _ _ _ (fun e => by subst e; exact (h.apart r blk _ o hg hi).1 hk')
  box := by
    intro r' cs1 hr hg'
    simp only [Cx.write] at hg' ⊢
    rw [Heap.get_set] at hg'
    split at hg'
    · rename_i e
      subst e
      rw [hg] at hg'
      simp at hg'
      subst hg'
      cases blk with
      | arr v e xs => exact hk.elim
      | box cs0 => exact ⟨cs0, hg, trivial⟩
    · exact ⟨cs1, hg', trivial⟩
  arr := by
    intro r' v' e xs' hr hg'
    simp only [Cx.write] at hg' ⊢
    rw [Heap.get_set] at hg'
    split at hg'
    · rename_i e1
      subst e1
      rw [hg] at hg'
      simp at hg'
      subst hg'
      cases blk with
      | arr v e0 xs => 
        obtain ⟨rfl, rfl, h3⟩ := hk
        exact ⟨v, xs, hg, Nat.le_refl _, fun _ => ⟨h3.symm, trivial⟩⟩
      | box cs0 => exact hk.elim
    · exact ⟨v', xs', hg', Nat.le_refl _, fun _ => ⟨rfl, trivial⟩⟩
  size := by
    intro k c t' fz hk'
    by_cases e : k = b
    · subst e
      rw [hb] at hk'; cases hk'
      exact ⟨cs', t, (0, 0), setRow_heap _ _ _ _ _ _ hb, hs⟩
    · exact ⟨c, t', fz, (setRow_other _ _ _ _ e).trans hk', rfl⟩

theorem write_step {Z : Nat → Prop} {X : Cx} (h : HR Z X) {r b o : Nat} {blk blk' : Blk} {cs cs' : Array Value} {t : TypeId} (hg : X.H.get r = some blk) (hi : X.ι r = some (b, o)) (hb : X.w.heap[b]? = some (.cells cs t (0, 0)))
    (hs : cs'.size = cs.size) (hk : sameKind blk blk') (hB : BRel (X.write b cs' r blk') r blk') : Step Z X (X.write b cs' r blk') := by
  have hle := write_le h hg hi hb hs hk
  have hap := h.apart r blk b o hg hi
  have hget : ∀ r' b', (X.write b cs' r blk').H.get r' = some b' → (r' = r ∧ b' = blk') ∨ (r' ≠ r ∧ X.H.get r' = some b') := fun r' b' hq => by
    simp only [Cx.write] at hq
    rw [Heap.get_set] at hq
    split at hq
    · rename_i e; subst e; rw [hg] at hq; simp at hq; exact .inl ⟨rfl, hq.symm⟩
    · rename_i e; exact .inr ⟨fun q => e q.symm, hq⟩
  have hgo : ∀ r' b', (X.write b cs' r blk').H.get r' = some b' → ∃ b0, X.H.get r' = some b0 := fun r' b' hq => by
    rcases hget r' b' hq with ⟨rfl, -⟩ | ⟨-, q⟩
    · exact ⟨_, hg⟩
    · exact ⟨_, q⟩
  refine ⟨hle, ⟨?_, ?_, ?_, ?_⟩, ⟨rfl, rfl, rfl, by simp [Cx.write, setRow_size], fun k hz => setRow_other _ _ _ _ (fun e => by subst e; exact hap.2 hz)⟩, fun k hk => .inl hk⟩
  · intro r' b' hq
    rcases hget r' b' hq with ⟨rfl, rfl⟩ | ⟨hne, q⟩
    · exact ⟨(h.blk r' blk hg).1, hB⟩
    · refine ⟨(h.blk r' b' q).1, (h.blk r' b' q).2.mono hle rfl fun k o' hk' => setRow_other _ _ _ _ fun e => ?_⟩
      subst e
      exact hne (h.inj r' r b' blk _ o' o q hg hk' hi)
  · intro r1 r2 b1 b2 k o1 o2 g1 g2 i1 i2
    obtain ⟨c1, q1⟩ := hgo r1 b1 g1
    obtain ⟨c2, q2⟩ := hgo r2 b2 g2
    exact h.inj r1 r2 c1 c2 k o1 o2 q1 q2 i1 i2
  · intro r1 b1 k o1 g1 i1
    obtain ⟨c1, q1⟩ := hgo r1 b1 g1
    exact h.apart r1 c1 k o1 q1 i1
  · intro k hk
    simp only [Cx.write, setRow_size]
    exact h.T k hk

/-- Own arrays become trees. -/
theorem frz_sound {Z : Nat → Prop} : ∀ {cs cs' : List Cell} {H' : Heap} {X : Cx} {vs : List Value}, frz X.H cs = some (cs', H') → HR Z X → CsRel X cs vs →
    ∃ T', Step Z X ⟨X.ι, T', X.w, H', X.n⟩ ∧ CsRel ⟨X.ι, T', X.w, H', X.n⟩ cs' vs ∧ (∀ r b, H'.get r = some b → X.H.get r = some b) := by
  intro cs
  induction cs with
  | nil =>
    intro cs' H' X vs h hr hc
    cases h
    exact ⟨X.T, Step.refl hr, hc, fun _ _ h => h⟩
  | cons c cs ih =>
    intro cs' H' X vs h hr hc
    cases vs with
    | nil => exact absurd hc.1 (by simp)
    | cons u vs =>
    obtain ⟨u0, p1, p2⟩ := hc.2 0 c rfl
    cases p1
    have hd : CsRel X cs vs := hc.drop 1
    -- one own array less
    have key : ∀ (r v v' : Nat) (e : Ty) (xs ys : List e.T), X.H.get r = some (.arr v' e xs) → (∀ S : Nat → Prop, (∀ b, X.T b → S b) → (∀ b o, X.ι r = some (b, o) → S b) → TRel S X.w (.slice e) ys [u]) →
        ((frz (X.H.drop r) cs).bind fun p => some (.sl e ys :: p.1, p.2)) = some (cs', H') →
        ∃ T', Step Z X ⟨X.ι, T', X.w, H', X.n⟩ ∧ CsRel ⟨X.ι, T', X.w, H', X.n⟩ cs' (u :: vs) ∧ (∀ r b, H'.get r = some b → X.H.get r = some b) := by
      intro r v v' e xs ys hg hS hq
      obtain ⟨p, g1, g2⟩ := obind hq
      cases g2
      have hsub : ∀ r' b', (X.H.drop r).get r' = some b' → r' ≠ r ∧ X.H.get r' = some b' := fun r' b' hq' => by
        rw [Heap.get_drop] at hq'
        split at hq'
        · cases hq'
        · rename_i ne; exact ⟨fun e => ne e.symm, hq'⟩
      let Y : Cx := ⟨X.ι, fun b => X.T b ∨ ∃ o, X.ι r = some (b, o), X.w, X.H.drop r, X.n⟩
      have hle : Le X Y := {
        n := Nat.le_refl _
        T := fun _ h => .inl h
        blk := fun _ _ => rfl
        box := fun r' cs1 _ hq' => ⟨cs1, (hsub r' _ hq').2, rfl⟩
        arr := fun r' v1 e1 xs1 _ hq' => ⟨v1, xs1, (hsub r' _ hq').2, Nat.le_refl _, fun _ => ⟨rfl, rfl⟩⟩
        size := fun b cs t fz h => ⟨cs, t, fz, h, rfl⟩ }
      have hB := (hr.blk r _ hg).2
      have hstep : Step Z X Y := by
        refine ⟨hle, ⟨?_, ?_, ?_, ?_⟩, Keep.refl _ _, ?_⟩
        · intro r' b' hq'
          obtain ⟨-, q⟩ := hsub r' b' hq'
          exact ⟨(hr.blk r' b' q).1, (hr.blk r' b' q).2.mono hle rfl fun _ _ _ => rfl⟩
        · intro r1 r2 b1 b2 k o1 o2 q1 q2 i1 i2
          exact hr.inj r1 r2 b1 b2 k o1 o2 (hsub r1 b1 q1).2 (hsub r2 b2 q2).2 i1 i2
        · intro r1 b1 k o1 q1 i1
          obtain ⟨ne, q⟩ := hsub r1 b1 q1
          obtain ⟨a1, a2⟩ := hr.apart r1 b1 k o1 q i1
          refine ⟨fun ht => ht.elim a1 ?_, a2⟩
          rintro ⟨o2, i2⟩
          exact ne (hr.inj r1 r b1 _ k o1 o2 q hg i1 i2)
        · intro b hb
          rcases hb with hb | ⟨o, hb⟩
          · exact hr.T b hb
          · exact own_lt (X := X) hB hb
        · intro b hb
          rcases hb with hb | ⟨o, hb⟩
          · exact .inl hb
          · exact .inr (hr.apart r _ b o hg hb).2
      obtain ⟨T', s1, s2, s3⟩ := ih (X := Y) g1 hstep.hr (hd.mono hle)
      refine ⟨T', hstep.trans s1, ⟨by simp [s2.1], fun j c' hj => ?_⟩, fun r' b' hq' => (hsub r' b' (s3 r' b' hq')).2⟩
      cases j with
      | zero =>
        simp at hj; subst hj
        refine ⟨u, rfl, p2.1, ?_⟩
        exact TRel.mono (τ := .slice e) s1.le.T s1.le.blk (hS Y.T (fun b hb => .inl hb) (fun b o hb => .inr ⟨o, hb⟩))
      | succ j => simpa using s2.2 j c' (by simpa using hj)
    -- a cell that is a tree
    have plain : isTree c = true → ((frz X.H cs).bind fun p => some (c :: p.1, p.2)) = some (cs', H') →
        ∃ T', Step Z X ⟨X.ι, T', X.w, H', X.n⟩ ∧ CsRel ⟨X.ι, T', X.w, H', X.n⟩ cs' (u :: vs) ∧ (∀ r b, H'.get r = some b → X.H.get r = some b) := by
      intro _ hq
      obtain ⟨p, g1, g2⟩ := obind hq
      cases g2
      obtain ⟨T', s1, s2, s3⟩ := ih g1 hr hd
      refine ⟨T', s1, ⟨by simp [s2.1], fun j c' hj => ?_⟩, s3⟩
      cases j with
      | zero => simp at hj; subst hj; exact ⟨u, rfl, p2.mono s1.le⟩
      | succ j => simpa using s2.2 j c' (by simpa using hj)
    cases c
    case own r v =>
      simp only [frz] at h
      split at h
      · rename_i v' e xs hg
        obtain ⟨hv, g⟩ := bif_true h
        refine key r v v' e xs xs hg (fun S h1 h2 => ?_) g
        have hrd : rd X.H (.slice e) [.own r v] = some (xs, []) := by simp [rd, hg, hv]
        have := (rd_sound (X := X) (H := [(r, .arr v' e xs)]) (S := S) (cs := [.own r v]) (rest := []) (vs := [u]) (x := xs) (τ := .slice e) h1
          (fun r1 b1 q => by
            simp only [Heap.get] at q
            by_cases e1 : r = r1
            · subst e1; simp only [beq_true, cond_true] at q; cases q; exact ⟨(hr.blk r _ hg).2, hg⟩
            · rw [beq_false e1] at q; cases q)
          (fun r1 b1 k o q hi => by
            simp only [Heap.get] at q
            by_cases e1 : r = r1
            · subst e1; exact h2 k o hi
            · rw [beq_false e1] at q; cases q)
          ⟨rfl, fun j c' hj => by
            cases j with
            | zero => simp at hj; subst hj; exact ⟨u, rfl, p2⟩
            | succ j => simp at hj⟩ (by simp [rd, Heap.get, beq_true, hv])).1
        simpa [Ty.sz] using this
      · cases h
    case sub r v off len =>
      simp only [frz] at h
      split at h
      · rename_i v' e xs hg
        obtain ⟨hv, g⟩ := bif_true h
        refine key r v v' e xs ((xs.drop off).take len) hg (fun S h1 h2 => ?_) g
        have := (rd_sound (X := X) (H := [(r, .arr v' e xs)]) (S := S) (cs := [.sub r v off len]) (rest := []) (vs := [u]) (x := (xs.drop off).take len) (τ := .slice e) h1
          (fun r1 b1 q => by
            simp only [Heap.get] at q
            by_cases e1 : r = r1
            · subst e1; simp only [beq_true, cond_true] at q; cases q; exact ⟨(hr.blk r _ hg).2, hg⟩
            · rw [beq_false e1] at q; cases q)
          (fun r1 b1 k o q hi => by
            simp only [Heap.get] at q
            by_cases e1 : r = r1
            · subst e1; exact h2 k o hi
            · rw [beq_false e1] at q; cases q)
          ⟨rfl, fun j c' hj => by
            cases j with
            | zero => simp at hj; subst hj; exact ⟨u, rfl, p2⟩
            | succ j => simp at hj⟩ (by simp [rd, Heap.get, beq_true, hv])).1
        simpa [Ty.sz] using this
      · cases h
    all_goals
      simp only [frz] at h
      obtain ⟨ht, g⟩ := bif_true h
      exact plain ht g

end Go.Proofs.Ytgmcefnlcalagaa.AM
