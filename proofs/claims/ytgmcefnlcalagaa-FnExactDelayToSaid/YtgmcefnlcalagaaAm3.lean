/- The abstract machine: how trees, cells and the abstract heap stand for Go's memory. Relations and their transport; no condition. -/
import Derived.Test.YtgmcefnlcalagaaAm2
namespace Go.Proofs.Ytgmcefnlcalagaa.AM
open Go Go.RowKit

def cellsAt (w : World) (b o : Nat) (vs : List Value) : Prop := ∀ j u, vs[j]? = some u → w.cell? ⟨b, o + j, none⟩ = some u

/-- Cells that read as a tree; what they lead to lies in T. -/
def TRel (T : Nat → Prop) (w : World) : (τ : Ty) → τ.T → List Value → Prop
  | .int k, n, vs => vs = [.int k n]
  | .bool, b, vs => vs = [.bool b]
  | .str, s, vs => vs = [.string s]
  | .unit, _, vs => vs = []
  | .prod a b, x, vs => ∃ v1 v2, vs = v1 ++ v2 ∧ TRel T w a x.1 v1 ∧ TRel T w b x.2 v2
  | .slice e, xs, vs => ∃ A cap, vs = [.slice A xs.length cap] ∧ xs.length ≤ cap ∧
      (xs = [] ∨ ∃ b o, A = some ⟨b, o, none⟩ ∧ T b ∧ ∀ i x, xs[i]? = some x → ∃ row, TRel T w e x row ∧ cellsAt w b (o + i * e.sz) row)

theorem cell_block {w w' : World} {b : Nat} (h : w'.heap[b]? = w.heap[b]?) (o : Nat) : w'.cell? ⟨b, o, none⟩ = w.cell? ⟨b, o, none⟩ := by
  simp [World.cell?, h]

theorem cellsAt.mono {w w' : World} {b o : Nat} {vs : List Value} (h : cellsAt w b o vs) (hb : w'.heap[b]? = w.heap[b]?) : cellsAt w' b o vs := fun j u hu => (cell_block hb _).trans (h j u hu)

theorem TRel.mono {T T' : Nat → Prop} {w w' : World} (hT : ∀ b, T b → T' b) (hw : ∀ b, T b → w'.heap[b]? = w.heap[b]?) :
    ∀ {τ : Ty} {x : τ.T} {vs : List Value}, TRel T w τ x vs → TRel T' w' τ x vs := by
  intro τ
  induction τ with
  | int k => intro x vs h; exact h
  | bool => intro x vs h; exact h
  | str => intro x vs h; exact h
  | unit => intro x vs h; exact h
  | prod a b iha ihb =>
    rintro x vs ⟨v1, v2, e, h1, h2⟩
    exact ⟨v1, v2, e, iha h1, ihb h2⟩
  | slice e ih =>
    rintro xs vs ⟨A, cap, he, hl, h⟩
    refine ⟨A, cap, he, hl, h.imp id ?_⟩
    rintro ⟨b, o, hA, hb, hr⟩
    refine ⟨b, o, hA, hT b hb, fun i x hx => ?_⟩
    obtain ⟨row, h1, h2⟩ := hr i x hx
    exact ⟨row, ih h1, h2.mono (hw b hb)⟩

theorem TRel.len {T : Nat → Prop} {w : World} : ∀ {τ : Ty} {x : τ.T} {vs : List Value}, TRel T w τ x vs → vs.length = τ.sz := by
  intro τ
  induction τ with
  | int k => intro x vs h; rw [h]; rfl
  | bool => intro x vs h; rw [h]; rfl
  | str => intro x vs h; rw [h]; rfl
  | unit => intro x vs h; rw [h]; rfl
  | prod a b iha ihb =>
    rintro x vs ⟨v1, v2, e, h1, h2⟩
    rw [e, List.length_append, iha h1, ihb h2]; rfl
  | slice e ih =>
    rintro xs vs ⟨A, cap, he, -⟩
    rw [he]; rfl

theorem flat_len : ∀ {τ : Ty} {x : τ.T}, (τ.flat x).length = τ.sz := by
  intro τ
  induction τ with
  | prod a b iha ihb => intro x; simp [Ty.flat, Ty.sz, iha, ihb]
  | _ => intro x; rfl

/-- A context: where own blocks lie, what is never written, the world, the abstract heap, the next number. -/
structure Cx where
  ι : Nat → Option (Nat × Nat)
  T : Nat → Prop
  w : World
  H : Heap
  n : Nat

/-- A slice's value over an own array. -/
def SlV (X : Cx) (r sz off len : Nat) (u : Value) : Prop :=
  ∃ A cap, u = .slice A len cap ∧ len ≤ cap ∧ (cap = 0 ∨ ∃ b o cs t fz, X.ι r = some (b, o) ∧ A = some ⟨b, o + off * sz, none⟩ ∧ X.w.heap[b]? = some (.cells cs t fz) ∧ o + (off + cap) * sz ≤ cs.size)

def CB (X : Cx) : Cell → Value → Prop
  | .int k n, u => u = .int k n
  | .bool b, u => u = .bool b
  | .str s, u => u = .string s
  | .sl e xs, u => TRel X.T X.w (.slice e) xs [u]
  | .emp _, u => u = .slice none 0 0
  | .own r v, u => r < X.n ∧ ∀ v' e xs, X.H.get r = some (.arr v' e xs) → v ≤ v' ∧ (v = v' → SlV X r e.sz 0 xs.length u)
  | .sub r v off len, u => r < X.n ∧ ∀ v' e xs, X.H.get r = some (.arr v' e xs) → v ≤ v' ∧ (v = v' → off + len ≤ xs.length ∧ SlV X r e.sz off len u)
  | .ptr r off, u => r < X.n ∧ ∀ cs, X.H.get r = some (.box cs) → ∃ b, X.ι r = some (b, 0) ∧ u = .pointer (some ⟨b, off, none⟩)
  | .ref τ x k, u => ∃ b o row, u = .pointer (some ⟨b, o + k, none⟩) ∧ X.T b ∧ TRel X.T X.w τ x row ∧ cellsAt X.w b o row
  | .elt r v i k, u => r < X.n ∧ ∀ v' e xs, X.H.get r = some (.arr v' e xs) → v ≤ v' ∧ (v = v' → i < xs.length ∧ ∃ b o, X.ι r = some (b, o) ∧ u = .pointer (some ⟨b, o + i * e.sz + k, none⟩))
  | .fn f caps, u => ∃ vals, u = .func (.func f) #[] vals ∧ vals.size = caps.length ∧
      ∀ (j r off : Nat), caps[j]? = some (r, off) → r < X.n ∧ ∀ cs, X.H.get r = some (.box cs) → ∃ b, X.ι r = some (b, 0) ∧ vals[j]? = some (Value.pointer (some ⟨b, off, none⟩))
  | .nilF, u => u = .nilFunc
  | .nilI, u => u = .nilIface
  | .err, u => ∃ t v, u = .iface t v
  | .junk, _ => True

/-- A cell's value: no aggregate, and what the cell says. -/
def CRel (X : Cx) (c : Cell) (u : Value) : Prop := u.oneCell' = true ∧ CB X c u

/-- Cells, one by one. -/
def CsRel (X : Cx) (cs : List Cell) (vs : List Value) : Prop := vs.length = cs.length ∧ ∀ (j : Nat) (c : Cell), cs[j]? = some c → ∃ u, vs[j]? = some u ∧ CRel X c u

def AVRel (X : Cx) (v : AV) (u : Value) : Prop :=
  if v.agg = true then ∃ vs, u = .agg vs ∧ CsRel X v.cs vs.toList else ∃ c, v.cs = [c] ∧ CRel X c u

def DRel (X : Cx) : D → Value → Prop
  | .one v, u => AVRel X v u
  | .tup vs, u => ∃ us, u = .tuple us ∧ us.size = vs.length ∧ ∀ (j : Nat) (v : AV), vs[j]? = some v → ∃ x, us[j]? = some x ∧ AVRel X v x

def BRel (X : Cx) (r : Nat) : Blk → Prop
  | .arr _ e xs => (X.ι r = none ∧ xs = []) ∨ ∃ b o cs t, X.ι r = some (b, o) ∧ X.w.heap[b]? = some (.cells cs t (0, 0)) ∧ o + xs.length * e.sz ≤ cs.size ∧
      ∀ i x, xs[i]? = some x → ∃ row, TRel X.T X.w e x row ∧ ∀ j u, row[j]? = some u → cs[o + i * e.sz + j]? = some u
  | .box cells => ∃ b vs t, X.ι r = some (b, 0) ∧ X.w.heap[b]? = some (.cells vs t (0, 0)) ∧ CsRel X cells vs.toList

def FRel (X : Cx) (fr : List (Nat × D)) (tmps : Array Value) : Prop := ∀ i d, look fr i = some d → ∃ u, tmps[i]? = some u ∧ DRel X d u

/-- X' comes of X: what cells of X say holds in X'. -/
structure Le (X X' : Cx) : Prop where
  n : X.n ≤ X'.n
  T : ∀ b, X.T b → X'.T b
  blk : ∀ b, X.T b → X'.w.heap[b]? = X.w.heap[b]?
  box : ∀ r cs', r < X.n → X'.H.get r = some (.box cs') → ∃ cs, X.H.get r = some (.box cs) ∧ X'.ι r = X.ι r
  arr : ∀ r v' e xs', r < X.n → X'.H.get r = some (.arr v' e xs') → ∃ v xs, X.H.get r = some (.arr v e xs) ∧ v ≤ v' ∧ (v = v' → xs'.length = xs.length ∧ X'.ι r = X.ι r)
  size : ∀ (b : Nat) (cs : Array Value) (t : TypeId) (fz : Nat × Nat), X.w.heap[b]? = some (Obj.cells cs t fz) → ∃ (cs' : Array Value) (t' : TypeId) (fz' : Nat × Nat), X'.w.heap[b]? = some (Obj.cells cs' t' fz') ∧ cs'.size = cs.size

theorem SlV.mono {X X' : Cx} (h : Le X X') {r sz off len : Nat} {u : Value} (hι : X'.ι r = X.ι r) (hs : SlV X r sz off len u) : SlV X' r sz off len u := by
  obtain ⟨A, cap, hu, hl, hc⟩ := hs
  refine ⟨A, cap, hu, hl, hc.imp id ?_⟩
  rintro ⟨b, o, cs, t, fz, h1, h2, h3, h4⟩
  obtain ⟨cs', t', fz', h5, h6⟩ := h.size b cs t fz h3
  exact ⟨b, o, cs', t', fz', hι.trans h1, h2, h5, by omega⟩

theorem CB.mono {X X' : Cx} (h : Le X X') {c : Cell} {u : Value} (hc : CB X c u) : CB X' c u := by
  cases c with
  | int k n => exact hc
  | bool b => exact hc
  | str s => exact hc
  | sl e xs => exact TRel.mono h.T h.blk hc
  | emp e => exact hc
  | nilF => exact hc
  | nilI => exact hc
  | err => exact hc
  | junk => trivial
  | own r v =>
    obtain ⟨hn, hc⟩ := hc
    refine ⟨Nat.lt_of_lt_of_le hn h.n, fun v' e xs' hg => ?_⟩
    obtain ⟨v0, xs, g0, g1, g2⟩ := h.arr r v' e xs' hn hg
    obtain ⟨c1, c2⟩ := hc _ _ _ g0
    refine ⟨Nat.le_trans c1 g1, fun hv => ?_⟩
    have e0 : v0 = v' := by omega
    obtain ⟨g3, g4⟩ := g2 e0
    rw [g3]
    exact (c2 (by omega)).mono h g4
  | sub r v off len =>
    obtain ⟨hn, hc⟩ := hc
    refine ⟨Nat.lt_of_lt_of_le hn h.n, fun v' e xs' hg => ?_⟩
    obtain ⟨v0, xs, g0, g1, g2⟩ := h.arr r v' e xs' hn hg
    obtain ⟨c1, c2⟩ := hc _ _ _ g0
    refine ⟨Nat.le_trans c1 g1, fun hv => ?_⟩
    have e0 : v0 = v' := by omega
    obtain ⟨g3, g4⟩ := g2 e0
    obtain ⟨c3, c4⟩ := c2 (by omega)
    exact ⟨by omega, c4.mono h g4⟩
  | elt r v i k =>
    obtain ⟨hn, hc⟩ := hc
    refine ⟨Nat.lt_of_lt_of_le hn h.n, fun v' e xs' hg => ?_⟩
    obtain ⟨v0, xs, g0, g1, g2⟩ := h.arr r v' e xs' hn hg
    obtain ⟨c1, c2⟩ := hc _ _ _ g0
    refine ⟨Nat.le_trans c1 g1, fun hv => ?_⟩
    have e0 : v0 = v' := by omega
    obtain ⟨g3, g4⟩ := g2 e0
    obtain ⟨c3, b, o, c4, c5⟩ := c2 (by omega)
    exact ⟨by omega, b, o, g4.trans c4, c5⟩
  | ptr r off =>
    obtain ⟨hn, hc⟩ := hc
    refine ⟨Nat.lt_of_lt_of_le hn h.n, fun cs' hg => ?_⟩
    obtain ⟨cs, g0, g1⟩ := h.box r cs' hn hg
    obtain ⟨b, c1, c2⟩ := hc _ g0
    exact ⟨b, g1.trans c1, c2⟩
  | ref τ x k =>
    obtain ⟨b, o, row, c1, c2, c3, c4⟩ := hc
    exact ⟨b, o, row, c1, h.T b c2, TRel.mono h.T h.blk c3, c4.mono (h.blk b c2)⟩
  | fn f caps =>
    obtain ⟨vals, c1, c2, c3⟩ := hc
    refine ⟨vals, c1, c2, fun j r off hj => ?_⟩
    obtain ⟨c4, c5⟩ := c3 j r off hj
    refine ⟨Nat.lt_of_lt_of_le c4 h.n, fun cs' hg => ?_⟩
    obtain ⟨cs, g0, g1⟩ := h.box r cs' c4 hg
    obtain ⟨b, c6, c7⟩ := c5 _ g0
    exact ⟨b, g1.trans c6, c7⟩

theorem CRel.mono {X X' : Cx} (h : Le X X') {c : Cell} {u : Value} (hc : CRel X c u) : CRel X' c u := ⟨hc.1, hc.2.mono h⟩

theorem CsRel.mono {X X' : Cx} (h : Le X X') {cs : List Cell} {vs : List Value} (hc : CsRel X cs vs) : CsRel X' cs vs :=
  ⟨hc.1, fun j c hj => let ⟨u, h1, h2⟩ := hc.2 j c hj; ⟨u, h1, h2.mono h⟩⟩

theorem AVRel.mono {X X' : Cx} (h : Le X X') {v : AV} {u : Value} (hv : AVRel X v u) : AVRel X' v u := by
  unfold AVRel at *
  split at hv
  · rename_i e; rw [if_pos e]; obtain ⟨vs, h1, h2⟩ := hv; exact ⟨vs, h1, h2.mono h⟩
  · rename_i e; rw [if_neg e]; obtain ⟨c, h1, h2⟩ := hv; exact ⟨c, h1, h2.mono h⟩

theorem DRel.mono {X X' : Cx} (h : Le X X') {d : D} {u : Value} (hd : DRel X d u) : DRel X' d u := by
  cases d with
  | one v => exact AVRel.mono h hd
  | tup vs =>
    obtain ⟨us, h1, h2, h3⟩ := hd
    exact ⟨us, h1, h2, fun j v hj => let ⟨x, h4, h5⟩ := h3 j v hj; ⟨x, h4, h5.mono h⟩⟩

theorem BRel.mono {X X' : Cx} (h : Le X X') {r : Nat} {b : Blk} (hι : X'.ι r = X.ι r) (hw : ∀ k o, X.ι r = some (k, o) → X'.w.heap[k]? = X.w.heap[k]?) (hb : BRel X r b) : BRel X' r b := by
  cases b with
  | arr v e xs =>
    rcases hb with ⟨h1, h2⟩ | ⟨b, o, cs, t, h1, h2, h3, h4⟩
    · exact .inl ⟨hι.trans h1, h2⟩
    · refine .inr ⟨b, o, cs, t, hι.trans h1, (hw b o h1).trans h2, h3, fun i x hx => ?_⟩
      obtain ⟨row, h5, h6⟩ := h4 i x hx
      exact ⟨row, TRel.mono h.T h.blk h5, h6⟩
  | box cells =>
    obtain ⟨b, vs, t, h1, h2, h3⟩ := hb
    exact ⟨b, vs, t, hι.trans h1, (hw b 0 h1).trans h2, h3.mono h⟩

theorem FRel.mono {X X' : Cx} (h : Le X X') {fr : List (Nat × D)} {tmps : Array Value} (hf : FRel X fr tmps) : FRel X' fr tmps :=
  fun i d hi => let ⟨u, h1, h2⟩ := hf i d hi; ⟨u, h1, h2.mono h⟩

/-- The blocks of the abstract heap stand. -/
def HBl (X : Cx) : Prop := ∀ r b, X.H.get r = some b → r < X.n ∧ BRel X r b

theorem beq_false {a b : Nat} (h : ¬ a = b) : Nat.beq a b = false := by
  cases e : Nat.beq a b with
  | false => rfl
  | true => exact absurd (Nat.eq_of_beq_eq_true e) h

theorem beq_true (a : Nat) : Nat.beq a a = true := Nat.beq_refl a

theorem Heap.get_new (n : Nat) (bs : List Blk) (H : Heap) (r : Nat) :
    Heap.get (newBlks n bs ++ H) r = if n ≤ r ∧ r < n + bs.length then bs[r - n]? else H.get r := by
  induction bs generalizing n with
  | nil => simp [newBlks]; omega
  | cons b bs ih =>
    simp only [newBlks, List.cons_append, Heap.get, List.length_cons]
    by_cases h : n = r
    · subst h
      rw [if_pos (by omega)]
      simp
    · rw [beq_false h]
      simp only [cond_false]
      rw [ih]
      by_cases h2 : n ≤ r ∧ r < n + (bs.length + 1)
      · rw [if_pos h2, if_pos (by omega)]
        rw [show r - n = (r - (n + 1)) + 1 from by omega]
        simp
      · rw [if_neg h2, if_neg (by omega)]

/-- A step that only makes memory: new blocks bs; all that was stands as it was. -/
structure GR (X : Cx) (bs : List Blk) (X' : Cx) : Prop where
  H : X'.H = newBlks X.n bs ++ X.H
  n : X'.n = X.n + bs.length
  below : Below X.w.heap.size X.w X'.w
  ι : ∀ r, r < X.n → X'.ι r = X.ι r
  T : ∀ b, X.T b → X'.T b
  T' : ∀ b, X'.T b → X.T b ∨ (X.w.heap.size ≤ b ∧ b < X'.w.heap.size)
  new : ∀ (i : Nat) (b : Blk), bs[i]? = some b → BRel X' (X.n + i) b
  fresh : ∀ (i : Nat) (b : Blk) (k o : Nat), bs[i]? = some b → X'.ι (X.n + i) = some (k, o) → X.w.heap.size ≤ k ∧ ¬ X'.T k
  inj : ∀ i j k o o', i < bs.length → j < bs.length → X'.ι (X.n + i) = some (k, o) → X'.ι (X.n + j) = some (k, o') → i = j

theorem GR.le {X X' : Cx} {bs : List Blk} (h : GR X bs X') (hT : ∀ b, X.T b → b < X.w.heap.size) : Le X X' where
  n := by have := h.n; omega
  T := h.T
  blk := fun b hb => h.below.block b (hT b hb)
  box := by
    intro r cs' hr hg
    rw [h.H, Heap.get_new, if_neg (by omega)] at hg
    exact ⟨cs', hg, h.ι r hr⟩
  arr := by
    intro r v' e xs' hr hg
    rw [h.H, Heap.get_new, if_neg (by omega)] at hg
    exact ⟨v', xs', hg, Nat.le_refl _, fun _ => ⟨rfl, h.ι r hr⟩⟩
  size := by
    intro b cs t fz hb
    have hlt : b < X.w.heap.size := by
      rcases Nat.lt_or_ge b X.w.heap.size with h1 | h1
      · exact h1
      · rw [Array.getElem?_eq_none h1] at hb; cases hb
    exact ⟨cs, t, fz, (h.below.block b hlt).trans hb, rfl⟩

/-- Nothing new. -/
theorem GR.same (X : Cx) : GR X [] X where
  H := rfl
  n := by simp
  below := Below.refl _ _
  ι := fun _ _ => rfl
  T := fun _ h => h
  T' := fun _ h => .inl h
  new := by intro i b h; simp at h
  fresh := by intro i b k o h; simp at h
  inj := by intro i j k o o' h; simp at h

theorem lt_of_cells {w : World} {b : Nat} {o : Obj} (h : w.heap[b]? = some o) : b < w.heap.size := by
  rcases Nat.lt_or_ge b w.heap.size with h1 | h1
  · exact h1
  · rw [Array.getElem?_eq_none h1] at h; cases h

/-- The context with one new block of cells. -/
def Cx.push (X : Cx) (cs : Array Value) (t : TypeId) (b : Blk) : Cx :=
  ⟨fun r => if r = X.n then some (X.w.heap.size, 0) else X.ι r, X.T, X.w.alloc (.cells cs t), newBlks X.n [b] ++ X.H, X.n + 1⟩

theorem heap_alloc_new (w : World) (o : Obj) : (w.alloc o).heap[w.heap.size]? = some o := by
  show (w.heap.push o)[w.heap.size]? = _
  simp

theorem GR.push (X : Cx) (cs : Array Value) (t : TypeId) (b : Blk) (hT : ∀ b, X.T b → b < X.w.heap.size) (hb : BRel (X.push cs t b) X.n b) : GR X [b] (X.push cs t b) where
  H := rfl
  n := rfl
  below := (Below.refl _ _).alloc (Nat.le_refl _) _
  ι := by intro r hr; simp only [Cx.push]; rw [if_neg (by omega)]
  T := fun _ h => h
  T' := fun _ h => .inl h
  new := by
    intro i b' h
    cases i with
    | zero => simp at h; subst h; exact hb
    | succ i => simp at h
  fresh := by
    intro i b' k o h1 h2
    cases i with
    | zero => simp [Cx.push] at h2; exact ⟨by omega, fun h => by have := hT _ h; omega⟩
    | succ i => simp at h1
  inj := by
    intro i j k o o' h1 h2 _ _
    simp at h1 h2; omega

end Go.Proofs.Ytgmcefnlcalagaa.AM
