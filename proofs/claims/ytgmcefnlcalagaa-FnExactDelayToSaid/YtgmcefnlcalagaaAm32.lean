/- The abstract machine: the library's sort of whole numbers, as a contract that turns an own array. No condition. -/
import Derived.Test.YtgmcefnlcalagaaAm31
import Derived.Sort.Grow
namespace Go.Proofs.Ytgmcefnlcalagaa.AM
open Go Go.RowKit
set_option linter.unusedSimpArgs false
set_option linter.unusedVariables false

def sortI (xs : List Int) : List Int := xs.mergeSort fun x y => decide (x ≤ y)

/-- A row of whole numbers. -/
def asInts : (e : Ty) → List e.T → Option (List Int)
  | .int .i64, xs => some xs
  | _, _ => none

theorem asInts_blk {v : Nat} {e : Ty} {xs : List e.T} {ys : List Int} (h : asInts e xs = some ys) : Blk.arr v e xs = Blk.arr v (.int .i64) ys := by
  cases e with
  | int k => cases k <;> first | (cases h; rfl) | cases h
  | _ => cases h

def sortRun {α : Type} (st : St) (args : List AV) (k : D → St → Option α) : Option α :=
  match args with
  | [⟨false, [.own r v]⟩] => match st.H.get r with
    | some (.arr v' e xs) => bif Nat.beq v v' then (asInts e xs).bind fun ys => (if 0 < ys.length ∧ ys.length < 4611686018427387904 then
        k (.tup []) ⟨st.fr, st.nxt, st.H.set r (.arr v' (.int .i64) (sortI ys))⟩ else none) else none
    | _ => none
  | _ => none

/-- The contract of the sort. -/
def gcSort : GC := ⟨fun st args k => sortRun st args k⟩

theorem sort_len (xs : List Int) : (sortI xs).length = xs.length := List.length_mergeSort _

theorem GR.grow (X : Cx) (os : Array Obj) : GR X [] { X with w := Sort.grow X.w os } where
  H := rfl
  n := rfl
  below := ⟨rfl, rfl, rfl, by simp, fun b hb => Sort.heap_grow_old X.w os hb⟩
  ι := fun _ _ => rfl
  T := fun _ h => h
  T' := fun _ h => .inl h
  new := by intro i b h; simp at h
  fresh := by intro i b k o h; simp at h
  inj := by intro i j k o o' h; simp at h

theorem sort_sound {P : Program} {f : FuncId} (hcon : ∀ (blk off cap : Nat) (zs : List Int) (w : World), Sort.Holds (Value.int .i64) w blk off zs.toArray → blk < w.heap.size → zs.length < 4611686018427387904 →
    Calls P f #[.slice (some ⟨blk, off, none⟩) zs.length cap] w fun e w' => e = .returned (.tuple #[]) ∧ ∃ n os, w' = Sort.grow (Sort.putRow (Value.int .i64) (Sort.ahead w n) blk off (zs.mergeSort fun x y => decide (x ≤ y)).toArray) os) (α : Type) : CallSA P f (gcSort.run (α := α)) := by
  intro Z X st args us k r h hH hn hr hZ hv
  have h' : sortRun st args k = some r := h
  unfold sortRun at h'
  split at h'
  case h_2 => cases h'
  rename_i r0 v
  split at h'
  case h_2 => cases h'
  rename_i v' e xs0 hg
  obtain ⟨hv1, h'⟩ := bif_true h'
  have hv1 := Nat.eq_of_beq_eq_true hv1
  obtain ⟨xs, hxs, h'⟩ := obind h'
  rw [asInts_blk hxs] at hg
  split at h'
  case isFalse => cases h'
  rename_i hlen
  rw [← hH] at hg
  -- the argument
  obtain ⟨u, hu, hc⟩ := hv.2 0 _ rfl
  have hus : us = [u] := by
    have := hv.1
    match us, this, hu with
    | [a], _, hu => simp at hu; rw [hu]
  subst hus
  have hcr := hc.one
  obtain ⟨-, hcb⟩ := hcr.2
  obtain ⟨-, hs⟩ := hcb _ _ _ hg
  obtain ⟨A, cap, rfl, hle, hcap⟩ := hs hv1
  rcases hcap with rfl | ⟨b, o, cs, t, fz, h1, rfl, h3, h4⟩
  · exact absurd hlen.1 (by omega)
  rcases (hr.blk r0 _ hg).2 with ⟨hb1, hb2⟩ | ⟨b', o', cs', t', g1, g2, g3, g4⟩
  · rw [hb1] at h1; cases h1
  rw [h1] at g1; cases g1
  rw [h3] at g2; cases g2
  simp only [Nat.zero_mul, Nat.add_zero] at *
  have hblt : b < X.w.heap.size := lt_of_cells h3
  have hcell : ∀ j (hj : j < xs.length), cs[o + j]? = some (.int .i64 (xs[j])) := fun j hj => by
    obtain ⟨row, q1, q2⟩ := g4 j _ (List.getElem?_eq_getElem hj)
    have q1' : row = [Value.int .i64 xs[j]] := q1
    subst q1'
    have := q2 0 _ rfl
    simpa [Ty.sz] using this
  have hholds : Sort.Holds (Value.int .i64) X.w b o xs.toArray := by
    intro j hj
    have hj' : j < xs.length := by simpa using hj
    have hcj := hcell j hj'
    constructor
    · simp only [World.cell?, h3]
      rw [hcj]
      simp [hj']
    · simp only [World.frozen?, h3]
      simp
  have := hcon b o cap xs X.w hholds hblt hlen.2
  refine this.mono ?_
  rintro e w' ⟨rfl, n, os, rfl⟩
  let ys := sortI xs
  have hyl : ys.length = xs.length := sort_len xs
  let X1 : Cx := { X with w := { X.w with drawn := X.w.drawn + n } }
  have s1 : Step Z X X1 := drawn_step hr _
  let cs2 := Sort.putCells (Value.int .i64) o ys.toArray cs
  have hcs2 : cs2.size = cs.size := by simp [cs2, Sort.putCells]
  let X2 := X1.write b cs2 r0 (.arr v' (.int .i64) ys)
  have hb1 : X1.w.heap[b]? = some (.cells cs t (0, 0)) := h3
  have hB : BRel X2 r0 (.arr v' (.int .i64) ys) := by
    refine .inr ⟨b, o, cs2, t, h1, setRow_heap _ _ _ _ _ _ hb1, by rw [hcs2, hyl]; exact g3, fun i x hx => ?_⟩
    have hi : i < ys.length := (List.getElem?_eq_some_iff.1 hx).1
    refine ⟨[.int .i64 x], rfl, fun j u hj => ?_⟩
    cases j with
    | succ j => simp at hj
    | zero =>
      simp at hj; subst hj
      have hlt : o + i < cs.size := by
        have : (xs.length : Nat) * Ty.sz (.int .i64) = xs.length := Nat.mul_one _
        omega
      have e1 : o + i * Ty.sz (.int .i64) + 0 = o + i := by show o + i * 1 + 0 = o + i; omega
      rw [e1]
      simp only [cs2, Sort.putCells, Array.getElem?_mapIdx, Array.getElem?_eq_getElem hlt, Option.map_some]
      rw [if_pos (by simp; omega)]
      have : ys[i]? = some x := hx
      simp [Nat.add_sub_cancel_left, this]
  have s2 : Step Z X1 X2 := write_step s1.hr (blk := .arr v' (.int .i64) xs) hg h1 hb1 hcs2 ⟨rfl, rfl, hyl.symm⟩ hB
  let X3 : Cx := { X2 with w := Sort.grow X2.w os }
  have hZ2 : ∀ b, Z b → b < X2.w.heap.size := fun b hb => Nat.lt_of_lt_of_le (hZ b hb) (Nat.le_trans s1.keep.size s2.keep.size)
  have s3 : Step Z X2 X3 := Step.gr s2.hr (GR.grow X2 os) hZ2
  have hw : X3.w = Sort.grow (Sort.putRow (Value.int .i64) (Sort.ahead X.w n) b o (xs.mergeSort fun x y => decide (x ≤ y)).toArray) os := by
    show Sort.grow X2.w os = _
    congr 1
    show World.setRow { X.w with drawn := X.w.drawn + n } b cs2 = Sort.mapBlock (Sort.ahead X.w n) b _
    unfold World.setRow Sort.mapBlock Sort.ahead
    congr 1
    apply Array.ext_getElem?
    intro k
    simp only [Array.getElem?_modify]
    by_cases hk : b = k
    · subst hk
      simp only [if_true]
      have h3' : X.w.heap[b]? = some (.cells cs t (0, 0)) := h3
      rw [h3']
      rfl
    · simp [hk]
  refine ⟨.tup [], ⟨st.fr, st.nxt, st.H.set r0 (.arr v' (.int .i64) ys)⟩, .tuple #[], X3, rfl, h', (s1.trans s2).trans s3, ?_, hn, rfl, ⟨#[], rfl, rfl, fun j v hj => by simp at hj⟩, hw⟩
  show X.H.set r0 _ = _
  rw [hH]

end Go.Proofs.Ytgmcefnlcalagaa.AM
