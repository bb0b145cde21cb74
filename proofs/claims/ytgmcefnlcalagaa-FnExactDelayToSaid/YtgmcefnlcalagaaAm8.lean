/- The abstract machine: new rows, parts of slices, places; and all operations together. No condition. -/
import Derived.Test.YtgmcefnlcalagaaAm7
import Derived.IntWalk
import Derived.Laws.BytesString
import Derived.Laws.Cells
namespace Go.Proofs.Ytgmcefnlcalagaa.AM
open Go Go.RowKit
set_option linter.unusedSimpArgs false
set_option linter.unusedVariables false

section
variable {α : Type} {P : Program} {X : Cx} {fr : List (Nat × D)} {a : Act} {ty : TypeId} {k : D → List Blk → Option α} {r : α}

/-- Typed rows in a block's cells. -/
def RowsRel (T : Nat → Prop) (w : World) (e : Ty) (xs : List e.T) (o : Nat) (cs : Array Value) : Prop :=
  ∀ i x, xs[i]? = some x → ∃ row, TRel T w e x row ∧ ∀ (j : Nat) (u : Value), row[j]? = some u → cs[o + i * e.sz + j]? = some u

theorem GR.newArr (hT : ∀ b, X.T b → b < X.w.heap.size) (t : TypeId) {e : Ty} {xs : List e.T} {cs : Array Value} {cap : Nat} (h : RowsRel X.T X.w e xs 0 cs) (hl : xs.length ≤ cap) (hs : cap * e.sz ≤ cs.size) :
    GR X [.arr 0 e xs] (X.push cs t (.arr 0 e xs)) ∧ CRel (X.push cs t (.arr 0 e xs)) (.own X.n 0) (.slice (some ⟨X.w.heap.size, 0, none⟩) xs.length cap) := by
  have hle : ∀ b, X.T b → (X.push cs t (.arr 0 e xs)).w.heap[b]? = X.w.heap[b]? := fun b hb => Below.heap_alloc _ _ _ (hT b hb)
  have hmul : xs.length * e.sz ≤ cap * e.sz := Nat.mul_le_mul_right _ hl
  refine ⟨GR.push X cs t _ hT (.inr ⟨X.w.heap.size, 0, cs, t, by simp [Cx.push], heap_alloc_new _ _, by omega, fun i x hx => ?_⟩), rfl, Nat.lt_succ_self _, fun v' e' xs' hg => ?_⟩
  · obtain ⟨row, h1, h2⟩ := h i x hx
    exact ⟨row, TRel.mono (fun _ h => h) hle h1, h2⟩
  · simp only [Cx.push] at hg
    rw [Heap.get_new, if_pos (by simp)] at hg
    simp at hg
    obtain ⟨rfl, rfl, h3⟩ := hg
    cases h3
    exact ⟨Nat.le_refl _, fun _ => ⟨_, cap, rfl, hl, .inr ⟨X.w.heap.size, 0, cs, t, (0, 0), by simp [Cx.push], by simp, heap_alloc_new _ _, by simpa using hs⟩⟩⟩

theorem mul_add_inj {i i' s j j' : Nat} (h : i * s + j = i' * s + j') (hj : j < s) (hj' : j' < s) : i = i' ∧ j = j' := by
  have h1 : (i * s + j) / s = i := by rw [Nat.mul_comm, Nat.mul_add_div (by omega), Nat.div_eq_of_lt hj]; rfl
  have h2 : (i' * s + j') / s = i' := by rw [Nat.mul_comm, Nat.mul_add_div (by omega), Nat.div_eq_of_lt hj']; rfl
  have e : i = i' := by rw [← h1, h, h2]
  subst e
  exact ⟨rfl, by omega⟩

theorem row_lt {T : Nat → Prop} {w : World} {e : Ty} {x : e.T} {row : List Value} (h : TRel T w e x row) {j : Nat} {u : Value} (hj : row[j]? = some u) : j < e.sz := by
  rw [← h.len]
  rcases Nat.lt_or_ge j row.length with h1 | h1
  · exact h1
  · rw [List.getElem?_eq_none h1] at hj; cases hj

/-- The zero row. -/
theorem rows_zero {T : Nat → Prop} {w : World} {e : Ty} {z : Array Value} (hz : TRel T w e e.zero z.toList) (n : Nat) :
    RowsRel T w e (List.replicate n e.zero) 0 ((Array.range (n * e.sz)).map (z[· % z.size]!)) := by
  intro i x hx
  have hi : i < n := by
    rcases Nat.lt_or_ge i n with h1 | h1
    · exact h1
    · rw [List.getElem?_eq_none (by simpa using h1)] at hx; cases hx
  have hx' : x = e.zero := by
    rw [List.getElem?_replicate, if_pos hi] at hx; cases hx; rfl
  subst hx'
  refine ⟨z.toList, hz, fun j u hu => ?_⟩
  have hj := row_lt hz hu
  have hsz : z.size = e.sz := by have := hz.len; simpa using this
  have hlt : i * e.sz + j < n * e.sz := by
    have : (i + 1) * e.sz ≤ n * e.sz := Nat.mul_le_mul_right _ hi
    rw [Nat.add_mul] at this; omega
  rw [Nat.zero_add, Array.getElem?_map, Array.getElem?_range, if_pos hlt]
  simp only [Option.map_some]
  rw [hsz, Nat.mul_comm, Nat.mul_add_mod, Nat.mod_eq_of_lt hj]
  simp at hu
  rw [getElem!_def, hu]

theorem fill_rows {e : Ty} : ∀ {vs : List (Nat × AV)} {us : List (Nat × Value)} {ps : List (Nat × e.T)} {xs : List e.T} {cells : Array Value}, PartsRel X vs us → rdParts e vs = some ps → RowsRel X.T X.w e xs 0 cells → cells.size = xs.length * e.sz →
    (∀ x ∈ vs, x.1 < xs.length) → ∃ cells', Instr.fill (fun i => some (i * e.sz, e.sz)) cells us = some cells' ∧ RowsRel X.T X.w e (setParts e xs ps) 0 cells' ∧ cells'.size = xs.length * e.sz ∧ (setParts e xs ps).length = xs.length := by
  intro vs
  induction vs with
  | nil =>
    intro us ps xs cells hp hr hR hs hlt
    cases us with
    | nil => cases hr; exact ⟨cells, rfl, hR, hs, rfl⟩
    | cons u us => exact hp.elim
  | cons v vs ih =>
    intro us ps xs cells hp hr hR hs hlt
    obtain ⟨i, v⟩ := v
    cases us with
    | nil => exact hp.elim
    | cons u us =>
      obtain ⟨j, u⟩ := u
      obtain ⟨rfl, hv, hp⟩ := hp
      simp only [rdParts] at hr
      obtain ⟨-, g1⟩ := bif_true hr
      obtain ⟨x, h1, g2⟩ := obind g1
      obtain ⟨ps', h2, g3⟩ := obind g2
      cases g3
      have hx := rdAll_tree hv h1
      have hi : i < xs.length := hlt (i, v) List.mem_cons_self
      have hu : u.cells.size = e.sz := by have := hx.len; simpa using this
      have hle : i * e.sz + e.sz ≤ cells.size := by
        have : (i + 1) * e.sz ≤ xs.length * e.sz := Nat.mul_le_mul_right _ hi
        rw [Nat.add_mul] at this; omega
      obtain ⟨f1, f2⟩ := Great.foldl_set (i * e.sz) u.cells.toList 0 cells
      have e0 : u.cells.zipIdx.foldl (fun cs (x : Value × Nat) => cs.setIfInBounds (i * e.sz + x.2) x.1) cells = (u.cells.toList.zipIdx 0).foldl (fun cs (x : Value × Nat) => cs.setIfInBounds (i * e.sz + x.2) x.1) cells := by
        rw [← Array.foldl_toList, Array.toList_zipIdx]
      have hR' : RowsRel X.T X.w e (xs.set i x) 0 (u.cells.zipIdx.foldl (fun cs (x : Value × Nat) => cs.setIfInBounds (i * e.sz + x.2) x.1) cells) := by
        intro i' x' hx'
        rw [e0]
        by_cases hii : i = i'
        · subst hii
          rw [List.getElem?_set_self hi] at hx'
          cases hx'
          refine ⟨_, hx, fun j z hz => ?_⟩
          have hj := row_lt hx hz
          rw [f2, if_pos (by simp; omega)]
          rw [show 0 + i * e.sz + j - (i * e.sz + 0) = j from by omega]
          exact hz
        · rw [List.getElem?_set_ne hii] at hx'
          obtain ⟨row, h3, h4⟩ := hR i' x' hx'
          refine ⟨row, h3, fun j z hz => ?_⟩
          have hj := row_lt h3 hz
          rw [f2, if_neg (fun ⟨q1, q2, q3⟩ => hii (mul_add_inj (j := 0 + i' * e.sz + j - i * e.sz) (j' := j) (by omega) (by simp at q2; omega) hj).1)]
          exact h4 j z hz
      obtain ⟨cells', h5, h6, h7, h8⟩ := ih (xs := xs.set i x) hp h2 hR' (by rw [e0, f1, hs]; simp) (fun y hy => by simpa using hlt y (List.mem_cons_of_mem _ hy))
      refine ⟨cells', ?_, h6, by rw [h7]; simp, by rw [setParts, h8]; simp⟩
      unfold Instr.fill
      simp only [hu]
      rw [if_neg (by simp; omega)]
      rw [← h5]

theorem newRow_run {w : World} (t : TypeId) (cs : Array Value) : (newRow t cs).run P w = .ok ⟨w.heap.size, 0, none⟩ (w.alloc (.cells cs t)) := by
  simp [newRow, newObj, Sem.run]

theorem pop_buildSlice {t : TypeId} {len : Nat} {parts : Array (Nat × Operand)} (h : pop P X.H X.n fr ty (.buildSlice t len parts) k = some r) (hf : FRel X fr a.tmps) (hT : ∀ b, X.T b → b < X.w.heap.size) : ∃ d bs, k d bs = some r ∧ Runs P a X ty (.buildSlice t len parts) d bs := by
  simp only [pop] at h
  obtain ⟨e, h1, g1⟩ := obind h
  obtain ⟨τ, h2, g2⟩ := obind g1
  obtain ⟨vs, h3, g3⟩ := obind g2
  obtain ⟨ps, h4, g4⟩ := obind g3
  obtain ⟨h5, g5⟩ := bif_true g4
  simp only [Bool.and_eq_true, List.all_eq_true] at h5
  have h6 := Nat.le_of_ble_eq_true h5.1
  obtain ⟨i, z, i1, i2, i3, -, i5⟩ := tyC_sound h2
  have hu := elemT_run h1
  have hp := evParts_sound (P := P) hf h3
  have hz := i5 X.T X.w
  have hzs : z.cells.size = τ.sz := by have := hz.len; simpa using this
  have hR := rows_zero hz len
  obtain ⟨cells', f1, f2, f3, f4⟩ := fill_rows hp h4 hR (by simp) (fun x hx => by have := Nat.le_of_ble_eq_true (h5.2 x hx); simp; omega)
  have hlen : (setParts τ (List.replicate len τ.zero) ps).length = len := by rw [f4]; simp
  obtain ⟨n1, n2⟩ := GR.newArr (cap := len) hT e f2 (by omega) (by rw [f3]; simp)
  rw [hlen] at n2
  refine ⟨_, _, g5, _, _, n1, DRel.one n2, fun o ho _ => ?_⟩
  have hfill : Instr.fill (fun i => some (i * τ.sz, τ.sz)) ((Array.range (len * τ.sz)).map ((if len * τ.sz = 0 then #[] else z.cells)[· % (if len * τ.sz = 0 then #[] else z.cells).size]!)) (parts.map fun (i, x) => (i, a.eval x)).toList = some cells' := by
    rw [Array.toList_map]
    by_cases h0 : len * τ.sz = 0
    · rw [← f1]
      simp [h0, show Array.range 0 = #[] from rfl]
    · rw [if_neg h0]; exact f1
  simp only [execOp, ho, Instr.buildSlice, Sem.run_bind, run_underlying hu, Result.andThen_ok, sizeOf, typeInfo, i1, Sem.run_pure, i2]
  rw [show ((program : Sem Program).run P X.w) = .ok P X.w from rfl]
  simp only [Result.andThen_ok, i1, Sem.run_pure, i2]
  rw [if_neg (by simpa using h6)]
  by_cases h0 : len * τ.sz = 0
  · simp only [h0, if_true, Sem.run_bind, Sem.run_pure, Result.andThen_ok] at hfill ⊢
    rw [hfill]
    simp only [Sem.run_bind, newRow_run, Result.andThen_ok, Sem.run_pure]
    rfl
  · simp only [h0, if_false, zeroValue, typeInfo, Sem.run_bind, Result.andThen_ok] at hfill ⊢
    rw [show ((program : Sem Program).run P X.w) = .ok P X.w from rfl]
    simp only [Result.andThen_ok, i1, i3, Sem.run_pure]
    rw [hfill]
    simp only [Sem.run_bind, newRow_run, Result.andThen_ok, Sem.run_pure]
    rfl

theorem csRel_one {X : Cx} {c : Cell} {u : Value} (hc : CRel X c u) : CsRel X [c] [u] := ⟨rfl, fun j c' hj => by
  cases j with
  | zero => simp at hj; subst hj; exact ⟨_, rfl, hc⟩
  | succ j => simp at hj⟩

theorem pop_convert {s t : TypeId} {x : Operand} (h : pop P X.H X.n fr ty (.convert s t x) k = some r) (hH : HBl X) (hf : FRel X fr a.tmps) : ∃ d bs, k d bs = some r ∧ Runs P a X ty (.convert s t x) d bs := by
  simp only [pop] at h
  cases hs : P.underlying s with
  | none => rw [hs] at h; cases h
  | some ds =>
    rw [hs] at h
    simp only [isNone?, cond_false] at h
    obtain ⟨c1, h1, h⟩ := obind h
    have hc := ev1_sound h1 hf
    split at h
    · rename_i k' n ik hd
      refine ⟨_, _, h, Runs.same (.int ik (ik.wrap n)) (DRel.one ⟨rfl, rfl⟩) fun o ho => ?_⟩
      simp [execOp, ho, convert, run_underlying hs, run_underlying hd, show a.eval x = .int k' n from hc.2, Conv.intToInt]
    · rename_i s' hd
      refine ⟨_, _, h, Runs.same (.string s') (DRel.one ⟨rfl, rfl⟩) fun o ho => ?_⟩
      simp [execOp, ho, convert, run_underlying hs, run_underlying hd, show a.eval x = .string s' from hc.2]
    · rename_i hd
      obtain ⟨hu, h⟩ := bif_true h
      split at h
      · rename_i xs hrd
        obtain ⟨e, he, h8⟩ : ∃ e, ds = .slice e ∧ P.underlying e = some (.int .u8) := by
          unfold isU8s at hu
          rw [hs] at hu
          simp only at hu
          split at hu
          · rename_i e
            refine ⟨_, ‹some _ = some _› |> Option.some.inj, ?_⟩
            split at hu
            · assumption
            · cases hu
          · cases hu
        subst he
        have hcs := csRel_one hc
        obtain ⟨⟨A, cap, hv, hle, hrow⟩, -⟩ := rd_sound (S := fun _ => True) (H := X.H) (fun _ _ => trivial) (fun r b hg => ⟨(hH r b hg).2, hg⟩) (fun _ _ _ _ _ _ => trivial) hcs hrd
        have hv' : a.eval x = .slice A xs.length cap := by simpa [Ty.sz] using hv
        refine ⟨_, _, h, Runs.same (.string (strOf xs)) (DRel.one ⟨rfl, rfl⟩) fun o ho => ?_⟩
        have key : (Conv.bytesToString (.slice A xs.length cap)).run P X.w = .ok (.string (strOf xs)) X.w := by
          cases A with
          | none =>
            rcases hrow with rfl | ⟨b, o', h1, -⟩
            · simp [Conv.bytesToString, strOf, Sem.run_pure]
            · cases h1
          | some A =>
            refine run_bytesToString X.w A xs.length cap xs ?_
            rcases hrow with rfl | ⟨b, o', h1, -, h2⟩
            · have := run_loadCells_list (P := P) (w := X.w) A [] (fun j v hj => by simp at hj)
              simpa using this
            · cases h1
              have := run_loadCells_list (P := P) (w := X.w) ⟨b, o', none⟩ (xs.map (Value.int .u8)) (fun j v hj => by
                rw [List.getElem?_map] at hj
                cases hx : xs[j]? with
                | none => rw [hx] at hj; cases hj
                | some n =>
                  rw [hx] at hj; cases hj
                  obtain ⟨row, k1, k2⟩ := h2 j n hx
                  have k1' : row = [Value.int .u8 n] := k1
                  subst k1'
                  have := k2 0 _ rfl
                  have e : Addr.add ⟨b, o', none⟩ j = ⟨b, o' + j, none⟩ := by
                    simp only [Addr.add]
                    split
                    · rename_i hj0; subst hj0; rfl
                    · rfl
                  rw [e]
                  simpa [Ty.sz] using this)
              simpa using this
        simp [execOp, ho, convert, run_underlying hs, run_underlying hd, run_underlying h8, hv', key]
      · cases h
    · cases h

end
end Go.Proofs.Ytgmcefnlcalagaa.AM
