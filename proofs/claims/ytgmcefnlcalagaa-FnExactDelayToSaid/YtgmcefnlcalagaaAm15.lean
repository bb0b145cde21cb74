/- The abstract machine: append does what Go's does. No condition. -/
import Derived.Test.YtgmcefnlcalagaaAm14
namespace Go.Proofs.Ytgmcefnlcalagaa.AM
open Go Go.RowKit
set_option linter.unusedSimpArgs false
set_option linter.unusedVariables false

section
variable {α : Type} {P : Program} {Z : Nat → Prop}

theorem rows_append {T : Nat → Prop} {w : World} {e : Ty} {xs ys : List e.T} {c1 c2 rest : Array Value} (h1 : RowsRel T w e xs 0 c1) (h2 : RowsRel T w e ys 0 c2) (s1 : c1.size = xs.length * e.sz) (s2 : c2.size = ys.length * e.sz) :
    RowsRel T w e (xs ++ ys) 0 (c1 ++ c2 ++ rest) := by
  intro i x hx
  rcases Nat.lt_or_ge i xs.length with q | q
  · rw [List.getElem?_append_left q] at hx
    obtain ⟨row, r1, r2⟩ := h1 i x hx
    refine ⟨row, r1, fun j u hu => ?_⟩
    have hj := row_lt r1 hu
    have := r2 j u hu
    have hlt : i * e.sz + j < xs.length * e.sz := by
      have : (i + 1) * e.sz ≤ xs.length * e.sz := Nat.mul_le_mul_right _ q
      rw [Nat.add_mul] at this; omega
    rw [Array.append_assoc, Array.getElem?_append_left (by omega)]
    exact this
  · rw [List.getElem?_append_right q] at hx
    obtain ⟨row, r1, r2⟩ := h2 _ x hx
    refine ⟨row, r1, fun j u hu => ?_⟩
    have hj := row_lt r1 hu
    have hi : i - xs.length < ys.length := by
      rcases Nat.lt_or_ge (i - xs.length) ys.length with q | q
      · exact q
      · rw [List.getElem?_eq_none q] at hx; cases hx
    have := r2 j u hu
    have e1 : i * e.sz = xs.length * e.sz + (i - xs.length) * e.sz := by rw [← Nat.add_mul]; congr 1; omega
    have hlt : (i - xs.length) * e.sz + j < ys.length * e.sz := by
      have : (i - xs.length + 1) * e.sz ≤ ys.length * e.sz := Nat.mul_le_mul_right _ hi
      rw [Nat.add_mul] at this; omega
    rw [Array.append_assoc, Array.getElem?_append_right (by omega), Array.getElem?_append_left (by omega)]
    rw [show 0 + i * e.sz + j - c1.size = 0 + (i - xs.length) * e.sz + j from by omega]
    exact this

theorem drew_cell (w : World) (b o : Nat) : w.drew.cell? ⟨b, o, none⟩ = w.cell? ⟨b, o, none⟩ := rfl

theorem isTy_app {ats : Array TypeId} {st t2 e : TypeId} {τ : Ty} (h0 : ats[0]? = some st) (h1 : ats[1]? = some t2) (he : elemT P st = some e) (ht : tailTy P t2 = true) (hi : isTy P e τ = true) : AppT P ats e τ := by
  unfold isTy at hi
  split at hi
  · rename_i τ' hq
    have := of_decide_eq_true hi
    subst this
    obtain ⟨i, z, i1, i2, i3, -, i5⟩ := tyC_sound hq
    refine ⟨⟨st, t2, h0, h1, elemT_run he, ?_⟩, by simp [szT, i1, i2], i, z, i1, i3, ?_⟩
    · unfold tailTy at ht
      split at ht
      · exact .inl ⟨_, by assumption⟩
      · exact .inr (by assumption)
      · cases ht
    · have := (i5 (fun _ => True) default).len
      simpa using this
  · cases hi

/-- Own array r, a part of it with what is appended: the common part of both cases. -/
theorem append_own {X : Cx} {ats : Array TypeId} {e : TypeId} {τ : Ty} (ht : AppT P ats e τ) {oty : TypeId} (hr : HR Z X) (hZ : ∀ b, Z b → b < X.w.heap.size) {r v off len : Nat} {xs ys zs : List τ.T} {us ux : Value} {x : Cell}
    (hg : X.H.get r = some (.arr v τ xs)) (hzs : zs = (xs.drop off).take len) (hlen : off + len ≤ xs.length) (hs : SlV X r τ.sz off len us) (hx : CRel X x ux) (hy : tailOf X.H τ x = some ys)
    (hb : ((len + ys.length : Nat) : Int) * (bytesT P e : Int) ≤ 140737488355328) (hb2 : len + ys.length ≤ 140737488355328) :
    ∃ X' val, Step Z X X' ∧ X'.H = X.H.set r (.arr (v + 1) τ (zs ++ ys)) ∧ X'.n = X.n ∧ CRel X' (.own r (v + 1)) val ∧ (Builtin.append_ ats oty #[us, ux]).run P X.w = .ok val X'.w := by
  obtain ⟨A, cap, rfl, hlc, hA⟩ := hs
  have hzl : zs.length = len := by rw [hzs]; simp; omega
  have hrn := (hr.blk r _ hg).1
  have hB := (hr.blk r _ hg).2
  obtain ⟨hl, cells, hf, hfs, hfr, hf1⟩ := tail_run (P := P) hr.blk hx hy (w := X.w) (fun _ _ => rfl)
  have hown : ∀ (X' : Cx), X'.n = X.n → X'.H = X.H.set r (.arr (v + 1) τ (zs ++ ys)) → ∀ val, val.oneCell' = true → SlV X' r τ.sz 0 (zs ++ ys).length val → CRel X' (.own r (v + 1)) val := by
    intro X' e1 e2 val h1 h2
    refine ⟨h1, by rw [e1]; exact hrn, fun v' e' xs' hq => ?_⟩
    rw [e2, Heap.get_set, if_pos rfl, hg] at hq
    simp at hq
    obtain ⟨rfl, rfl, hq⟩ := hq
    cases hq
    exact ⟨Nat.le_refl _, fun _ => h2⟩
  by_cases hcap : len + ys.length ≤ cap
  · -- in place
    rcases hA with hA | ⟨b, o, cs, t, fz, q1, rfl, q2, q3⟩
    · have hl0 : len = 0 := by omega
      have hy0 : ys = [] := List.eq_nil_of_length_eq_zero (by omega)
      subst hy0
      have hz0 : zs = [] := List.eq_nil_of_length_eq_zero (by omega)
      have hc0 : cells = #[] := Array.eq_empty_of_size_eq_zero (by simpa using hfs)
      have hrun := append_in (oty := oty) (base := A) (w' := X.w) ht (hl X.w) hf hcap (by cases A <;> simp [hc0, storeCells])
      refine ⟨⟨X.ι, X.T, X.w, X.H.set r (.arr (v + 1) τ (zs ++ [])), X.n⟩, _, ?_, rfl, rfl, ?_, hrun⟩
      · refine bump_step hr hg rfl rfl rfl (fun _ _ => rfl) (fun _ _ _ => rfl) (fun b cs t fz h => ⟨cs, t, fz, h, rfl⟩) (Nat.le_refl _) rfl rfl rfl ?_ (fun k o h => .inl ⟨o, h⟩) hZ
        rcases hB with ⟨p1, p2⟩ | ⟨b, o, cs, t, p1, p2, p3, p4⟩
        · exact .inl ⟨p1, by rw [hz0]; rfl⟩
        · exact .inr ⟨b, o, cs, t, p1, p2, by rw [hz0]; simp; omega, fun i x hx => by rw [hz0] at hx; simp at hx⟩
      · exact hown ⟨X.ι, X.T, X.w, X.H.set r (.arr (v + 1) τ (zs ++ [])), X.n⟩ rfl rfl _ rfl ⟨A, cap, by rw [hz0, hl0]; rfl, by rw [hz0]; simp, .inl hA⟩
    · rcases hB with ⟨p1, p2⟩ | ⟨b', o', cs', t', p1, p2, p3, p4⟩
      · rw [q1] at p1; cases p1
      · rw [q1] at p1; cases p1
        rw [q2] at p2; cases p2
        have hsum : (off + cap) * τ.sz = off * τ.sz + cap * τ.sz := Nat.add_mul _ _ _
        have hcm : (len + ys.length) * τ.sz ≤ cap * τ.sz := Nat.mul_le_mul_right _ hcap
        rw [Nat.add_mul] at hcm
        have hcl : cells.toList.length = cells.size := by simp
        have hfit : (o + off * τ.sz + len * τ.sz) + cells.toList.length ≤ cs.size := by omega
        have hst := run_storeCells_at P b (o + off * τ.sz + len * τ.sz) t cells.toList 0 cs X.w q2 (by simpa using hfit) hf1
        have hrun := append_in (oty := oty) (base := some ⟨b, o + off * τ.sz, none⟩) (w' := X.w.setRow b (laid cs (o + off * τ.sz + len * τ.sz) cells.toList)) ht (hl X.w) hf hcap (by
          simp only [add_none]
          simpa [laid] using hst)
        let X' : Cx := ⟨fun r' => if r' = r then some (b, o + off * τ.sz) else X.ι r', X.T, X.w.setRow b (laid cs (o + off * τ.sz + len * τ.sz) cells.toList), X.H.set r (.arr (v + 1) τ (zs ++ ys)), X.n⟩
        have hlsz := laid_size hfit
        have hTw : ∀ k, X.T k → X'.w.heap[k]? = X.w.heap[k]? := fun k hk => setRow_other _ _ _ _ (fun e1 => by subst e1; exact (hr.apart r _ _ o hg q1).1 hk)
        have hlaid : (zs ++ ys).length * τ.sz = len * τ.sz + ys.length * τ.sz := by rw [List.length_append, hzl, Nat.add_mul]
        refine ⟨X', _, ?_, rfl, rfl, hown X' rfl rfl _ rfl ⟨_, cap, by rw [List.length_append, hzl], by rw [List.length_append, hzl]; exact hcap, .inr ⟨b, o + off * τ.sz, laid cs (o + off * τ.sz + len * τ.sz) cells.toList, t, (0, 0), by simp [X'], by simp, setRow_heap _ _ _ _ _ _ q2, by rw [hlsz]; simp; omega⟩⟩, hrun⟩
        refine bump_step hr hg rfl rfl rfl (fun r' ne => by simp [X', ne]) (fun k hk _ => setRow_other _ _ _ _ (fun e1 => by subst e1; exact hk o q1)) ?_ (by simp [X', setRow_size]) rfl rfl rfl ?_ (fun k o2 h => .inl ?_) hZ
        · intro b1 cs1 t1 fz1 h1
          by_cases e1 : b1 = b
          · subst e1
            rw [q2] at h1; cases h1
            exact ⟨_, t, (0, 0), setRow_heap _ _ _ _ _ _ q2, hlsz⟩
          · exact ⟨cs1, t1, fz1, (setRow_other _ _ _ _ e1).trans h1, rfl⟩
        · refine .inr ⟨b, o + off * τ.sz, laid cs (o + off * τ.sz + len * τ.sz) cells.toList, t, by simp [X'], setRow_heap _ _ _ _ _ _ q2, by rw [hlsz, hlaid]; omega, fun i y hy' => ?_⟩
          rcases Nat.lt_or_ge i zs.length with q | q
          · rw [List.getElem?_append_left q] at hy'
            rw [hzs, List.getElem?_take] at hy'
            split at hy'
            · rename_i hil
              rw [List.getElem?_drop] at hy'
              obtain ⟨row, r1, r2⟩ := p4 _ y hy'
              refine ⟨row, TRel.mono (fun _ h => h) hTw r1, fun j u hu => ?_⟩
              have hj := row_lt r1 hu
              have h5 : (i + 1) * τ.sz ≤ len * τ.sz := Nat.mul_le_mul_right _ hil
              rw [Nat.add_mul, Nat.one_mul] at h5
              rw [laid_get hfit, if_neg (by omega)]
              have := r2 j u hu
              rwa [Nat.add_mul, ← Nat.add_assoc] at this
            · cases hy'
          · rw [List.getElem?_append_right q, hzl] at hy'
            obtain ⟨row, r1, r2⟩ := hfr _ y hy'
            refine ⟨row, TRel.mono (fun _ h => h) hTw r1, fun j u hu => ?_⟩
            have hj := row_lt r1 hu
            have hi : i - len < ys.length := by
              rcases Nat.lt_or_ge (i - len) ys.length with q' | q'
              · exact q'
              · rw [List.getElem?_eq_none q'] at hy'; cases hy'
            have h5 : (i - len + 1) * τ.sz ≤ ys.length * τ.sz := Nat.mul_le_mul_right _ hi
            rw [Nat.add_mul, Nat.one_mul] at h5
            have h6 : i * τ.sz = len * τ.sz + (i - len) * τ.sz := by rw [← Nat.add_mul]; congr 1; omega
            have := r2 j u hu
            rw [laid_get hfit, if_pos (by omega)]
            rw [show o + off * τ.sz + i * τ.sz + j - (o + off * τ.sz + len * τ.sz) = 0 + (i - len) * τ.sz + j from by omega]
            simpa using this
        · simp [X'] at h
          exact ⟨o, by rw [← h.1]; exact q1⟩
  · -- elsewhere
    obtain ⟨-, cells2, hf2, hfs2, hfr2, hf12⟩ := tail_run (P := P) hr.blk hx hy (w := X.w.drew) (fun _ _ => rfl)
    have hsl : SlRows X τ zs (.slice A len cap) := by
      refine ⟨A, cap, by rw [hzl], by omega, ?_⟩
      rcases hA with hA | ⟨b, o, cs, t, fz, q1, rfl, q2, q3⟩
      · left; exact List.eq_nil_of_length_eq_zero (by omega)
      · rcases hB with ⟨p1, p2⟩ | ⟨b', o', cs', t', p1, p2, p3, p4⟩
        · rw [q1] at p1; cases p1
        · rw [q1] at p1; cases p1
          refine .inr ⟨b, o + off * τ.sz, rfl, fun i y hy' => ?_⟩
          rw [hzs, List.getElem?_take] at hy'
          split at hy'
          · rw [List.getElem?_drop] at hy'
            obtain ⟨row, r1, r2⟩ := p4 _ y hy'
            refine ⟨row, r1, cellsAt_of p2 fun j u hu => ?_⟩
            have := r2 j u hu
            rwa [Nat.add_mul, ← Nat.add_assoc] at this
          · cases hy'
    obtain ⟨old, ho, hos, hor, ho1⟩ := first_run (P := P) hsl (w := X.w.drew) (fun _ _ => rfl)
    rw [hzl] at ho
    obtain ⟨nc, rest, n1, n2, hrun⟩ := append_new (oty := oty) ht (hl X.w) hf2 ho hcap hb hb2
    let blk : Array Value := old ++ cells2 ++ rest
    let X' : Cx := ⟨fun r' => if r' = r then some (X.w.heap.size, 0) else X.ι r', X.T, X.w.drew.alloc (.cells blk e), X.H.set r (.arr (v + 1) τ (zs ++ ys)), X.n⟩
    have hold : ∀ k, k < X.w.heap.size → X'.w.heap[k]? = X.w.heap[k]? := fun k hk => Below.heap_alloc X.w.drew _ _ hk
    have hbs : blk.size = nc * τ.sz := by
      simp only [blk, Array.size_append, hos, hfs2, n2, hzl]
      rw [← Nat.add_mul, ← Nat.add_mul]
      congr 1; omega
    have hroom : (zs ++ ys).length * τ.sz ≤ nc * τ.sz := Nat.mul_le_mul_right _ (by rw [List.length_append, hzl]; exact n1)
    have hnb : X'.w.heap[X.w.heap.size]? = some (.cells blk e (0, 0)) := heap_alloc_new X.w.drew _
    refine ⟨X', _, ?_, rfl, rfl, hown X' rfl rfl _ rfl ⟨_, nc, by rw [List.length_append, hzl], by rw [List.length_append, hzl]; exact n1, .inr ⟨X.w.heap.size, 0, blk, e, (0, 0), by simp [X'], by simp, hnb, by rw [hbs]; simp⟩⟩, hrun⟩
    refine bump_step hr hg rfl rfl rfl (fun r' ne => by simp [X', ne]) (fun k _ hk => hold k hk) (fun b cs t fz h => ⟨cs, t, fz, (hold b (lt_of_cells h)).trans h, rfl⟩) (by simp [X']) rfl rfl rfl ?_ (fun k o2 h => .inr ?_) hZ
    · refine .inr ⟨X.w.heap.size, 0, blk, e, by simp [X'], hnb, by rw [hbs]; omega, fun i y hy' => ?_⟩
      obtain ⟨row, r1, r2⟩ := rows_append (rest := rest) hor hfr2 hos hfs2 i y hy'
      exact ⟨row, TRel.mono (fun _ h => h) (fun k hk => hold k (hr.T k hk)) r1, r2⟩
    · simp [X'] at h
      omega

/-- A nil slice: the first version of a new own array. -/
theorem append_emp {X : Cx} {ats : Array TypeId} {e : TypeId} {τ : Ty} (ht : AppT P ats e τ) {oty : TypeId} (hr : HR Z X) (hZ : ∀ b, Z b → b < X.w.heap.size) {ys : List τ.T} {ux : Value} {x : Cell} (hx : CRel X x ux) (hy : tailOf X.H τ x = some ys)
    (hb : (ys.length : Int) * (bytesT P e : Int) ≤ 140737488355328) (hb2 : ys.length ≤ 140737488355328) :
    ∃ X' val, Step Z X X' ∧ X'.H = (X.n, .arr 0 τ ys) :: X.H ∧ X'.n = X.n + 1 ∧ CRel X' (.own X.n 0) val ∧ (Builtin.append_ ats oty #[.slice none 0 0, ux]).run P X.w = .ok val X'.w := by
  obtain ⟨hl, cells, hf, hfs, hfr, hf1⟩ := tail_run (P := P) hr.blk hx hy (w := X.w) (fun _ _ => rfl)
  have hown : ∀ (X' : Cx), X'.n = X.n + 1 → X'.H = (X.n, .arr 0 τ ys) :: X.H → ∀ val, val.oneCell' = true → SlV X' X.n τ.sz 0 ys.length val → CRel X' (.own X.n 0) val := by
    intro X' e1 e2 val h1 h2
    refine ⟨h1, by rw [e1]; omega, fun v' e' xs' hq => ?_⟩
    rw [e2] at hq
    simp only [Heap.get, beq_true, cond_true] at hq
    cases hq
    exact ⟨Nat.le_refl _, fun _ => h2⟩
  by_cases hy0 : ys = []
  · subst hy0
    have hc0 : cells = #[] := Array.eq_empty_of_size_eq_zero (by simpa using hfs)
    have hrun := append_in (oty := oty) (base := none) (len := 0) (cap := 0) (w' := X.w) ht (hl X.w) hf (by simp) (by simp)
    let X' : Cx := ⟨fun r => if r = X.n then none else X.ι r, X.T, X.w, newBlks X.n [.arr 0 τ []] ++ X.H, X.n + 1⟩
    have g : GR X [.arr 0 τ []] X' := {
      H := rfl
      n := rfl
      below := Below.refl _ _
      ι := fun r hr' => by simp [X']; intro e1; omega
      T := fun _ h => h
      T' := fun _ h => .inl h
      new := by
        intro i b h
        cases i with
        | zero => simp at h; subst h; exact .inl ⟨by simp [X'], rfl⟩
        | succ i => simp at h
      fresh := by
        intro i b k o h h2
        cases i with
        | zero => simp [X'] at h2
        | succ i => simp at h
      inj := by intro i j k o o' h1 h2; simp at h1 h2; omega }
    exact ⟨X', _, Step.gr hr g hZ, rfl, rfl, hown X' rfl rfl _ rfl ⟨none, 0, by simp, by simp, .inl rfl⟩, hrun⟩
  · obtain ⟨-, cells2, hf2, hfs2, hfr2, hf12⟩ := tail_run (P := P) hr.blk hx hy (w := X.w.drew) (fun _ _ => rfl)
    have hpos : 0 < ys.length := List.length_pos_iff.2 hy0
    obtain ⟨nc, rest, n1, n2, hrun⟩ := append_new (oty := oty) (base := none) (len := 0) (cap := 0) (old := #[]) ht (hl X.w) hf2 (by simp [Builtin.firstCells]) (by omega) (by simpa using hb) (by simpa using hb2)
    have hrows : RowsRel X.T X.w τ ys 0 (#[] ++ cells2 ++ rest) := by
      have := rows_append (xs := ([] : List τ.T)) (c1 := #[]) (rest := rest) (fun i x hx => by simp at hx) hfr2 (by simp) hfs2
      simpa using this
    have hsz : (#[] ++ cells2 ++ rest).size = nc * τ.sz := by
      simp only [Array.size_append, hfs2, n2, Array.size_empty, Nat.zero_add]
      rw [← Nat.add_mul]
      congr 1; omega
    let X' : Cx := ⟨fun r => if r = X.n then some (X.w.heap.size, 0) else X.ι r, X.T, X.w.drew.alloc (.cells (#[] ++ cells2 ++ rest) e), newBlks X.n [.arr 0 τ ys] ++ X.H, X.n + 1⟩
    have hbel : Below X.w.heap.size X.w X'.w := (Below.drew (Below.refl _ _)).alloc (Nat.le_refl _) _
    have hnb : X'.w.heap[X.w.heap.size]? = some (.cells (#[] ++ cells2 ++ rest) e (0, 0)) := heap_alloc_new X.w.drew _
    have hroom : ys.length * τ.sz ≤ nc * τ.sz := Nat.mul_le_mul_right _ (by omega)
    have g : GR X [.arr 0 τ ys] X' := {
      H := rfl
      n := rfl
      below := hbel
      ι := fun r hr' => by simp [X']; intro e1; omega
      T := fun _ h => h
      T' := fun _ h => .inl h
      new := by
        intro i b h
        cases i with
        | zero =>
          simp at h; subst h
          refine .inr ⟨X.w.heap.size, 0, _, e, by simp [X'], hnb, by rw [hsz]; omega, fun i x hx => ?_⟩
          obtain ⟨row, r1, r2⟩ := hrows i x hx
          exact ⟨row, TRel.mono (fun _ h => h) (fun k hk => hbel.block k (hr.T k hk)) r1, r2⟩
        | succ i => simp at h
      fresh := by
        intro i b k o h h2
        cases i with
        | zero => simp [X'] at h2; exact ⟨by omega, fun ht' => by have := hr.T k ht'; omega⟩
        | succ i => simp at h
      inj := by intro i j k o o' h1 h2; simp at h1 h2; omega }
    refine ⟨X', _, Step.gr hr g hZ, rfl, rfl, hown X' rfl rfl _ rfl ⟨_, nc, by rw [Nat.zero_add], by omega, .inr ⟨X.w.heap.size, 0, _, e, (0, 0), by simp [X'], by simp, hnb, by rw [hsz]; simp⟩⟩, hrun⟩

end
end Go.Proofs.Ytgmcefnlcalagaa.AM
