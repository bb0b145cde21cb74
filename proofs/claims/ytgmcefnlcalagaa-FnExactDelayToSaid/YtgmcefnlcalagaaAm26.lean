/- The abstract machine: what an argument reads as is a tree. No condition. -/
import Derived.Test.YtgmcefnlcalagaaAm25
import Derived.ChangeArms
namespace Go.Proofs.Ytgmcefnlcalagaa.AM
open Go Go.RowKit Go.ChangeShapes
set_option linter.unusedSimpArgs false
set_option linter.unusedVariables false

def chkF (c : TypeId → Ty → Bool) : Nat → List Field → Ty → Bool
  | _, [], τ => match τ with
    | .unit => true
    | _ => false
  | off, [f], τ => match τ with
    | .prod a b => Nat.beq f.offset off && c f.type a && decide (b = .unit)
    | _ => false
  | off, [f, g], τ => match τ with
    | .prod a b => Nat.beq f.offset off && c f.type a && Nat.beq g.offset (off + a.sz) && c g.type b
    | _ => false
  | off, f :: g :: h :: fs, τ => match τ with
    | .prod a b => Nat.beq f.offset off && c f.type a && chkF c (off + a.sz) (g :: h :: fs) b
    | _ => false

/-- Does type t of the table stand for τ, with the sizes and places of its parts? -/
def chk (P : Program) : Nat → TypeId → Ty → Bool
  | 0, _, _ => false
  | n + 1, t, τ => Nat.beq (P.cellsOf t) τ.sz && match P.underlying t, τ with
    | some (.int k), .int k' => decide (k = k')
    | some .bool, .bool => true
    | some .string, .str => true
    | some (.slice e), .slice τe => chk P n e τe && Nat.blt 0 τe.sz
    | some (.struct fs), τ => chkF (chk P n) 0 fs.toList τ
    | _, _ => false

/-- Numbers fit their kinds, and nothing is longer than Go allows. -/
def Ty.wf : (τ : Ty) → τ.T → Prop
  | .int k, n => (Lit.int k n).wf = true
  | .bool, _ => True
  | .str, s => s.size ≤ maxLen
  | .unit, _ => True
  | .prod a b, x => a.wf x.1 ∧ b.wf x.2
  | .slice e, xs => xs.length ≤ maxLen ∧ ∀ x ∈ xs, e.wf x

theorem mapM_some_get {α β : Type} {f : α → Option β} : ∀ {l : List α} {r : List β}, l.mapM f = some r → r.length = l.length ∧ ∀ (i : Nat) (a : α), l[i]? = some a → ∃ b, f a = some b ∧ r[i]? = some b := by
  intro l
  induction l with
  | nil => intro r h; simp at h; subst h; exact ⟨rfl, fun i a h => by simp at h⟩
  | cons x l ih =>
    intro r h
    rw [List.mapM_cons] at h
    cases h1 : f x with
    | none => rw [h1] at h; cases h
    | some b =>
      cases h2 : l.mapM f with
      | none => rw [h1, h2] at h; cases h
      | some r' =>
        rw [h1, h2] at h
        cases h
        obtain ⟨k1, k2⟩ := ih h2
        refine ⟨by simp [k1], fun i a hi => ?_⟩
        cases i with
        | zero => simp at hi; subst hi; exact ⟨b, h1, rfl⟩
        | succ i => simpa using k2 i a (by simpa using hi)

section
variable {H : Type} {enc : TypeId × Value → H} {P : Program} {W : World} {sp : Nat → Bool} {hd : Bool}

theorem chkF_sound {c : TypeId → Ty → Bool} {g : TypeId → List Value → Option (DataW H × List MemPlace)} {T : Nat → Prop}
    (ih : ∀ t τ cs y, c t τ = true → g t cs = some y → ∃ x, TRel T W τ x cs ∧ τ.wf x) (hsz : ∀ t τ, c t τ = true → P.cellsOf t = τ.sz) :
    ∀ (fs : List Field) (τ : Ty) (off : Nat) (cs : List Value), chkF c off fs τ = true → (∀ f ∈ fs, ∃ y, g f.type ((cs.drop f.offset).take (P.cellsOf f.type)) = some y) → cs.length = off + τ.sz →
      ∃ x, TRel T W τ x (cs.drop off) ∧ τ.wf x := by
  have one : ∀ (f : Field) (a : Ty) (off : Nat) (cs : List Value), Nat.beq f.offset off = true → c f.type a = true → (∃ y, g f.type ((cs.drop f.offset).take (P.cellsOf f.type)) = some y) → ∃ x, TRel T W a x ((cs.drop off).take a.sz) ∧ a.wf x := by
    rintro f a off cs h1 h2 ⟨y, h3⟩
    obtain ⟨x, k1, k2⟩ := ih _ _ _ _ h2 h3
    rw [Nat.eq_of_beq_eq_true h1, hsz _ _ h2] at k1
    exact ⟨x, k1, k2⟩
  intro fs
  induction fs with
  | nil =>
    intro τ off cs h1 h2 h3
    cases τ <;> simp [chkF] at h1
    simp [Ty.sz] at h3
    refine ⟨(), ?_, trivial⟩
    show cs.drop off = []
    exact List.drop_of_length_le (by omega)
  | cons f fs ihf =>
    intro τ off cs h1 h2 h3
    cases fs with
    | nil =>
      cases τ <;> simp only [chkF, Bool.false_eq_true] at h1
      rename_i a b
      simp only [Bool.and_eq_true, decide_eq_true_eq] at h1
      obtain ⟨⟨h4, h5⟩, rfl⟩ := h1
      simp only [Ty.sz] at h3
      obtain ⟨x1, k1, k2⟩ := one f a off cs h4 h5 (h2 f (by simp))
      refine ⟨(x1, ()), ⟨_, [], ?_, k1, rfl⟩, k2, trivial⟩
      rw [List.append_nil, List.take_of_length_le]
      simp; omega
    | cons f2 fs =>
      cases fs with
      | nil =>
        cases τ <;> simp only [chkF, Bool.false_eq_true] at h1
        rename_i a b
        simp only [Bool.and_eq_true] at h1
        obtain ⟨⟨⟨h4, h5⟩, h6⟩, h7⟩ := h1
        simp only [Ty.sz] at h3
        obtain ⟨x1, k1, k2⟩ := one f a off cs h4 h5 (h2 f (by simp))
        obtain ⟨x2, k3, k4⟩ := one f2 b (off + a.sz) cs h6 h7 (h2 f2 (by simp))
        refine ⟨(x1, x2), ⟨_, _, ?_, k1, k3⟩, k2, k4⟩
        rw [← List.drop_drop, List.take_of_length_le (l := List.drop a.sz (List.drop off cs)) (by simp; omega), List.take_append_drop]
      | cons f3 fs =>
        cases τ <;> simp only [chkF, Bool.false_eq_true] at h1
        rename_i a b
        simp only [Bool.and_eq_true] at h1
        obtain ⟨⟨h4, h5⟩, h6⟩ := h1
        simp only [Ty.sz] at h3
        obtain ⟨x1, k1, k2⟩ := one f a off cs h4 h5 (h2 f (by simp))
        obtain ⟨x2, k3, k4⟩ := ihf b (off + a.sz) cs h6 (fun f hf => h2 f (List.mem_cons_of_mem _ hf)) (by omega)
        refine ⟨(x1, x2), ⟨_, _, ?_, k1, k3⟩, k2, k4⟩
        rw [← List.drop_drop, List.take_append_drop]

theorem cells?_at {base : Nat} {a : Addr} {n : Nat} {row : List Value} (h : W.cells? base a n = some row) : row.length = n ∧ ∀ j u, row[j]? = some u → W.cell? (a.add j) = some u := by
  unfold World.cells? at h
  split at h
  · obtain ⟨h1, h2⟩ := mapM_some_get h
    simp at h1
    refine ⟨h1, fun j u hj => ?_⟩
    have hj' : j < n := by rw [← h1]; exact (List.getElem?_eq_some_iff.1 hj).1
    obtain ⟨b, k1, k2⟩ := h2 j j (by simp [hj'])
    rw [hj] at k2; cases k2
    exact k1
  · cases h

theorem cell?_plain {a : Addr} {u : Value} (h : W.cell? a = some u) : a.spot = none ∧ a.block < W.heap.size := by
  unfold World.cell? at h
  split at h
  · rename_i c t fz hb
    refine ⟨?_, lt_of_cells hb⟩
    cases hs : a.spot with
    | none => rfl
    | some k => rw [hs] at h; simp at h
  · cases h

theorem chk_sz {n : Nat} {t : TypeId} {τ : Ty} (h : chk P n t τ = true) : P.cellsOf t = τ.sz := by
  cases n with
  | zero => cases h
  | succ n => simp only [chk, Bool.and_eq_true] at h; exact Nat.eq_of_beq_eq_true h.1

theorem exists_list {α : Type} {p : Nat → α → Prop} : ∀ (n : Nat), (∀ i, i < n → ∃ x, p i x) → ∃ l : List α, l.length = n ∧ ∀ i x, l[i]? = some x → p i x := by
  intro n
  induction n with
  | zero => intro _; exact ⟨[], rfl, fun i x h => by simp at h⟩
  | succ n ih =>
    intro h
    obtain ⟨l, h1, h2⟩ := ih fun i hi => h i (by omega)
    obtain ⟨x, hx⟩ := h n (by omega)
    refine ⟨l ++ [x], by simp [h1], fun i y hi => ?_⟩
    rcases Nat.lt_or_ge i n with q | q
    · rw [List.getElem?_append_left (by omega)] at hi; exact h2 i y hi
    · rw [List.getElem?_append_right (by omega), h1] at hi
      have : i = n := by
        rcases Nat.eq_or_lt_of_le q with e | e
        · exact e.symm
        · rw [List.getElem?_eq_none (by simp; omega)] at hi; cases hi
      subst this
      simp at hi; subst hi; exact hx

theorem trod_tree : ∀ (n : Nat) (t : TypeId) (τ : Ty) (fuel : Nat) (cs : List Value) (y : DataW H × List MemPlace), chk P n t τ = true → DataW.trod enc P W 0 sp hd fuel t cs = some y → ∃ x, TRel (fun b => b < W.heap.size) W τ x cs ∧ τ.wf x := by
  intro n
  induction n with
  | zero => intro t τ fuel cs y h; cases h
  | succ n ih =>
    intro t τ fuel cs y h ht
    have hsz := chk_sz h
    simp only [chk, Bool.and_eq_true] at h
    replace h := h.2
    split at h
    · rename_i k k' hu
      have hk := of_decide_eq_true h
      subst hk
      obtain ⟨m, rfl, -, hw⟩ := DataW.trod_int hu ht
      exact ⟨m, rfl, hw⟩
    · rename_i hu
      obtain ⟨b, rfl, -⟩ := DataW.trod_bool hu ht
      exact ⟨b, rfl, trivial⟩
    · rename_i hu
      obtain ⟨s, rfl, -, hs⟩ := DataW.trod_string hu ht
      exact ⟨s, rfl, hs⟩
    · rename_i e τe hu
      simp only [Bool.and_eq_true] at h
      have hpos : 0 < τe.sz := Nat.le_of_ble_eq_true h.2
      have hce := chk_sz h.1
      rcases DataW.trod_slice hu ht with ⟨rfl, -⟩ | ⟨a, len, cap, elems, rest, m, rfl, rfl, -, -, hlc, hcm, hel, hat, -⟩
      · exact ⟨([] : List τe.T), ⟨none, 0, rfl, Nat.le_refl _, .inl rfl⟩, Nat.zero_le _, fun x hx => by cases hx⟩
      · rw [hce] at hat
        have row : ∀ i, i < len → ∃ (x : τe.T), (∃ r, TRel (fun b => b < W.heap.size) W τe x r ∧ cellsAt W a.block (a.off + i * τe.sz) r ∧ a.spot = none ∧ a.block < W.heap.size) ∧ τe.wf x := by
          intro i hi
          have get : ∀ i, i < len → ∃ r z, W.cells? 0 (a.add (i * τe.sz)) τe.sz = some r ∧ DataW.trod enc P W 0 sp hd m e r = some z := fun i hi => by
            have h1 := hat i hi
            rw [List.getElem?_eq_getElem (by omega)] at h1
            simp only [Option.bind_eq_some_iff] at h1
            obtain ⟨r, h2, h3⟩ := h1
            exact ⟨r, _, h2, h3⟩
          have hsp : a.spot = none ∧ a.block < W.heap.size := by
            obtain ⟨r, z, h2, -⟩ := get 0 (by omega)
            obtain ⟨c1, c2⟩ := cells?_at h2
            have := cell?_plain (c2 0 (r[0]'(by omega)) (by simp))
            simpa [Addr.add] using this
          obtain ⟨r, z, h2, h3⟩ := get i hi
          obtain ⟨x, k1, k2⟩ := ih e τe m r _ h.1 h3
          obtain ⟨c1, c2⟩ := cells?_at h2
          refine ⟨x, ⟨r, k1, fun j u hj => ?_, hsp⟩, k2⟩
          have := c2 j u hj
          rw [← this]
          congr 1
          obtain ⟨ab, ao, as⟩ := a
          have hs : as = none := hsp.1
          subst hs
          simp only [Addr.add]
          repeat' split
          all_goals simp_all
          all_goals omega
        obtain ⟨xs, l1, l2⟩ := exists_list len row
        refine ⟨xs, ⟨some a, cap, by rw [l1], by omega, ?_⟩, by omega, fun x hx => ?_⟩
        · cases len with
          | zero => exact .inl (List.length_eq_zero_iff.1 l1)
          | succ len =>
            right
            obtain ⟨⟨r0, -, -, s1, s2⟩, -⟩ := l2 0 (xs[0]'(by omega)) (by simp)
            refine ⟨a.block, a.off, ?_, s2, fun i x hx => ?_⟩
            · cases a; simp at s1; subst s1; rfl
            · obtain ⟨⟨r, q1, q2, -, -⟩, -⟩ := l2 i x hx
              exact ⟨r, q1, q2⟩
        · obtain ⟨i, hi⟩ := List.getElem?_of_mem hx
          exact (l2 i x hi).2
    · rename_i fs hu
      obtain ⟨xs, m, rfl, -, hl, hx, hf⟩ := DataW.trod_struct hu ht
      obtain ⟨x, k1, k2⟩ := chkF_sound (W := W) (P := P) (g := DataW.trod enc P W 0 sp hd m) (T := fun b => b < W.heap.size) (fun t τ cs y h1 h2 => ih t τ m cs y h1 h2) (fun t τ h => chk_sz h) fs.toList _ 0 cs h (fun f hm => by
        obtain ⟨i, hi⟩ := List.getElem?_of_mem hm
        have := hf i f (by simpa using hi)
        have hlt : i < fs.size := by simpa using (List.getElem?_eq_some_iff.1 hi).1
        rw [List.getElem?_eq_getElem (by omega)] at this
        exact ⟨_, this⟩) (by omega)
      exact ⟨x, by simpa using k1, k2⟩
    · cases h

end
end Go.Proofs.Ytgmcefnlcalagaa.AM
