/- Plain laws of loops over lists, weights and equality of trees; no program in sight. No condition. -/
import Derived.Test.YtgmcefnlcalagaaAm31
import Derived.IntWalk
import Derived.Laws.Strings
namespace Go.Proofs.Ytgmcefnlcalagaa.W
open Go Go.RowKit Go.Proofs.Ytgmcefnlcalagaa.AM
set_option linter.unusedSimpArgs false
set_option linter.unusedVariables false

/-- What a value weighs: the lengths of its strings and slices. -/
def wt : (τ : Ty) → τ.T → Nat
  | .int _, _ => 0
  | .bool, _ => 0
  | .str, s => s.size
  | .unit, _ => 0
  | .prod a b, x => wt a x.1 + wt b x.2
  | .slice e, xs => xs.length + (xs.map (wt e)).sum

def lbeq {β γ : Type} (f : β → γ → Bool) : List β → List γ → Bool
  | [], [] => true
  | a :: r, b :: s => f a b && lbeq f r s
  | _, _ => false

def tbeq : (τ : Ty) → τ.T → τ.T → Bool
  | .int _, a, b => a == b
  | .bool, a, b => a == b
  | .str, a, b => a.toList == b.toList
  | .unit, _, _ => true
  | .prod a b, x, y => tbeq a x.1 y.1 && tbeq b x.2 y.2
  | .slice e, x, y => lbeq (tbeq e) x y

theorem lbeq_len {β γ : Type} {f : β → γ → Bool} : ∀ {a : List β} {b : List γ}, lbeq f a b = true → a.length = b.length := by
  intro a
  induction a with
  | nil => intro b h; cases b with
    | nil => rfl
    | cons y b => cases h
  | cons x a ih => intro b h; cases b with
    | nil => cases h
    | cons y b =>
      simp only [lbeq, Bool.and_eq_true] at h
      simp [ih h.2]

theorem lbeq_refl {β : Type} {f : β → β → Bool} (hf : ∀ x, f x x = true) (a : List β) : lbeq f a a = true := by
  induction a with
  | nil => rfl
  | cons x a ih => simp [lbeq, hf, ih]

theorem tbeq_refl : ∀ {τ : Ty} (x : τ.T), tbeq τ x x = true := by
  intro τ
  induction τ with
  | int k => intro x; simp [tbeq]
  | bool => intro x; simp [tbeq]
  | str => intro x; simp [tbeq]
  | unit => intro x; rfl
  | prod a b iha ihb => intro x; simp [tbeq, iha, ihb]
  | slice e ih => intro x; exact lbeq_refl ih x

theorem bytes_ext {a b : ByteArray} (h : a.toList = b.toList) : a = b := by
  rw [ByteArray.toList_eq, ByteArray.toList_eq] at h
  obtain ⟨⟨a⟩⟩ := a
  obtain ⟨⟨b⟩⟩ := b
  simp only at h
  rw [h]

theorem lbeq_eq {β : Type} {f : β → β → Bool} (hf : ∀ x y, f x y = true → x = y) : ∀ {a b : List β}, lbeq f a b = true → a = b := by
  intro a
  induction a with
  | nil => intro b h; cases b with
    | nil => rfl
    | cons y b => cases h
  | cons x a ih => intro b h; cases b with
    | nil => cases h
    | cons y b =>
      simp only [lbeq, Bool.and_eq_true] at h
      rw [hf x y h.1, ih h.2]

theorem tbeq_eq : ∀ {τ : Ty} {x y : τ.T}, tbeq τ x y = true → x = y := by
  intro τ
  induction τ with
  | int k => intro x y h; simpa [tbeq] using h
  | bool => intro x y h; simpa [tbeq] using h
  | str => intro x y h; exact bytes_ext (by simpa [tbeq] using h)
  | unit => intro x y h; rfl
  | prod a b iha ihb =>
    intro x y h
    simp only [tbeq, Bool.and_eq_true] at h
    exact Prod.ext (iha h.1) (ihb h.2)
  | slice e ih => intro x y h; exact lbeq_eq (fun a b => ih) h

theorem wt_mem {e : Ty} {xs : List e.T} {i : Nat} {y : e.T} (h : xs[i]? = some y) : wt e y + xs.length ≤ wt (.slice e) xs := by
  have : ∀ (xs : List e.T) (y : e.T), y ∈ xs → wt e y ≤ (xs.map (wt e)).sum := by
    intro xs
    induction xs with
    | nil => intro y h; cases h
    | cons x xs ih =>
      intro y h
      simp only [List.map_cons, List.sum_cons]
      rcases List.mem_cons.1 h with rfl | h
      · omega
      · have := ih y h; omega
  have := this xs y (List.mem_of_getElem? h)
  show wt e y + xs.length ≤ xs.length + (xs.map (wt e)).sum
  omega

theorem wt_len {e : Ty} (xs : List e.T) : xs.length ≤ wt (.slice e) xs := Nat.le_add_right _ _

/-! ### Steps of loops -/

theorem lt_of_get {β : Type} {xs : List β} {i : Nat} {y : β} (h : xs[i]? = some y) : i < xs.length := (List.getElem?_eq_some_iff.1 h).1

theorem dlt_get {β : Type} {xs : List β} {i : Nat} {y : β} (h : xs[i]? = some y) : decide ((i : Int) < (xs.length : Int)) = true := by
  have := lt_of_get h
  simp; omega

theorem dlt_end (n : Nat) : decide ((n : Int) < (n : Int)) = false := by simp

theorem wrap_succ {i : Nat} (h : i < 9223372036854775807) : IntKind.wrap .i64 ((i : Int) + (1 : Int)) = ((i + 1 : Nat) : Int) := by
  rw [IntWalk.i64_in _ (by omega)]; omega

theorem wrap_in {n : Int} (h : -9223372036854775808 ≤ n) (h' : n ≤ 9223372036854775807) : IntKind.wrap .i64 n = n := IntWalk.i64_in n ⟨h, h'⟩

/-! ### Weights -/

def szf (w : Nat) (l : Int) : Int := if (w : Int) ≤ l then l - w else -1

theorem szf_neg {w : Nat} {l : Int} (hl : 0 ≤ l) : szf w l < 0 ↔ l < w := by
  unfold szf; split <;> omega

theorem sz_loop {β α : Type} (w : β → Nat) (xs : List β) (go : Nat → Int → Int → Option α) (k0 : Option α) (k1 : Int → Option α)
    (hfin : ∀ q l, go (q + 1) l (xs.length : Int) = k1 l)
    (hstep : ∀ q l (i : Nat) y, xs[i]? = some y → 0 ≤ l → l ≤ 1048576 → go (q + 1) l (i : Int) = bif decide (szf (w y) l < 0) then k0 else go q (szf (w y) l) ((i + 1 : Nat) : Int)) :
    ∀ q l, xs.length < q → 0 ≤ l → l ≤ 1048576 → go q l (0 : Int) = if ((xs.map w).sum : Int) ≤ l then k1 (l - ((xs.map w).sum : Nat)) else k0 := by
  have key : ∀ (ys pre : List β) q l, pre ++ ys = xs → ys.length < q → 0 ≤ l → l ≤ 1048576 → go q l (pre.length : Int) = if ((ys.map w).sum : Int) ≤ l then k1 (l - ((ys.map w).sum : Nat)) else k0 := by
    intro ys
    induction ys with
    | nil =>
      intro pre q l hx hq h0 h1
      obtain ⟨q, rfl⟩ := Nat.exists_eq_add_of_lt hq
      simp only [List.append_nil] at hx
      subst hx
      rw [show [].length + q + 1 = q + 1 by simp, hfin]
      simp [h0]
    | cons y ys ih =>
      intro pre q l hx hq h0 h1
      obtain ⟨q, rfl⟩ := Nat.exists_eq_add_of_lt hq
      have hg : xs[pre.length]? = some y := by rw [← hx]; simp
      rw [show (y :: ys).length + q + 1 = (ys.length + 1 + q) + 1 by simp, hstep _ _ _ _ hg h0 h1]
      by_cases hn : szf (w y) l < 0
      · rw [decide_eq_true hn]
        have := (szf_neg h0).1 hn
        simp only [cond_true, List.map_cons, List.sum_cons]
        rw [if_neg (by omega)]
      · rw [decide_eq_false hn]
        have hn' : (w y : Int) ≤ l := by
          have := mt (szf_neg (w := w y) h0).2 hn
          omega
        have hv : szf (w y) l = l - w y := if_pos hn'
        simp only [cond_false]
        rw [hv]
        have hpl : pre.length + 1 = (pre ++ [y]).length := by simp
        rw [hpl, ih (pre ++ [y]) _ _ (by rw [← hx]; simp) (by omega) (by omega) (by omega)]
        simp only [List.map_cons, List.sum_cons]
        by_cases hs : (((ys.map w).sum : Nat) : Int) ≤ l - w y
        · rw [if_pos hs, if_pos (by omega)]
          congr 1; omega
        · rw [if_neg hs, if_neg (by omega)]
  intro q l hq h0 h1
  exact key xs [] q l rfl hq h0 h1

theorem szf_seq {a b : Nat} {l : Int} (h : 0 ≤ l) (hn : ¬ szf a l < 0) : szf b (szf a l) = szf (a + b) l := by
  have := mt (szf_neg (w := a) h).2 hn
  unfold szf
  rw [if_pos (show (a : Int) ≤ l by omega)]
  split <;> split <;> omega

theorem szf_out {a b : Nat} {l : Int} (h : 0 ≤ l) (hn : szf a l < 0) : szf (a + b) l = -1 := by
  have := (szf_neg (w := a) h).1 hn
  unfold szf; rw [if_neg (by omega)]

theorem szf_bd {a : Nat} {l : Int} (h : 0 ≤ l) (h1 : l ≤ 1048576) (hn : ¬ szf a l < 0) : 0 ≤ szf a l ∧ szf a l ≤ 1048576 := by
  unfold szf at *; split at hn <;> split <;> omega

theorem szf_big {w : Nat} {l : Int} (h : l < w) : szf w l = -1 := by unfold szf; rw [if_neg (by omega)]
theorem szf_small {w : Nat} {l : Int} (h : (w : Int) ≤ l) : szf w l = l - w := if_pos h

theorem map_zero {β : Type} {f : β → Nat} (h : ∀ y, f y = 0) {xs : List β} : (xs.map f).sum = 0 := by
  induction xs with
  | nil => rfl
  | cons x xs ih => simp [h, ih]

theorem eq_seq (b : Bool) (r : Option (Bool × Unit)) (B : Bool) (h : r = some (B, ())) : (bif !b then some (false, ()) else r) = some (b && B, ()) := by
  cases b <;> simp [h]

theorem cond_not {α : Type} (b : Bool) (x y : α) : (bif !b then x else y) = bif b then y else x := by cases b <;> rfl

theorem szf_wrap {n : Nat} {l : Int} (h : 0 ≤ l) (h1 : l ≤ 1048576) (hn : n ≤ maxLen) : IntKind.wrap .i64 (l - (n : Int)) = l - n := by
  have : maxLen = 9223372036854775807 := rfl
  exact wrap_in (by omega) (by omega)

/-! ### Copies -/

theorem to_loop {β γ α : Type} (xs : List β) (g : β → γ) (z : γ) (go : Nat → Int → List γ → Option α) (k0 : List γ → Option α)
    (hfin : ∀ q out, go (q + 1) (xs.length : Int) out = k0 out)
    (hstep : ∀ q (i : Nat) y out, xs[i]? = some y → out.length = xs.length → go (q + 1) (i : Int) out = go q ((i + 1 : Nat) : Int) (out.set i (g y))) :
    ∀ q, xs.length < q → go q (0 : Int) (List.replicate xs.length z) = k0 (xs.map g) := by
  have key : ∀ (ys pre : List β) q, pre ++ ys = xs → ys.length < q → go q (pre.length : Int) (pre.map g ++ List.replicate ys.length z) = k0 (xs.map g) := by
    intro ys
    induction ys with
    | nil =>
      intro pre q hx hq
      obtain ⟨q, rfl⟩ := Nat.exists_eq_add_of_lt hq
      simp only [List.append_nil] at hx
      subst hx
      rw [show [].length + q + 1 = q + 1 by simp, hfin]
      simp
    | cons y ys ih =>
      intro pre q hx hq
      obtain ⟨q, rfl⟩ := Nat.exists_eq_add_of_lt hq
      have hg : xs[pre.length]? = some y := by rw [← hx]; simp
      rw [show (y :: ys).length + q + 1 = (ys.length + 1 + q) + 1 by simp, hstep _ _ _ _ hg (by rw [← hx]; simp)]
      have := ih (pre ++ [y]) (ys.length + 1 + q) (by rw [← hx]; simp) (by omega)
      rw [← this]
      simp [List.replicate_succ]
  intro q hq
  exact key xs [] q rfl hq

/-! ### Comparison, element by element -/

theorem eq_loop {β γ α : Type} (xs : List β) (ys : List γ) (e : β → γ → Bool) (go : Nat → Int → Option α) (k0 k1 : Option α) (hlen : xs.length = ys.length)
    (hfin : ∀ q, go (q + 1) (xs.length : Int) = k1)
    (hstep : ∀ q (i : Nat) y z, xs[i]? = some y → ys[i]? = some z → go (q + 1) (i : Int) = bif e y z then go q ((i + 1 : Nat) : Int) else k0) :
    ∀ q, xs.length < q → go q (0 : Int) = bif lbeq e xs ys then k1 else k0 := by
  have key : ∀ (l pre : List β) (m pre' : List γ) q, pre ++ l = xs → pre' ++ m = ys → pre.length = pre'.length → l.length < q → go q (pre.length : Int) = bif lbeq e l m then k1 else k0 := by
    intro l
    induction l with
    | nil =>
      intro pre m pre' q hx hy hp hq
      obtain ⟨q, rfl⟩ := Nat.exists_eq_add_of_lt hq
      simp only [List.append_nil] at hx
      subst hx
      cases m with
      | nil => rw [show [].length + q + 1 = q + 1 by simp, hfin]; rfl
      | cons z m => rw [← hy] at hlen; simp at hlen; omega
    | cons y l ih =>
      intro pre m pre' q hx hy hp hq
      obtain ⟨q, rfl⟩ := Nat.exists_eq_add_of_lt hq
      cases m with
      | nil => rw [← hy, ← hx] at hlen; simp at hlen; omega
      | cons z m =>
        have hg : xs[pre.length]? = some y := by rw [← hx]; simp
        have hg' : ys[pre.length]? = some z := by rw [← hy, hp]; simp
        rw [show (y :: l).length + q + 1 = (l.length + 1 + q) + 1 by simp, hstep _ _ _ _ hg hg']
        cases he : e y z with
        | false => simp [lbeq, he]
        | true =>
          have hpl : pre.length + 1 = (pre ++ [y]).length := by simp
          rw [cond_true, hpl, ih (pre ++ [y]) m (pre' ++ [z]) _ (by rw [← hx]; simp) (by rw [← hy]; simp) (by simp [hp]) (by omega)]
          simp [lbeq, he]
  intro q hq
  exact key xs [] ys [] q rfl rfl rfl hq

theorem len_ne {β γ : Type} {xs : List β} {ys : List γ} (f : β → γ → Bool) (h : ((xs.length : Int) != (ys.length : Int)) = true) : lbeq f xs ys = false := by
  cases hb : lbeq f xs ys with
  | false => rfl
  | true => have := lbeq_len hb; rw [this] at h; simp at h

theorem len_eq {β γ : Type} {xs : List β} {ys : List γ} (h : ((xs.length : Int) != (ys.length : Int)) = false) : xs.length = ys.length := by
  have : (xs.length : Int) = (ys.length : Int) := by simpa using h
  omega

end Go.Proofs.Ytgmcefnlcalagaa.W
