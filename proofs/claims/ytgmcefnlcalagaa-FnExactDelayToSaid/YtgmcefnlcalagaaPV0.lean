/- Plain laws of checks: loops that look at each element and at the one before; names; bounds. No program in sight. No condition. -/
import Derived.Test.YtgmcefnlcalagaaP0
namespace Go.Proofs.Ytgmcefnlcalagaa.W
open Go Go.RowKit Go.Proofs.Ytgmcefnlcalagaa.AM
set_option linter.unusedSimpArgs false
set_option linter.unusedVariables false

theorem and_seq (b : Bool) (r : Option (Bool × Unit)) (B : Bool) (h : r = some (B, ())) : (bif b then r else some (false, ())) = some (b && B, ()) := by
  cases b <;> simp [h]

/-- As 'and_seq', for a test that leaves. -/
theorem or_seq (b : Bool) (r : Option (Bool × Unit)) (B : Bool) (h : r = some (B, ())) : (bif b then some (false, ()) else r) = some (!b && B, ()) := by
  cases b <;> simp [h]

theorem bytesLess_tri : ∀ (a b : List UInt8), Op.bytesLess a b = !(Op.bytesLess b a || b == a) := by
  intro a
  induction a with
  | nil => intro b; cases b <;> simp [Op.bytesLess]
  | cons x a ih =>
    intro b
    cases b with
    | nil => simp [Op.bytesLess]
    | cons y b =>
      simp only [Op.bytesLess]
      have h0 : x < y ∨ y < x ∨ x = y := by
        rcases Nat.lt_trichotomy x.toNat y.toNat with h | h | h
        · exact .inl h
        · exact .inr (.inr (UInt8.toNat_inj.1 h))
        · exact .inr (.inl h)
      rcases h0 with h | h | h
      · have h1 : decide (x < y) = true := decide_eq_true h
        have h2 : decide (y < x) = false := decide_eq_false (UInt8.lt_asymm h)
        have h3 : (y == x) = false := by
          apply beq_eq_false_iff_ne.2; intro e; subst e; exact UInt8.lt_irrefl _ h
        rw [h1, h2]; simp [h3]
      · have h1 : decide (x < y) = false := decide_eq_false (UInt8.lt_asymm h)
        have h2 : decide (y < x) = true := decide_eq_true h
        have h3 : (x == y) = false := by
          apply beq_eq_false_iff_ne.2; intro e; subst e; exact UInt8.lt_irrefl _ h
        rw [h1, h2]; simp [h3]
      · subst h
        have h1 : decide (x < x) = false := decide_eq_false (UInt8.lt_irrefl _)
        rw [h1, ih b]; simp

theorem beq_tri {a b : List UInt8} : (a == b) = (b == a) := by
  rcases Decidable.em (a = b) with h | h
  · subst h; rfl
  · rw [beq_eq_false_iff_ne.2 h, beq_eq_false_iff_ne.2 (fun e => h e.symm)]

/-- 'b' is not behind 'a': the program's way to say that 'a' stands before 'b'. -/
theorem less_not (a b : ByteArray) : (Op.bytesLess b.toList a.toList || b.toList == a.toList) = !(Op.bytesLess a.toList b.toList) := by
  rw [bytesLess_tri a.toList b.toList]; simp

theorem wrap_pred {i : Nat} (h : i < 9223372036854775807) : IntKind.wrap .i64 (((i + 1 : Nat) : Int) - (1 : Int)) = (i : Int) := by
  rw [IntWalk.i64_in _ (by omega)]; omega

theorem wrap_succ1 {i : Nat} (h : i + 1 < 9223372036854775807) : IntKind.wrap .i64 (((i + 1 : Nat) : Int) + (1 : Int)) = ((i + 2 : Nat) : Int) := wrap_succ h

theorem pos_succ (i : Nat) : decide (((i + 1 : Nat) : Int) > (0 : Int)) = true := decide_eq_true (by omega)
theorem pos_zero : decide (((0 : Nat) : Int) > (0 : Int)) = false := by simp
theorem zero_eq : (((0 : Nat) : Int) == (0 : Int)) = true := rfl
theorem succ_ne (i : Nat) : (((i + 1 : Nat) : Int) == (0 : Int)) = false := by
  apply beq_eq_false_iff_ne.2; omega

/-- Each element is right and stands rightly behind the one before. -/
def ordF {β : Type} (v : β → Bool) (r : β → β → Bool) : β → List β → Bool
  | _, [] => true
  | z, y :: l => (v y && r z y) && ordF v r y l

def ordB {β : Type} (v : β → Bool) (r : β → β → Bool) : List β → Bool
  | [] => true
  | y :: l => v y && ordF v r y l

theorem ord_loop {β α : Type} (xs : List β) (v : β → Bool) (r : β → β → Bool) (go : Nat → Int → Option α) (k0 k1 : Option α)
    (hfin : ∀ q, go (q + 1) (xs.length : Int) = k1)
    (h0 : ∀ q y, xs[0]? = some y → go (q + 1) ((0 : Nat) : Int) = bif v y then go q ((1 : Nat) : Int) else k0)
    (h1 : ∀ q (i : Nat) z y, xs[i]? = some z → xs[i + 1]? = some y → v z = true → go (q + 1) ((i + 1 : Nat) : Int) = bif (v y && r z y) then go q ((i + 2 : Nat) : Int) else k0) :
    ∀ q, xs.length < q → go q (0 : Int) = bif ordB v r xs then k1 else k0 := by
  have key : ∀ (l pre : List β) (z : β) q, pre ++ z :: l = xs → v z = true → l.length < q → go q ((pre.length + 1 : Nat) : Int) = bif ordF v r z l then k1 else k0 := by
    intro l
    induction l with
    | nil =>
      intro pre z q hx hz hq
      obtain ⟨q, rfl⟩ := Nat.exists_eq_add_of_lt hq
      have : pre.length + 1 = xs.length := by rw [← hx]; simp
      rw [show [].length + q + 1 = q + 1 by simp, this, hfin]; rfl
    | cons y l ih =>
      intro pre z q hx hz hq
      obtain ⟨q, rfl⟩ := Nat.exists_eq_add_of_lt hq
      have g0 : xs[pre.length]? = some z := by rw [← hx]; simp
      have g1 : xs[pre.length + 1]? = some y := by rw [← hx]; simp
      rw [show (y :: l).length + q + 1 = (l.length + 1 + q) + 1 by simp, h1 _ _ _ _ g0 g1 hz]
      cases hb : (v y && r z y) with
      | false => simp [ordF, hb]
      | true =>
        have hv : v y = true := by simp only [Bool.and_eq_true] at hb; exact hb.1
        have := ih (pre ++ [z]) y (l.length + 1 + q) (by rw [← hx]; simp) hv (by omega)
        rw [show (pre ++ [z]).length + 1 = pre.length + 2 by simp] at this
        rw [cond_true, this]
        simp [ordF, hb]
  intro q hq
  cases xs with
  | nil =>
    obtain ⟨q, rfl⟩ := Nat.exists_eq_add_of_lt hq
    have := hfin (([] : List β).length + q : Nat)
    exact this
  | cons y l =>
    obtain ⟨q, rfl⟩ := Nat.exists_eq_add_of_lt hq
    have h := h0 ((y :: l).length + q) y rfl
    refine Eq.trans (h : go ((y :: l).length + q + 1) (0 : Int) = _) ?_
    cases hv : v y with
    | false => simp [ordB, hv]
    | true =>
      have := key l [] y ((y :: l).length + q) rfl hv (by simp; omega)
      rw [cond_true]
      refine Eq.trans this ?_
      simp [ordB, hv]

def ordB0 {β : Type} (v0 v : β → Bool) (r : β → β → Bool) : List β → Bool
  | [] => true
  | y :: l => v0 y && ordF v r y l

theorem ord_loop0 {β α : Type} (xs : List β) (v0 v : β → Bool) (hv0 : ∀ y, v0 y = true → v y = true) (r : β → β → Bool) (go : Nat → Int → Option α) (k0 k1 : Option α)
    (hfin : ∀ q, go (q + 1) (xs.length : Int) = k1)
    (h0 : ∀ q y, xs[0]? = some y → go (q + 1) ((0 : Nat) : Int) = bif v0 y then go q ((1 : Nat) : Int) else k0)
    (h1 : ∀ q (i : Nat) z y, xs[i]? = some z → xs[i + 1]? = some y → v z = true → go (q + 1) ((i + 1 : Nat) : Int) = bif (v y && r z y) then go q ((i + 2 : Nat) : Int) else k0) :
    ∀ q, xs.length < q → go q (0 : Int) = bif ordB0 v0 v r xs then k1 else k0 := by
  have key : ∀ (l pre : List β) (z : β) q, pre ++ z :: l = xs → v z = true → l.length < q → go q ((pre.length + 1 : Nat) : Int) = bif ordF v r z l then k1 else k0 := by
    intro l
    induction l with
    | nil =>
      intro pre z q hx hz hq
      obtain ⟨q, rfl⟩ := Nat.exists_eq_add_of_lt hq
      have : pre.length + 1 = xs.length := by rw [← hx]; simp
      rw [show [].length + q + 1 = q + 1 by simp, this, hfin]; rfl
    | cons y l ih =>
      intro pre z q hx hz hq
      obtain ⟨q, rfl⟩ := Nat.exists_eq_add_of_lt hq
      have g0 : xs[pre.length]? = some z := by rw [← hx]; simp
      have g1 : xs[pre.length + 1]? = some y := by rw [← hx]; simp
      rw [show (y :: l).length + q + 1 = (l.length + 1 + q) + 1 by simp, h1 _ _ _ _ g0 g1 hz]
      cases hb : (v y && r z y) with
      | false => simp [ordF, hb]
      | true =>
        have hv : v y = true := by simp only [Bool.and_eq_true] at hb; exact hb.1
        have := ih (pre ++ [z]) y (l.length + 1 + q) (by rw [← hx]; simp) hv (by omega)
        rw [show (pre ++ [z]).length + 1 = pre.length + 2 by simp] at this
        rw [cond_true, this]
        simp [ordF, hb]
  intro q hq
  cases xs with
  | nil =>
    obtain ⟨q, rfl⟩ := Nat.exists_eq_add_of_lt hq
    have := hfin (([] : List β).length + q : Nat)
    exact this
  | cons y l =>
    obtain ⟨q, rfl⟩ := Nat.exists_eq_add_of_lt hq
    have h := h0 ((y :: l).length + q) y rfl
    refine Eq.trans (h : go ((y :: l).length + q + 1) (0 : Int) = _) ?_
    cases hv : v0 y with
    | false => simp [ordB0, hv]
    | true =>
      have := key l [] y ((y :: l).length + q) rfl (hv0 y hv) (by simp; omega)
      rw [cond_true]
      refine Eq.trans this ?_
      simp [ordB0, hv]

/-- Each element is right, given those before. -/
def preB {β : Type} (c : List β → β → Bool) : List β → List β → Bool
  | _, [] => true
  | pre, y :: l => c pre y && preB c (pre ++ [y]) l

theorem pre_loop {β α : Type} (xs : List β) (c : List β → β → Bool) (go : Nat → Int → Option α) (k0 k1 : Option α)
    (hfin : ∀ q, go (q + 1) (xs.length : Int) = k1)
    (h : ∀ q pre y post, pre ++ y :: post = xs → go (q + 1) (pre.length : Int) = bif c pre y then go q ((pre.length + 1 : Nat) : Int) else k0) :
    ∀ q, xs.length < q → go q (0 : Int) = bif preB c [] xs then k1 else k0 := by
  have key : ∀ (l pre : List β) q, pre ++ l = xs → l.length < q → go q (pre.length : Int) = bif preB c pre l then k1 else k0 := by
    intro l
    induction l with
    | nil =>
      intro pre q hx hq
      obtain ⟨q, rfl⟩ := Nat.exists_eq_add_of_lt hq
      simp only [List.append_nil] at hx
      rw [show [].length + q + 1 = q + 1 by simp, hx, hfin]; rfl
    | cons y l ih =>
      intro pre q hx hq
      obtain ⟨q, rfl⟩ := Nat.exists_eq_add_of_lt hq
      rw [show (y :: l).length + q + 1 = (l.length + 1 + q) + 1 by simp, h _ _ _ _ hx]
      cases hb : c pre y with
      | false => simp [preB, hb]
      | true =>
        have := ih (pre ++ [y]) (l.length + 1 + q) (by rw [← hx]; simp) (by omega)
        rw [show (pre ++ [y]).length = pre.length + 1 by simp] at this
        rw [cond_true, this]
        simp [preB, hb]
  intro q hq
  exact key xs [] q rfl hq

/-- A loop that looks for the first element with a property. -/
theorem find_loop {β α : Type} (xs : List β) (c : β → Bool) (go : Nat → Int → Option α) (k0 : Int → Option α) (k1 : Option α)
    (hfin : ∀ q, go (q + 1) (xs.length : Int) = k1)
    (h : ∀ q (i : Nat) y, xs[i]? = some y → go (q + 1) (i : Int) = bif c y then k0 (i : Int) else go q ((i + 1 : Nat) : Int)) :
    ∀ q, xs.length < q → go q (0 : Int) = match xs.findIdx? c with
      | some i => k0 (i : Int)
      | none => k1 := by
  have key : ∀ (l pre : List β) q, pre ++ l = xs → l.length < q → go q (pre.length : Int) = match l.findIdx? c with
      | some i => k0 ((pre.length + i : Nat) : Int)
      | none => k1 := by
    intro l
    induction l with
    | nil =>
      intro pre q hx hq
      obtain ⟨q, rfl⟩ := Nat.exists_eq_add_of_lt hq
      simp only [List.append_nil] at hx
      rw [show [].length + q + 1 = q + 1 by simp, hx, hfin]; rfl
    | cons y l ih =>
      intro pre q hx hq
      obtain ⟨q, rfl⟩ := Nat.exists_eq_add_of_lt hq
      have g0 : xs[pre.length]? = some y := by rw [← hx]; simp
      rw [show (y :: l).length + q + 1 = (l.length + 1 + q) + 1 by simp, h _ _ _ g0]
      rw [List.findIdx?_cons]
      cases hb : c y with
      | true => simp
      | false =>
        have := ih (pre ++ [y]) (l.length + 1 + q) (by rw [← hx]; simp) (by omega)
        rw [show (pre ++ [y]).length = pre.length + 1 by simp] at this
        rw [cond_false, this]
        cases hf : l.findIdx? c with
        | none => simp [hf]
        | some i =>
          simp only [hf, Option.map_some]
          simp only [Bool.false_eq_true, if_false]
          congr 2; omega
  intro q hq
  have := key xs [] q rfl hq
  refine Eq.trans this ?_
  cases xs.findIdx? c with
  | none => rfl
  | some i => simp

theorem findIdx?_none {β : Type} {c : β → Bool} {l : List β} (h : l.findIdx? c = none) : l.any c = false := by
  rw [List.findIdx?_eq_none_iff] at h
  rw [List.any_eq_false]
  intro x hx; simp [h x hx]

theorem findIdx?_some {β : Type} {c : β → Bool} {l : List β} {i : Nat} (h : l.findIdx? c = some i) : l.any c = true := by
  rw [List.findIdx?_eq_some_iff_getElem] at h
  obtain ⟨h1, h2, -⟩ := h
  rw [List.any_eq_true]
  exact ⟨_, List.getElem_mem h1, h2⟩

/-- All elements are right. -/
theorem all_loop {β α : Type} (xs : List β) (c : β → Bool) (go : Nat → Int → Option α) (k0 k1 : Option α)
    (hfin : ∀ q, go (q + 1) (xs.length : Int) = k1)
    (h : ∀ q (i : Nat) y, xs[i]? = some y → go (q + 1) (i : Int) = bif c y then go q ((i + 1 : Nat) : Int) else k0) :
    ∀ q, xs.length < q → go q (0 : Int) = bif xs.all c then k1 else k0 := by
  intro q hq
  have := find_loop xs (fun y => !c y) go (fun _ => k0) k1 hfin (fun q i y hy => by rw [h q i y hy]; cases c y <;> rfl) q hq
  rw [this]
  cases hf : xs.findIdx? (fun y => !c y) with
  | none =>
    have := findIdx?_none hf
    have : xs.all c = true := by
      rw [List.all_eq_true]; intro x hx
      have := List.any_eq_false.1 this x hx
      simpa using this
    rw [this]; rfl
  | some i =>
    have := findIdx?_some hf
    have : xs.all c = false := by
      obtain ⟨x, hx, hc⟩ := List.any_eq_true.1 this
      rw [List.all_eq_false]; exact ⟨x, hx, by simpa using hc⟩
    rw [this]; rfl

/-- The same over places. -/
theorem idx_loop {α : Type} (n : Nat) (c : Nat → Bool) (go : Nat → Int → Option α) (k0 k1 : Option α)
    (hfin : ∀ q, go (q + 1) (n : Int) = k1)
    (h : ∀ q (i : Nat), i < n → go (q + 1) (i : Int) = bif c i then go q ((i + 1 : Nat) : Int) else k0) :
    ∀ q, n < q → go q (0 : Int) = bif (List.range n).all c then k1 else k0 := by
  intro q hq
  exact all_loop (List.range n) c go k0 k1 (by simpa using hfin) (fun q i y hy => by
    have hi := lt_of_get hy
    rw [List.length_range] at hi
    rw [List.getElem?_range hi] at hy
    cases hy
    exact h q i hi) q (by simpa using hq)

/-! ### Bounds and names -/

def vIn (n lo hi : Int) : Bool := decide (n ≥ lo) && decide (n ≤ hi)
def vSmall (c : Int) : Bool := decide (c ≥ 97) && decide (c ≤ 122)
def vDigit (c : Int) : Bool := decide (c ≥ 48) && decide (c ≤ 57)
def byteAt (s : ByteArray) (i : Nat) : Int := ((s.get! i).toNat : Int)
def vName (s : ByteArray) : Bool := decide (1 ≤ s.size) && (decide (s.size ≤ 10) && (vSmall (byteAt s 0) && (List.range s.size).all fun i => vSmall (byteAt s i) || vDigit (byteAt s i)))

theorem nameByte {α : Type} (c : Int) (A B : Option α) : (bif decide (c < 97) then (bif decide (c < 48) then A else bif decide (c > 57) then A else B) else bif decide (c > 122) then (bif decide (c < 48) then A else bif decide (c > 57) then A else B) else B) = bif (vSmall c || vDigit c) then B else A := by
  unfold vSmall vDigit
  by_cases a1 : c < 97
  · rw [decide_eq_true a1, decide_eq_false (show ¬ c ≥ 97 by omega)]
    by_cases a2 : c < 48
    · rw [decide_eq_true a2, decide_eq_false (show ¬ c ≥ 48 by omega)]; rfl
    · rw [decide_eq_false a2, decide_eq_true (show c ≥ 48 by omega)]
      by_cases a3 : c > 57
      · rw [decide_eq_true a3, decide_eq_false (show ¬ c ≤ 57 by omega)]; rfl
      · rw [decide_eq_false a3, decide_eq_true (show c ≤ 57 by omega)]; rfl
  · rw [decide_eq_false a1, decide_eq_true (show c ≥ 97 by omega)]
    by_cases a4 : c > 122
    · rw [decide_eq_true a4, decide_eq_false (show ¬ c ≤ 122 by omega), decide_eq_false (show ¬ c < 48 by omega), decide_eq_true (show c > 57 by omega), decide_eq_true (show c ≥ 48 by omega), decide_eq_false (show ¬ c ≤ 57 by omega)]; rfl
    · rw [decide_eq_false a4, decide_eq_true (show c ≤ 122 by omega)]; rfl

theorem size_zero (s : ByteArray) : (s.toList == (⟨#[]⟩ : ByteArray).toList) = decide (s.size = 0) := by
  rw [ByteArray.toList_eq, ByteArray.toList_eq]
  obtain ⟨⟨l⟩⟩ := s
  cases l <;> simp [ByteArray.size]

theorem two0 {α : Type} (a b : Int) (f : Int → Option α) : (if 0 ≤ (0 : Int) then (([a, b] : List Int)[(0 : Int).toNat]?).bind f else none) = f a := rfl
theorem two1 {α : Type} (a b : Int) (f : Int → Option α) : (if 0 ≤ (1 : Int) then (([a, b] : List Int)[(1 : Int).toNat]?).bind f else none) = f b := rfl
theorem two_len (a b : Int) : (((([a, b] : List Int).length : Nat) : Int) != (2 : Int)) = false := rfl
theorem len2 {y : List Int} (h : y.length = 2) : ∃ a b, y = [a, b] := by
  match y, h with
  | [a, b], _ => exact ⟨a, b, rfl⟩
theorem len_ne2 {y : List Int} (h : ¬ y.length = 2) : (((y.length : Nat) : Int) != (2 : Int)) = true := by
  apply bne_iff_ne.2; omega

theorem sub_pre {β : Type} {pre post xs : List β} {y : β} (h : pre ++ y :: post = xs) : ((xs.take ((pre.length : Nat) : Int).toNat).drop (0 : Int).toNat) = pre := by
  rw [← h, Int.toNat_natCast]
  simp

theorem get_at {β : Type} {pre post xs : List β} {y : β} (h : pre ++ y :: post = xs) : xs[pre.length]? = some y := by rw [← h]; simp
theorem get_in {β : Type} {pre post xs : List β} {y z : β} {k : Nat} (h : pre ++ y :: post = xs) (hz : pre[k]? = some z) : xs[k]? = some z := by
  rw [← h, List.getElem?_append_left (lt_of_get hz)]; exact hz
theorem pre_lt {β : Type} {pre post xs : List β} {y : β} (h : pre ++ y :: post = xs) : pre.length < xs.length := by rw [← h]; simp

end Go.Proofs.Ytgmcefnlcalagaa.W
