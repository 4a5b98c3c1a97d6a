/- Numbers as rows of digits, the least one first: plain facts. -/

set_option linter.unusedVariables false
set_option linter.unusedSimpArgs false
namespace Go.Lift

/-- What digits are worth, to a base. -/
def val (b : Nat) : List Nat → Nat
  | [] => 0
  | x :: xs => x + b * val b xs
/-- Each is a digit. -/
def Lim (b : Nat) (xs : List Nat) : Prop := ∀ x ∈ xs, x < b
/-- The last one is no nought. -/
def Nrm (xs : List Nat) : Prop := xs.getLast? ≠ some 0

theorem val_nil (b : Nat) : val b [] = 0 := rfl
theorem val_append (b : Nat) : ∀ xs ys : List Nat, val b (xs ++ ys) = val b xs + b ^ xs.length * val b ys := by
  intro xs ys
  induction xs with
  | nil => simp [val]
  | cons x xs ih =>
    simp only [List.cons_append, val, ih, List.length_cons, Nat.pow_succ]
    rw [Nat.mul_add, ← Nat.mul_assoc, Nat.mul_comm b (b ^ xs.length), Nat.add_assoc]
theorem val_snoc (b : Nat) (xs : List Nat) (x : Nat) : val b (xs ++ [x]) = val b xs + b ^ xs.length * x := by
  rw [val_append]; simp [val]
theorem val_lt {b : Nat} {xs : List Nat} (h : Lim b xs) : val b xs < b ^ xs.length := by
  induction xs with
  | nil => simp [val]
  | cons x xs ih =>
    have hx : x < b := h x (by simp)
    have := ih (fun y hy => h y (by simp [hy]))
    simp only [val, List.length_cons, Nat.pow_succ]
    have h2 : b * (val b xs + 1) ≤ b * b ^ xs.length := Nat.mul_le_mul_left _ this
    rw [Nat.mul_add, Nat.mul_one] at h2
    rw [Nat.mul_comm (b ^ xs.length) b]
    omega
theorem Lim.append {b : Nat} {xs ys : List Nat} (h : Lim b xs) (k : Lim b ys) : Lim b (xs ++ ys) := by
  intro x hx
  rcases List.mem_append.1 hx with hx | hx
  · exact h x hx
  · exact k x hx
theorem Lim.snoc {b : Nat} {xs : List Nat} {x : Nat} (h : Lim b xs) (k : x < b) : Lim b (xs ++ [x]) := h.append (by intro y hy; simp at hy; omega)
theorem Lim.take {b : Nat} {xs : List Nat} (h : Lim b xs) (n : Nat) : Lim b (xs.take n) := fun x hx => h x (List.mem_of_mem_take hx)
theorem Lim.get {b : Nat} {xs : List Nat} (h : Lim b xs) {i : Nat} (hi : i < xs.length) : xs[i] < b := h _ (List.getElem_mem hi)
theorem Lim.nil {b : Nat} : Lim b [] := fun x hx => by cases hx
theorem Lim.set {b : Nat} {xs : List Nat} (h : Lim b xs) (i : Nat) {x : Nat} (k : x < b) : Lim b (xs.set i x) := by
  intro y hy
  rcases List.mem_or_eq_of_mem_set hy with hy | rfl
  · exact h y hy
  · exact k
theorem Nrm.nil : Nrm [] := by simp [Nrm]
theorem Nrm.tail {x : Nat} {xs : List Nat} (h : Nrm (x :: xs)) : Nrm xs := by
  unfold Nrm at *
  cases xs with
  | nil => simp
  | cons y ys => simpa [List.getLast?_cons_cons] using h
theorem val_zero {b : Nat} (hb : 0 < b) : ∀ {xs : List Nat}, Nrm xs → val b xs = 0 → xs = [] := by
  intro xs
  induction xs with
  | nil => intro _ _; rfl
  | cons x xs ih =>
    intro hn hv
    simp only [val] at hv
    have hx : x = 0 := by omega
    have hv2 : b * val b xs = 0 := by omega
    have : val b xs = 0 := by
      rcases Nat.mul_eq_zero.1 hv2 with h | h
      · omega
      · exact h
    have hxs := ih hn.tail this
    subst hxs hx
    simp [Nrm] at hn
theorem val_inj {b : Nat} (hb : 0 < b) : ∀ {xs ys : List Nat}, Lim b xs → Lim b ys → Nrm xs → Nrm ys → val b xs = val b ys → xs = ys := by
  intro xs
  induction xs with
  | nil => intro ys _ _ _ hn hv; exact (val_zero hb hn (by rw [← hv]; rfl)).symm
  | cons x xs ih =>
    intro ys hx hy hn hm hv
    cases ys with
    | nil => exact val_zero hb hn (by rw [hv]; rfl)
    | cons y ys =>
      simp only [val] at hv
      have h1 : x < b := hx x (by simp)
      have h2 : y < b := hy y (by simp)
      have h3 : x = y := by
        have := congrArg (· % b) hv
        simp only [Nat.add_mul_mod_self_left, Nat.mod_eq_of_lt h1, Nat.mod_eq_of_lt h2] at this
        exact this
      subst h3
      have h4 : val b xs = val b ys := Nat.eq_of_mul_eq_mul_left hb (by omega)
      rw [ih (fun z hz => hx z (by simp [hz])) (fun z hz => hy z (by simp [hz])) hn.tail hm.tail h4]
theorem val_ge {b : Nat} (hb : 0 < b) : ∀ {xs : List Nat}, Nrm xs → xs ≠ [] → b ^ (xs.length - 1) ≤ val b xs := by
  intro xs
  induction xs with
  | nil => intro _ h; exact absurd rfl h
  | cons x xs ih =>
    intro hn _
    cases xs with
    | nil =>
      have : x ≠ 0 := by intro h; subst h; simp [Nrm] at hn
      simp [val]; omega
    | cons y ys =>
      have := ih hn.tail (by simp)
      simp only [val, List.length_cons, Nat.add_sub_cancel] at this ⊢
      rw [Nat.pow_succ, Nat.mul_comm]
      have := Nat.mul_le_mul_left b this
      omega
/-- As many digits as are wanted. -/
theorem len_le_of_val {b : Nat} (hb : 2 ≤ b) {xs : List Nat} (hn : Nrm xs) {n : Nat} (hv : val b xs < b ^ n) : xs.length ≤ n := by
  by_cases hx : xs = []
  · subst hx; simp
  · have := val_ge (b := b) (by omega) hn hx
    have h2 : b ^ (xs.length - 1) < b ^ n := by omega
    have := (Nat.pow_lt_pow_iff_right (by omega)).1 h2
    omega
theorem val_take_add {b : Nat} (xs : List Nat) (i : Nat) : val b xs = val b (xs.take i) + b ^ (min i xs.length) * val b (xs.drop i) := by
  have := val_append b (xs.take i) (xs.drop i)
  rw [List.take_append_drop] at this
  rw [this]
  simp
theorem val_take_succ {b : Nat} (xs : List Nat) (i : Nat) (hi : i < xs.length) : val b (xs.take (i + 1)) = val b (xs.take i) + b ^ i * xs[i] := by
  rw [List.take_succ_eq_append_getElem hi, val_snoc]
  simp [Nat.min_eq_left (Nat.le_of_lt hi)]
theorem val_drop {b : Nat} (xs : List Nat) (i : Nat) (hi : i < xs.length) : val b (xs.drop i) = xs[i] + b * val b (xs.drop (i + 1)) := by
  rw [List.drop_eq_getElem_cons hi]; rfl
theorem take_all_val {b : Nat} (xs : List Nat) (i : Nat) (hi : xs.length ≤ i) : val b (xs.take i) = val b xs := by rw [List.take_of_length_le hi]
theorem val_le_val_of_take {b : Nat} (xs : List Nat) (i : Nat) : val b (xs.take i) ≤ val b xs := by
  rw [val_take_add xs i]; omega
theorem val_replicate_zero (b n : Nat) : val b (List.replicate n 0) = 0 := by
  induction n with
  | zero => rfl
  | succ n ih => simp [List.replicate_succ, val, ih]
/-- Noughts at the end are worth nothing. -/
theorem val_take_zero {b : Nat} {xs : List Nat} (h : xs ≠ []) (hz : xs.getLast? = some 0) : val b (xs.take (xs.length - 1)) = val b xs := by
  have hl : 0 < xs.length := List.length_pos_iff.2 h
  have h1 := val_take_succ (b := b) xs (xs.length - 1) (by omega)
  rw [show xs.length - 1 + 1 = xs.length from by omega, List.take_length] at h1
  have : xs[xs.length - 1]'(by omega) = 0 := by
    rw [List.getLast?_eq_getElem?, List.getElem?_eq_getElem (by omega)] at hz
    simpa using hz
  rw [h1, this]; simp

theorem val_set {b : Nat} : ∀ (xs : List Nat) (i : Nat) (hi : i < xs.length) (y : Nat), val b (xs.set i y) + b ^ i * xs[i] = val b xs + b ^ i * y := by
  intro xs
  induction xs with
  | nil => intro i hi; simp at hi
  | cons x xs ih =>
    intro i hi y
    cases i with
    | zero => simp [val]; omega
    | succ i =>
      have hi' : i < xs.length := by simpa using hi
      simp only [List.set_cons_succ, val, List.getElem_cons_succ, Nat.pow_succ]
      have := ih i hi' y
      have h2 := congrArg (b * ·) this
      simp only [Nat.mul_add] at h2
      have e1 : b ^ i * b * xs[i] = b * (b ^ i * xs[i]) := by rw [Nat.mul_comm (b ^ i) b, Nat.mul_assoc]
      have e2 : b ^ i * b * y = b * (b ^ i * y) := by rw [Nat.mul_comm (b ^ i) b, Nat.mul_assoc]
      rw [e1, e2]
      omega
end Go.Lift
