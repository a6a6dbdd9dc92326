/-
  The plain law of the wire: numbers as rows of bytes, the highest first; readers; no program in sight.
-/
namespace Go.Proofs.Ytnadohbgnanpiaa.Wire

/-- A number's last k bytes, the highest first. -/
def form (x : Nat) : Nat → List UInt8
  | 0 => []
  | k + 1 => form (x / 256) k ++ [UInt8.ofNat x]
def beFrom (n : Nat) : List UInt8 → Nat
  | [] => n
  | b :: bs => beFrom (256 * n + b.toNat) bs
def be (xs : List UInt8) : Nat := beFrom 0 xs
theorem form_length (k : Nat) : ∀ x, (form x k).length = k := by
  induction k with
  | zero => intro x; rfl
  | succ k ih => intro x; simp [form, ih]
theorem beFrom_append (xs ys : List UInt8) : ∀ n, beFrom n (xs ++ ys) = beFrom (beFrom n xs) ys := by
  induction xs with
  | nil => intro n; rfl
  | cons b bs ih => intro n; exact ih _
theorem be_snoc (xs : List UInt8) (b : UInt8) : be (xs ++ [b]) = 256 * be xs + b.toNat := by rw [be, beFrom_append]; rfl
theorem form_zero (k : Nat) : form 0 k = List.replicate k 0 := by
  induction k with
  | zero => rfl
  | succ k ih => rw [form, Nat.zero_div, ih, List.replicate_succ']; rfl
theorem be_form (k : Nat) : ∀ x, be (form x k) = x % 256 ^ k := by
  induction k with
  | zero => intro x; simp [form, be, beFrom, Nat.mod_one]
  | succ k ih =>
    intro x
    have e : 256 ^ (k + 1) = 256 * 256 ^ k := by rw [Nat.pow_succ, Nat.mul_comm]
    rw [form, be_snoc, ih, UInt8.toNat_ofNat', e, Nat.mod_mul]
    omega
theorem rev_ind {p : List UInt8 → Prop} (h0 : p []) (h1 : ∀ xs b, p xs → p (xs ++ [b])) : ∀ xs, p xs := by
  intro xs
  have : ∀ n (xs : List UInt8), xs.length = n → p xs := by
    intro n
    induction n with
    | zero => intro xs h; rw [List.eq_nil_of_length_eq_zero h]; exact h0
    | succ n ih =>
      intro xs h
      have hne : xs ≠ [] := by intro e; subst e; simp at h
      rw [← List.dropLast_concat_getLast hne]
      exact h1 _ _ (ih _ (by simp [h]))
  exact this _ xs rfl
theorem form_be (xs : List UInt8) : form (be xs) xs.length = xs := by
  induction xs using rev_ind with
  | h0 => rfl
  | h1 xs b ih =>
    have hb := b.toNat_lt
    rw [List.length_append, be_snoc]
    show form ((256 * be xs + b.toNat) / 256) xs.length ++ [UInt8.ofNat (256 * be xs + b.toNat)] = _
    have e1 : (256 * be xs + b.toNat) / 256 = be xs := by omega
    have e2 : UInt8.ofNat (256 * be xs + b.toNat) = b := by apply UInt8.toNat_inj.1; rw [UInt8.toNat_ofNat']; omega
    rw [e1, e2, ih]
theorem be_lt (xs : List UInt8) : be xs < 256 ^ xs.length := by
  induction xs using rev_ind with
  | h0 => simp [be, beFrom]
  | h1 xs b ih =>
    have hb := b.toNat_lt
    rw [be_snoc, List.length_append, List.length_singleton, Nat.pow_succ]
    omega
theorem form_inj (x y k : Nat) (hx : x < 256 ^ k) (hy : y < 256 ^ k) (h : form x k = form y k) : x = y := by
  have := congrArg be h
  rwa [be_form, be_form, Nat.mod_eq_of_lt hx, Nat.mod_eq_of_lt hy] at this
theorem form_split (x k j : Nat) : form x (k + j) = form (x / 256 ^ j) k ++ form x j := by
  induction j generalizing x with
  | zero => simp [form]
  | succ j ih =>
    rw [← Nat.add_assoc, form, ih, form, List.append_assoc, Nat.div_div_eq_div_mul, Nat.pow_succ, Nat.mul_comm 256]

/-- P3.1 -/
def numOf (xs : List UInt8) (x : Nat) (z : Int) : List UInt8 × Int :=
  if z < 1 ∨ 8 < z then ([], 1) else if 256 ^ z.toNat ≤ x then ([], 3) else (xs ++ form x z.toNat, 0)
/-- P3.3: the number, the error, what is left. -/
def numRead (xs : List UInt8) (z : Int) : Nat × Int × List UInt8 :=
  if z < 1 ∨ 8 < z then (0, 1, xs) else if (xs.length : Int) < z then (0, 4, xs) else (be (xs.take z.toNat), 0, xs.drop z.toNat)
def takeRead (xs : List UInt8) (z : Int) : List UInt8 × Int × List UInt8 :=
  if z < 0 then ([], 1, xs) else if (xs.length : Int) < z then ([], 4, xs) else (xs.take z.toNat, 0, xs.drop z.toNat)
end Go.Proofs.Ytnadohbgnanpiaa.Wire
