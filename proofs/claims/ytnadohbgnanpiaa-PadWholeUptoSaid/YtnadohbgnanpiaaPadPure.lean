/-
  The plain law of padding: what Lay, Take and Chunks compute; no program in sight.
-/
import Derived.Test.YtnadohbgnanpiaaWirePure
namespace Go.Proofs.Ytnadohbgnanpiaa.Pad
open Go.Proofs.Ytnadohbgnanpiaa

/-- g parts of s bytes each. -/
def parts (s : Nat) : Nat → List UInt8 → List (List UInt8)
  | 0, _ => []
  | g + 1, l => l.take s :: parts s g (l.drop s)
theorem parts_length (s g : Nat) : ∀ l, (parts s g l).length = g := by
  induction g with
  | zero => intro l; rfl
  | succ g ih => intro l; simp [parts, ih]
theorem parts_get (s g : Nat) : ∀ l j, j < g → (parts s g l)[j]? = some ((l.drop (j * s)).take s) := by
  induction g with
  | zero => intro l j h; omega
  | succ g ih =>
    intro l j h
    cases j with
    | zero => simp [parts]
    | succ j =>
      rw [parts, List.getElem?_cons_succ, ih _ j (by omega), List.drop_drop]
      have e : s + j * s = (j + 1) * s := by rw [Nat.succ_mul, Nat.add_comm]
      rw [e]
theorem parts_flatten (s g : Nat) : ∀ l, l.length = g * s → (parts s g l).flatten = l := by
  induction g with
  | zero => intro l h; rw [Nat.zero_mul] at h; rw [List.eq_nil_of_length_eq_zero h]; rfl
  | succ g ih =>
    intro l h
    rw [Nat.succ_mul] at h
    rw [parts, List.flatten_cons, ih _ (by rw [List.length_drop]; omega), List.take_append_drop]
theorem parts_of_flatten (s : Nat) : ∀ ls : List (List UInt8), (∀ x ∈ ls, x.length = s) → parts s ls.length ls.flatten = ls := by
  intro ls
  induction ls with
  | nil => intro _; rfl
  | cons x r ih =>
    intro h
    have hx := h x (List.mem_cons_self)
    rw [List.length_cons, parts, List.flatten_cons, List.take_append_of_le_length (by omega), List.drop_append_of_le_length (by omega)]
    have e1 : x.take s = x := List.take_of_length_le (by omega)
    have e2 : x.drop s = [] := List.drop_eq_nil_of_le (by omega)
    rw [e1, e2, List.nil_append, ih fun y hy => h y (List.mem_cons_of_mem _ hy)]
theorem parts_mem (s g : Nat) : ∀ l, l.length = g * s → ∀ x ∈ parts s g l, x.length = s := by
  induction g with
  | zero => intro l _ x hx; cases hx
  | succ g ih =>
    intro l h x hx
    rw [Nat.succ_mul] at h
    rcases List.mem_cons.1 hx with rfl | hx
    · rw [List.length_take]; omega
    · exact ih _ (by rw [List.length_drop]; omega) x hx
theorem flatten_length (s : Nat) : ∀ ls : List (List UInt8), (∀ x ∈ ls, x.length = s) → ls.flatten.length = ls.length * s := by
  intro ls
  induction ls with
  | nil => intro _; simp
  | cons x r ih =>
    intro h
    rw [List.flatten_cons, List.length_append, ih fun y hy => h y (List.mem_cons_of_mem _ hy), h x (List.mem_cons_self), List.length_cons, Nat.succ_mul]
    omega
/-- All bytes of a generation of P bytes that holds xs. -/
def full (xs : List UInt8) (P : Nat) : List UInt8 := Wire.form xs.length 4 ++ xs ++ List.replicate (P - 4 - xs.length) 0
theorem full_length (xs : List UInt8) (P : Nat) (h : 4 + xs.length ≤ P) : (full xs P).length = P := by
  simp [full, Wire.form_length]; omega
def lays (xs : List UInt8) (g s : Nat) : List (List UInt8) := parts s g (full xs (g * s))
theorem lays_length (xs : List UInt8) (g s : Nat) : (lays xs g s).length = g := parts_length _ _ _
/-- What Take tells of symbols: the chunk, the error. -/
def fits (ls : List (List UInt8)) (g s : Nat) : Bool := decide (ls.length = g) && ls.all fun x => decide (x.length = s)
def opened (all : List UInt8) (room : Nat) : List UInt8 × Nat :=
  if Wire.be (all.take 4) < 1 ∨ room < Wire.be (all.take 4) then ([], 5) else if (all.drop (4 + Wire.be (all.take 4))).any (fun b => b != 0) then ([], 5) else ((all.drop 4).take (Wire.be (all.take 4)), 0)
def takes (ls : List (List UInt8)) (g s : Nat) : List UInt8 × Nat := if fits ls g s then opened ls.flatten (g * s - 4) else ([], 21)
theorem opened_full (xs : List UInt8) (P : Nat) (h1 : 1 ≤ xs.length) (h : 4 + xs.length ≤ P) (hP : P < 4294967296) : opened (full xs P) (P - 4) = (xs, 0) := by
  have hf : (Wire.form xs.length 4).length = 4 := Wire.form_length _ _
  have e0 : (full xs P).take 4 = Wire.form xs.length 4 := by
    rw [full, List.append_assoc, List.take_append_of_le_length (by omega), List.take_of_length_le (by omega)]
  have e1 : (full xs P).drop 4 = xs ++ List.replicate (P - 4 - xs.length) 0 := by
    rw [full, List.append_assoc, List.drop_append_of_le_length (by omega), List.drop_eq_nil_of_le (by omega), List.nil_append]
  have e2 : (full xs P).drop (4 + xs.length) = List.replicate (P - 4 - xs.length) 0 := by
    rw [← List.drop_drop, e1, List.drop_append_of_le_length (Nat.le_refl _), List.drop_eq_nil_of_le (Nat.le_refl _), List.nil_append]
  have e3 : Wire.be (Wire.form xs.length 4) = xs.length := by
    rw [Wire.be_form]; exact Nat.mod_eq_of_lt (by omega)
  rw [opened]
  simp only [e0, e3, e2, e1]
  rw [if_neg (by omega), if_neg (by simp [List.any_replicate])]
  rw [List.take_append_of_le_length (Nat.le_refl _), List.take_of_length_le (Nat.le_refl _)]
theorem full_opened (all : List UInt8) (P : Nat) (xs : List UInt8) (hl : all.length = P) (hP : 4 < P) (ho : opened all (P - 4) = (xs, 0)) : full xs P = all ∧ 1 ≤ xs.length ∧ 4 + xs.length ≤ P := by
  rw [opened] at ho
  obtain ⟨n, hn⟩ : ∃ n, Wire.be (all.take 4) = n := ⟨_, rfl⟩
  rw [hn] at ho
  by_cases h1 : n < 1 ∨ P - 4 < n
  · rw [if_pos h1] at ho; cases ho
  · rw [if_neg h1] at ho
    by_cases h2 : (all.drop (4 + n)).any (fun b => b != 0) = true
    · rw [if_pos h2] at ho; cases ho
    · rw [if_neg h2] at ho
      have e : xs = (all.drop 4).take n := by cases ho; rfl
      have hxl : xs.length = n := by rw [e, List.length_take, List.length_drop]; omega
      refine ⟨?_, by omega, by omega⟩
      have e0 : Wire.form n 4 = all.take 4 := by
        have := Wire.form_be (all.take 4)
        rw [hn, List.length_take, show min 4 all.length = 4 by omega] at this
        exact this
      have e2 : List.replicate (P - 4 - n) 0 = all.drop (4 + n) := by
        symm
        rw [List.eq_replicate_iff]
        refine ⟨by rw [List.length_drop]; omega, fun b hb => ?_⟩
        by_cases hz : b = 0
        · exact hz
        · exact absurd (List.any_eq_true.2 ⟨b, hb, by simp [hz]⟩) h2
      rw [full, hxl, e0, e2, e]
      have e3 : all.drop (4 + n) = (all.drop 4).drop n := by rw [List.drop_drop]
      rw [e3, List.append_assoc, List.take_append_drop, List.take_append_drop]
theorem fits_lays (xs : List UInt8) (g s : Nat) (h : 4 + xs.length ≤ g * s) : fits (lays xs g s) g s = true := by
  simp only [fits, lays, parts_length, decide_true, Bool.true_and, List.all_eq_true, decide_eq_true_eq]
  exact parts_mem s g _ (full_length xs (g * s) h)
theorem takes_lays (xs : List UInt8) (g s : Nat) (h1 : 1 ≤ xs.length) (h : 4 + xs.length ≤ g * s) (hP : g * s < 4294967296) : takes (lays xs g s) g s = (xs, 0) := by
  rw [takes, if_pos (fits_lays xs g s h), lays, parts_flatten s g _ (full_length xs (g * s) h)]
  exact opened_full xs (g * s) h1 h hP
theorem lays_takes (ls : List (List UInt8)) (g s : Nat) (xs : List UInt8) (hP : 4 < g * s) (ht : takes ls g s = (xs, 0)) : lays xs g s = ls ∧ 1 ≤ xs.length ∧ 4 + xs.length ≤ g * s := by
  by_cases hf : fits ls g s = true
  · rw [takes, if_pos hf] at ht
    simp only [fits, Bool.and_eq_true, decide_eq_true_eq, List.all_eq_true] at hf
    obtain ⟨rfl, hs⟩ := hf
    obtain ⟨h1, h2, h3⟩ := full_opened ls.flatten (ls.length * s) xs (flatten_length s ls hs) hP ht
    exact ⟨by rw [lays, h1]; exact parts_of_flatten s ls hs, h2, h3⟩
  · rw [takes, if_neg hf] at ht
    cases ht
theorem takes_bad (ls : List (List UInt8)) (g s : Nat) (h : (takes ls g s).2 ≠ 0) : (takes ls g s).1 = [] := by
  by_cases hf : fits ls g s = true
  · rw [takes, if_pos hf] at h ⊢
    by_cases h1 : Wire.be (ls.flatten.take 4) < 1 ∨ g * s - 4 < Wire.be (ls.flatten.take 4)
    · rw [opened, if_pos h1]
    · rw [opened, if_neg h1] at h ⊢
      by_cases h2 : (ls.flatten.drop (4 + Wire.be (ls.flatten.take 4))).any (fun b => b != 0) = true
      · rw [if_pos h2]
      · rw [if_neg h2] at h
        exact absurd rfl h
  · rw [takes, if_neg hf]

/-! ### Chunks -/
/-- What has been handed, and from where the rest is open. -/
abbrev St := List (List UInt8) × Nat
def hand (xs : List UInt8) (st : St) (to : Nat) : St := (st.1 ++ [(xs.take to).drop st.2], to)
def whole (xs : List UInt8) (room to : Nat) : Nat → St → St
  | 0, st => st
  | f + 1, st => if st.2 + room ≤ to then whole xs room to f (hand xs st (st.2 + room)) else st
def cutAt (xs : List UInt8) (room : Nat) (st : St) (c : Nat) : St :=
  let t := whole xs room c (xs.length + 1) st
  if t.2 < c then hand xs t c else t
def chunks (xs : List UInt8) (cuts : List Nat) (room : Nat) : St := whole xs room xs.length (xs.length + 1) (cuts.foldl (cutAt xs room) ([], 0))
end Go.Proofs.Ytnadohbgnanpiaa.Pad
