/-
  Words for slices of structs: what a value's cells say of it, in any nesting; slices that are read; rows of a call's own.
-/
import Derived.Test.YthgnjojkncodeaaGreatNBase
namespace Go.Proofs.YthgnjojkncodeaaGreat
open Go.RowKit

/-! ### What changes -/
/-- From w to w' only blocks of S, and new ones, are written. -/
structure Chg (S : Nat → Prop) (w w' : World) : Prop where
  os : w'.os = w.os
  tape : w'.tape = w.tape
  output : w'.output = w.output
  size : w.heap.size ≤ w'.heap.size
  block : ∀ k, k < w.heap.size → ¬ S k → w'.heap[k]? = w.heap[k]?
def NoB : Nat → Prop := fun _ => False
section
variable {S T : Nat → Prop} {w w1 w2 w0 : World}
theorem Chg.refl (S : Nat → Prop) (w : World) : Chg S w w := ⟨rfl, rfl, rfl, Nat.le_refl _, fun _ _ _ => rfl⟩
theorem Chg.trans (h : Chg S w w1) (k : Chg T w1 w2) (ht : ∀ b, b < w.heap.size → T b → S b) : Chg S w w2 :=
  ⟨k.os.trans h.os, k.tape.trans h.tape, k.output.trans h.output, Nat.le_trans h.size k.size, fun b hb hs =>
    (k.block b (Nat.lt_of_lt_of_le hb h.size) (fun hT => hs (ht b hb hT))).trans (h.block b hb hs)⟩
theorem Chg.mono (h : Chg S w w1) (ht : ∀ b, b < w.heap.size → S b → T b) : Chg T w w1 := ⟨h.os, h.tape, h.output, h.size, fun b hb hs => h.block b hb fun hS => hs (ht b hb hS)⟩
theorem Chg.ofBelow (h : Below w.heap.size w w1) : Chg S w w1 := ⟨h.os, h.tape, h.output, h.size, fun k hk _ => h.block k hk⟩
theorem Chg.thenBelow (h : Chg S w w1) (k : Below w1.heap.size w1 w2) : Chg S w w2 := h.trans (T := NoB) (Chg.ofBelow k) fun _ _ h => h.elim
theorem Chg.ofGrown {row : Option Nat} (h : w.grownBy w1 row) : Chg (fun k => some k = row) w w1 := ⟨h.os, h.tape, h.output, h.size, fun k hk hs => h.block k hk hs⟩
theorem Chg.alloc (h : Chg S w w1) (o : Obj) : Chg S w (w1.alloc o) := h.thenBelow ((Below.refl _ _).alloc (Nat.le_refl _) _)
theorem Chg.drew (h : Chg S w w1) : Chg S w w1.drew := ⟨h.os, h.tape, h.output, h.size, h.block⟩
theorem Chg.drewN (h : Chg S w w1) (n : Nat) : Chg S w (w1.drewN n) := ⟨h.os, h.tape, h.output, h.size, h.block⟩
theorem Chg.fromDrew (h : Chg S w.drew w1) : Chg S w w1 := ⟨h.os, h.tape, h.output, h.size, h.block⟩
theorem Chg.below {B : Nat} (hb : Below B w0 w) (h : Chg S w w1) (hB : B ≤ w.heap.size) (hs : ∀ k, S k → B ≤ k) : Below B w0 w1 :=
  ⟨h.os.trans hb.os, h.tape.trans hb.tape, h.output.trans hb.output, Nat.le_trans hb.size h.size, fun k hk =>
    (h.block k (by omega) fun hS => by have := hs k hS; omega).trans (hb.block k hk)⟩
theorem Chg.set (w : World) (p : Addr) (v : Value) : Chg (fun k => k = p.block) w (w.setCell p v) :=
  ⟨rfl, rfl, rfl, by simp [World.setCell], fun k _ hs => Below.heap_setCell w p v k hs⟩
theorem Chg.cell (h : Chg S w w1) {a : Addr} {v : Value} (hc : w.cell? a = some v) (hs : ¬ S a.block) : w1.cell? a = some v :=
  (World.cell?_of_block (h.block _ (World.block_lt_of_cell? w a hc) hs)).trans hc
end

/-! ### What cells say -/
/-- A kind of data: how many cells a value has, and what they say. -/
structure El (α : Type) where
  k : Nat
  bulk : α → Nat
  V : World → (Nat → Prop) → List Value → α → Prop
  len : ∀ {w ok vs x}, V w ok vs x → vs.length = k
  one : ∀ {w ok vs x}, V w ok vs x → ∀ u ∈ vs, u.oneCell' = true
  keep : ∀ {w w' : World} {ok vs x}, V w ok vs x → w.heap.size ≤ w'.heap.size → (∀ b, ok b → b < w.heap.size → w'.heap[b]? = w.heap[b]?) → V w' ok vs x
  mono : ∀ {w ok ok' vs x}, V w ok vs x → (∀ b, ok b → b < w.heap.size → ok' b) → V w ok' vs x
section
variable {α : Type} {E : El α} {w w' : World} {ok ok' S T : Nat → Prop} {vs : List Value} {x : α}
theorem El.chg (E : El α) (h : E.V w ok vs x) (hc : Chg S w w') (hs : ∀ b, b < w.heap.size → ok b → ¬ S b) : E.V w' ok vs x := E.keep h hc.size fun b ho hb => hc.block b hb (hs b hb ho)
theorem El.below (E : El α) (h : E.V w ok vs x) (hb : Below w.heap.size w w') : E.V w' ok vs x := E.keep h hb.size fun b _ hl => hb.block b hl
end
def El.int : El Int where
  k := 1
  bulk := fun _ => 1
  V := fun _ _ vs x => vs = [.int .i64 x] ∧ -9223372036854775808 ≤ x ∧ x ≤ 9223372036854775807
  len := by rintro w ok vs x ⟨rfl, _⟩; rfl
  one := by rintro w ok vs x ⟨rfl, _⟩ u hu; simp at hu; subst hu; rfl
  keep := fun h _ _ => h
  mono := fun h _ => h
def El.u64 : El Nat where
  k := 1
  bulk := fun _ => 1
  V := fun _ _ vs x => vs = [.int .u64 (x : Int)] ∧ x ≤ 18446744073709551615
  len := by rintro w ok vs x ⟨rfl, _⟩; rfl
  one := by rintro w ok vs x ⟨rfl, _⟩ u hu; simp at hu; subst hu; rfl
  keep := fun h _ _ => h
  mono := fun h _ => h
def El.bool : El Bool where
  k := 1
  bulk := fun _ => 1
  V := fun _ _ vs x => vs = [.bool x]
  len := by rintro w ok vs x rfl; rfl
  one := by rintro w ok vs x rfl u hu; simp at hu; subst hu; rfl
  keep := fun h _ _ => h
  mono := fun h _ => h
def El.prod {α β : Type} (E : El α) (F : El β) : El (α × β) where
  k := E.k + F.k
  bulk := fun x => E.bulk x.1 + F.bulk x.2
  V := fun w ok vs x => ∃ us ws, vs = us ++ ws ∧ E.V w ok us x.1 ∧ F.V w ok ws x.2
  len := by rintro w ok vs x ⟨us, ws, rfl, h1, h2⟩; rw [List.length_append, E.len h1, F.len h2]
  one := by
    rintro w ok vs x ⟨us, ws, rfl, h1, h2⟩ u hu
    rcases List.mem_append.1 hu with hu | hu
    · exact E.one h1 u hu
    · exact F.one h2 u hu
  keep := by rintro w w' ok vs x ⟨us, ws, rfl, h1, h2⟩ hs hk; exact ⟨us, ws, rfl, E.keep h1 hs hk, F.keep h2 hs hk⟩
  mono := by rintro w ok ok' vs x ⟨us, ws, rfl, h1, h2⟩ hk; exact ⟨us, ws, rfl, E.mono h1 hk, F.mono h2 hk⟩
/-- The slice '.slice A n c' reads as xs; the blocks meet 'ok'. -/
def Rd {α : Type} (E : El α) (w : World) (ok : Nat → Prop) (A : Option Addr) (n : Nat) (xs : List α) : Prop :=
  xs.length = n ∧ n ≤ 9223372036854775807 ∧ (0 < n → ∃ b o, A = some ⟨b, o, none⟩ ∧ ok b ∧ b < w.heap.size ∧ ∀ j x, xs[j]? = some x → ∃ vs, E.V w ok vs x ∧ ∀ r u, vs[r]? = some u → w.cell? ⟨b, o + (j * E.k + r), none⟩ = some u)
section
variable {α : Type} {E : El α} {w w' : World} {ok ok' S T : Nat → Prop} {vs : List Value} {x : α} {A : Option Addr} {n : Nat} {xs : List α}
theorem Rd.len (h : Rd E w ok A n xs) : xs.length = n := h.1
theorem Rd.max (h : Rd E w ok A n xs) : n ≤ 9223372036854775807 := h.2.1
theorem Rd.keep (h : Rd E w ok A n xs) (hs : w.heap.size ≤ w'.heap.size) (hk : ∀ k, ok k → k < w.heap.size → w'.heap[k]? = w.heap[k]?) : Rd E w' ok A n xs := by
  refine ⟨h.1, h.2.1, fun hn => ?_⟩
  obtain ⟨b, o, e, ho, hl, hc⟩ := h.2.2 hn
  refine ⟨b, o, e, ho, by omega, fun j x hx => ?_⟩
  obtain ⟨vs, hv, hcc⟩ := hc j x hx
  exact ⟨vs, E.keep hv hs hk, fun r u hu => (World.cell?_of_block (a := ⟨b, o + (j * E.k + r), none⟩) (hk b ho hl)).trans (hcc r u hu)⟩
theorem Rd.mono (h : Rd E w ok A n xs) (hk : ∀ k, ok k → k < w.heap.size → ok' k) : Rd E w ok' A n xs := by
  refine ⟨h.1, h.2.1, fun hn => ?_⟩
  obtain ⟨b, o, e, ho, hl, hc⟩ := h.2.2 hn
  refine ⟨b, o, e, hk _ ho hl, hl, fun j x hx => ?_⟩
  obtain ⟨vs, hv, hcc⟩ := hc j x hx
  exact ⟨vs, E.mono hv hk, hcc⟩
theorem Rd.nil (E : El α) (w : World) (ok : Nat → Prop) (A : Option Addr) : Rd E w ok A 0 [] := ⟨rfl, by omega, fun h => absurd h (by omega)⟩
theorem Rd.chg (h : Rd E w ok A n xs) (hc : Chg S w w') (hs : ∀ b, b < w.heap.size → ok b → ¬ S b) : Rd E w' ok A n xs := h.keep hc.size fun b ho hb => hc.block b hb (hs b hb ho)
theorem Rd.below (h : Rd E w ok A n xs) (hb : Below w.heap.size w w') : Rd E w' ok A n xs := h.keep hb.size fun b _ hl => hb.block b hl
theorem Rd.at_ (h : Rd E w ok A n xs) (j : Nat) (x : α) (hx : xs[j]? = some x) : ∃ b o vs, A = some ⟨b, o, none⟩ ∧ ok b ∧ b < w.heap.size ∧ E.V w ok vs x ∧ ∀ r u, vs[r]? = some u → w.cell? ⟨b, o + (j * E.k + r), none⟩ = some u := by
  have hj : j < xs.length := (List.getElem?_eq_some_iff.1 hx).1
  obtain ⟨b, o, e, ho, hl, hc⟩ := h.2.2 (by have := h.1; omega)
  obtain ⟨vs, hv, hcc⟩ := hc j x hx
  exact ⟨b, o, vs, e, ho, hl, hv, hcc⟩
/-- s[lo:hi]. -/
theorem Rd.cut (h : Rd E w ok A n xs) {c lo hi : Nat} (h1 : lo ≤ hi) (h2 : hi ≤ n) (h3 : n ≤ c) :
    Rd E w ok (if c = lo then A else A.map fun a => a.add (lo * E.k)) (hi - lo) ((xs.take hi).drop lo) := by
  refine ⟨by rw [List.length_drop, List.length_take, h.1]; omega, by have := h.2.1; omega, fun hn => ?_⟩
  obtain ⟨b, o, rfl, ho, hl, hc⟩ := h.2.2 (by omega)
  rw [if_neg (by omega)]
  refine ⟨b, o + lo * E.k, by rw [Option.map_some, addPlain], ho, hl, fun j x hx => ?_⟩
  rw [List.getElem?_drop, List.getElem?_take] at hx
  split at hx
  · obtain ⟨vs, hv, hcc⟩ := hc (lo + j) x hx
    refine ⟨vs, hv, fun r u hu => ?_⟩
    have := hcc r u hu
    rw [Nat.add_mul] at this
    rw [← this]
    congr 2
    omega
  · cases hx
end
def El.slice {α : Type} (E : El α) : El (List α) where
  k := 1
  bulk := fun x => (x.map E.bulk).sum + 1
  V := fun w ok vs x => ∃ A n c, vs = [.slice A n c] ∧ n ≤ c ∧ Rd E w ok A n x
  len := by rintro w ok vs x ⟨A, n, c, rfl, _⟩; rfl
  one := by rintro w ok vs x ⟨A, n, c, rfl, _⟩ u hu; simp at hu; subst hu; rfl
  keep := by rintro w w' ok vs x ⟨A, n, c, rfl, hc, hr⟩ hs hk; exact ⟨A, n, c, rfl, hc, hr.keep hs hk⟩
  mono := by rintro w ok ok' vs x ⟨A, n, c, rfl, hc, hr⟩ hk; exact ⟨A, n, c, rfl, hc, hr.mono hk⟩

/-! ### Rows of a call's own -/
/-- Cell lists, one an element. -/
inductive Cells {α : Type} (E : El α) (w : World) (ok : Nat → Prop) : List (List Value) → List α → Prop
  | nil : Cells E w ok [] []
  | cons {vs : List Value} {x : α} {vss : List (List Value)} {xs : List α} : E.V w ok vs x → Cells E w ok vss xs → Cells E w ok (vs :: vss) (x :: xs)
section
variable {α : Type} {E : El α} {w w' : World} {ok ok' S T : Nat → Prop} {vs : List Value} {x : α} {vss wss : List (List Value)} {xs ys : List α}
theorem Cells.length (h : Cells E w ok vss xs) : vss.length = xs.length := by
  induction h with
  | nil => rfl
  | cons _ _ ih => simp [ih]
theorem Cells.flat (h : Cells E w ok vss xs) : vss.flatten.length = xs.length * E.k := by
  induction h with
  | nil => simp
  | cons hv _ ih => rw [List.flatten_cons, List.length_append, E.len hv, ih, List.length_cons, Nat.succ_mul]; omega
theorem Cells.keep (h : Cells E w ok vss xs) (hs : w.heap.size ≤ w'.heap.size) (hk : ∀ k, ok k → k < w.heap.size → w'.heap[k]? = w.heap[k]?) : Cells E w' ok vss xs := by
  induction h with
  | nil => exact .nil
  | cons hv _ ih => exact .cons (E.keep hv hs hk) ih
theorem Cells.mono (h : Cells E w ok vss xs) (hk : ∀ k, ok k → k < w.heap.size → ok' k) : Cells E w ok' vss xs := by
  induction h with
  | nil => exact .nil
  | cons hv _ ih => exact .cons (E.mono hv hk) ih
theorem Cells.append (h : Cells E w ok vss xs) (k : Cells E w ok wss ys) : Cells E w ok (vss ++ wss) (xs ++ ys) := by
  induction h with
  | nil => exact k
  | cons hv _ ih => exact .cons hv ih
theorem Cells.snoc (h : Cells E w ok vss xs) (k : E.V w ok vs x) : Cells E w ok (vss ++ [vs]) (xs ++ [x]) := h.append (.cons k .nil)
theorem Cells.at_ (h : Cells E w ok vss xs) : ∀ (j : Nat) (x : α), xs[j]? = some x → ∃ vs, vss[j]? = some vs ∧ E.V w ok vs x ∧ ∀ r u, vs[r]? = some u → vss.flatten[j * E.k + r]? = some u := by
  induction h with
  | nil => intro j x hx; simp at hx
  | @cons vs x0 vss xs hv ht ih =>
    intro j x hx
    have hl := E.len hv
    cases j with
    | zero =>
      simp at hx
      subst hx
      refine ⟨vs, rfl, hv, fun r u hu => ?_⟩
      have hr : r < vs.length := (List.getElem?_eq_some_iff.1 hu).1
      rw [List.flatten_cons, Nat.zero_mul, Nat.zero_add, List.getElem?_append_left hr]
      exact hu
    | succ j =>
      obtain ⟨us, h1, h2, h3⟩ := ih j x (by simpa using hx)
      refine ⟨us, by simpa using h1, h2, fun r u hu => ?_⟩
      rw [List.flatten_cons, List.getElem?_append_right (by rw [hl, Nat.succ_mul]; omega), ← h3 r u hu]
      congr 1
      rw [hl, Nat.succ_mul]
      omega
theorem Cells.set (h : Cells E w ok vss xs) : ∀ (j : Nat) (us : List Value) (y : α), E.V w ok us y → j < xs.length → Cells E w ok (vss.set j us) (xs.set j y) := by
  induction h with
  | nil => intro j us y _ hj; simp at hj
  | cons hv ht ih =>
    intro j us y hy hj
    cases j with
    | zero => exact .cons hy ht
    | succ j => exact .cons hv (ih j us y hy (by simpa using hj))
theorem flatten_set (k : Nat) : ∀ (vss : List (List Value)), (∀ vs ∈ vss, vs.length = k) → ∀ (j r : Nat) (vs : List Value) (u : Value), vss[j]? = some vs → r < k → vss.flatten.set (j * k + r) u = (vss.set j (vs.set r u)).flatten := by
  intro vss
  induction vss with
  | nil => intro _ j r vs u h; simp at h
  | cons v0 vss ih =>
    intro hk j r vs u h hr
    have h0 : v0.length = k := hk v0 (by simp)
    cases j with
    | zero =>
      simp at h
      subst h
      rw [List.flatten_cons, Nat.zero_mul, Nat.zero_add, List.set_append_left _ _ (by omega)]
      rfl
    | succ j =>
      have e := ih (fun v hv => hk v (by simp [hv])) j r vs u (by simpa using h) hr
      rw [List.flatten_cons, List.set_append_right _ _ (by rw [h0, Nat.succ_mul]; omega)]
      have e2 : (j + 1) * k + r - v0.length = j * k + r := by rw [h0, Nat.succ_mul]; omega
      rw [e2, e]
      rfl
theorem flatten_take (k : Nat) : ∀ (vss : List (List Value)), (∀ vs ∈ vss, vs.length = k) → ∀ i : Nat, (vss.take i).flatten = vss.flatten.take (i * k) := by
  intro vss
  induction vss with
  | nil => intro _ i; simp
  | cons v vss ih =>
    intro h i
    have h0 : v.length = k := h v (by simp)
    cases i with
    | zero => simp
    | succ i =>
      rw [List.take_succ_cons, List.flatten_cons, List.flatten_cons, ih (fun u hu => h u (by simp [hu])) i, List.take_append, List.take_of_length_le (l := v) (by rw [h0, Nat.succ_mul]; omega), h0, Nat.succ_mul, Nat.add_sub_cancel]
theorem flatten_drop (k : Nat) : ∀ (vss : List (List Value)), (∀ vs ∈ vss, vs.length = k) → ∀ i : Nat, (vss.drop i).flatten = vss.flatten.drop (i * k) := by
  intro vss
  induction vss with
  | nil => intro _ i; simp
  | cons v vss ih =>
    intro h i
    have h0 : v.length = k := h v (by simp)
    cases i with
    | zero => simp
    | succ i =>
      rw [List.drop_succ_cons, List.flatten_cons, ih (fun u hu => h u (by simp [hu])) i, List.drop_append, (List.drop_eq_nil_of_le (by rw [h0, Nat.succ_mul]; omega) : v.drop ((i + 1) * k) = []), h0, Nat.succ_mul, Nat.add_sub_cancel, List.nil_append]
theorem Cells.lens (h : Cells E w ok vss xs) : ∀ vs ∈ vss, vs.length = E.k := by
  induction h with
  | nil => intro _ h; cases h
  | cons hv _ ih =>
    intro vs hm
    rcases List.mem_cons.1 hm with rfl | hm
    · exact E.len hv
    · exact ih vs hm
theorem Cells.drop (h : Cells E w ok vss xs) : ∀ (j : Nat), Cells E w ok (vss.drop j) (xs.drop j) := by
  induction h with
  | nil => intro j; simp; exact .nil
  | cons hv ht ih =>
    intro j
    cases j with
    | zero => exact .cons hv ht
    | succ j => exact ih j
theorem Cells.take (h : Cells E w ok vss xs) : ∀ (j : Nat), Cells E w ok (vss.take j) (xs.take j) := by
  induction h with
  | nil => intro j; simp; exact .nil
  | cons hv ht ih =>
    intro j
    cases j with
    | zero => exact .nil
    | succ j => exact .cons hv (ih j)
end
/-- A row of a call's own: its blocks are among S; what its elements lead to lies elsewhere than the row. -/
def Own {α : Type} (E : El α) (T : TypeId) (w : World) (S : Nat → Prop) (v : Value) (xs : List α) : Prop :=
  ∃ vss, Cells E w (fun k => S k ∧ some k ≠ v.ownBlock) vss xs ∧ w.ownsRow 0 T E.k v xs.length vss.flatten ∧ ∀ g, v.ownBlock = some g → S g
section
variable {α : Type} {E : El α} {T : TypeId} {w w' : World} {ok ok' S D S' : Nat → Prop} {v : Value} {x : α} {xs ys : List α}
theorem Own.nil (E : El α) (T : TypeId) (w : World) (S : Nat → Prop) : Own E T w S (.slice none 0 0) [] := ⟨[], .nil, World.ownsRow_nil w 0 _ _, fun g h => by cases h⟩
theorem Own.mono (h : Own E T w S v xs) (hs : ∀ k, k < w.heap.size → S k → S' k) : Own E T w S' v xs := by
  obtain ⟨vss, h1, h2, h3⟩ := h
  exact ⟨vss, h1.mono fun k ⟨hk, hn⟩ hl => ⟨hs k hl hk, hn⟩, h2, fun g hg => hs g (h2.lt g hg).2 (h3 g hg)⟩
theorem Own.chg (h : Own E T w S v xs) (hc : Chg D w w') (hs : ∀ k, k < w.heap.size → S k → ¬ D k) : Own E T w' S v xs := by
  obtain ⟨vss, h1, h2, h3⟩ := h
  refine ⟨vss, h1.keep hc.size fun k ⟨hk, _⟩ hl => hc.block k hl (hs k hl hk), ?_, h3⟩
  refine ⟨h2.1, ?_⟩
  rcases h2.2 with h4 | ⟨g, cap, cur, rfl, hb, hg, r⟩
  · exact .inl h4
  · have hl := (h2.lt g rfl).2
    exact .inr ⟨g, cap, cur, rfl, hb, (hc.block g hl (hs g hl (h3 g rfl))).trans hg, r⟩
theorem Own.below (h : Own E T w S v xs) (hb : Below w.heap.size w w') : Own E T w' S v xs := h.chg (D := NoB) (Chg.ofBelow hb) fun _ _ _ h => h
theorem Own.alloc (h : Own E T w S v xs) (o : Obj) : Own E T (w.alloc o) S v xs := h.below ((Below.refl _ _).alloc (Nat.le_refl _) _)
theorem Own.lt (h : Own E T w S v xs) : ∀ g, v.ownBlock = some g → S g ∧ g < w.heap.size := by
  obtain ⟨vss, h1, h2, h3⟩ := h
  exact fun g hg => ⟨h3 g hg, (h2.lt g hg).2⟩
theorem Own.shape (h : Own E T w S v xs) : ∃ A n c, v = .slice A n c ∧ n = xs.length ∧ n ≤ c := by
  obtain ⟨vss, h1, h2, h3⟩ := h
  rcases h2.2 with ⟨rfl, h0⟩ | ⟨g, cap, cur, rfl, hb, hg, hn, _⟩
  · exact ⟨none, 0, 0, rfl, h0.symm, Nat.le_refl _⟩
  · exact ⟨_, _, cap, rfl, rfl, hn⟩
theorem Own.rd (h : Own E T w S v xs) (hm : xs.length ≤ 9223372036854775807) : ∃ A c, v = .slice A xs.length c ∧ xs.length ≤ c ∧ Rd E w S A xs.length xs := by
  obtain ⟨vss, h1, h2, h3⟩ := h
  have h2' := h2
  rcases h2.2 with ⟨rfl, h0⟩ | ⟨g, cap, cur, rfl, hb, hg, hn, hmm, hc, ht⟩
  · refine ⟨none, 0, by rw [h0], by omega, rfl, hm, fun h => by omega⟩
  · refine ⟨_, cap, rfl, hn, rfl, hm, fun h0 => ⟨g, 0, rfl, h3 g rfl, (h2.lt g rfl).2, fun j x hx => ?_⟩⟩
    obtain ⟨vs, _, hv, hcc⟩ := h1.at_ j x hx
    refine ⟨vs, E.mono hv fun k hk _ => hk.1, fun r u hu => ?_⟩
    have := World.ownsRow.cells h2' (g := g) rfl _ _ (hcc r u hu)
    rwa [addPlain] at this
/-- An element's cells. -/
theorem Own.at_ (h : Own E T w S v xs) (j : Nat) (x : α) (hx : xs[j]? = some x) : ∃ g cap vs, v = .slice (some ⟨g, 0, none⟩) xs.length cap ∧ S g ∧ g < w.heap.size ∧ xs.length ≤ cap ∧ E.V w (fun k => S k ∧ k ≠ g) vs x ∧
    (∀ r u, vs[r]? = some u → w.cell? ⟨g, j * E.k + r, none⟩ = some u) ∧ ∀ i, w.frozen? ⟨g, i, none⟩ = false := by
  obtain ⟨vss, h1, h2, h3⟩ := h
  have h2' := h2
  have hj : j < xs.length := (List.getElem?_eq_some_iff.1 hx).1
  rcases h2.2 with ⟨rfl, h0⟩ | ⟨g, cap, cur, rfl, hb, hg, hn, hmm, hc, ht⟩
  · omega
  · obtain ⟨vs, _, hv, hcc⟩ := h1.at_ j x hx
    refine ⟨g, cap, vs, rfl, h3 g rfl, (h2.lt g rfl).2, hn, E.mono hv fun k hk _ => ⟨hk.1, fun e => hk.2 (by rw [e]; rfl)⟩, fun r u hu => ?_, fun i => by simp [World.frozen?, hg]⟩
    have := World.ownsRow.cells h2' (g := g) rfl _ _ (hcc r u hu)
    rwa [addPlain, Nat.zero_add] at this
/-- A cell of an element is written. -/
theorem Own.store {g cap : Nat} (h : Own E T w S (.slice (some ⟨g, 0, none⟩) xs.length cap) xs) (j r : Nat) (u : Value) (x y : α) (hx : xs[j]? = some x) (hr : r < E.k)
    (hV : ∀ vs, E.V w (fun k => S k ∧ k ≠ g) vs x → E.V w (fun k => S k ∧ k ≠ g) (vs.set r u) y) : Own E T (w.setCell ⟨g, j * E.k + r, none⟩ u) S (.slice (some ⟨g, 0, none⟩) xs.length cap) (xs.set j y) := by
  obtain ⟨vss, h1, h2, h3⟩ := h
  have hj : j < xs.length := (List.getElem?_eq_some_iff.1 hx).1
  obtain ⟨vs, hvs, hv, hcc⟩ := h1.at_ j x hx
  have e : (fun k => S k ∧ k ≠ g) = fun k => S k ∧ some k ≠ (Value.slice (some ⟨g, 0, none⟩) xs.length cap).ownBlock := by
    funext k
    simp [Value.ownBlock]
  rw [e] at hV
  have h4 := h1.set j (vs.set r u) y (hV vs hv) hj
  have hs := World.ownsRow.stored h2 (j * E.k + r) u
  rw [flatten_set E.k vss h1.lens j r vs u hvs hr] at hs
  refine ⟨_, h4.keep (by simp [World.setCell]) fun k hk _ => Below.heap_setCell w _ u k ?_, ?_, h3⟩
  · intro hkg
    exact hk.2 (by rw [hkg]; rfl)
  · rw [List.length_set]
    exact hs.1
/-- append(own, x), x's cells lying somewhere. -/
theorem Own.app {P : Program} {W : World} (st ty : TypeId) (i : TypeInfo) (z : Value) (bytes : Nat) (ht : P.underlying st = some (.slice T)) (hi : P.info? T = some i) (hz : i.zero = some z)
    (hsize : i.size = E.k) (hby : i.bytes = bytes) (hzs : z.cells.size = E.k) (hk : 0 < E.k) (HO : Own E T W S v xs) (ad : Addr) (vs : List Value) (x : α) (hV : E.V W (fun k => S k ∧ some k ≠ v.ownBlock) vs x)
    (hx : ∀ j u, vs[j]? = some u → W.cell? (ad.add j) = some u) (hm : xs.length + 1 ≤ maxLen) (hb : (xs.length + 1) * bytes ≤ 140737488355328) (c : Nat) :
    ∃ v1 w1, (Builtin.append_ #[st, st] ty #[v, .slice (some ad) 1 c]).run P W = .ok v1 w1 ∧ Own E T w1 (fun k => S k ∨ k = W.heap.size) v1 (xs ++ [x]) ∧ W.grownBy w1 v.ownBlock ∧
      (v1.ownBlock = v.ownBlock ∨ v1.ownBlock = some W.heap.size) := by
  obtain ⟨vss, h1, h2, h3⟩ := HO
  obtain ⟨v1, w1, hr, k2, k3, _, k5⟩ := run_append_own_at (P := P) W 0 st ty T i z E.k bytes ht hi hz hsize hby hzs hk v xs.length vss.flatten h2 ad 1 c vs (by rw [E.len hV]; omega) hx (E.one hV) hm hb (Nat.zero_le _)
  refine ⟨v1, w1, hr, ⟨vss ++ [vs], ?_, ?_, ?_⟩, k3, k5⟩
  · refine ((h1.snoc hV).mono (ok' := fun k => (S k ∨ k = W.heap.size) ∧ some k ≠ v1.ownBlock ∧ some k ≠ v.ownBlock) fun k hk hl => ⟨.inl hk.1, ?_, hk.2⟩).keep k3.size (fun k hk hl => k3.block k hl hk.2.2) |>.mono fun k hk _ => ⟨hk.1, hk.2.1⟩
    rcases k5 with k5 | k5
    · rw [k5]; exact hk.2
    · rw [k5]; intro e; injection e with e; omega
  · rw [List.length_append, List.flatten_append, List.flatten_singleton]
    exact k2
  · intro g hg
    rcases k5 with k5 | k5
    · exact .inl (h3 g (by rw [← k5]; exact hg))
    · rw [hg] at k5; injection k5 with k5; exact .inr k5
/-- The same at a step of a region that draws ('go_region_law'). -/
theorem Own.step {P : Program} {ops : Array Oper} {o : Oper} {a : Act} {Q : Exit → Act → World → Prop} {K : Act → World → Prop} {X : Prop} {W : World} (hgd : o.guard = none) (s y : Operand) (st : TypeId)
    (ho : o.op = .call { callee := .builtin .append, args := #[s, y], argTypes := #[st, st] }) (i : TypeInfo) (z : Value) (bytes : Nat) (ht : P.underlying st = some (.slice T)) (hi : P.info? T = some i) (hz : i.zero = some z)
    (hsize : i.size = E.k) (hby : i.bytes = bytes) (hzs : z.cells.size = E.k) (hk : 0 < E.k) (hs : a.eval s = v) (HO : Own E T W S v xs) (ad : Addr) (c : Nat) (vs : List Value) (x : α) (hy : a.eval y = .slice (some ad) 1 c) (hV : E.V W (fun k => S k ∧ some k ≠ v.ownBlock) vs x)
    (hx : ∀ j u, vs[j]? = some u → W.cell? (ad.add j) = some u) (hm : xs.length + 1 ≤ maxLen) (hb : (xs.length + 1) * bytes ≤ 140737488355328)
    (h : ∀ v1 w1, Own E T w1 (fun k => S k ∨ k = W.heap.size) v1 (xs ++ [x]) → W.grownBy w1 v.ownBlock → (v1.ownBlock = v.ownBlock ∨ v1.ownBlock = some W.heap.size) → K (a.put o.dst v1) w1) :
    if Region.wanted o (yielded ops a.tmps) = true then Oper.wp P o a W K Q else X := by
  have hw : Region.wanted o (yielded ops a.tmps) = true := by simp [Region.wanted, hgd]
  rw [if_pos hw]
  obtain ⟨v1, w1, hr, h2, h3, h5⟩ := Own.app st o.type i z bytes ht hi hz hsize hby hzs hk HO ad vs x hV hx hm hb c
  unfold Oper.wp execOp
  simp only [ho, resolve, invoke, builtin, Sem.run_bind, Sem.run_pure, Result.andThen_ok, List.map_toArray, List.map_cons, List.map_nil, hs, hy, hr]
  exact h v1 w1 h2 h3 h5
/-- At the list of a plain region's operations. -/
theorem Own.list {P : Program} {ops : Array Oper} {rest : List Oper} {o : Oper} {a : Act} {Q : Exit → Act → World → Prop} {W : World} (hgd : Region.wanted o (yielded ops a.tmps) = true) (s y : Operand) (st : TypeId)
    (ho : o.op = .call { callee := .builtin .append, args := #[s, y], argTypes := #[st, st] }) (i : TypeInfo) (z : Value) (bytes : Nat) (ht : P.underlying st = some (.slice T)) (hi : P.info? T = some i) (hz : i.zero = some z)
    (hsize : i.size = E.k) (hby : i.bytes = bytes) (hzs : z.cells.size = E.k) (hk : 0 < E.k) (hs : a.eval s = v) (HO : Own E T W S v xs) (ad : Addr) (c : Nat) (vs : List Value) (x : α) (hy : a.eval y = .slice (some ad) 1 c) (hV : E.V W (fun k => S k ∧ some k ≠ v.ownBlock) vs x)
    (hx : ∀ j u, vs[j]? = some u → W.cell? (ad.add j) = some u) (hm : xs.length + 1 ≤ maxLen) (hb : (xs.length + 1) * bytes ≤ 140737488355328)
    (h : ∀ v1 w1, Own E T w1 (fun k => S k ∨ k = W.heap.size) v1 (xs ++ [x]) → W.grownBy w1 v.ownBlock → (v1.ownBlock = v.ownBlock ∨ v1.ownBlock = some W.heap.size) → wpList P ops Q rest (a.put o.dst v1) w1) :
    wpList P ops Q (o :: rest) a W := by
  obtain ⟨v1, w1, hr, h2, h3, h5⟩ := Own.app st o.type i z bytes ht hi hz hsize hby hzs hk HO ad vs x hV hx hm hb c
  refine wpList_wanted hgd fun K hK => ?_
  unfold Oper.wp execOp
  simp only [ho, resolve, invoke, builtin, Sem.run_bind, Sem.run_pure, Result.andThen_ok, List.map_toArray, List.map_cons, List.map_nil, hs, hy, hr]
  exact hK _ _ (h v1 w1 h2 h3 h5)
/-- The cells of a block that was just made. -/
theorem newCells (w : World) (cs : Array Value) (t : TypeId) (fr : Nat × Nat) : ∀ j u, cs.toList[j]? = some u → (w.alloc (.cells cs t fr)).cell? ((⟨w.heap.size, 0, none⟩ : Addr).add j) = some u := fun j u hu => by
  rw [addPlain, Nat.zero_add, cell_of_row _ w.heap.size j _ t fr (heap_alloc_new w _)]
  simpa using hu
end
end Go.Proofs.YthgnjojkncodeaaGreat
