/-
  Words for the rows: what came in, opened by kinds of data.
-/
import Derived.Test.YthgnjojkncodeaaGreatNRow
import Derived.Test.YthgnjojkncodeaaGreatNSt
import Derived.Deep.Slices
import Derived.Lib.SmallJoins
namespace Go.Proofs.YthgnjojkncodeaaGreat
open Go.ChangeShapes Go.WideShapes Go.ChangeAt Go.RowKit
set_option maxRecDepth 100000

def InW (W : World) : Nat → Prop := fun k => k < W.heap.size
/-- Whatever reads at type t is such data; its bulk is no greater than what was counted. -/
def Opens {α : Type} (E : El α) (t : TypeId) : Prop :=
  ∀ (H : Type) (enc : TypeId × Value → H) (W : World) (base : Nat) (spare : Nat → Bool) (held : Bool) (fuel : Nat) (cs : List Value) (y : DataW H × List MemPlace),
    DataW.trod enc Tryz.prog W base spare held fuel t cs = some y → ∃ x : α, E.V W (InW W) cs x ∧ E.bulk x ≤ Rows.uptoBulk y.1
theorem Opens.int {t : TypeId} (h : Tryz.prog.underlying t = some (.int .i64)) : Opens El.int t := by
  intro H enc W base spare held fuel cs y hf
  obtain ⟨n, rfl, rfl, hw⟩ := DataW.trod_int h hf
  exact ⟨n, ⟨rfl, by simpa [Lit.wf, IntKind.min, IntKind.max, IntKind.bits, IntKind.signed] using hw⟩, bulk_one _⟩
theorem Opens.u64 {t : TypeId} (h : Tryz.prog.underlying t = some (.int .u64)) : Opens El.u64 t := by
  intro H enc W base spare held fuel cs y hf
  obtain ⟨n, rfl, rfl, hw⟩ := DataW.trod_int h hf
  have hb : 0 ≤ n ∧ n ≤ 18446744073709551615 := by simpa [Lit.wf, IntKind.min, IntKind.max, IntKind.bits, IntKind.signed] using hw
  exact ⟨n.toNat, ⟨by congr 2; omega, by omega⟩, bulk_one _⟩
theorem Opens.bool {t : TypeId} (h : Tryz.prog.underlying t = some .bool) : Opens El.bool t := by
  intro H enc W base spare held fuel cs y hf
  obtain ⟨b, rfl, rfl⟩ := DataW.trod_bool h hf
  exact ⟨b, rfl, bulk_one _⟩
theorem build_list {α : Type} (P : Nat → α → Prop) : ∀ n : Nat, (∀ i, i < n → ∃ x, P i x) → ∃ l : List α, l.length = n ∧ ∀ (i : Nat) (x : α), l[i]? = some x → P i x := by
  intro n
  induction n with
  | zero => intro _; exact ⟨[], rfl, fun i x h => by simp at h⟩
  | succ n ih =>
    intro h
    obtain ⟨l, h1, h2⟩ := ih fun i hi => h i (by omega)
    obtain ⟨x, hx⟩ := h n (by omega)
    refine ⟨l ++ [x], by simp [h1], fun i y hy => ?_⟩
    by_cases hi : i < l.length
    · rw [List.getElem?_append_left hi] at hy; exact h2 i y hy
    · have hl := (List.getElem?_eq_some_iff.1 hy).1
      rw [List.length_append, List.length_singleton] at hl
      obtain rfl : i = n := by omega
      rw [List.getElem?_append_right (by omega), h1, Nat.sub_self] at hy
      simp at hy
      subst hy
      exact hx
theorem bulk_sum {H α : Type} (bulk : α → Nat) : ∀ (ds : List (DataW H)) (xs : List α), ds.length = xs.length → (∀ (i : Nat) (d : DataW H) (x : α), ds[i]? = some d → xs[i]? = some x → bulk x ≤ Rows.uptoBulk d) → (xs.map bulk).sum ≤ Rows.uptoBulkAll ds := by
  intro ds
  induction ds with
  | nil =>
    intro xs h _
    have : xs = [] := List.eq_nil_of_length_eq_zero h.symm
    subst this
    simp
  | cons d ds ih =>
    intro xs h hb
    cases xs with
    | nil => simp at h
    | cons x xs =>
      have h1 := hb 0 d x rfl rfl
      have h2 := ih xs (by simpa using h) (fun i d' x' h3 h4 => hb (i + 1) d' x' (by simpa using h3) (by simpa using h4))
      simp only [List.map_cons, List.sum_cons, Rows.uptoBulkAll]
      omega
theorem Opens.slice {α : Type} {E : El α} {t e : TypeId} (ht : Tryz.prog.underlying t = some (.slice e)) (hc : Tryz.prog.cellsOf e = E.k) (hk : 0 < E.k) (h : Opens E e) : Opens (El.slice E) t := by
  intro H enc W base spare held fuel cs y hf
  rcases Deep.open_slice ht hf with ⟨hcs, hy⟩ | ⟨a, len, cap, m, k, D, Pl, hcs, _, hl, hm, hmm, hx, hi⟩
  · subst hcs
    exact ⟨[], ⟨none, 0, 0, rfl, Nat.le_refl _, Rd.nil _ _ _ _⟩, bulk_one _⟩
  · subst hcs
    have hlm : len ≤ m := by rw [hmm]; split <;> omega
    have hd : y.1 = .slice ((List.range len).map D) ((List.range (m - len)).map fun j => D (len + j)) := congrArg Prod.fst hx
    have each : ∀ i, i < len → ∃ x : α, (∃ vs, W.cells? base (a.add (i * E.k)) E.k = some vs ∧ E.V W (InW W) vs x) ∧ E.bulk x ≤ Rows.uptoBulk (D i) := by
      intro i hil
      obtain ⟨cs', h1, h2⟩ := hi i (by omega)
      obtain ⟨x, hv, hb⟩ := h H enc W base spare held _ _ _ h2
      rw [hc] at h1
      exact ⟨x, ⟨cs', h1, hv⟩, hb⟩
    obtain ⟨l, hlen, hfx⟩ := build_list _ len each
    refine ⟨l, ⟨some a, len, cap, rfl, hl, hlen, by simp only [maxLen] at hm; omega, fun h0 => ?_⟩, ?_⟩
    · obtain ⟨⟨vs0, h1, h2⟩, _⟩ := hfx 0 l[0] (List.getElem?_eq_getElem (by omega))
      obtain ⟨_, hlen0, hcell⟩ := World.cells?_some h1
      have hl0 := E.len h2
      have e0 := hcell 0 (by omega)
      rw [Nat.zero_mul, addZero, addZero, List.getElem?_eq_getElem (by omega)] at e0
      have hb := World.block_lt_of_cell? W _ e0
      have hsp := spotNone e0
      obtain ⟨b, o, s⟩ := a
      simp only at hsp hb
      subst hsp
      refine ⟨b, o, rfl, hb, hb, fun j x hx => ?_⟩
      obtain ⟨⟨vs, k1, k2⟩, _⟩ := hfx j x hx
      refine ⟨vs, k2, fun r u hu => ?_⟩
      obtain ⟨_, klen, kcell⟩ := World.cells?_some k1
      have hr : r < vs.length := (List.getElem?_eq_some_iff.1 hu).1
      have := kcell r (by omega)
      rw [addAdd, addPlain, hu] at this
      exact this
    · have hs := bulk_sum E.bulk ((List.range len).map D) l (by simp [hlen]) (fun i d x h1 h2 => by
        rw [List.getElem?_map] at h1
        obtain ⟨i1, e1, rfl⟩ := Option.map_eq_some_iff.1 h1
        have hil : i < len := by
          have := (List.getElem?_eq_some_iff.1 h2).1
          omega
        rw [List.getElem?_range hil] at e1
        injection e1 with e1
        subst e1
        exact (hfx i x h2).2)
      have := bulk_elems ((List.range len).map D) ((List.range (m - len)).map fun j => D (len + j))
      rw [hd]
      show (l.map E.bulk).sum + 1 ≤ _
      omega
/-- The fields of a struct, from a place on. -/
def OpensF {α : Type} (E : El α) (fs : List Field) (o : Nat) : Prop :=
  ∀ (H : Type) (enc : TypeId × Value → H) (W : World) (base : Nat) (spare : Nat → Bool) (held : Bool) (n : Nat) (cs : List Value) (ys : List (DataW H × List MemPlace)), cs.length = o + E.k → ys.length = fs.length →
    (∀ (i : Nat) (f : Field), fs[i]? = some f → DataW.trod enc Tryz.prog W base spare held n f.type ((cs.drop f.offset).take (Tryz.prog.cellsOf f.type)) = ys[i]?) →
    ∃ x : α, E.V W (InW W) (cs.drop o) x ∧ E.bulk x ≤ Rows.uptoBulkAll (ys.map (·.1))
theorem OpensF.last {α : Type} {E : El α} {f : Field} {o : Nat} (ho : f.offset = o) (hc : Tryz.prog.cellsOf f.type = E.k) (h : Opens E f.type) : OpensF E [f] o := by
  intro H enc W base spare held n cs ys hl hy hf
  match ys, hy with
  | [y], _ =>
    have h0 := hf 0 f rfl
    rw [ho, hc, List.take_of_length_le (by rw [List.length_drop]; omega)] at h0
    obtain ⟨x, h1, h2⟩ := h H enc W base spare held n _ y (by simpa using h0)
    exact ⟨x, h1, by simp only [List.map_cons, List.map_nil, Rows.uptoBulkAll]; omega⟩
theorem OpensF.cons {α β : Type} {E : El α} {F : El β} {f : Field} {fs : List Field} {o : Nat} (ho : f.offset = o) (hc : Tryz.prog.cellsOf f.type = E.k) (h : Opens E f.type) (hr : OpensF F fs (o + E.k)) :
    OpensF (El.prod E F) (f :: fs) o := by
  intro H enc W base spare held n cs ys hl hy hf
  have hl' : cs.length = o + (E.k + F.k) := hl
  match ys, hy with
  | y :: ys, hy =>
    have h0 := hf 0 f rfl
    rw [ho, hc] at h0
    obtain ⟨x, h1, h2⟩ := h H enc W base spare held n _ y (by simpa using h0)
    obtain ⟨z, h3, h4⟩ := hr H enc W base spare held n cs ys (by omega) (by simpa using hy) (fun i g hg => by
      have := hf (i + 1) g (by simpa using hg)
      simpa using this)
    refine ⟨(x, z), ⟨(cs.drop o).take E.k, cs.drop (o + E.k), ?_, h1, h3⟩, ?_⟩
    · rw [← List.drop_drop, List.take_append_drop]
    · simp only [List.map_cons, Rows.uptoBulkAll]
      show E.bulk x + F.bulk z ≤ _
      omega
theorem Opens.struct {α : Type} {E : El α} {t : TypeId} {fs : Array Field} (ht : Tryz.prog.underlying t = some (.struct fs)) (hc : Tryz.prog.cellsOf t = E.k) (h : OpensF E fs.toList 0) : Opens E t := by
  intro H enc W base spare held fuel cs y hf
  obtain ⟨xs, n, _, rfl, hl, hlen, hx⟩ := DataW.trod_struct ht hf
  obtain ⟨x, h1, h2⟩ := h H enc W base spare held n cs xs (by omega) (by simpa using hlen) (fun i f hi => hx i f (by simpa using hi))
  exact ⟨x, by simpa using h1, by simp only [Rows.uptoBulk]; omega⟩
/-! Arguments. -/
theorem argSlice {α : Type} {E : El α} {t e : TypeId} (ht : Tryz.prog.underlying t = some (.slice e)) (ho : Opens (El.slice E) t)
    {H : Type} {enc : TypeId × Value → H} {W : World} {b0 base : Nat} {spare : Nat → Bool} {held : Bool} {v : Value} {d : DataW H} {p : List MemPlace}
    (hv : Value.okWide Tryz.prog W .any b0 t v) (h : DataW.Trod enc Tryz.prog W base spare held t v d p) :
    ∃ A n c xs, v = .slice A n c ∧ n ≤ c ∧ Rd E W (InW W) A n xs ∧ (El.slice E).bulk xs ≤ Rows.uptoBulk d := by
  obtain ⟨a0, len0, cap0, rfl⟩ := okWide_slice ht hv
  obtain ⟨fuel, hf⟩ := h
  obtain ⟨x, ⟨A, n, c, h1, h2, h3⟩, hb⟩ := ho H enc W base spare held fuel _ _ hf
  simp [Value.cells] at h1
  obtain ⟨rfl, rfl, rfl⟩ := h1
  exact ⟨_, _, _, x, rfl, h2, h3, hb⟩
theorem argStruct {α : Type} {E : El α} {t : TypeId} {fs : Array Field} (ht : Tryz.prog.underlying t = some (.struct fs)) (ho : Opens E t)
    {H : Type} {enc : TypeId × Value → H} {W : World} {b0 base : Nat} {spare : Nat → Bool} {held : Bool} {v : Value} {d : DataW H} {p : List MemPlace}
    (hv : Value.okWide Tryz.prog W .any b0 t v) (h : DataW.Trod enc Tryz.prog W base spare held t v d p) :
    ∃ vs x, v = .agg vs ∧ E.V W (InW W) vs.toList x ∧ E.bulk x ≤ Rows.uptoBulk d := by
  obtain ⟨cs, rfl, hsz⟩ := okWide_struct ht hv
  obtain ⟨fuel, hf⟩ := h
  obtain ⟨x, h1, hb⟩ := ho H enc W base spare held fuel _ _ hf
  exact ⟨cs, x, rfl, by simpa [Value.cells] using h1, hb⟩
end Go.Proofs.YthgnjojkncodeaaGreat
