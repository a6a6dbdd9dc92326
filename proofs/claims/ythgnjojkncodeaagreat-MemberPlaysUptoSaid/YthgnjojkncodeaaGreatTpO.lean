/-
  Plain laws: an order is there just if no node reaches itself; what an order is like.
-/
import Derived.Test.YthgnjojkncodeaaGreatTpW
namespace Go.Proofs.YthgnjojkncodeaaGreat

/-! ### A stuck row holds a circle -/
theorem free_false {es : List Ed} {left : List Int} {n : Int} (h : free es left n = false) : ∃ y, (y, n) ∈ es ∧ y ∈ left := by
  simp [free] at h
  obtain ⟨a, b, h1, h2, h3⟩ := h
  exact ⟨a, by rw [← h2]; exact h1, h3⟩
theorem free_true {es : List Ed} {left : List Int} {n : Int} (h : free es left n = true) : ∀ y, (y, n) ∈ es → y ∉ left := by
  simp [free] at h
  exact fun y hy => h y n hy rfl
theorem chain_of (es : List Ed) (g : Nat → Int) (h : ∀ k, (g (k + 1), g k) ∈ es) (i d : Nat) : Reaches es (g (i + d + 1)) (g i) := by
  induction d with
  | zero => exact .one (h i)
  | succ d ih =>
    have h0 : (g (i + (d + 1) + 1), g (i + d + 1)) ∈ es := h (i + d + 1)
    have aux : ∀ x, Reaches es (g (i + d + 1)) x → Reaches es (g (i + (d + 1) + 1)) x := by
      intro x hx
      induction hx with
      | one hb => exact .more (.one h0) hb
      | more _ hb ih2 => exact .more ih2 hb
    exact aux _ ih
theorem nodup_map_range (g : Nat → Int) : ∀ (m : Nat), (∀ i j, i < j → j < m → g i ≠ g j) → ((List.range m).map g).Nodup
  | 0, _ => by simp
  | m + 1, h => by
    rw [List.range_succ, List.map_append, List.nodup_append]
    refine ⟨nodup_map_range g m fun i j hij hj => h i j hij (by omega), by simp, fun x hx y hy => ?_⟩
    simp at hy
    subst hy
    obtain ⟨i, hi, rfl⟩ := List.mem_map.1 hx
    exact h i m (List.mem_range.1 hi) (by omega)
theorem circle_of (es : List Ed) (left : List Int) (h0 : 0 < left.length) (h : ∀ x ∈ left, ∃ y, (y, x) ∈ es ∧ y ∈ left) : ∃ x ∈ left, Reaches es x x := by
  classical
  let pr : Int → Int := fun x => if hx : x ∈ left then Classical.choose (h x hx) else x
  have hpr : ∀ x, x ∈ left → (pr x, x) ∈ es ∧ pr x ∈ left := by
    intro x hx
    have := Classical.choose_spec (h x hx)
    simp only [pr, dif_pos hx]
    exact this
  let g : Nat → Int := fun k => Nat.rec (left[0]'h0) (fun _ x => pr x) k
  have hg0 : ∀ k, g k ∈ left := by
    intro k
    induction k with
    | zero => exact List.getElem_mem h0
    | succ k ih => exact (hpr _ ih).2
  have hg : ∀ k, (g (k + 1), g k) ∈ es := fun k => (hpr _ (hg0 k)).1
  have hex : ∃ i j, i < j ∧ g i = g j := by
    refine Classical.byContradiction fun hn => ?_
    have hnd := nodup_map_range g (left.length + 1) fun i j hij _ e => hn ⟨i, j, hij, e⟩
    have := nodup_le _ left hnd fun x hx => by
      obtain ⟨k, _, rfl⟩ := List.mem_map.1 hx
      exact hg0 k
    simp at this
    omega
  obtain ⟨i, j, hij, e⟩ := hex
  refine ⟨g i, hg0 i, ?_⟩
  have := chain_of es g hg i (j - i - 1)
  rw [show i + (j - i - 1) + 1 = j by omega, ← e] at this
  exact this

/-! ### What an order is like -/
structure OInv (es : List Ed) (ns left out : List Int) : Prop where
  srt : left.Pairwise (· < ·)
  nd : (out ++ left).Nodup
  mem : ∀ x : Int, x ∈ out ∨ x ∈ left ↔ x ∈ ns
  fwd : ∀ (i : Nat) (b : Int), out[i]? = some b → ∀ a : Int, (a, b) ∈ es → ∃ j : Nat, j < i ∧ out[j]? = some a
  last : ∀ (i : Nat) (m : Int), out[i]? = some m → i + 1 = out.length → ∀ x : Int, x ∈ left → x < m → ∃ y : Int, (y, x) ∈ es ∧ (y = m ∨ y ∈ left)
  cons : ∀ (i : Nat) (m x : Int), out[i]? = some m → out[i + 1]? = some x → x < m → (m, x) ∈ es
theorem nodes_spec (es : List Ed) : (nodesOf es).Pairwise (· < ·) ∧ ∀ x, x ∈ nodesOf es ↔ ∃ e ∈ es, e.1 = x ∨ e.2 = x := by
  unfold nodesOf
  have h1 := compact_spec _ (sortI_spec (endsOf (fun e : Ed => (e.1, true)) es ++ endsOf (fun e : Ed => (e.2, true)) es)).1
  refine ⟨h1.1, fun x => ?_⟩
  rw [h1.2, (sortI_spec _).2, List.mem_append, (endsOf_spec _ es).2, (endsOf_spec _ es).2]
  constructor
  · rintro (⟨e, he, _, h⟩ | ⟨e, he, _, h⟩)
    · exact ⟨e, he, .inl h⟩
    · exact ⟨e, he, .inr h⟩
  · rintro ⟨e, he, h | h⟩
    · exact .inl ⟨e, he, rfl, h⟩
    · exact .inr ⟨e, he, rfl, h⟩
theorem pw_nodup {l : List Int} (h : l.Pairwise (· < ·)) : l.Nodup := h.imp fun h => by omega
theorem OInv.init (es : List Ed) : OInv es (nodesOf es) (nodesOf es) [] :=
  ⟨(nodes_spec es).1, by simpa using pw_nodup (nodes_spec es).1, fun x => by simp, fun i b h => by simp at h, fun i m h => by simp at h, fun i m x h => by simp at h⟩
theorem snoc_get {l : List Int} {n : Int} {i : Nat} {b : Int} (h : (l ++ [n])[i]? = some b) : l[i]? = some b ∨ (i = l.length ∧ b = n) := by
  rcases Nat.lt_or_ge i l.length with h1 | h1
  · rw [List.getElem?_append_left h1] at h; exact .inl h
  · rw [List.getElem?_append_right h1] at h
    rcases Nat.eq_zero_or_pos (i - l.length) with h2 | h2
    · rw [h2] at h; simp at h; exact .inr ⟨by omega, h.symm⟩
    · rw [List.getElem?_eq_none (by simp; omega)] at h; cases h
theorem mem_erase_idx {l : List Int} {i : Nat} {n x : Int} (h : l[i]? = some n) (hx : x ∈ l) : x = n ∨ x ∈ l.eraseIdx i := by
  obtain ⟨j, hj, rfl⟩ := List.mem_iff_getElem.1 hx
  by_cases e : j = i
  · subst e; rw [List.getElem?_eq_getElem hj] at h; injection h with h; exact .inl h
  · exact .inr ((List.mem_eraseIdx_iff_getElem).2 ⟨j, hj, e, rfl⟩)
theorem OInv.step {es : List Ed} {ns left out : List Int} (h : OInv es ns left out) {i : Nat} {n : Int} (hn : left[i]? = some n) (hf : free es left n = true) (hlo : ∀ j, j < i → free es left (left[j]?.getD 0) = false)
    (hes : ∀ a b, (a, b) ∈ es → a ∈ ns) : OInv es ns (left.eraseIdx i) (out ++ [n]) := by
  have hnl : n ∈ left := List.mem_of_getElem? hn
  have hsub : ∀ x, x ∈ left.eraseIdx i → x ∈ left := fun x hx => (List.eraseIdx_sublist left i).subset hx
  have hnd := h.nd
  rw [List.nodup_append] at hnd
  obtain ⟨nd1, nd2, nd3⟩ := hnd
  have hi : i < left.length := (List.getElem?_eq_some_iff.1 hn).1
  have hne : n ∉ left.eraseIdx i := by
    intro hx
    obtain ⟨j, hj, hji, e⟩ := (List.mem_eraseIdx_iff_getElem).1 hx
    have e2 : left[i] = n := by rw [List.getElem?_eq_getElem hi] at hn; injection hn
    exact hji ((List.getElem_inj nd2).1 (e.trans e2.symm))
  refine ⟨h.srt.sublist (List.eraseIdx_sublist left i), ?_, fun x => ?_, fun j b hb a hab => ?_, fun j m hm hj x hx hxm => ?_, fun j m x hm hx hxm => ?_⟩
  · rw [List.append_assoc, List.nodup_append]
    refine ⟨nd1, List.nodup_append.2 ⟨by simp, nd2.sublist (List.eraseIdx_sublist left i), fun x hx y hy e => ?_⟩, fun x hx y hy => ?_⟩
    · rw [List.mem_singleton] at hx; subst hx; subst e; exact hne hy
    · rcases List.mem_append.1 hy with hy | hy
      · rw [List.mem_singleton] at hy; subst hy; exact nd3 x hx _ hnl
      · exact nd3 x hx y (hsub y hy)
  · rw [← h.mem, List.mem_append, List.mem_singleton]
    constructor
    · rintro ((h1 | rfl) | h1)
      · exact .inl h1
      · exact .inr hnl
      · exact .inr (hsub x h1)
    · rintro (h1 | h1)
      · exact .inl (.inl h1)
      · rcases mem_erase_idx hn h1 with rfl | h2
        · exact .inl (.inr rfl)
        · exact .inr h2
  · rcases snoc_get hb with hb | ⟨rfl, rfl⟩
    · obtain ⟨q, hq, e⟩ := h.fwd j b hb a hab
      have := (List.getElem?_eq_some_iff.1 e).1
      exact ⟨q, hq, by rw [List.getElem?_append_left this]; exact e⟩
    · have hno := free_true hf a hab
      have hin : a ∈ out := by
        rcases (h.mem a).2 (hes a b hab) with h1 | h1
        · exact h1
        · exact absurd h1 hno
      obtain ⟨q, hq, e⟩ := List.mem_iff_getElem.1 hin
      exact ⟨q, hq, by rw [List.getElem?_append_left hq, List.getElem?_eq_getElem hq, e]⟩
  · rw [List.length_append, List.length_singleton] at hj
    obtain rfl : j = out.length := by omega
    rw [List.getElem?_append_right (Nat.le_refl _)] at hm
    simp at hm
    subst hm
    obtain ⟨q, hq, hqi, e⟩ := (List.mem_eraseIdx_iff_getElem).1 hx
    have e2 : left[i] = n := by rw [List.getElem?_eq_getElem hi] at hn; injection hn
    have hqlt : q < i := by
      rcases Nat.lt_or_ge q i with h1 | h1
      · exact h1
      · have := List.pairwise_iff_getElem.1 h.srt i q hi hq (by omega)
        rw [e, e2] at this
        omega
    have := hlo q hqlt
    rw [List.getElem?_eq_getElem hq, e] at this
    obtain ⟨y, hy1, hy2⟩ := free_false this
    exact ⟨y, hy1, mem_erase_idx hn hy2⟩
  · rcases snoc_get hx with hx' | ⟨hj, rfl⟩
    · have h9 := (List.getElem?_eq_some_iff.1 hx').1
      rcases snoc_get hm with hm' | ⟨hj, _⟩
      · exact h.cons j m x hm' hx' hxm
      · omega
    · rcases snoc_get hm with hm | ⟨hj2, rfl⟩
      · obtain ⟨y, hy1, hy2⟩ := h.last j m hm hj x hnl hxm
        rcases hy2 with rfl | hy2
        · exact hy1
        · exact absurd hy2 (free_true hf y hy1)
      · subst hj2; omega
/-- A way through the loop. -/
theorem loop_inv (es : List Ed) (ns : List Int) (hes : ∀ a b, (a, b) ∈ es → a ∈ ns) : ∀ (f : Nat) (left out : List Int), left.length ≤ f → OInv es ns left out →
    (∃ o, orderLoop es f left out = some o ∧ OInv es ns [] o) ∨ (orderLoop es f left out = none ∧ ∃ x, Reaches es x x)
  | f, [], out, _, h => .inl ⟨out, by cases f <;> rfl, h⟩
  | 0, _ :: _, _, hl, _ => by simp at hl
  | f + 1, l :: ls, out, hl, h => by
    show (∃ o, (match (l :: ls).findIdx? (free es (l :: ls)) with | none => none | some i => orderLoop es f ((l :: ls).eraseIdx i) (out ++ [(l :: ls)[i]?.getD 0])) = some o ∧ _) ∨
      ((match (l :: ls).findIdx? (free es (l :: ls)) with | none => none | some i => orderLoop es f ((l :: ls).eraseIdx i) (out ++ [(l :: ls)[i]?.getD 0])) = none ∧ _)
    cases hq : (l :: ls).findIdx? (free es (l :: ls)) with
    | none =>
      refine .inr ⟨rfl, ?_⟩
      rw [List.findIdx?_eq_none_iff] at hq
      obtain ⟨x, _, hx⟩ := circle_of es (l :: ls) (by simp) fun x hx => free_false (by simpa using hq x hx)
      exact ⟨x, hx⟩
    | some i =>
      rw [List.findIdx?_eq_some_iff_getElem] at hq
      obtain ⟨hi, h1, h2⟩ := hq
      have hg : (l :: ls)[i]? = some (l :: ls)[i] := List.getElem?_eq_getElem hi
      have hst := h.step hg h1 (fun j hj => by
        have := h2 j hj
        rw [List.getElem?_eq_getElem (by omega)]
        simpa using this) hes
      have := loop_inv es ns hes f ((l :: ls).eraseIdx i) (out ++ [(l :: ls)[i]]) (by rw [List.length_eraseIdx_of_lt hi]; omega) hst
      show (∃ o, orderLoop es f ((l :: ls).eraseIdx i) (out ++ [(l :: ls)[i]?.getD 0]) = some o ∧ _) ∨ (orderLoop es f ((l :: ls).eraseIdx i) (out ++ [(l :: ls)[i]?.getD 0]) = none ∧ _)
      rw [hg]
      exact this
theorem order_way (es : List Ed) : (∃ o, orderOf es = some o ∧ OInv es (nodesOf es) [] o) ∨ (orderOf es = none ∧ ∃ x, Reaches es x x) :=
  loop_inv es (nodesOf es) (fun a b h => ((nodes_spec es).2 a).2 ⟨_, h, .inl rfl⟩) _ _ _ (Nat.le_refl _) (OInv.init es)
theorem reach_fwd {es : List Ed} {o : List Int} (h : OInv es (nodesOf es) [] o) {a b : Int} (hr : Reaches es a b) : ∀ i : Nat, o[i]? = some b → ∃ j, j < i ∧ o[j]? = some a := by
  induction hr with
  | one hab => exact fun i hi => h.fwd i _ hi _ hab
  | more _ hbc ih =>
    intro i hi
    obtain ⟨j, hj, e⟩ := h.fwd i _ hi _ hbc
    obtain ⟨q, hq, e2⟩ := ih j e
    exact ⟨q, by omega, e2⟩
theorem order_nocircle {es : List Ed} {o : List Int} (h : OInv es (nodesOf es) [] o) (x : Int) : ¬ Reaches es x x := by
  intro hr
  have hx : x ∈ nodesOf es := by
    obtain ⟨e, he, e2⟩ := List.mem_map.1 (reaches_end hr)
    exact ((nodes_spec es).2 x).2 ⟨e, he, .inr e2⟩
  have : x ∈ o := by
    rcases (h.mem x).2 hx with h1 | h1
    · exact h1
    · simp at h1
  have key : ∀ i : Nat, o[i]? = some x → False := by
    intro i
    induction i using Nat.strongRecOn with
    | _ i ih =>
      intro hi
      obtain ⟨j, hj, e⟩ := reach_fwd h hr i hi
      exact ih j hj e
  obtain ⟨i, hi, e⟩ := List.mem_iff_getElem.1 this
  exact key i (by rw [List.getElem?_eq_getElem hi, e])
/-- There is an order just if no node reaches itself. -/
theorem order_none_iff (es : List Ed) : orderOf es = none ↔ ∃ x, Reaches es x x := by
  rcases order_way es with ⟨o, h1, h2⟩ | ⟨h1, h2⟩
  · rw [h1]
    constructor
    · intro h; cases h
    · rintro ⟨x, hx⟩; exact absurd hx (order_nocircle h2 x)
  · exact ⟨fun _ => h2, fun _ => h1⟩
theorem order_some {es : List Ed} {o : List Int} (h : orderOf es = some o) : OInv es (nodesOf es) [] o := by
  rcases order_way es with ⟨o2, h1, h2⟩ | ⟨h1, _⟩
  · rw [h1] at h; injection h with h; rw [← h]; exact h2
  · rw [h1] at h; cases h
end Go.Proofs.YthgnjojkncodeaaGreat
