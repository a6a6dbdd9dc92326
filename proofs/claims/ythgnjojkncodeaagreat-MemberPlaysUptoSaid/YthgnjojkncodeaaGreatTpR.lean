/-
  Plain laws: what is reached.
-/
import Derived.Test.YthgnjojkncodeaaGreatTp8
namespace Go.Proofs.YthgnjojkncodeaaGreat

inductive Reaches (es : List Ed) (a : Int) : Int → Prop
  | one {b : Int} : (a, b) ∈ es → Reaches es a b
  | more {b c : Int} : Reaches es a b → (b, c) ∈ es → Reaches es a c
theorem next_mem (es : List Ed) (a x : Int) : x ∈ endsOf (fun e : Ed => (e.2, e.1 == a)) es ↔ (a, x) ∈ es := by
  rw [(endsOf_spec _ es).2]
  constructor
  · rintro ⟨⟨u, v⟩, he, h1, rfl⟩
    simp at h1; subst h1; exact he
  · intro h; exact ⟨(a, x), h, by simp, rfl⟩
theorem prev_mem (es : List Ed) (a x : Int) : x ∈ endsOf (fun e : Ed => (e.1, e.2 == a)) es ↔ (x, a) ∈ es := by
  rw [(endsOf_spec _ es).2]
  constructor
  · rintro ⟨⟨u, v⟩, he, h1, rfl⟩
    simp at h1; subst h1; exact he
  · intro h; exact ⟨(x, a), h, by simp, rfl⟩
/-- Reach's loop: what is found is reached; what stands ahead of 'at' is followed. -/
structure RInv (es : List Ed) (a : Int) (at_ : Nat) (out : List Int) : Prop where
  nodup : out.Nodup
  sound : ∀ x ∈ out, Reaches es a x
  start : ∀ x, (a, x) ∈ es → x ∈ out
  done : ∀ i, i < at_ → ∀ x, out[i]? = some x → ∀ y, (x, y) ∈ es → y ∈ out
/-- Within a round: the first k next hops of the one at 'at' are there. -/
structure RIn (es : List Ed) (a : Int) (at_ : Nat) (x : Int) (k : Nat) (out : List Int) : Prop where
  inv : RInv es a at_ out
  here : out[at_]? = some x
  part : ∀ j, j < k → ∀ y, (endsOf (fun e : Ed => (e.2, e.1 == x)) es)[j]? = some y → y ∈ out
theorem RInv.init (es : List Ed) (a : Int) : RInv es a 0 (endsOf (fun e : Ed => (e.2, e.1 == a)) es) := by
  refine ⟨(endsOf_spec _ es).1.imp fun h => by omega, fun x hx => .one ((next_mem es a x).1 hx), fun x hx => (next_mem es a x).2 hx, fun i hi => by omega⟩
theorem RInv.enter {es : List Ed} {a : Int} {i : Nat} {out : List Int} {x : Int} (h : RInv es a i out) (hx : out[i]? = some x) : RIn es a i x 0 out := ⟨h, hx, fun j hj => by omega⟩
theorem RIn.keep {es : List Ed} {a : Int} {i k : Nat} {out : List Int} {x y : Int} (h : RIn es a i x k out) (hy : (endsOf (fun e : Ed => (e.2, e.1 == x)) es)[k]? = some y) (hm : y ∈ out) : RIn es a i x (k + 1) out := by
  refine ⟨h.inv, h.here, fun j hj z hz => ?_⟩
  rcases Nat.lt_or_ge j k with h' | h'
  · exact h.part j h' z hz
  · obtain rfl : j = k := by omega
    rw [hy] at hz; injection hz with hz; subst hz; exact hm
theorem RIn.add {es : List Ed} {a : Int} {i k : Nat} {out : List Int} {x y : Int} (h : RIn es a i x k out) (hy : (endsOf (fun e : Ed => (e.2, e.1 == x)) es)[k]? = some y) (hm : y ∉ out) : RIn es a i x (k + 1) (out ++ [y]) := by
  have hi : i < out.length := (List.getElem?_eq_some_iff.1 h.here).1
  have hxy : (x, y) ∈ es := (next_mem es x y).1 (List.mem_of_getElem? hy)
  have hax : Reaches es a x := h.inv.sound x (List.mem_of_getElem? h.here)
  refine ⟨⟨?_, fun z hz => ?_, fun z hz => List.mem_append_left _ (h.inv.start z hz), fun j hj z hz w hw => ?_⟩, by rw [List.getElem?_append_left hi]; exact h.here, fun j hj z hz => ?_⟩
  · rw [List.nodup_append]
    refine ⟨h.inv.nodup, by simp, fun z hz u hu => ?_⟩
    rw [List.mem_singleton] at hu
    subst hu
    exact fun e => hm (e ▸ hz)
  · rcases List.mem_append.1 hz with hz | hz
    · exact h.inv.sound z hz
    · rw [List.mem_singleton] at hz; subst hz; exact .more hax hxy
  · rw [List.getElem?_append_left (by omega)] at hz
    exact List.mem_append_left _ (h.inv.done j hj z hz w hw)
  · rcases Nat.lt_or_ge j k with h' | h'
    · exact List.mem_append_left _ (h.part j h' z hz)
    · obtain rfl : j = k := by omega
      rw [hy] at hz; injection hz with hz; subst hz; simp
theorem RIn.next {es : List Ed} {a : Int} {i : Nat} {out : List Int} {x : Int} (h : RIn es a i x (endsOf (fun e : Ed => (e.2, e.1 == x)) es).length out) : RInv es a (i + 1) out := by
  refine ⟨h.inv.nodup, h.inv.sound, h.inv.start, fun j hj z hz w hw => ?_⟩
  rcases Nat.lt_or_ge j i with h' | h'
  · exact h.inv.done j h' z hz w hw
  · obtain rfl : j = i := by omega
    rw [h.here] at hz; injection hz with hz; subst hz
    obtain ⟨q, hq, e⟩ := List.mem_iff_getElem.1 ((next_mem es x w).2 hw)
    exact h.part q hq w (by rw [List.getElem?_eq_getElem hq, e])
theorem RInv.all {es : List Ed} {a : Int} {out : List Int} (h : RInv es a out.length out) (x : Int) : x ∈ out ↔ Reaches es a x := by
  refine ⟨h.sound x, fun hr => ?_⟩
  induction hr with
  | one h1 => exact h.start _ h1
  | more _ h2 ih =>
    obtain ⟨i, hi, e⟩ := List.mem_iff_getElem.1 ih
    exact h.done i hi _ (by rw [List.getElem?_eq_getElem hi, e]) _ h2
theorem nodup_le : ∀ (xs ys : List Int), xs.Nodup → (∀ x ∈ xs, x ∈ ys) → xs.length ≤ ys.length
  | [], _, _, _ => Nat.zero_le _
  | x :: xs, ys, hn, hs => by
    rw [List.nodup_cons] at hn
    have hx := hs x (by simp)
    have := nodup_le xs (ys.erase x) hn.2 fun z hz => (List.mem_erase_of_ne (fun e => hn.1 (by rw [← e]; exact hz))).2 (hs z (by simp [hz]))
    rw [List.length_erase_of_mem hx] at this
    have h0 : 0 < ys.length := List.length_pos_of_mem hx
    simp; omega
theorem reaches_end {es : List Ed} {a x : Int} (h : Reaches es a x) : x ∈ es.map (fun e => e.2) := by
  cases h with
  | one h => exact List.mem_map.2 ⟨_, h, rfl⟩
  | more _ h => exact List.mem_map.2 ⟨_, h, rfl⟩
theorem RInv.len {es : List Ed} {a : Int} {i : Nat} {out : List Int} (h : RInv es a i out) : out.length ≤ es.length := by
  have := nodup_le out (es.map fun e => e.2) h.nodup fun x hx => reaches_end (h.sound x hx)
  simpa using this
theorem sortI_nodup {zs : List Int} (h : zs.Nodup) : (sortI zs).Pairwise (· < ·) := by
  have h1 := (sortI_spec zs).1
  have h2 : (sortI zs).Nodup := (List.mergeSort_perm zs leI).nodup_iff.2 h
  exact (h1.and h2).imp fun ⟨a, b⟩ => by omega
end Go.Proofs.YthgnjojkncodeaaGreat
