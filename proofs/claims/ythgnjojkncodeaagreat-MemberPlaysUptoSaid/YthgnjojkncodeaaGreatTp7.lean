/-
  topo.Order: what it computes; its first closure; rows that stand beside each other.
-/
import Derived.Test.YthgnjojkncodeaaGreatTp6
namespace Go.Proofs.YthgnjojkncodeaaGreat
open Go.RowKit

/-! ### The plain order -/
def free (es : List Ed) (left : List Int) (n : Int) : Bool := !(es.any fun e => (e.2 == n) && left.contains e.1)
def nodesOf (es : List Ed) : List Int := Lib.compact (sortI (endsOf (fun e => (e.1, true)) es ++ endsOf (fun e => (e.2, true)) es))
def orderLoop (es : List Ed) : Nat → List Int → List Int → Option (List Int)
  | _, [], out => some out
  | 0, _ :: _, _ => none
  | f + 1, l :: ls, out =>
    match (l :: ls).findIdx? (free es (l :: ls)) with
    | none => none
    | some i => orderLoop es f ((l :: ls).eraseIdx i) (out ++ [(l :: ls)[i]?.getD 0])
def orderOf (es : List Ed) : Option (List Int) := orderLoop es (nodesOf es).length (nodesOf es) []
theorem order_nil (es : List Ed) (f : Nat) (out : List Int) : orderLoop es f [] out = some out := by cases f <;> rfl
theorem find_first (p : Int → Bool) : ∀ (l : List Int) (i : Nat) (n : Int), l[i]? = some n → (∀ j, j < i → p (l[j]?.getD 0) = false) → p n = true → l.findIdx? p = some i
  | [], i, n, h, _, _ => by simp at h
  | a :: l, 0, n, h, _, hp => by
    simp at h; subst h
    simp [List.findIdx?_cons, hp]
  | a :: l, i + 1, n, h, hn, hp => by
    have h0 := hn 0 (by omega)
    simp at h0 h
    have := find_first p l i n h (fun j hj => by have := hn (j + 1) (by omega); simpa using this) hp
    simp [List.findIdx?_cons, h0, this]
theorem find_none (p : Int → Bool) : ∀ (l : List Int), (∀ j, j < l.length → p (l[j]?.getD 0) = false) → l.findIdx? p = none
  | [], _ => rfl
  | a :: l, hn => by
    have h0 := hn 0 (by simp)
    simp at h0
    have := find_none p l (fun j hj => by have := hn (j + 1) (by simp; omega); simpa using this)
    simp [List.findIdx?_cons, h0, this]
theorem order_step (es : List Ed) (left out : List Int) (i : Nat) (n : Int) (h : left[i]? = some n) (hn : ∀ j, j < i → free es left (left[j]?.getD 0) = false) (hp : free es left n = true) :
    orderLoop es left.length left out = orderLoop es (left.eraseIdx i).length (left.eraseIdx i) (out ++ [n]) := by
  have hi : i < left.length := (List.getElem?_eq_some_iff.1 h).1
  cases left with
  | nil => simp at hi
  | cons l ls =>
    have := find_first (free es (l :: ls)) (l :: ls) i n h hn hp
    have hl : ((l :: ls).eraseIdx i).length = ls.length := by rw [List.length_eraseIdx_of_lt hi]; simp
    rw [hl]
    show (match (l :: ls).findIdx? (free es (l :: ls)) with | none => none | some i => orderLoop es ls.length ((l :: ls).eraseIdx i) (out ++ [(l :: ls)[i]?.getD 0])) = _
    rw [this]
    show orderLoop es ls.length ((l :: ls).eraseIdx i) (out ++ [(l :: ls)[i]?.getD 0]) = _
    rw [h]
    rfl
theorem order_stuck (es : List Ed) (left out : List Int) (h0 : 0 < left.length) (hn : ∀ j, j < left.length → free es left (left[j]?.getD 0) = false) : orderLoop es left.length left out = none := by
  cases left with
  | nil => simp at h0
  | cons l ls =>
    show (match (l :: ls).findIdx? (free es (l :: ls)) with | none => none | some i => orderLoop es ls.length ((l :: ls).eraseIdx i) (out ++ [(l :: ls)[i]?.getD 0])) = none
    rw [find_none _ _ hn]
/-! ### Order$1 -/
set_option maxHeartbeats 800000 in
theorem both_calls (h : Nat) (f : Ed → Int) (eh : ∀ args w, (callFunc h args).run Tryz.prog w = .ok (.enter h args) w) (hf : GivesO h f) (L : Nat) (w : World) (A : Option Addr) (n c : Nat) (es : List Ed)
    (hL : L < w.heap.size) (hc : w.cell? ⟨L, 0, none⟩ = some (.slice A n c)) (hr : Rd elEd w (fun k => k < w.heap.size) A n es) (hn : n ≤ 1048576) :
    Calls Tryz.prog 78 #[.func (.func h) #[] #[], .pointer (some ⟨L, 0, none⟩)] w (RetI w (endsOf (fun e => (f e, true)) es)) := by
  obtain ⟨w1, hw1⟩ : ∃ w1, w.alloc (.cells #[.func (.func h) #[] #[]] 109) = w1 := ⟨_, rfl⟩
  have b1 : Below w.heap.size w w1 := by rw [← hw1]; exact (Below.refl _ _).alloc (Nat.le_refl _) _
  have hs1 : w1.heap.size = w.heap.size + 1 := by rw [← hw1]; simp
  have hc1 : w1.cell? ⟨L, 0, none⟩ = some (.slice A n c) := (b1.cell (p := ⟨L, 0, none⟩) hL).trans hc
  have hk1 : w1.cell? ⟨w.heap.size, 0, none⟩ = some (.func (.func h) #[] #[]) := by rw [← hw1]; simp
  have eg : ∀ args w, (callFunc 79 args).run Tryz.prog w = .ok (.enter 79 args) w := enters_of Tryz.func79 (by kernel_rfl) rfl
  have hen := ends_calls w1 A n c es ((hr.below b1).mono fun k hk _ => by omega) hn 79 #[.pointer (some ⟨w.heap.size, 0, none⟩)] _ eg (o11_gives h f eh hf w.heap.size w1 (by omega) hk1)
  have HW1 := Lib.hid hw1
  have B1 := Lib.hid b1
  clear hc hr hw1 b1 eg hk1 eh hf hs1
  go_enter Tryz.func78, Tryz.ntmps78
  go_upto_region 1 with (fail)
  rw [HW1.out]
  go_wp2_with (go_at_call 72; refine hen.mono ?_; rintro e w4 ⟨v4, rfl, hO4, b4⟩)
  go_ret
  exact RetI.from ⟨v4, rfl, hO4, b4⟩ B1.out
/-! ### Rows beside each other -/
theorem delete_chg {w : World} {base : Nat} {v : Value} {zs : List Int} (h : OwnI w base v zs) (i j : Nat) (hij : i ≤ j) (hj : j ≤ zs.length) (h0 : 0 < zs.length) :
    Calls Tryz.prog 84 #[v, .int .i64 i, .int .i64 j] w fun e w' => ∃ v1, e = .returned v1 ∧ OwnI w' base v1 (zs.take i ++ zs.drop j) ∧ v1.ownBlock = v.ownBlock ∧ Chg (fun k => v.ownBlock = some k) w w' := by
  obtain ⟨g, cap, rfl, h1, h2, h3, h4, h5⟩ := h.holds h0
  refine (Tryz.slices_Delete_int g 0 cap i j zs w h5 h3 h4 hij hj).mono ?_
  rintro e w' ⟨rfl, q, rfl⟩
  have hl : (zs.take i ++ zs.drop j).length = zs.length - (j - i) := by simp; omega
  have := Lib.ownsRow_putRow (q := q) (k := zs.length - (j - i)) (ys := zs.take i ++ zs.drop j ++ List.replicate (j - i) 0) (enc := Value.int .i64) h (by simp; omega) (by omega)
  rw [← hl, List.take_left] at this
  rw [← hl]
  refine ⟨_, rfl, this, rfl, rfl, rfl, rfl, by simp [Sort.putRow, Sort.mapBlock, Sort.ahead], fun k hk hne => ?_⟩
  have hkg : g ≠ k := fun e => hne (by rw [e]; rfl)
  simp [Sort.putRow, Sort.mapBlock, Sort.ahead, Array.getElem?_modify, hkg]
theorem OwnI.chg {w w' : World} {base : Nat} {v : Value} {zs : List Int} {D : Nat → Prop} (h : OwnI w base v zs) (hc : Chg D w w') (hs : ∀ k, v.ownBlock = some k → ¬ D k) : OwnI w' base v zs := by
  refine ⟨h.1, ?_⟩
  rcases h.2 with h2 | ⟨g, cap, cur, e, h1, hg, r⟩
  · exact .inl h2
  · refine .inr ⟨g, cap, cur, e, h1, ?_, r⟩
    rw [hc.block g (Array.getElem?_eq_some_iff.1 hg).1 (hs g (by rw [e]; rfl))]
    exact hg
theorem app_chg {W : World} (base : Nat) (ty : TypeId) (v : Value) (zs : List Int) (z : Int) (HO : OwnI W base v zs) (hbase : base ≤ W.heap.size) (hl : zs.length ≤ 1099511627776) :
    ∃ v1 w1, (Builtin.append_ #[54, 54] ty #[v, .slice (some ⟨W.heap.size, 0, none⟩) 1 1]).run Tryz.prog (W.alloc (.cells #[.int .i64 z] 3)) = .ok v1 w1 ∧ OwnI w1 base v1 (zs ++ [z]) ∧
      Chg (fun k => v.ownBlock = some k) W w1 := by
  obtain ⟨v1, w1, h1, h2, h3⟩ := run_appI base ty v zs z HO hbase hl
  refine ⟨v1, w1, h1, h2, ?_⟩
  have a : Chg (fun k => v.ownBlock = some k) W (W.alloc (.cells #[.int .i64 z] 3)) := Chg.ofBelow ((Below.refl _ _).alloc (Nat.le_refl _) _)
  exact a.trans (Chg.ofGrown h3) fun k hk e => e.symm
end Go.Proofs.YthgnjojkncodeaaGreat
