/-
  The walks of the document's Reader.
-/
import Derived.Test.YtljbghgpojdikaaWire4
namespace Go.Proofs.Ytljbghgpojdikaa
open Go.RowKit

/-- The document's reader at block g. -/
def Qdr (w : World) (g : Nat) (ok : Nat → Prop) (A : Option Addr) (n c : Nat) (xs : List UInt8) : Prop :=
  g < w.heap.size ∧ w.cell? ⟨g, 0, none⟩ = some (.slice A n c) ∧ (∀ j, w.frozen? ⟨g, j, none⟩ = false) ∧ n ≤ c ∧ RdB w (fun k => ok k ∧ k ≠ g) A n xs
def QdrX (w : World) (g : Nat) (ok : Nat → Prop) (xs : List UInt8) : Prop := ∃ A n c, Qdr w g ok A n c xs
section
variable {w w' : World} {g : Nat} {ok ok' : Nat → Prop} {A : Option Addr} {n c : Nat} {xs : List UInt8}
theorem Qdr.keep (h : Qdr w g ok A n c xs) (hs : w.heap.size ≤ w'.heap.size) (hg : w'.heap[g]? = w.heap[g]?) (hk : ∀ k, ok k → k ≠ g → k < w.heap.size → w'.heap[k]? = w.heap[k]?) : Qdr w' g ok A n c xs := by
  obtain ⟨h1, h2, h4, h5, h6⟩ := h
  exact ⟨by omega, (World.cell?_of_block (w := w) (a := ⟨g, 0, none⟩) hg).trans h2, fun j => (World.frozen?_of_block (w := w) (a := ⟨g, j, none⟩) hg).trans (h4 j), h5, h6.keep hs fun k ⟨a, b⟩ hl => hk k a b hl⟩
theorem Qdr.below (h : Qdr w g ok A n c xs) (hb : Below w.heap.size w w') : Qdr w' g ok A n c xs := h.keep hb.size (hb.block g h.1) fun k _ _ hl => hb.block k hl
theorem Qdr.grown {row : Option Nat} (h : Qdr w g ok A n c xs) (hb : w.grownBy w' row) (hr : ∀ k, row = some k → ¬ ok k ∧ k ≠ g) : Qdr w' g ok A n c xs :=
  h.keep hb.size (hb.block g h.1 (fun e => (hr g e.symm).2 rfl)) fun k ho _ hl => hb.block k hl (fun e => (hr k e.symm).1 ho)
theorem Qdr.mono (h : Qdr w g ok A n c xs) (hk : ∀ k, ok k → k < w.heap.size → ok' k) : Qdr w g ok' A n c xs := ⟨h.1, h.2.1, h.2.2.1, h.2.2.2.1, h.2.2.2.2.mono fun k ⟨a, b⟩ hl => ⟨hk k a hl, b⟩⟩
theorem Qdr.put (h : Qdr w g ok A n c xs) {A' : Option Addr} {n' c' : Nat} {ys : List UInt8} (hc : n' ≤ c') (hr : RdB w (fun k => ok' k ∧ k ≠ g) A' n' ys) :
    Qdr (w.setCell ⟨g, 0, none⟩ (.slice A' n' c')) g ok' A' n' c' ys := by
  obtain ⟨h1, h2, h4, h5, h6⟩ := h
  exact ⟨by simpa [World.setCell] using h1, World.cell?_setCell_same _ _ _ h2, fun j => (World.frozen?_setCell _ _ _ _).trans (h4 j), hc, hr.set_ _ _ fun k hk => hk.2⟩
end

set_option maxHeartbeats 800000 in
theorem qread_calls (g : Nat) (ok : Nat → Prop) (A : Option Addr) (n c : Nat) (xs : List UInt8) (z : Int) (w : World) (hr : Qdr w g ok A n c xs) (hn : n ≤ 140737488351232) :
    Calls Try.prog 17 #[.pointer (some ⟨g, 0, none⟩), .int .i64 z] w fun e w' =>
      e = .returned (.tuple #[.int .u64 ((Wire.numRead xs z).1 : Int), .int .i64 (Wire.numRead xs z).2.1]) ∧ QdrX w' g (fun k => ok k ∨ w.heap.size ≤ k) (Wire.numRead xs z).2.2 ∧ w.grownBy w' (some g) := by
  have LX := Lib.hid hr.2.2.2.2.len
  have h0 := hr.2.1
  have f0 := hr.2.2.1 0
  have hnc := hr.2.2.2.1
  have hq0 : QdrX w g (fun k => ok k ∨ w.heap.size ≤ k) xs := ⟨_, _, _, hr.mono fun k h _ => .inl h⟩
  by_cases hz : z < 1 ∨ 8 < z
  · have ht : Wire.numRead xs z = (0, 1, xs) := by rw [Wire.numRead, if_pos hz]
    rw [ht]
    clear ht
    rcases hz with hz | hz
    · go_enter Try.func17, Try.ntmps17
      go_wp2_with fail
      go_ret2
      exact ⟨rfl, hq0, World.grownBy.refl _ _⟩
    · have hz1 : ¬ z < 1 := by omega
      go_enter Try.func17, Try.ntmps17
      go_wp2_with fail
      go_ret2
      exact ⟨rfl, hq0, World.grownBy.refl _ _⟩
  · obtain ⟨m, rfl⟩ : ∃ m : Nat, z = (m : Int) := ⟨z.toNat, by omega⟩
    have hz1 : ¬ (m : Int) < 1 := by omega
    have hz2 : ¬ 8 < (m : Int) := by omega
    clear hz
    by_cases hnm : n < m
    · have ht : Wire.numRead xs (m : Int) = (0, 4, xs) := by rw [Wire.numRead, if_neg (by omega), LX.out, if_pos (by omega)]
      rw [ht]
      have hnmi : (n : Int) < (m : Int) := by omega
      clear ht
      go_enter Try.func17, Try.ntmps17
      go_wp2_with fail
      go_ret2
      exact ⟨rfl, hq0, World.grownBy.refl _ _⟩
    · have ht : Wire.numRead xs (m : Int) = (Wire.be (xs.take m), 0, xs.drop m) := by
        rw [Wire.numRead, if_neg (by omega), LX.out, if_neg (by omega)]
        rfl
      rw [ht]
      have hmn : m ≤ n := by omega
      have hnmi : ¬ (n : Int) < (m : Int) := by omega
      obtain ⟨A1, k1, r1⟩ := cutFrom_run A n c m hmn hnc
      have h21 := r1 w _ xs hr.2.2.2.2
      clear ht r1 hq0
      go_enter Try.func17, Try.ntmps17
      go_wp2_with fail
      go_loop [6, 7] (fun y i => ∃ k : Nat, k ≤ m ∧ i = .int .i64 k ∧ y = .int .u64 ((Wire.be (xs.take k) : Nat) : Int)) (fun _ i => 8 - (intOf i).toNat)
      case atStart => exact ⟨0, Nat.zero_le _, rfl, rfl⟩
      case round =>
        obtain ⟨k, hk, rfl, rfl⟩ := hrel
        by_cases hlt : k < m
        · obtain ⟨bb, oo, rfl, ck⟩ := hr.2.2.2.2.at_ k (by omega)
          have hbl := byt_lt xs k
          have hy : Wire.be (xs.take k) < 72057594037927936 := by
            have h1 := Wire.be_lt (xs.take k)
            have h2 : (xs.take k).length ≤ 7 := by rw [List.length_take]; omega
            have h3 : 256 ^ (xs.take k).length ≤ 256 ^ 7 := Nat.pow_le_pow_right (by omega) h2
            have h4 : 256 ^ 7 = 72057594037927936 := rfl
            omega
          have hsn : Wire.be (xs.take (k + 1)) = 256 * Wire.be (xs.take k) + byt xs k := by
            have hkl : k < xs.length := by rw [LX.out]; omega
            rw [List.take_add_one, List.getElem?_eq_getElem hkl, Option.toList_some, Wire.be_snoc, byt_eq xs k hkl]
          have HSN := Lib.hid hsn
          generalize Wire.be (xs.take k) = y at *
          generalize byt xs k = b at *
          have hw1 : IntKind.u64.wrap (256 * (y : Int)) = 256 * (y : Int) := IntWalk.u64_in _ ⟨by omega, by omega⟩
          have hw2 : IntKind.u64.wrap (256 * (y : Int) + (b : Int)) = 256 * (y : Int) + (b : Int) := IntWalk.u64_in _ ⟨by omega, by omega⟩
          clear hsn k1 h21
          go_wp2_with fail
          go_round
          case rel => exact ⟨k + 1, by omega, by go_num, by rw [HSN.out]; go_num⟩
          case measure => simp [intOf]; omega
        · obtain rfl : m = k := by omega
          obtain ⟨y, hy⟩ : ∃ y, Wire.be (xs.take m) = y := ⟨_, rfl⟩
          have HY := Lib.hid hy
          rw [hy]
          clear hy
          go_wp2_with fail
          refine (own_calls A1 (n - m) (c - m) (xs.drop m) _ _ h21 (by omega)).mono ?_
          rintro e w1 ⟨v1, rfl, ho1, hb1⟩
          obtain ⟨A2, c2, rfl, hc2, _, hr2⟩ := ho1.rd
          have hr1 := hr.below hb1
          have h01 := hr1.2.1
          have f01 := hr1.2.2.1 0
          have hr2' : RdB w1 (fun k => (ok k ∨ w.heap.size ≤ k) ∧ k ≠ g) A2 (xs.drop m).length (xs.drop m) := hr2.mono fun k hk _ => ⟨.inr hk.1, by have := hr.1; have := hk.1; omega⟩
          have hput := hr1.put (ok' := fun k => ok k ∨ w.heap.size ≤ k) hc2 hr2'
          have hg2 := grownSet (grownOfBelow hb1 (some g)) ⟨g, 0, none⟩ (.slice A2 (xs.drop m).length c2) (.inl rfl)
          generalize (xs.drop m).length = L at *
          clear hr2 hr2' ho1
          go_wp2_with fail
          go_ret2
          exact ⟨by rw [HY.out]; rfl, ⟨_, _, _, hput⟩, hg2⟩

set_option maxHeartbeats 800000 in
theorem qtake_calls (g : Nat) (ok : Nat → Prop) (A : Option Addr) (n c : Nat) (xs : List UInt8) (z : Int) (w : World) (hr : Qdr w g ok A n c xs) (hn : n ≤ 140737488351232) :
    Calls Try.prog 19 #[.pointer (some ⟨g, 0, none⟩), .int .i64 z] w fun e w' => ∃ v,
      e = .returned (.tuple #[v, .int .i64 (Wire.takeRead xs z).2.1]) ∧ OwnB w' w.heap.size v (Wire.takeRead xs z).1 ∧ QdrX w' g (fun k => ok k ∨ w.heap.size ≤ k) (Wire.takeRead xs z).2.2 ∧ w.grownBy w' (some g) := by
  have LX := Lib.hid hr.2.2.2.2.len
  have h0 := hr.2.1
  have f0 := hr.2.2.1 0
  have hnc := hr.2.2.2.1
  have hq0 : QdrX w g (fun k => ok k ∨ w.heap.size ≤ k) xs := ⟨_, _, _, hr.mono fun k h _ => .inl h⟩
  by_cases hz : z < 0
  · have ht : Wire.takeRead xs z = ([], 1, xs) := by rw [Wire.takeRead, if_pos hz]
    rw [ht]
    clear ht
    go_enter Try.func19, Try.ntmps19
    go_wp2_with fail
    go_ret2
    exact ⟨_, rfl, OwnB.nil _ _, hq0, World.grownBy.refl _ _⟩
  · by_cases hzn : (n : Int) < z
    · have ht : Wire.takeRead xs z = ([], 4, xs) := by rw [Wire.takeRead, if_neg hz, LX.out, if_pos hzn]
      rw [ht]
      clear ht
      go_enter Try.func19, Try.ntmps19
      go_wp2_with fail
      go_ret2
      exact ⟨_, rfl, OwnB.nil _ _, hq0, World.grownBy.refl _ _⟩
    · obtain ⟨m, rfl⟩ : ∃ m : Nat, z = (m : Int) := ⟨z.toNat, by omega⟩
      have hmn : m ≤ n := by omega
      have ht : Wire.takeRead xs (m : Int) = (xs.take m, 0, xs.drop m) := by rw [Wire.takeRead, if_neg hz, LX.out, if_neg hzn]; rfl
      rw [ht]
      obtain ⟨A1, k1, r1⟩ := cutFrom_run A n c m hmn hnc
      obtain ⟨A2, k2, r2⟩ := cutTo_run A n c m hmn hnc
      have h21 := r1 w _ xs hr.2.2.2.2
      have h22 := r2 w _ xs hr.2.2.2.2
      clear r1 r2 ht hq0
      go_enter Try.func19, Try.ntmps19
      go_wp2_with fail
      refine (own_calls A2 m c (xs.take m) w _ h22 (by omega)).mono ?_
      rintro e w1 ⟨v1, rfl, ho1, hb1⟩
      have hr1 := hr.below hb1
      have h01 := hr1.2.1
      have h211 := h21.below hb1
      clear h22
      go_wp2_with fail
      refine (own_calls A1 (n - m) (c - m) (xs.drop m) _ _ h211 (by omega)).mono ?_
      rintro e w2 ⟨v2, rfl, ho2, hb2⟩
      obtain ⟨A3, c3, rfl, hc3, _, hr3⟩ := ho2.rd
      have hr2 := hr1.below hb2
      have h02 := hr2.2.1
      have f02 := hr2.2.2.1 0
      have hz1 := hb1.size
      have hgl := hr.1
      have hr3' : RdB w2 (fun k => (ok k ∨ w.heap.size ≤ k) ∧ k ≠ g) A3 (xs.drop m).length (xs.drop m) := hr3.mono fun k hk _ => ⟨.inr (by have := hk.1; omega), by have := hk.1; omega⟩
      have hput := hr2.put (ok' := fun k => ok k ∨ w.heap.size ≤ k) hc3 hr3'
      have hg2 := grownSet (grownOfBelow (belowThen hb1 hb1.size hb2) (some g)) ⟨g, 0, none⟩ (.slice A3 (xs.drop m).length c3) (.inl rfl)
      have hos : OwnB (w2.setCell ⟨g, 0, none⟩ (.slice A3 (xs.drop m).length c3)) w.heap.size v1 (xs.take m) := by
        refine (ho1.below hb2).grown (row := some g) ⟨rfl, rfl, rfl, by simp [World.setCell], fun i hi hne => Below.heap_setCell w2 ⟨g, 0, none⟩ _ i (fun e => hne (by rw [e]))⟩ fun k hk e => ?_
        have := (ho1.lt k hk).1
        injection e with e
        omega
      generalize (xs.drop m).length = L at *
      clear hr1 hr3 hr3' ho1 ho2 h211 h21
      go_wp2_with fail
      go_ret2
      exact ⟨_, rfl, hos, ⟨_, _, _, hput⟩, hg2⟩
end Go.Proofs.Ytljbghgpojdikaa
