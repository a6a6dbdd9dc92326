/-
  The walks of the document's window: End, Slot, Move.
-/
import Derived.Test.YtplkmcjobmhneaaWin2
namespace Go.Proofs.Ytplkmcjobmhneaa
open Go.RowKit

theorem wend_eq (b n : Nat) (hb : b ≤ 1099511627776) : b + (els b n).length = wend b n := by rw [els_length]; unfold wend; omega
set_option maxHeartbeats 800000 in
theorem rend_calls (g b n : Nat) (w : World) (h : Win w g b n) :
    Calls Try.prog 18 #[.pointer (some ⟨g, 0, none⟩)] w fun e w' => e = .returned (.int .u64 (wend b n : Int)) ∧ Below w.heap.size w w' := by
  have hl16 : (els b n).length ≤ 16 := by have := h.1; have := h.2.2.1; rw [els_length]; unfold wend; omega
  have hb0 := h.1
  have he := wend_eq b n h.1
  obtain ⟨e, hee⟩ : ∃ e, e = wend b n := ⟨_, rfl⟩
  rw [← hee] at he ⊢
  go_enter Try.func18, Try.ntmps18
  go_wp2_with fail
  have c0 := h.2.2.2.2.1
  obtain ⟨L, hL⟩ : ∃ L, (els b n).length = L := ⟨_, rfl⟩
  rw [hL] at he hl16
  have HL := Lib.hid hL
  have hw1 : IntKind.u64.wrap (L : Int) = (L : Int) := IntWalk.u64_in _ ⟨by omega, by omega⟩
  have hw2 : IntKind.u64.wrap ((b : Int) + (L : Int)) = (e : Int) := by rw [IntWalk.u64_in _ ⟨by omega, by omega⟩]; omega
  have hw4 : IntKind.u64.wrap (e : Int) = (e : Int) := IntWalk.u64_in _ ⟨by omega, by omega⟩
  have hw3 : (b : Int) + (L : Int) = (e : Int) := by omega
  have HE := Lib.hid he
  have HEE := Lib.hid hee
  have hD : Win w.drew g b n := h
  clear hL he hee
  go_region_with ((go_at_call 21; (with_reducible refine (rall_calls g b n w.drew hD).mono ?_); rintro e1 w1 ⟨v1, rfl, ho1, hb1⟩; obtain ⟨A1, c1, rfl, _, _, _⟩ := ho1.rd; rw [HL.out]; have c01 := cellBelow hb1 (show w.drew.cell? ⟨g, 0, none⟩ = _ from c0)))
  all_goals
    have hbw : Below w.heap.size w w1 := (Below.refl w.heap.size w).drew.trans hb1
    go_wp2
    go_ret
    refine ⟨?_, hbw⟩
    first
      | (simp only [Act.put]; done)
      | simp [Act.put]
theorem rslot_out (g b n x : Nat) (w : World) (h : Win w g b n) (hx : inw b n x = false) :
    Calls Try.prog 12 #[.pointer (some ⟨g, 0, none⟩), .int .u64 (x : Int)] w fun e w' => e = .returned (.tuple #[.int .i64 0, .int .i64 1]) ∧ Below w.heap.size w w' := by
  go_enter Try.func12, Try.ntmps12
  go_wp2_with fail
  refine (rin_calls g b n x w h).mono ?_
  rw [hx]
  rintro e w1 ⟨rfl, hb⟩
  go_wp2
  go_ret2
  exact ⟨rfl, hb⟩
theorem rslot_in (g b n x : Nat) (w : World) (h : Win w g b n) (hx : inw b n x = true) :
    Calls Try.prog 12 #[.pointer (some ⟨g, 0, none⟩), .int .u64 (x : Int)] w fun e w' => e = .returned (.tuple #[.int .i64 ((x % n : Nat) : Int), .int .i64 0]) ∧ Below w.heap.size w w' := by
  have hn1 := h.2.1
  have hn16 := h.2.2.1
  have hn0 : ((n : Int) == 0) = false := by rw [beq_eq_false_iff_ne]; omega
  have hnz : ¬ (n : Int) = 0 := by omega
  obtain ⟨q, hq⟩ : ∃ q, x % n = q := ⟨_, rfl⟩
  have hql : q < 16 := by have := Nat.mod_lt x hn1; omega
  have hr2 : (x : Int) % (n : Int) = (q : Int) := by rw [← hq]; simp
  have hr1 : ((x : Int)).tmod (n : Int) = (q : Int) := by rw [Int.tmod_eq_emod_of_nonneg (by omega)]; exact hr2
  have hw2 : IntKind.u64.wrap (n : Int) = (n : Int) := IntWalk.u64_in _ ⟨by omega, by omega⟩
  have hw3 : IntKind.u64.wrap (q : Int) = (q : Int) := IntWalk.u64_in _ ⟨by omega, by omega⟩
  have hw4 : IntKind.i64.wrap (q : Int) = (q : Int) := IntWalk.i64_in _ ⟨by omega, by omega⟩
  rw [hq]
  clear hq
  go_enter Try.func12, Try.ntmps12
  go_wp2_with fail
  refine (rin_calls g b n x w h).mono ?_
  rw [hx]
  rintro e w1 ⟨rfl, hb⟩
  have c1 := (h.below hb).2.2.2.2.2.1
  go_wp2_with fail
  go_ret2
  exact ⟨rfl, hb⟩
/-- What leaves a window that moves from b to nb. -/
def goneOf (_b nb n : Nat) (xs : List Nat) : List Nat := xs.filter fun x => !inw nb n x
def gone (b nb n : Nat) : List Nat := goneOf b nb n (els b n)
theorem goneOf_hit (b nb n : Nat) (xs : List Nat) (x : Nat) (h : inw nb n x = true) : goneOf b nb n (xs ++ [x]) = goneOf b nb n xs := by simp [goneOf, h]
theorem goneOf_miss (b nb n : Nat) (xs : List Nat) (x : Nat) (h : inw nb n x = false) : goneOf b nb n (xs ++ [x]) = goneOf b nb n xs ++ [x] := by simp [goneOf, h]
theorem goneOf_length (b nb n : Nat) (xs : List Nat) : (goneOf b nb n xs).length ≤ xs.length := List.length_filter_le _ _
theorem take_next (xs : List Nat) (k : Nat) (h : k < xs.length) : xs.take (k + 1) = xs.take k ++ [nth xs k] := by
  rw [List.take_add_one, nth_eq xs k h]; simp [h]
theorem Win.moved {w : World} {g b n : Nat} (h : Win w g b n) (nb : Nat) (hnb : nb ≤ 1099511627776) : Win (w.setCell ⟨g, 0, none⟩ (.int .u64 (nb : Int))) g nb n := by
  obtain ⟨h1, h2, h3, h4, h5, h6, h7⟩ := h
  refine ⟨hnb, h2, h3, by simpa [World.setCell] using h4, World.cell?_setCell_same' _ _ _ (by rw [h5]; rfl), ?_, fun j => by rw [World.frozen?_setCell]; exact h7 j⟩
  exact (World.cell?_setCell_other _ _ _ _ (by simp)).trans h6
theorem grownSet {w w1 : World} {g : Nat} (h : w.grownBy w1 (some g)) (p : Addr) (v : Value) (hp : p.block = g ∨ w.heap.size ≤ p.block) : w.grownBy (w1.setCell p v) (some g) := by
  refine ⟨h.os, h.tape, h.output, by simpa [World.setCell] using h.size, fun i hi hne => ?_⟩
  rw [Below.heap_setCell w1 p v i (fun e => ?_)]
  · exact h.block i hi hne
  · rcases hp with h1 | h1
    · exact hne (by rw [e, h1])
    · omega
theorem grownThen {w w1 w2 : World} {row : Option Nat} (h : w.grownBy w1 row) (k : Below w1.heap.size w1 w2) : w.grownBy w2 row :=
  ⟨k.os.trans h.os, k.tape.trans h.tape, k.output.trans h.output, Nat.le_trans h.size k.size, fun i hi hne => (k.block i (Nat.lt_of_lt_of_le hi h.size)).trans (h.block i hi hne)⟩
/-- What a call of Move leaves that goes well. -/
def Moved (w : World) (g b nb n : Nat) (e : Ending) (w' : World) : Prop :=
  ∃ v, e = .returned (.tuple #[v, .int .i64 0]) ∧ OwnU w' w.heap.size v (gone b nb n) ∧ Win w' g nb n ∧ w.grownBy w' (some g)
theorem rmove_bad (g b n nb : Nat) (w : World) (_h : Win w g b n) (hb : 1099511627776 < nb) :
    Calls Try.prog 10 #[.pointer (some ⟨g, 0, none⟩), .int .u64 (nb : Int)] w fun e w' => e = .returned (.tuple #[.slice none 0 0, .int .i64 1]) ∧ w = w' := by
  have hbi : (1099511627776 : Int) < (nb : Int) := by omega
  go_enter Try.func10, Try.ntmps10
  go_wp2
  go_ret2
  exact ⟨rfl, rfl⟩
set_option maxHeartbeats 1600000 in
theorem rmove_calls (g b n nb : Nat) (w : World) (h : Win w g b n) (hb : nb ≤ 1099511627776) :
    Calls Try.prog 10 #[.pointer (some ⟨g, 0, none⟩), .int .u64 (nb : Int)] w (Moved w g b nb n) := by
  have hbi : ¬ (1099511627776 : Int) < (nb : Int) := by omega
  have hl16 : (els b n).length ≤ 16 := by have := h.1; have := h.2.2.1; rw [els_length]; unfold wend; omega
  go_enter Try.func10, Try.ntmps10
  go_wp2_with fail
  refine (rall_calls g b n w h).mono ?_
  rintro e w1 ⟨v1, rfl, ho1, hb1⟩
  obtain ⟨A1, c1, rfl, _, _, r1⟩ := ho1.rd
  have h1 := h.below hb1
  obtain ⟨xs, hxs⟩ : ∃ xs, els b n = xs := ⟨_, rfl⟩
  rw [hxs] at r1 hl16
  have HXS := Lib.hid hxs
  obtain ⟨L, hL⟩ : ∃ L, xs.length = L := ⟨_, rfl⟩
  have HL := Lib.hid hL
  rw [hL] at r1 hl16
  rw [hxs, hL]
  clear ho1 hxs hL
  have c0 := h1.2.2.2.2.1
  have c0f := h1.2.2.2.2.2.2 0
  have h2 := h1.moved nb hb
  obtain ⟨w2, hw2⟩ : ∃ w2, w1.setCell ⟨g, 0, none⟩ (.int .u64 (nb : Int)) = w2 := ⟨_, rfl⟩
  have hg2 : w.grownBy w2 (some g) := by
    rw [← hw2]
    exact grownSet (grownOfBelow hb1 (some g)) ⟨g, 0, none⟩ _ (.inl rfl)
  have hsz : w1.heap.size = w2.heap.size := by rw [← hw2]; simp [World.setCell]
  have hgl : g < w.heap.size := h.2.2.2.1
  have r2 : RdU w2 (fun k => k < w2.heap.size) A1 L xs := by
    have := (r1.set_ (w := w1) ⟨g, 0, none⟩ (.int .u64 (nb : Int)) (fun k hk => by have := hk.1; simp only; omega))
    rw [hw2] at this
    exact this.mono fun k hk hl => hl
  rw [hw2] at h2
  have HW := Lib.hid hw2
  clear h1 r1 hw2
  go_wp2_with (rw [HW.out])
  go_loopw [7, 8] (fun v i wr => ∃ k : Nat, k ≤ L ∧ i = .int .i64 k ∧ OwnU wr w2.heap.size v (goneOf b nb n (xs.take k)) ∧ Below w2.heap.size w2 wr) (fun _ i _ => L - (intOf i).toNat)
  case atStart => exact ⟨0, Nat.zero_le _, rfl, OwnU.nil _ _, Below.refl _ _⟩
  case round =>
    obtain ⟨k, hk, rfl, ho, hbe⟩ := hrel
    by_cases hlt : k < L
    · obtain ⟨b1, o1, e1, k1⟩ := (r2.below hbe).at_ k hlt
      subst e1
      have hkx : k < xs.length := by rw [HL.out]; exact hlt
      have htn := take_next xs k hkx
      obtain ⟨x, hx⟩ : ∃ x, nth xs k = x := ⟨_, rfl⟩
      rw [hx] at k1 htn
      clear hx
      cases hin : inw nb n x with
      | true =>
        have HS := Lib.hid (show goneOf b nb n (xs.take (k + 1)) = goneOf b nb n (xs.take k) by rw [htn]; exact goneOf_hit b nb n _ x hin)
        have HIN := Lib.hid hin
        clear htn hin
        go_wp2_with fail
        refine (rin_calls g nb n x wr (h2.below hbe)).mono ?_
        rw [HIN.out]
        rintro e w4 ⟨rfl, hb4⟩
        go_wp2_with fail
        go_roundw
        case rel => exact ⟨k + 1, by omega, by go_num, by rw [HS.out]; exact ho.below hb4, belowThen hbe hbe.size hb4⟩
        case measure => simp [intOf]; omega
      | false =>
        have HS := Lib.hid (show goneOf b nb n (xs.take (k + 1)) = goneOf b nb n (xs.take k) ++ [x] by rw [htn]; exact goneOf_miss b nb n _ x hin)
        have HIN := Lib.hid hin
        have hgl := goneOf_length b nb n (xs.take k)
        have hln : (goneOf b nb n (xs.take k)).length + 1 ≤ 17592186044416 := by rw [List.length_take] at hgl; omega
        clear htn hin hgl
        go_wp2_with fail
        refine (rin_calls g nb n x wr (h2.below hbe)).mono ?_
        rw [HIN.out]
        rintro e w4 ⟨rfl, hb4⟩
        have k4 := cellBelow hb4 k1
        have hb24 := belowThen hbe hbe.size hb4
        have hone : OwnU (w4.alloc (.cells #[.int .u64 (x : Int)] 23)) w2.heap.size (.slice (some ⟨w4.heap.size, 0, none⟩) 1 1) [x] := by
          have h1 := OwnU.lit w4 w2.heap.size [x] hb24.size (by simp)
          have e : (uvals [x]).toArray = #[.int .u64 (x : Int)] := by simp [uvals]
          rw [e] at h1
          exact h1
        obtain ⟨A3, c3, e3, _, _, hr3⟩ := hone.rd
        cases e3
        have hoa : OwnU (w4.alloc (.cells #[.int .u64 (x : Int)] 23)) w2.heap.size u7 (goneOf b nb n (xs.take k)) := (ho.below hb4).below ((Below.refl _ _).alloc (Nat.le_refl _) _)
        have hba : Below w2.heap.size w2 (w4.alloc (.cells #[.int .u64 (x : Int)] 23)) := hb24.alloc hb24.size _
        have hz : w2.heap.size ≤ (w4.alloc (.cells #[.int .u64 (x : Int)] 23)).heap.size := hba.size
        have hr3' : RdU (w4.alloc (.cells #[.int .u64 (x : Int)] 23)) (fun q => w2.heap.size ≤ q ∧ (Value.slice (some ⟨w4.heap.size, 0, none⟩) 1 1).ownBlock = some q) (some ⟨w4.heap.size, 0, none⟩) 1 [x] := hr3
        clear hone hr3
        go_wp2_with (at_builtin; go_loud (refine appU w2.heap.size w2.heap.size rfl _ _ rfl u7 (goneOf b nb n (xs.take k)) [x] (some ⟨w4.heap.size, 0, none⟩) 1 1 rfl rfl hoa hr3' hba hz (Nat.le_refl _) hln ?_); intro v5 w5 ho5 hb5 _ _; clear hoa hr3' hba hz)
        go_roundw
        case rel => exact ⟨k + 1, by omega, by go_num, by rw [HS.out]; exact ho5, hb5⟩
        case measure => simp [intOf]; omega
    · obtain rfl : L = k := by omega
      go_wp2_with fail
      go_ret2
      refine ⟨_, rfl, ?_, h2.below hbe, grownThen hg2 hbe⟩
      have e : goneOf b nb n (xs.take L) = gone b nb n := by rw [gone, HXS.out, List.take_of_length_le (by rw [HL.out]; exact Nat.le_refl _)]
      rw [← e]
      exact ho.lower hg2.size
end Go.Proofs.Ytplkmcjobmhneaa
