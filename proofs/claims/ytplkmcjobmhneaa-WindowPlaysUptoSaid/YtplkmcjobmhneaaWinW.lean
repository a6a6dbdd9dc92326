/-
  The walk of law10's wakes (its lines written by wip/genw.py).
-/
import Derived.Test.YtplkmcjobmhneaaWinM
namespace Go.Proofs.Ytplkmcjobmhneaa
open Go.RowKit

theorem OwnU.rdn {w : World} {base : Nat} {v : Value} {xs : List Nat} (h : OwnU w base v xs) (n : Nat) (hn : xs.length = n) : ∃ A c, v = .slice A n c ∧ n ≤ c ∧ RdU w (fun k => base ≤ k ∧ v.ownBlock = some k) A n xs := by
  obtain ⟨A, c, h1, h2, _, h4⟩ := h.rd
  subst hn
  exact ⟨A, c, h1, h2, h4⟩
theorem RdU.lit (w : World) (xs : List Nat) (n : Nat) (hn : xs.length = n) (hm : n ≤ 9223372036854775807) (cs : Array Value) (hc : (uvals xs).toArray = cs) : RdU (w.alloc (.cells cs 23)) (fun _ => True) (some ⟨w.heap.size, 0, none⟩) n xs := by
  subst hc
  have h := OwnU.lit w w.heap.size xs (Nat.le_refl _) (by omega)
  obtain ⟨A, c, e, _, _, r⟩ := h.rd
  cases e
  rw [hn] at r
  exact r.mono fun _ _ _ => trivial
theorem stepBelow {w W W' : World} (h : Below w.heap.size w W) (k : Below W.heap.size W W') : Below w.heap.size w W' := belowThen h h.size k
theorem allocBelow {W W' : World} {o : Obj} (k : Below (W.alloc o).heap.size (W.alloc o) W') : Below W.heap.size W W' := stepBelow ((Below.refl _ W).alloc (Nat.le_refl _) o) k
theorem gone1 : gone 0 3 4 = [0, 1, 2] := by decide
theorem gone2 : gone 3 5 4 = [3, 4] := by decide
theorem gone3 : gone 5 1099511627776 4 = [5, 6, 7, 8] := by decide
theorem els1 : els 3 4 = [3, 4, 5, 6] := by decide
theorem els2 : els 1099511627776 4 = [] := by decide
set_option maxHeartbeats 4000000 in
theorem wakes_calls (w : World) : Calls Try.prog 7 #[] w fun e w' => e = .returned (.bool true) ∧ Below w.heap.size w w' := by
  go_enter Try.func7, Try.ntmps7
  go_wp2_with fail
  refine (new_calls 4 w (by omega) (by omega)).mono ?_
  rintro e w1 ⟨g, rfl, hg, hW1, hB1⟩
  go_wp2_with fail
  refine (move_calls g 0 4 3 w1 hW1 (by omega)).mono ?_
  rintro e w2 ⟨v2, rfl, ho2, hW2, hg2⟩
  have hB2 : Below w.heap.size w w2 := hB1.grown hg2 hB1.size (fun k e => by cases e; exact hg)
  rw [gone1] at ho2
  obtain ⟨A2, c2, rfl, _, r2⟩ := ho2.rdn 3 rfl
  clear hB1 hW1 hg2 ho2
  go_wp2_with fail
  refine (weakD (same_eq A2 (some ⟨w2.heap.size, 0, none⟩) 3 c2 3 [0, 1, 2] _ _ _ (r2.alloc _) (RdU.lit w2 [0, 1, 2] 3 rfl (by omega) #[.int .u64 0, .int .u64 1, .int .u64 2] rfl))).mono ?_
  rintro e w3 ⟨rfl, hb⟩
  have hb := allocBelow hb
  have hW3 := hW2.below hb
  have hB3 := stepBelow hB2 hb
  clear hW2 hB2 r2 hb
  go_wp2_with fail
  refine (weakD (end_calls g 3 4 w3 hW3)).mono ?_
  rintro e w4 ⟨rfl, hb⟩
  have hW4 := hW3.below hb
  have hB4 := stepBelow hB3 hb
  clear hW3 hB3 hb
  go_wp2_with fail
  refine (all_calls g 3 4 w4 hW4).mono ?_
  rintro e w5 ⟨v5, rfl, ho5, hb⟩
  have hW5 := hW4.below hb
  have hB5 := stepBelow hB4 hb
  rw [els1] at ho5
  obtain ⟨A5, c5, rfl, _, r5⟩ := ho5.rdn 4 rfl
  clear hB4 hW4 ho5 hb
  go_wp2_with fail
  refine (weakD (same_eq A5 (some ⟨w5.heap.size, 0, none⟩) 4 c5 4 [3, 4, 5, 6] _ _ _ (r5.alloc _) (RdU.lit w5 [3, 4, 5, 6] 4 rfl (by omega) #[.int .u64 3, .int .u64 4, .int .u64 5, .int .u64 6] rfl))).mono ?_
  rintro e w6 ⟨rfl, hb⟩
  have hb := allocBelow hb
  have hW6 := hW5.below hb
  have hB6 := stepBelow hB5 hb
  clear hW5 hB5 r5 hb
  go_wp2_with fail
  refine (weakD (in_calls g 3 4 2 w6 hW6)).mono ?_
  rintro e w7 ⟨rfl, hb⟩
  have hW7 := hW6.below hb
  have hB7 := stepBelow hB6 hb
  clear hW6 hB6 hb
  go_wp2_with fail
  refine (weakD (in_calls g 3 4 6 w7 hW7)).mono ?_
  rintro e w8 ⟨rfl, hb⟩
  have hW8 := hW7.below hb
  have hB8 := stepBelow hB7 hb
  clear hW7 hB7 hb
  go_wp2_with fail
  refine (weakD (in_calls g 3 4 7 w8 hW8)).mono ?_
  rintro e w9 ⟨rfl, hb⟩
  have hW9 := hW8.below hb
  have hB9 := stepBelow hB8 hb
  clear hW8 hB8 hb
  have hgs := hW9.2.2.2.1
  go_wp2_with fail
  refine (move_calls g 3 4 5 w9 hW9 (by omega)).mono ?_
  rintro e w10 ⟨v10, rfl, ho10, hW10, hg10⟩
  have hB10 : Below w.heap.size w w10 := hB9.grown hg10 hB9.size (fun k e => by cases e; exact hg)
  rw [gone2] at ho10
  obtain ⟨A10, c10, rfl, _, r10⟩ := ho10.rdn 2 rfl
  clear hB9 hW9 hg10 ho10
  go_wp2_with fail
  refine (weakD (slot_in g 5 4 6 w10 hW10 (by decide))).mono ?_
  rintro e w11 ⟨rfl, hb⟩
  have hW11 := hW10.below hb
  have hB11 := stepBelow hB10 hb
  have r10 := r10.below hb
  clear hW10 hB10 hb
  go_wp2_with fail
  refine (weakD (slot_out g 5 4 9 w11 hW11 (by decide))).mono ?_
  rintro e w12 ⟨rfl, hb⟩
  have hW12 := hW11.below hb
  have hB12 := stepBelow hB11 hb
  have r10 := r10.below hb
  clear hW11 hB11 hb
  go_wp2_with fail
  refine (move_calls g 5 4 1099511627776 w12 hW12 (by omega)).mono ?_
  rintro e w13 ⟨v13, rfl, ho13, hW13, hg13⟩
  have hB13 : Below w.heap.size w w13 := hB12.grown hg13 hB12.size (fun k e => by cases e; exact hg)
  rw [gone3] at ho13
  obtain ⟨A13, c13, rfl, _, r13⟩ := ho13.rdn 4 rfl
  have r10 := r10.grown hg13 (fun k hk e => by cases e; have := hk.1; omega)
  clear hB12 hW12 hg13 ho13
  have r13b := r13
  clear r13
  have r13 := r13b
  go_wp2_with fail
  refine (weakD (same_eq A10 (some ⟨w13.heap.size, 0, none⟩) 2 c10 2 [3, 4] _ _ _ (r10.alloc _) (RdU.lit w13 [3, 4] 2 rfl (by omega) #[.int .u64 3, .int .u64 4] rfl))).mono ?_
  rintro e w14 ⟨rfl, hb⟩
  have hb := allocBelow hb
  have hW14 := hW13.below hb
  have hB14 := stepBelow hB13 hb
  have r13 := r13.below hb
  clear hW13 hB13 r10 hb
  go_wp2_with fail
  refine (weakD (same_eq A13 (some ⟨w14.heap.size, 0, none⟩) 4 c13 4 [5, 6, 7, 8] _ _ _ (r13.alloc _) (RdU.lit w14 [5, 6, 7, 8] 4 rfl (by omega) #[.int .u64 5, .int .u64 6, .int .u64 7, .int .u64 8] rfl))).mono ?_
  rintro e w15 ⟨rfl, hb⟩
  have hb := allocBelow hb
  have hW15 := hW14.below hb
  have hB15 := stepBelow hB14 hb
  clear hW14 hB14 r13 hb
  go_wp2_with fail
  refine (all_calls g 1099511627776 4 w15 hW15).mono ?_
  rintro e w16 ⟨v16, rfl, ho16, hb⟩
  have hW16 := hW15.below hb
  have hB16 := stepBelow hB15 hb
  rw [els2] at ho16
  obtain ⟨A16, c16, rfl, _, r16⟩ := ho16.rdn 0 rfl
  clear hB15 hW15 ho16 hb
  go_wp2_with fail
  refine (weakD (end_calls g 1099511627776 4 w16 hW16)).mono ?_
  rintro e w17 ⟨rfl, hb⟩
  have hW17 := hW16.below hb
  have hB17 := stepBelow hB16 hb
  clear hW16 hB16 hb
  go_wp2
  go_ret
  exact ⟨rfl, hB17⟩
end Go.Proofs.Ytplkmcjobmhneaa
