/-
  The walk of WindowMoves.
-/
import Derived.Test.YtplkmcjobmhneaaWinW
namespace Go.Proofs.Ytplkmcjobmhneaa
open Go.RowKit

/-- Which slots the first k numbers have taken. -/
def tk (xs : List Nat) (n k j : Nat) : Bool := (xs.take k).any fun x => x % n == j
theorem tk_zero (xs : List Nat) (n j : Nat) : tk xs n 0 j = false := by simp [tk]
theorem tk_next (xs : List Nat) (n k j : Nat) (h : k < xs.length) : tk xs n (k + 1) j = (tk xs n k j || (nth xs k % n == j)) := by
  rw [tk, take_next xs k h, List.any_append]; simp [tk]
theorem els_nth (b n k : Nat) (h : k < (els b n).length) : nth (els b n) k = b + k := by
  rw [nth_eq _ _ h]; simp [els]
theorem slots_apart (b n k t : Nat) (_hn : 1 ≤ n) (ht : t < k) (hk : k < n) : ¬ (b + t) % n = (b + k) % n := by
  intro e
  have h1 : (b + k - (b + t)) % n = 0 := Nat.sub_mod_eq_zero_of_mod_eq e.symm
  have h2 : b + k - (b + t) = k - t := by omega
  rw [h2, Nat.mod_eq_of_lt (by omega)] at h1
  omega
theorem tk_free (b n k : Nat) (hn : 1 ≤ n) (hk : k < (els b n).length) (hl : (els b n).length ≤ n) : tk (els b n) n k (nth (els b n) k % n) = false := by
  rw [tk, List.any_eq_false]
  intro x hx
  obtain ⟨t, ht, e⟩ := List.getElem_of_mem hx
  rw [List.length_take] at ht
  rw [List.getElem_take] at e
  have e2 := els_nth b n t (by omega)
  rw [nth_eq _ _ (by omega), e] at e2
  rw [els_nth b n k hk, e2, beq_iff_eq]
  exact slots_apart b n k t hn (by omega) (by omega)
theorem goneOf_at (b nb n : Nat) (xs : List Nat) (j : Nat) (hj : j < xs.length) :
    inw nb n (nth xs j) = false → (goneOf b nb n (xs.take j)).length < (goneOf b nb n xs).length ∧ nth (goneOf b nb n xs) (goneOf b nb n (xs.take j)).length = nth xs j := by
  intro hin
  have e : xs = xs.take j ++ nth xs j :: xs.drop (j + 1) := by
    rw [nth_eq xs j hj, List.getElem_cons_drop]
    simp
  have e2 : goneOf b nb n xs = goneOf b nb n (xs.take j) ++ nth xs j :: goneOf b nb n (xs.drop (j + 1)) := by
    conv => lhs; rw [e]
    simp [goneOf, hin]
  rw [e2]
  refine ⟨by simp, ?_⟩
  rw [nth, List.getElem?_append_right (Nat.le_refl _)]
  simp
/-- The array of the slots taken. -/
def Tkn (w : World) (T : Nat) (f : Nat → Bool) : Prop := T < w.heap.size ∧ ∀ j, j < 16 → w.cell? ⟨T, j, none⟩ = some (.bool (f j)) ∧ w.frozen? ⟨T, j, none⟩ = false
theorem Tkn.new (w : World) (t : TypeId) : Tkn (w.alloc (.cells #[.bool false, .bool false, .bool false, .bool false, .bool false, .bool false, .bool false, .bool false, .bool false, .bool false, .bool false, .bool false, .bool false, .bool false, .bool false, .bool false] t)) w.heap.size (fun _ => false) := by
  refine ⟨by simp, fun j hj => ⟨?_, World.frozen?_alloc_at _ _ _ _ rfl⟩⟩
  rw [World.cell?_alloc_new]
  match j, hj with
  | 0, _ | 1, _ | 2, _ | 3, _ | 4, _ | 5, _ | 6, _ | 7, _ | 8, _ | 9, _ | 10, _ | 11, _ | 12, _ | 13, _ | 14, _ | 15, _ => rfl
  | n + 16, hj => exact absurd hj (by omega)
theorem Tkn.set_ {w : World} {T : Nat} {f : Nat → Bool} (h : Tkn w T f) (q : Nat) (hq : q < 16) (g : Nat → Bool) (hg : ∀ j, g j = (f j || q == j)) : Tkn (w.setCell ⟨T, q, none⟩ (.bool true)) T g := by
  refine ⟨by simpa [World.setCell] using h.1, fun j hj => ⟨?_, by rw [World.frozen?_setCell]; exact (h.2 j hj).2⟩⟩
  rw [hg]
  by_cases e : q = j
  · subst e
    rw [World.cell?_setCell_same' _ _ _ (by rw [(h.2 q hq).1]; rfl)]
    simp
  · rw [World.cell?_setCell_other _ _ _ _ (by simp), (h.2 j hj).1]
    simp [e]
set_option maxRecDepth 100000 in
set_option maxHeartbeats 4000000 in
theorem windowMoves_walk (w : World) (wd a b c : Nat) (hwd : wd ≤ 255) (_ : a ≤ 18446744073709551615) (_ : b ≤ 18446744073709551615) (_ : c ≤ 18446744073709551615) : Calls Try.prog 4 #[.int .u8 (wd : Int), .int .u64 (a : Int), .int .u64 (b : Int), .int .u64 (c : Int)] w fun e w' => e = .returned (.bool true) ∧ Below w.heap.size w w' := by
  obtain ⟨n, hn⟩ : ∃ n, 1 + wd % 16 = n := ⟨_, rfl⟩
  obtain ⟨a', ha⟩ : ∃ a', a % 1099511627777 = a' := ⟨_, rfl⟩
  obtain ⟨b', hb⟩ : ∃ b', b % 1099511627777 = b' := ⟨_, rfl⟩
  obtain ⟨c', hc⟩ : ∃ c', c % 1099511627777 = c' := ⟨_, rfl⟩
  have ha1 : (a : Int).tmod 1099511627777 = (a' : Int) := by rw [Int.tmod_eq_emod_of_nonneg (by omega)]; omega
  have hb1 : (b : Int).tmod 1099511627777 = (b' : Int) := by rw [Int.tmod_eq_emod_of_nonneg (by omega)]; omega
  have hc1 : (c : Int).tmod 1099511627777 = (c' : Int) := by rw [Int.tmod_eq_emod_of_nonneg (by omega)]; omega
  have ha2 : a' ≤ 1099511627776 := by omega
  have hb2 : b' ≤ 1099511627776 := by omega
  have hc2 : c' ≤ 1099511627776 := by omega
  have hn1 : 1 ≤ n := by omega
  have hn16 : n ≤ 16 := by omega
  have hw1 : (wd : Int).tmod 16 = (n : Int) - 1 := by rw [Int.tmod_eq_emod_of_nonneg (by omega)]; omega
  have hone : (1 : Int) + ((n : Int) - 1) = (n : Int) := by omega
  have hN := Lib.hid hn
  clear hn ha hb hc
  go_enter Try.func4, Try.ntmps4
  go_wp2_with fail
  refine (new_calls n w hn1 hn16).mono ?_
  rintro e w1 ⟨g, rfl, hg, hW1, hB1⟩
  go_wp2_with fail
  refine (move_calls g 0 n a' w1 hW1 ha2).mono ?_
  rintro e w2 ⟨v2, rfl, _, hW2, hg2⟩
  have hB2 : Below w.heap.size w w2 := hB1.grown hg2 hB1.size (fun k e => by cases e; exact hg)
  have hg2s : g < w2.heap.size := hW2.2.2.2.1
  clear hB1 hW1 hg2
  go_wp2_with fail
  refine (all_calls g a' n w2 hW2).mono ?_
  rintro e w3 ⟨v3, rfl, ho3, hb⟩
  have hW3 := hW2.below hb
  have hB3 := stepBelow hB2 hb
  clear hW2 hB2 hb
  obtain ⟨xs, hxs⟩ : ∃ xs, els a' n = xs := ⟨_, rfl⟩
  have hl16 : xs.length ≤ n := by rw [← hxs, els_length]; unfold wend; omega
  rw [hxs] at ho3
  obtain ⟨L, hL⟩ : ∃ L, xs.length = L := ⟨_, rfl⟩
  obtain ⟨A3, c3, rfl, _, r3⟩ := ho3.rdn L hL
  rw [hL] at hl16
  have HL := Lib.hid hL
  have HXS := Lib.hid hxs
  clear ho3 hL hxs
  go_wp2_with fail
  obtain ⟨T, hT⟩ : ∃ T, w3.heap.size = T := ⟨_, rfl⟩
  have htk0 := Tkn.new w3 50
  have hb4 : Below T w3 (w3.alloc (.cells #[.bool false, .bool false, .bool false, .bool false, .bool false, .bool false, .bool false, .bool false, .bool false, .bool false, .bool false, .bool false, .bool false, .bool false, .bool false, .bool false] 50)) := (Below.refl _ _).alloc (by omega) _
  rw [hT] at htk0 ⊢
  have HT := Lib.hid hT
  clear hT
  go_loopw [15] (fun i wr => ∃ k : Nat, k ≤ L ∧ i = .int .i64 k ∧ Tkn wr T (tk xs n k) ∧ Below T w3 wr) (fun i _ => L - (intOf i).toNat)
  case atStart => exact ⟨0, Nat.zero_le _, rfl, (by have e : tk xs n 0 = fun _ => false := funext (tk_zero xs n); rw [e]; exact htk0), hb4⟩
  case round =>
    obtain ⟨k, hk, rfl, htk, hbe⟩ := hrel
    have hbw : Below w3.heap.size w3 wr := by rw [HT.out]; exact hbe
    have hWr := hW3.below hbw
    by_cases hlt : k < L
    · obtain ⟨b1, o1, e1, k1⟩ := (r3.below hbw).at_ k hlt
      subst e1
      have hkx : k < xs.length := by rw [HL.out]; exact hlt
      have hin : inw a' n (nth xs k) = true := decide_eq_true ((els_mem a' n (nth xs k)).1 (by rw [HXS.out, nth_eq xs k hkx]; exact List.getElem_mem hkx))
      have hfree : tk xs n k (nth xs k % n) = false := by
        have := tk_free a' n k hn1 (by rw [HXS.out]; exact hkx) (by rw [HXS.out, HL.out]; exact hl16)
        rwa [HXS.out] at this
      have hnext : ∀ j, tk xs n (k + 1) j = (tk xs n k j || nth xs k % n == j) := fun j => tk_next xs n k j hkx
      obtain ⟨x, hx⟩ : ∃ x, nth xs k = x := ⟨_, rfl⟩
      have hq : x % n < n := Nat.mod_lt x hn1
      rw [hx] at k1 hin hfree hnext
      have hs := slot_in g a' n x wr hWr (of_decide_eq_true hin)
      have hi := in_calls g a' n x wr hWr
      obtain ⟨q, hqq⟩ : ∃ q, x % n = q := ⟨_, rfl⟩
      rw [hqq] at hq hfree hnext hs
      have hq16 : q < 16 := by omega
      have t1 := (htk.2 q hq16).1
      have t2 := (htk.2 q hq16).2
      have hset : ∀ m4 m6, Tkn (((wr.drewN m4).drewN m6).setCell ⟨T, q, none⟩ (.bool true)) T (tk xs n (k + 1)) := fun m4 m6 => Tkn.set_ (w := (wr.drewN m4).drewN m6) htk q hq16 _ hnext
      rw [hfree] at t1
      have HX := Lib.hid hx
      have HIN := Lib.hid hin
      clear hx hqq hin hfree hnext
      go_wp2_with fail
      refine hs.mono ?_
      rintro e w4 ⟨rfl, m4, rfl⟩
      go_wp2_with fail
      refine (width_calls g a' n (wr.drewN m4) hWr).mono ?_
      rintro e w5 ⟨rfl, rfl⟩
      go_wp2_with fail
      refine (in_calls g a' n x (wr.drewN m4) hWr).mono ?_
      rw [show decide (a' ≤ x ∧ x < wend a' n) = true from HIN.out]
      rintro e w6 ⟨rfl, m6, rfl⟩
      go_wp2_with fail
      go_roundw
      case rel => exact ⟨k + 1, by omega, by go_num, hset m4 m6, (belowDrewN hbe (m4 + m6)).setCell (p := ⟨T, q, none⟩) (Nat.le_refl _) _⟩
      case measure => simp [intOf]; omega
    · obtain rfl : L = k := by omega
      have hB4 := stepBelow hB3 hbw
      have r4 := (r3.below hbw).mono (ok' := fun q => w2.heap.size ≤ q ∧ q < wr.heap.size) fun q hq hl => ⟨hq.1, hl⟩
      clear r3 htk hbe hW3 hbw hB3
      go_wp2_with fail
      refine (copy_calls g a' n wr hWr).mono ?_
      rintro e w5 ⟨gx, rfl, hgx, hX5, hb⟩
      have hW5 := hWr.below hb
      have hB5 := stepBelow hB4 hb
      have r5 := r4.below hb
      have hgr : g < wr.heap.size := hWr.2.2.2.1
      have hB8s : w.heap.size ≤ wr.heap.size := hB4.size
      clear hWr hb hB4 r4
      go_wp2_with fail
      refine (move_calls g a' n b' w5 hW5 hb2).mono ?_
      rintro e w6 ⟨v6, rfl, ho6, hW6, hg6⟩
      have r6 := r5.grown hg6 (fun k hk e => by cases e; have := hk.1; omega)
      have hX6 := hX5.grown hg6 (fun k e => by cases e; omega)
      have hB6 : Below w.heap.size w w6 := hB5.grown hg6 hB5.size (fun k e => by cases e; exact hg)
      clear r5 hX5 hB5 hg6 hW5
      rw [gone, HXS.out] at ho6
      obtain ⟨ys, hys⟩ : ∃ ys, goneOf a' b' n xs = ys := ⟨_, rfl⟩
      rw [hys] at ho6
      obtain ⟨M, hM⟩ : ∃ M, ys.length = M := ⟨_, rfl⟩
      obtain ⟨A6, c6, rfl, _, s6⟩ := ho6.rdn M hM
      have hML : M ≤ L := by rw [← hM, ← hys, ← HL.out]; exact goneOf_length _ _ _ _
      have HYS := Lib.hid hys
      have HM := Lib.hid hM
      clear hys hM ho6
      go_wp2_with fail
      go_loopw [20, 21] (fun kv i wr => ∃ j k m : Nat, j ≤ L ∧ i = .int .i64 j ∧ kv = .int .i64 k ∧ k = (goneOf a' b' n (xs.take j)).length ∧ wr = w6.drewN m) (fun _ i _ => L - (intOf i).toNat)
      case atStart => exact ⟨0, 0, 0, Nat.zero_le _, rfl, rfl, rfl, rfl⟩
      case round =>
        obtain ⟨j, k, m, hj, rfl, rfl, hk, rfl⟩ := hrel
        by_cases hlt : j < L
        · obtain ⟨b1, o1, e1, k1⟩ := r6.at_ j hlt
          subst e1
          have hjx : j < xs.length := by rw [HL.out]; exact hlt
          have htn := take_next xs j hjx
          have hat := goneOf_at a' b' n xs j hjx
          obtain ⟨x, hx⟩ : ∃ x, nth xs j = x := ⟨_, rfl⟩
          rw [hx] at k1 htn hat
          rw [← hk, HYS.out, HM.out] at hat
          have hk1' : ∀ m, (w6.drewN m).cell? ⟨b1, o1 + j, none⟩ = some (.int .u64 (x : Int)) := fun _ => k1
          clear hx
          cases hin : inw b' n x with
          | true =>
            have HS := Lib.hid (show k = (goneOf a' b' n (xs.take (j + 1))).length by rw [htn, goneOf_hit a' b' n _ x hin]; exact hk)
            have HIN := Lib.hid hin
            clear htn hin hat hk
            go_wp2_with fail
            refine (in_calls g b' n x (w6.drewN m) hW6).mono ?_
            rw [show decide (b' ≤ x ∧ x < wend b' n) = true from HIN.out]
            rintro e w7 ⟨rfl, m7, rfl⟩
            go_wp2_with fail
            go_roundw
            case rel => exact ⟨j + 1, k, m + m7, by omega, by go_num, rfl, HS.out, rfl⟩
            case measure => simp [intOf]; omega
          | false =>
            have HS := Lib.hid (show k + 1 = (goneOf a' b' n (xs.take (j + 1))).length by rw [htn, goneOf_miss a' b' n _ x hin, List.length_append, ← hk]; rfl)
            obtain ⟨hkM, hkx⟩ := hat hin
            obtain ⟨b2, o2, e2, k2⟩ := s6.at_ k hkM
            subst e2
            rw [hkx] at k2
            have HIN := Lib.hid hin
            clear htn hin hat hk hkx
            go_wp2_with fail
            refine (in_calls g b' n x (w6.drewN m) hW6).mono ?_
            rw [show decide (b' ≤ x ∧ x < wend b' n) = false from HIN.out]
            rintro e w7 ⟨rfl, m7, rfl⟩
            go_wp2_with fail
            go_quiet (fail)
            go_wp2_with fail
            go_roundw
            case rel => exact ⟨j + 1, k + 1, _, by omega, by go_num, by go_num, HS.out, rfl⟩
            case measure => simp [intOf]; omega
        · obtain rfl : L = j := by omega
          have hkM : k = M := by rw [hk, List.take_of_length_le (by rw [HL.out]; exact Nat.le_refl _), HYS.out, HM.out]
          subst hkM
          have r7 := r6.drewN m
          have hX7 : Win (w6.drewN m) gx a' n := hX6
          have hB7 : Below w.heap.size w (w6.drewN m) := belowDrewN hB6 m
          have hW7 : Win (w6.drewN m) g b' n := hW6
          obtain ⟨w7, hw7⟩ : ∃ w7, w6.drewN m = w7 := ⟨_, rfl⟩
          rw [hw7] at r7 hX7 hB7 hW7 ⊢
          clear hw7 r6 hX6 hB6 hW6 s6 hk
          go_wp2_with fail
          refine (all_calls g b' n w7 hW7).mono ?_
          rintro e w8 ⟨v8, rfl, ho8, hb⟩
          have hW8 := hW7.below hb
          have hX8 := hX7.below hb
          have hB8 := stepBelow hB7 hb
          have r8 := r7.below hb
          obtain ⟨L8, hL8⟩ : ∃ L8, (els b' n).length = L8 := ⟨_, rfl⟩
          obtain ⟨A8, c8, rfl, _, _⟩ := ho8.rdn L8 hL8
          have hL8n : L8 ≤ n := by rw [← hL8, els_length]; unfold wend; omega
          clear hL8 ho8 hb hW7 hX7 hB7 r7
          go_wp2_with fail
          refine (width_calls g b' n w8 hW8).mono ?_
          rintro e w9 ⟨rfl, rfl⟩
          go_wp2_with fail
          refine (move_calls g b' n c' w8 hW8 hc2).mono ?_
          rintro e w9 ⟨v9, rfl, _, hW9, hg9⟩
          have hX9 := hX8.grown hg9 (fun k e => by cases e; omega)
          have r9 := r8.grown hg9 (fun k hk e => by cases e; have := hk.1; omega)
          have hB9 : Below w.heap.size w w9 := hB8.grown hg9 hB8.size (fun k e => by cases e; exact hg)
          clear hW8 hX8 r8 hB8 hg9
          go_wp2_with fail
          refine (move_calls gx a' n c' w9 hX9 hc2).mono ?_
          rintro e wa ⟨va, rfl, _, hXa, hga⟩
          have hWa := hW9.grown hga (fun k e => by cases e; omega)
          have ra := r9.grown hga (fun k hk e => by cases e; have := hk.2; omega)
          have hBa : Below w.heap.size w wa := hB9.grown hga hB9.size (fun k e => by cases e; have := hB8s; omega)
          clear hW9 hX9 r9 hB9 hga
          go_wp2_with fail
          refine (all_calls g c' n wa hWa).mono ?_
          rintro e wb ⟨vb, rfl, hob, hb⟩
          have hWb := hWa.below hb
          have hXb := hXa.below hb
          have hBb := stepBelow hBa hb
          have rb := ra.below hb
          clear hWa hXa hBa ra hb
          go_wp2_with fail
          refine (all_calls gx c' n wb hXb).mono ?_
          rintro e wc ⟨vc, rfl, hoc, hb⟩
          have hWc := hWb.below hb
          have hBc := stepBelow hBb hb
          have rc := rb.below hb
          have hob2 := hob.below hb
          obtain ⟨zs, hzs⟩ : ∃ zs, els c' n = zs := ⟨_, rfl⟩
          rw [hzs] at hob2 hoc
          obtain ⟨Z, hZ⟩ : ∃ Z, zs.length = Z := ⟨_, rfl⟩
          obtain ⟨Ab, cb, rfl, _, sb⟩ := hob2.rdn Z hZ
          obtain ⟨Ac, cc, rfl, _, sc⟩ := hoc.rdn Z hZ
          clear hb hob hoc hob2 hzs hZ hWb hXb hBb rb
          go_wp2_with fail
          refine (weakD (same_eq Ab Ac Z cb cc zs wc _ _ sb sc)).mono ?_
          rintro e wd' ⟨rfl, hb⟩
          have hWd := hWc.below hb
          have hBd := stepBelow hBc hb
          have rd := rc.below hb
          clear hb sb sc hWc hBc rc
          go_wp2_with fail
          refine (move_calls g c' n a' wd' hWd ha2).mono ?_
          rintro e we ⟨ve, rfl, _, hWe, hge⟩
          have re := rd.grown hge (fun k hk e => by cases e; have := hk.1; omega)
          have hBe : Below w.heap.size w we := hBd.grown hge hBd.size (fun k e => by cases e; exact hg)
          clear hWd hBd rd hge
          go_wp2_with fail
          refine (all_calls g a' n we hWe).mono ?_
          rintro e wf ⟨vf, rfl, hof, hb⟩
          rw [HXS.out] at hof
          obtain ⟨Af, cf, rfl, _, sf⟩ := hof.rdn L HL.out
          have hBf := stepBelow hBe hb
          have rf := re.below hb
          clear hb hof hWe hBe re
          go_wp2_with fail
          refine (weakD (same_eq Af A3 L cf c3 xs wf _ _ sf rf)).mono ?_
          rintro e wg ⟨rfl, hb⟩
          have hBg := stepBelow hBf hb
          clear hb sf rf hBf
          go_wp2_with fail
          refine (wakes_calls wg).mono ?_
          rintro e wh ⟨rfl, hb⟩
          have hBh := stepBelow hBg hb
          go_wp2_with fail
          go_ret
          exact ⟨rfl, hBh⟩
end Go.Proofs.Ytplkmcjobmhneaa
