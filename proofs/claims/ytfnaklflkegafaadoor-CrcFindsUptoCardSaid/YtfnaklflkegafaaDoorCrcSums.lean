/-
  The walk of CrcSums.
-/
import Derived.Test.YtfnaklflkegafaaDoorCrc5
namespace Go.Proofs.YtfnaklflkegafaaDoor
open Go.RowKit

/-- What Open tells. -/
def opened (xs : List UInt8) : List UInt8 × Int :=
  if xs.length < 4 then ([], 4) else if Crc.le (xs.drop (xs.length - 4)) = Crc.sum (xs.take (xs.length - 4)) then (xs.take (xs.length - 4), 0) else ([], 20)
def RetOpened (w : World) (xs : List UInt8) (e : Ending) (w' : World) : Prop := ∃ v, e = .returned (.tuple #[v, .int .i64 (opened xs).2]) ∧ OwnB w' w.heap.size v (opened xs).1 ∧ Below w.heap.size w w'
theorem opened_short (xs : List UInt8) (h : xs.length < 4) : opened xs = ([], 4) := by rw [opened, if_pos h]
theorem opened_good (xs : List UInt8) (m : Nat) (h : xs.length = m + 4) (hs : Crc.le (xs.drop m) = Crc.sum (xs.take m)) : opened xs = (xs.take m, 0) := by
  rw [opened, if_neg (by omega), show xs.length - 4 = m by omega, if_pos hs]
theorem opened_bad (xs : List UInt8) (m : Nat) (h : xs.length = m + 4) (hs : ¬ Crc.le (xs.drop m) = Crc.sum (xs.take m)) : opened xs = ([], 20) := by
  rw [opened, if_neg (by omega), show xs.length - 4 = m by omega, if_neg hs]
theorem opened_length (xs : List UInt8) : (opened xs).1.length ≤ xs.length := by
  unfold opened
  split
  · simp
  · split
    · simp
    · simp
theorem open_any (A : Option Addr) (n c : Nat) (xs : List UInt8) (w : World) (ok : Nat → Prop) (hr : RdB w ok A n xs) (hc : n ≤ c) (hn : n ≤ 140737488351232) (ht : Tab w) :
    Calls Tryd.prog 15 #[.slice A n c] w (RetOpened w xs) := by
  by_cases h4 : n < 4
  · have e := opened_short xs (by rw [hr.len]; exact h4)
    exact (open_short A n c w h4).mono fun _ _ ⟨he, hw⟩ => ⟨_, by rw [e]; exact he, by rw [e]; exact OwnB.nil _ _, by subst hw; exact Below.refl _ _⟩
  · obtain ⟨m, hm⟩ : ∃ m, n = m + 4 := ⟨n - 4, by omega⟩
    have hl : xs.length = m + 4 := by rw [hr.len]; exact hm
    by_cases hs : Crc.le (xs.drop m) = Crc.sum (xs.take m)
    · have e := opened_good xs m hl hs
      exact (open_good A n m c xs w ok hr hm hc ht hs (by omega)).mono fun _ _ ⟨v, he, ho, hb⟩ => ⟨v, by rw [e]; exact he, by rw [e]; exact ho, hb⟩
    · have e := opened_bad xs m hl hs
      exact (open_bad A n m c xs w ok hr hm hc ht hs).mono fun _ _ ⟨he, k, hw⟩ => ⟨_, by rw [e]; exact he, by rw [e]; exact OwnB.nil _ _, by subst hw; exact belowDrewN (Below.refl _ _) _⟩
theorem refOpen_any (A : Option Addr) (n c : Nat) (xs : List UInt8) (w : World) (ok : Nat → Prop) (hr : RdB w ok A n xs) (hc : n ≤ c) (hn : n ≤ 140737488351232) :
    Calls Tryd.prog 16 #[.slice A n c] w (RetOpened w xs) := by
  by_cases h4 : n < 4
  · have e := opened_short xs (by rw [hr.len]; exact h4)
    exact (refOpen_short A n c w h4).mono fun _ _ ⟨he, hw⟩ => ⟨_, by rw [e]; exact he, by rw [e]; exact OwnB.nil _ _, by subst hw; exact Below.refl _ _⟩
  · obtain ⟨m, hm⟩ : ∃ m, n = m + 4 := ⟨n - 4, by omega⟩
    have hl : xs.length = m + 4 := by rw [hr.len]; exact hm
    by_cases hs : Crc.le (xs.drop m) = Crc.sum (xs.take m)
    · have e := opened_good xs m hl hs
      exact (refOpen_good A n m c xs w ok hr hm hc (by omega) ((Crc.sealed_iff xs m hl).2 hs)).mono fun _ _ ⟨v, he, ho, hb⟩ => ⟨v, by rw [e]; exact he, by rw [e]; exact ho, hb⟩
    · have e := opened_bad xs m hl hs
      exact (refOpen_bad A n m c xs w ok hr hm hc (by omega) (fun he => hs ((Crc.sealed_iff xs m hl).1 he))).mono fun _ _ ⟨he, hw⟩ => ⟨_, by rw [e]; exact he, by rw [e]; exact OwnB.nil _ _, hw⟩

theorem not8 (x : Nat) (h : x < 256) : bits .xor .u8 (x : Int) 255 = ((x ^^^ 255 : Nat) : Int) := u8_xor_nat x 255 h (by omega)
theorem grownTrans {a b c : World} {row : Option Nat} (h : a.grownBy b row) (k : b.grownBy c row) : a.grownBy c row := World.grownBy.trans h k

set_option maxHeartbeats 3200000 in
theorem crcSums_walk (w : World) (A : Option Addr) (n c : Nat) (xs : List UInt8) (B : Option Addr) (n1 c1 : Nat) (ys : List UInt8)
    (hr : RdB w (fun k => k < w.heap.size) A n xs) (_hc : n ≤ c) (hn : n ≤ 1048576) (hr1 : RdB w (fun k => k < w.heap.size) B n1 ys) (hc1 : n1 ≤ c1) (hn1 : n1 ≤ 1048576) (ht : Tab w) :
    Calls Tryd.prog 3 #[.slice A n c, .slice B n1 c1] w fun e w' => e = .returned (.bool true) ∧ Below w.heap.size w w' := by
  have lx := hr.len
  have ly := hr1.len
  have l1 : ([] : List UInt8).length + n ≤ 140737488355328 := by simp; omega
  have l2 : ([] : List UInt8).length + n1 ≤ 140737488355328 := by simp; omega
  have LX := Lib.hid lx
  have LY := Lib.hid ly
  have hq1 : ((((Crc.sum xs : Nat) : Int)) == ((Crc.sum xs : Nat) : Int)) = true := by simp
  have hq2 : ((strOf (Crc.sealed xs)).toList == (strOf (Crc.sealed xs)).toList) = true := by rw [strOf_beq]; simp
  clear lx ly
  go_enter Tryd.func3, Tryd.ntmps3
  go_wp2_with (first | (at_builtin; refine appB w.heap.size w.heap.size rfl _ _ rfl (.slice none 0 0) [] xs A n c rfl rfl (OwnB.nil _ _) hr (Below.refl _ _) (Nat.le_refl _) (Nat.le_refl _) l1 ?_; intro v1 w1 ho1 hb1 _ _) | (at_builtin; refine appB w.heap.size w1.heap.size rfl _ _ rfl (.slice none 0 0) [] ys B n1 c1 rfl rfl (OwnB.nil _ _) (hr1.below hb1) hb1 (Nat.le_refl _) hb1.size l2 ?_; intro v2 w2 ho2 hb2 hg2 _) | fail)
  simp only [List.nil_append] at ho1 ho2
  have hz12 : w1.heap.size ≤ w2.heap.size := hg2.size
  have ho1' : OwnB w2 w.heap.size v1 xs := ho1.grown hg2 (by simp [Value.ownBlock])
  obtain ⟨A1, k1, rfl, hk1, _, r1⟩ := ho1'.rd
  obtain ⟨A2, k2, rfl, hk2, _, r2⟩ := ho2.rd
  rw [LX.out] at r1 hk1
  rw [LY.out] at r2 hk2
  rw [LX.out, LY.out]
  have r1' : RdB w2 (fun k => k < w2.heap.size) A1 n xs := r1.mono fun k _ hl => hl
  have r2' : RdB w2 (fun k => k < w2.heap.size) A2 n1 ys := r2.mono fun k _ hl => hl
  clear ho1 ho2 ho1' r1 r2 hg2 hb1 l1 l2
  go_wp2_with fail
  refine (seal_calls A1 n k1 xs w2 _ r1' (ht.below hb2) (by omega)).mono ?_
  rintro e w3 ⟨v3, rfl, ho3, hb3⟩
  have hb23 := belowThen hb2 hb2.size hb3
  obtain ⟨A3, k3, e3, _, _, r3⟩ := ho3.rd
  subst e3
  have ls : (Crc.sealed xs).length = n + 4 := by rw [Crc.sealed_length, LX.out]
  rw [ls] at r3 ho3 ⊢
  go_wp2_with fail
  have cS := conv_string r3.drew k3
  go_region_with ((first | (go_at_call 12; (with_reducible refine (sum_calls A1 n k1 xs _ _ (r1'.below hb3).drew (ht.below hb23).drew).mono ?_); rintro e w' ⟨rfl, rfl⟩) | (go_at_call 13; (with_reducible refine (refSum_calls A n c xs _ _ (hr.below hb23).drew).mono ?_); rintro e w' ⟨rfl, rfl⟩) | (go_at_call 14; (with_reducible refine (refSeal_calls A n c xs _ _ (hr.below hb23).drew (by omega)).mono ?_); rintro e w4 ⟨v4, rfl, ho4, hb4⟩; obtain ⟨A4, k4, rfl, _, _, r4⟩ := ho4.rd; rw [ls] at r4; have cR := conv_string r4 k4; have cS2 := conv_string (r3.drew.below hb4) k3)))
  all_goals
    have hb34 : Below w3.heap.size w3 w4 := (Below.refl _ _).drew.trans hb4
    have hb24 := belowThen hb23 hb23.size hb34
    have q1 := (r1'.below hb3).below hb34
    have q2 := (r2'.below hb3).below hb34
    have s4 : OwnB w4 w2.heap.size (.slice A3 (n + 4) k3) (Crc.sealed xs) := ho3.below hb34
    have z23 := hb3.size
    have z34 := hb34.size
    have hgA : ∀ k, (Value.slice A3 (n + 4) k3).ownBlock = some k → k < w3.heap.size := fun k hk => (ho3.lt k hk).2
    clear ho4 r4 cR cS2 cS r3 ho3
    go_wp2_with fail
    refine (open_any A2 n1 k2 ys w4 _ q2 hk2 (by omega) (ht.below hb24)).mono ?_
    rintro e w5 ⟨v5, rfl, ho5, hb5⟩
    have hb25 := belowThen hb24 hb24.size hb5
    go_wp2_with fail
    refine (refOpen_any B n1 c1 ys w5 _ (hr1.below hb25) hc1 (by omega)).mono ?_
    rintro e w6 ⟨v6, rfl, ho6, hb6⟩
    have hb26 := belowThen hb25 hb25.size hb6
    have z45 := hb5.size
    have z56 := hb6.size
    have lop := opened_length ys
    rw [LY.out] at lop
    have hq3 : ((opened ys).2 == (opened ys).2) = true := by simp
    generalize (opened ys).2 = code at *
    generalize (opened ys).1 = zs at *
    have hq4 : ((strOf zs).toList == (strOf zs).toList) = true := by rw [strOf_beq]; simp
    have x6 := ho5.below hb6
    obtain ⟨A5, k5, rfl, _, _, r5⟩ := x6.rd
    obtain ⟨A6, k6, rfl, _, _, r6⟩ := ho6.rd
    have L5 : zs.length = zs.length := rfl
    clear L5
    generalize hL : zs.length = L at *
    have HL := Lib.hid hL
    clear hL
    have c5 := conv_string r5 k5
    have c6 := conv_string r6 k6
    have s6 := (s4.below hb5).below hb6
    have q1' := (q1.below hb5).below hb6
    have q2' := (q2.below hb5).below hb6
    have LS := Lib.hid ls
    clear ls ho5 ho6 s4 q1 q2 r1' r2' r6
    have s6' : OwnB w6 w2.heap.size (.slice A3 (Crc.sealed xs).length k3) (Crc.sealed xs) := by rw [LS.out]; exact s6
    obtain ⟨g, kg, eg, hg2, hg6, hgc, _, _⟩ := s6'.form (by rw [LS.out]; omega)
    rw [LS.out] at eg hgc
    cases eg
    have hgw3 : g < w3.heap.size := hgA g rfl
    clear hgA
    clear s6'
    go_wp2_with fail
    go_loopw [13] (fun i wr => ∃ (k : Nat) (ts : List UInt8), k ≤ n + 4 ∧ i = .int .i64 k ∧ ts.length = n + 4 ∧ OwnB wr w2.heap.size (.slice (some ⟨g, 0, none⟩) (n + 4) k3) ts ∧ w6.grownBy wr (some g)) (fun i _ => n + 4 - (intOf i).toNat)
    case atStart => exact ⟨0, _, Nat.zero_le _, rfl, LS.out, s6, World.grownBy.refl _ _⟩
    case round =>
      obtain ⟨k, ts, hk, rfl, hts, ho, hgr⟩ := hrel
      by_cases hlt : k < n + 4
      · have ho' : OwnB wr w2.heap.size (.slice (some ⟨g, 0, none⟩) ts.length k3) ts := by rw [hts]; exact ho
        obtain ⟨g', cap', e1, _, _, _, hcell, hfz⟩ := ho'.form (by omega)
        cases e1
        have cg := hcell k (by omega)
        have fg := hfz k
        have x1 := not8 (byt ts k) (byt_lt _ _)
        have hst := ho'.store k ((ts[k]?.getD 0) ^^^ 255)
        rw [UInt8.toNat_xor] at hst
        have hst1 : OwnB (wr.setCell ⟨g, k, none⟩ (.int .u8 ((byt ts k ^^^ 255 : Nat) : Int))) w2.heap.size (.slice (some ⟨g, 0, none⟩) (n + 4) k3) (ts.set k ((ts[k]?.getD 0) ^^^ 255)) := by
          have h := hst.1
          unfold OwnB at h ⊢
          rw [List.length_set, hts] at h
          rw [List.length_set, hts]
          exact h
        have hst2 : w6.grownBy (wr.setCell ⟨g, k, none⟩ (.int .u8 ((byt ts k ^^^ 255 : Nat) : Int))) (some g) := World.grownBy.trans hgr hst.2
        have hts2 : (ts.set k ((ts[k]?.getD 0) ^^^ 255)).length = n + 4 := by rw [List.length_set]; exact hts
        clear hst hcell hfz ho' ho c5 c6 s6 hts
        go_wp2
        go_roundw
        case rel => exact ⟨k + 1, _, by omega, by go_num, hts2, hst1, hst2⟩
        case measure => simp [intOf]; omega
      · clear s6 c5 c6
        have x7 : OwnB wr w4.heap.size (.slice A5 L k5) zs := x6.grown hgr (by
          intro q hq
          have := (x6.lt q hq).1
          intro he
          injection he with he
          omega)
        have p1 := q1'.grown hgr (fun q hq he => by injection he with he; omega)
        have p2 := q2'.grown hgr (fun q hq he => by injection he with he; omega)
        have hb7 : Below w.heap.size w wr := hb26.grown hgr hb26.size (fun q hq => by injection hq with hq; have := hb2.size; omega)
        have z67 := hgr.size
        clear q1' q2' x6 ho hgr r5
        go_wp2_with fail
        obtain ⟨wb, rfl⟩ : ∃ wb : World, wb = wr := ⟨_, rfl⟩
        go_loopw [14] (fun i wr2 => ∃ (k : Nat) (ts : List UInt8), k ≤ L ∧ i = .int .i64 k ∧ ts.length = L ∧ OwnB wr2 w4.heap.size (.slice A5 L k5) ts ∧ wb.grownBy wr2 (Value.slice A5 L k5).ownBlock) (fun i _ => L - (intOf i).toNat)
        case atStart => exact ⟨0, _, Nat.zero_le _, rfl, HL.out, x7, World.grownBy.refl _ _⟩
        case round =>
          obtain ⟨k, ts, hk, rfl, hts, ho, hgr⟩ := hrel
          have hcv : wb.heap.size ≤ wr.heap.size := hgr.size
          by_cases hlt : k < L
          · have ho' : OwnB wr w4.heap.size (.slice A5 ts.length k5) ts := by rw [hts]; exact ho
            obtain ⟨g', cap', e1, _, _, _, hcell, hfz⟩ := ho'.form (by omega)
            rw [hts] at e1
            cases e1
            have cg := hcell k (by omega)
            have fg := hfz k
            have x1 := not8 (byt ts k) (byt_lt _ _)
            have hst := ho'.store k ((ts[k]?.getD 0) ^^^ 255)
            rw [UInt8.toNat_xor] at hst
            have hst1 : OwnB (wr.setCell ⟨g', k, none⟩ (.int .u8 ((byt ts k ^^^ 255 : Nat) : Int))) w4.heap.size (.slice (some ⟨g', 0, none⟩) L k5) (ts.set k ((ts[k]?.getD 0) ^^^ 255)) := by
              have h := hst.1
              unfold OwnB at h ⊢
              rw [List.length_set, hts] at h
              rw [List.length_set, hts]
              exact h
            have hst2 : wb.grownBy (wr.setCell ⟨g', k, none⟩ (.int .u8 ((byt ts k ^^^ 255 : Nat) : Int))) (some g') := World.grownBy.trans hgr hst.2
            have hts2 : (ts.set k ((ts[k]?.getD 0) ^^^ 255)).length = L := by rw [List.length_set]; exact hts
            clear hst hcell hfz ho' ho hts
            go_wp2
            go_roundw
            case rel => exact ⟨k + 1, _, by omega, by go_num, hts2, hst1, hst2⟩
            case measure => simp [intOf]; omega
          · have hbl : ∀ q, (Value.slice A5 L k5).ownBlock = some q → w4.heap.size ≤ q := fun q hq => (ho.lt q hq).1
            have f1 := p1.grown hgr (fun q hq he => by have := hbl q he.symm; omega)
            have f2 := p2.grown hgr (fun q hq he => by have := hbl q he.symm; omega)
            have hb8 : Below w.heap.size w wr := hb7.grown hgr hb7.size (fun q hq => by have := hbl q hq; have := hb2.size; omega)
            have hA := conv_string (hr.below hb8) c
            have hB := conv_string (hr1.below hb8) c1
            have hM := conv_string f1 k1
            have hO := conv_string f2 k2
            have hx1 : ((strOf xs).toList == (strOf xs).toList) = true := by rw [strOf_beq]; simp
            have hy1 : ((strOf ys).toList == (strOf ys).toList) = true := by rw [strOf_beq]; simp
            clear p1 p2 f1 f2 ho hgr x7
            go_wp2_with fail
            refine (wakes_calls _ (ht.below hb8)).mono ?_
            rintro e w9 ⟨rfl, hb9⟩
            have hb10 := belowThen hb8 hb8.size hb9
            go_wp2
            go_ret
            exact ⟨rfl, hb10⟩
end Go.Proofs.YtfnaklflkegafaaDoor
