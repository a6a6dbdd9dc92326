/-
  The walks of wire's Reader.
-/
import Derived.Test.YtnadohbgnanpiaaWire2
import Derived.Defers
namespace Go.Proofs.Ytnadohbgnanpiaa
open Go.RowKit

/-- A reader at block g; what is left lies below 'top'. -/
def Rdr (w : World) (g top : Nat) (A : Option Addr) (n c : Nat) (xs : List UInt8) : Prop :=
  g < w.heap.size ∧ w.cell? ⟨g, 0, none⟩ = some (.slice A n c) ∧ w.cell? ⟨g, 1, none⟩ = some (.bool true) ∧ (∀ j, w.frozen? ⟨g, j, none⟩ = false) ∧ n ≤ c ∧ RdB w (fun k => k < top ∧ k ≠ g) A n xs
def RdrX (w : World) (g top : Nat) (xs : List UInt8) : Prop := ∃ A n c, Rdr w g top A n c xs
section
variable {w w' : World} {g top : Nat} {A : Option Addr} {n c : Nat} {xs : List UInt8}
theorem Rdr.keep (h : Rdr w g top A n c xs) (hs : w.heap.size ≤ w'.heap.size) (hg : w'.heap[g]? = w.heap[g]?) (hk : ∀ k, k < top → k ≠ g → k < w.heap.size → w'.heap[k]? = w.heap[k]?) : Rdr w' g top A n c xs := by
  obtain ⟨h1, h2, h3, h4, h5, h6⟩ := h
  exact ⟨by omega, (World.cell?_of_block (w := w) (a := ⟨g, 0, none⟩) hg).trans h2, (World.cell?_of_block (w := w) (a := ⟨g, 1, none⟩) hg).trans h3, fun j => (World.frozen?_of_block (w := w) (a := ⟨g, j, none⟩) hg).trans (h4 j), h5, h6.keep hs fun k ⟨a, b⟩ hl => hk k a b hl⟩
theorem Rdr.below (h : Rdr w g top A n c xs) (hb : Below w.heap.size w w') : Rdr w' g top A n c xs := h.keep hb.size (hb.block g h.1) fun k _ _ hl => hb.block k hl
theorem Rdr.grown {row : Option Nat} (h : Rdr w g top A n c xs) (hb : w.grownBy w' row) (hr : ∀ k, row = some k → top ≤ k ∧ k ≠ g) : Rdr w' g top A n c xs :=
  h.keep hb.size (hb.block g h.1 (fun e => (hr g e.symm).2 rfl)) fun k ht _ hl => hb.block k hl (fun e => by have := (hr k e.symm).1; omega)
theorem Rdr.drew (h : Rdr w g top A n c xs) : Rdr w.drew g top A n c xs := h
theorem Rdr.top_le (h : Rdr w g top A n c xs) {t : Nat} (ht : top ≤ t) : Rdr w g t A n c xs := ⟨h.1, h.2.1, h.2.2.1, h.2.2.2.1, h.2.2.2.2.1, h.2.2.2.2.2.mono fun k ⟨a, b⟩ _ => ⟨by omega, b⟩⟩
/-- Another beginning, laid into the field. -/
theorem Rdr.put (h : Rdr w g top A n c xs) {A' : Option Addr} {n' c' : Nat} {ys : List UInt8} (hc : n' ≤ c') (hr : RdB w (fun k => k < top ∧ k ≠ g) A' n' ys) :
    Rdr (w.setCell ⟨g, 0, none⟩ (.slice A' n' c')) g top A' n' c' ys := by
  obtain ⟨h1, h2, h3, h4, h5, h6⟩ := h
  refine ⟨by simpa [World.setCell] using h1, World.cell?_setCell_same _ _ _ h2, ?_, fun j => ?_, hc, hr.set_ _ _ fun k hk => hk.2⟩
  · exact (World.cell?_setCell_other _ _ _ _ (by simp)).trans h3
  · exact (World.frozen?_setCell _ _ _ _).trans (h4 j)
end

theorem grownSet {w w1 : World} {g : Nat} (h : w.grownBy w1 (some g)) (p : Addr) (v : Value) (hp : p.block = g ∨ w.heap.size ≤ p.block) : w.grownBy (w1.setCell p v) (some g) := by
  refine ⟨h.os, h.tape, h.output, by simpa [World.setCell] using h.size, fun i hi hne => ?_⟩
  rw [Below.heap_setCell w1 p v i (fun e => ?_)]
  · exact h.block i hi hne
  · rcases hp with hp | hp
    · exact hne (by rw [e, hp])
    · omega
theorem new_calls (A : Option Addr) (n c : Nat) (xs : List UInt8) (w : World) (ok : Nat → Prop) (hr : RdB w ok A n xs) (hn : n ≤ 140737488355328) :
    Calls Try.prog 24 #[.slice A n c] w fun e w' => ∃ g, e = .returned (.pointer (some ⟨g, 0, none⟩)) ∧ w.heap.size ≤ g ∧ RdrX w' g g xs ∧ Below w.heap.size w w' := by
  go_enter Try.func24, Try.ntmps24
  go_wp2_with fail
  refine (bclone_calls A n c xs w ok hr hn).mono ?_
  rintro e w1 ⟨v1, rfl, ho1, hb1⟩
  obtain ⟨A1, c1, rfl, hc1, _, hr1⟩ := ho1.rd
  go_wp2
  go_ret
  refine ⟨_, rfl, hb1.size, ⟨A1, _, c1, by simp, World.cell?_alloc_new _ _ _ 0, World.cell?_alloc_new _ _ _ 1, fun j => World.frozen?_alloc_at _ _ _ _ rfl, hc1, ?_⟩, hb1.alloc hb1.size _⟩
  refine RdB.mono (hr1.alloc _) fun k hk _ => ?_
  have := (ho1.lt k hk.2).2
  omega

def endOf (xs : List UInt8) : Int := if xs.length = 0 then 0 else 3
theorem left_calls (g top : Nat) (A : Option Addr) (n c : Nat) (xs : List UInt8) (w : World) (hr : Rdr w g top A n c xs) :
    Calls Try.prog 28 #[.pointer (some ⟨g, 0, none⟩)] w fun e w' => e = .returned (.int .i64 (xs.length : Int)) ∧ w = w' := by
  have hl := Lib.hid hr.2.2.2.2.2.len
  have h0 := hr.2.1
  go_enter Try.func28, Try.ntmps28
  go_wp2
  go_ret
  exact ⟨by rw [hl.out]; rfl, rfl⟩
/-- Take: what a call leaves. -/
def RetTake (w : World) (g top : Nat) (xs : List UInt8) (z : Int) (e : Ending) (w' : World) : Prop :=
  ∃ v, e = .returned (.tuple #[v, .int .i64 (Wire.takeRead xs z).2.1]) ∧ OwnB w' w.heap.size v (Wire.takeRead xs z).1 ∧ RdrX w' g top (Wire.takeRead xs z).2.2 ∧ w.grownBy w' (some g)
set_option maxHeartbeats 800000 in
theorem take_calls (g top : Nat) (A : Option Addr) (n c : Nat) (xs : List UInt8) (z : Int) (w : World) (hr : Rdr w g top A n c xs) (_htop : top ≤ w.heap.size) (hn : n ≤ 140737488351232) :
    Calls Try.prog 27 #[.pointer (some ⟨g, 0, none⟩), .int .i64 z] w (RetTake w g top xs z) := by
  have LX := Lib.hid hr.2.2.2.2.2.len
  have h0 := hr.2.1
  have h1 := hr.2.2.1
  have f0 := hr.2.2.2.1 0
  have hnc := hr.2.2.2.2.1
  by_cases hz : z < 0
  · have ht : Wire.takeRead xs z = ([], 1, xs) := by rw [Wire.takeRead, if_pos hz]
    go_enter Try.func27, Try.ntmps27
    go_wp2_with fail
    go_ret2
    unfold RetTake
    rw [ht]
    exact ⟨_, rfl, OwnB.nil _ _, ⟨_, _, _, hr⟩, World.grownBy.refl _ _⟩
  · by_cases hzn : (n : Int) < z
    · have ht : Wire.takeRead xs z = ([], 4, xs) := by rw [Wire.takeRead, if_neg hz, LX.out, if_pos hzn]
      have HT := Lib.hid ht
      clear ht
      go_enter Try.func27, Try.ntmps27
      go_wp2_with fail
      go_ret2
      unfold RetTake
      rw [HT.out]
      exact ⟨_, rfl, OwnB.nil _ _, ⟨_, _, _, hr⟩, World.grownBy.refl _ _⟩
    · obtain ⟨m, rfl⟩ : ∃ m : Nat, z = (m : Int) := ⟨z.toNat, by omega⟩
      have hmn : m ≤ n := by omega
      have ht : Wire.takeRead xs (m : Int) = (xs.take m, 0, xs.drop m) := by rw [Wire.takeRead, if_neg hz, LX.out, if_neg hzn]; rfl
      have HT := Lib.hid ht
      obtain ⟨A1, k1, r1⟩ := cutFrom_run A n c m hmn hnc
      obtain ⟨A2, k2, r2⟩ := cutTo_run A n c m hmn hnc
      have h21 := r1 w _ xs hr.2.2.2.2.2
      have h22 := r2 w _ xs hr.2.2.2.2.2
      clear r1 r2 ht
      go_enter Try.func27, Try.ntmps27
      go_wp2_with fail
      refine (bclone_calls A2 m c (xs.take m) w _ h22 (by omega)).mono ?_
      rintro e w1 ⟨v1, rfl, ho1, hb1⟩
      have hr1 := hr.below hb1
      have h01 := hr1.2.1
      have f01 := hr1.2.2.2.1 0
      have hput := hr1.put (A' := A1) (n' := n - m) (c' := c - m) (by omega) (h21.below hb1)
      have hgr : w.grownBy (w1.setCell ⟨g, 0, none⟩ (.slice A1 (n - m) (c - m))) (some g) := by
        have h := grownOfBelow hb1 (some g)
        refine ⟨h.os, h.tape, h.output, by simpa [World.setCell] using h.size, fun i hi hne => ?_⟩
        rw [Below.heap_setCell w1 ⟨g, 0, none⟩ _ i (fun e => hne (by rw [e]))]
        exact h.block i hi hne
      have hos : OwnB (w1.setCell ⟨g, 0, none⟩ (.slice A1 (n - m) (c - m))) w.heap.size v1 (xs.take m) := by
        refine ho1.grown (row := some g) ⟨rfl, rfl, rfl, by simp [World.setCell], fun i hi hne => Below.heap_setCell w1 ⟨g, 0, none⟩ _ i (fun e => hne (by rw [e]))⟩ fun k hk e => ?_
        have := (ho1.lt k hk).1
        have hg := hr.1
        injection e with e
        omega
      clear ho1 hr1 h21 h22
      go_wp2_with fail
      go_ret2
      unfold RetTake
      rw [HT.out]
      exact ⟨_, rfl, hos, ⟨_, _, _, hput⟩, hgr⟩

/-! ### Num -/
theorem keep_ok (u : FrameMode) (p r : Addr) (v : Value) (w : World) (hc : w.cell? p = some (.int .i64 0)) :
    CallsD Try.prog 38 #[.pointer (some r), v, .pointer (some p)] u w fun e u' w' => u' = u ∧ (e = .returned (.tuple #[]) ∧ w' = w) := by
  go_enter_d Try.func38, Try.ntmps38
  go_wp2
  go_end0
  first | exact ⟨rfl, rfl⟩ | simp
theorem keep_short (u : FrameMode) (p : Addr) (g : Nat) (v0 : Value) (A : Option Addr) (n c : Nat) (w : World) (hc : w.cell? p = some (.int .i64 4)) (h0 : w.cell? ⟨g, 0, none⟩ = some v0) (f0 : w.frozen? ⟨g, 0, none⟩ = false) :
    CallsD Try.prog 38 #[.pointer (some ⟨g, 0, none⟩), .slice A n c, .pointer (some p)] u w fun e u' w' => u' = u ∧ (e = .returned (.tuple #[]) ∧ w' = w.setCell ⟨g, 0, none⟩ (.slice A n c)) := by
  go_enter_d Try.func38, Try.ntmps38
  go_wp2
  go_end0
  first | exact ⟨rfl, rfl⟩ | simp
def RetRead (w : World) (g top : Nat) (xs : List UInt8) (z : Int) (e : Ending) (w' : World) : Prop :=
  e = .returned (.tuple #[.int .u64 ((Wire.numRead xs z).1 : Int), .int .i64 (Wire.numRead xs z).2.1]) ∧ RdrX w' g top (Wire.numRead xs z).2.2 ∧ w.grownBy w' (some g)
set_option maxHeartbeats 800000 in
theorem read_calls (g top : Nat) (A : Option Addr) (n c : Nat) (xs : List UInt8) (z : Int) (w : World) (hr : Rdr w g top A n c xs) (htop : top ≤ w.heap.size) :
    Calls Try.prog 26 #[.pointer (some ⟨g, 0, none⟩), .int .i64 z] w (RetRead w g top xs z) := by
  have LX := Lib.hid hr.2.2.2.2.2.len
  have h0 := hr.2.1
  have h1 := hr.2.2.1
  have f0 := hr.2.2.2.1 0
  have hnc := hr.2.2.2.2.1
  have hgl := hr.1
  by_cases hz : z < 1 ∨ 8 < z
  · have ht : Wire.numRead xs z = (0, 1, xs) := by rw [Wire.numRead, if_pos hz]
    have HT := Lib.hid ht
    clear ht
    rcases hz with hz | hz
    · go_enter_defers Try.func26, Try.ntmps26
      go_wp2_with fail
      simp [bodyPostD, Leaves, results, Try.results26, go_sem]
      unfold RetRead
      rw [HT.out]
      exact ⟨rfl, ⟨_, _, _, hr.below ((Below.refl _ _).alloc (Nat.le_refl _) _)⟩, grownOfBelow ((Below.refl _ _).alloc (Nat.le_refl _) _) _⟩
    · have hz1 : ¬ z < 1 := by omega
      go_enter_defers Try.func26, Try.ntmps26
      go_wp2_with fail
      simp [bodyPostD, Leaves, results, Try.results26, go_sem]
      unfold RetRead
      rw [HT.out]
      exact ⟨rfl, ⟨_, _, _, hr.below ((Below.refl _ _).alloc (Nat.le_refl _) _)⟩, grownOfBelow ((Below.refl _ _).alloc (Nat.le_refl _) _) _⟩
  · obtain ⟨m, rfl⟩ : ∃ m : Nat, z = (m : Int) := ⟨z.toNat, by omega⟩
    have hz1 : ¬ (m : Int) < 1 := by omega
    have hz2 : ¬ 8 < (m : Int) := by omega
    clear hz
    go_enter_defers Try.func26, Try.ntmps26
    go_wp2_with fail
    obtain ⟨H, hH⟩ : ∃ H, H = w.heap.size := ⟨_, rfl⟩
    have hgH : g ≠ H := by omega
    have c0 : (w.alloc (.cells #[.int .i64 0] 22)).cell? ⟨H, 0, none⟩ = some (.int .i64 0) := by rw [hH]; simp
    have fz0 : (w.alloc (.cells #[.int .i64 0] 22)).frozen? ⟨H, 0, none⟩ = false := World.frozen?_alloc_at _ _ _ _ hH
    have hrA := hr.below ((Below.refl _ w).alloc (Nat.le_refl _) (.cells #[.int .i64 0] 22))
    have hgA := grownOfBelow ((Below.refl _ w).alloc (Nat.le_refl _) (.cells #[.int .i64 0] 22)) (some g)
    rw [← hH] at htop ⊢
    generalize w.alloc (.cells #[.int .i64 0] 22) = wA at *
    have HH := Lib.hid hH
    clear h0 h1 f0 hgl hH
    go_loopw [4, 29] (fun y i wr => ∃ (k : Nat) (A' : Option Addr), k ≤ m ∧ k ≤ n ∧ i = .int .i64 k ∧ y = .int .u64 ((Wire.be (xs.take k) : Nat) : Int) ∧ Rdr wr g top A' (n - k) (c - k) (xs.drop k) ∧ wr.cell? ⟨H, 0, none⟩ = some (.int .i64 0) ∧ wr.frozen? ⟨H, 0, none⟩ = false ∧ w.grownBy wr (some g)) (fun _ i _ => 8 - (intOf i).toNat)
    case atStart => exact ⟨0, A, Nat.zero_le _, Nat.zero_le _, rfl, rfl, by simpa using hrA, c0, fz0, hgA⟩
    case round =>
      obtain ⟨k, A', hk, hkn, rfl, rfl, hrr, ce, fe, hgr⟩ := hrel
      have h0 := hrr.2.1
      have f0 := hrr.2.2.2.1 0
      have hrd := hrr.2.2.2.2.2
      clear c0 fz0 hrA hgA
      by_cases hlt : k < m
      · by_cases hend : k = n
        · subst hend
          have ht : Wire.numRead xs (m : Int) = (0, 4, xs) := by rw [Wire.numRead, if_neg (by omega), LX.out, if_pos (by omega)]
          have HT := Lib.hid ht
          clear ht
          rw [Nat.sub_self] at h0
          go_wp2_with fail
          have cE : (wr.setCell ⟨H, 0, none⟩ (.int .i64 4)).cell? ⟨H, 0, none⟩ = some (.int .i64 4) := World.cell?_setCell_same _ _ _ ce
          have hrE := hrr.grown (w' := wr.setCell ⟨H, 0, none⟩ (.int .i64 4)) (row := some H) ⟨rfl, rfl, rfl, by simp [World.setCell], fun i hi hne => Below.heap_setCell wr ⟨H, 0, none⟩ _ i (fun e => hne (by rw [e]))⟩ (fun q hq => by injection hq with hq; omega)
          refine leaves_cons (f := 38) (args := #[.pointer (some ⟨g, 0, none⟩), .slice A k c, .pointer (some ⟨H, 0, none⟩)]) (by simp) (by simp [go_sem]) ?_
          refine (keep_short .returning _ g _ A k c _ cE hrE.2.1 (hrE.2.2.2.1 0)).mono ?_
          rintro e u' w'' ⟨rfl, rfl, rfl⟩
          have hg2 := grownSet hgr ⟨H, 0, none⟩ (.int .i64 4) (.inr (Nat.le_of_eq HH.out.symm))
          have hro : RdB (wr.setCell ⟨H, 0, none⟩ (.int .i64 4)) (fun k => k < top ∧ k ≠ g) A k xs := hr.2.2.2.2.2.grown hg2 fun q hq e => by injection e with e; exact hq.2 e
          have hput := hrE.put hnc hro
          have hg3 := grownSet hg2 ⟨g, 0, none⟩ (.slice A k c) (.inl rfl)
          have cF : ((wr.setCell ⟨H, 0, none⟩ (.int .i64 4)).setCell ⟨g, 0, none⟩ (.slice A k c)).cell? ⟨H, 0, none⟩ = some (.int .i64 4) := cellSet cE hgH.symm
          generalize (wr.setCell ⟨H, 0, none⟩ (.int .i64 4)).setCell ⟨g, 0, none⟩ (.slice A k c) = wF at *
          simp [Leaves, settle, results, Try.results26, go_sem, cF]
          unfold RetRead
          rw [HT.out]
          exact ⟨rfl, ⟨_, _, _, hput⟩, hg3⟩
        · have hkn' : k < n := by omega
          obtain ⟨bb, oo, rfl, ck⟩ := hrd.at_ 0 (by omega)
          have hb0 : byt (xs.drop k) 0 = byt xs k := by simp [byt, List.getElem?_drop]
          rw [hb0, Nat.add_zero] at ck
          have hbl := byt_lt xs k
          obtain ⟨A9, k9, r9⟩ := cutFrom_run (some ⟨bb, oo, none⟩) (n - k) (c - k) 1 (by omega) (by omega)
          have k9' : ∀ (kl : IntKind) (W : World), (Instr.slice 28 (.slice (some ⟨bb, oo, none⟩) (n - k) (c - k)) (some (.int kl 1)) none none).run Try.prog W = .ok (.slice A9 (n - k - 1) (c - k - 1)) W := k9
          have h9 := r9 wr _ _ hrd
          have hput := hrr.put (A' := A9) (n' := n - k - 1) (c' := c - k - 1) (by omega) h9
          have hg2 := grownSet hgr ⟨g, 0, none⟩ (.slice A9 (n - k - 1) (c - k - 1)) (.inl rfl)
          have hdd : (xs.drop k).drop 1 = xs.drop (k + 1) := by rw [List.drop_drop]
          have hce := cellSet (p := ⟨g, 0, none⟩) (u := .slice A9 (n - k - 1) (c - k - 1)) ce hgH.symm
          have hfe : (wr.setCell ⟨g, 0, none⟩ (.slice A9 (n - k - 1) (c - k - 1))).frozen? ⟨H, 0, none⟩ = false := (World.frozen?_setCell _ _ _ _).trans fe
          have hnk0 : 0 < n - k := by omega
          have hy : Wire.be (xs.take k) < 72057594037927936 := by
            have h1 := Wire.be_lt (xs.take k)
            have h2 : (xs.take k).length ≤ 7 := by rw [List.length_take]; omega
            have h3 : 256 ^ (xs.take k).length ≤ 256 ^ 7 := Nat.pow_le_pow_right (by omega) h2
            have h4 : 256 ^ 7 = 72057594037927936 := rfl
            omega
          have hsn : Wire.be (xs.take (k + 1)) = 256 * Wire.be (xs.take k) + byt xs k := by
            have hkl : k < xs.length := by rw [LX.out]; exact hkn'
            rw [List.take_add_one, List.getElem?_eq_getElem hkl, Option.toList_some, Wire.be_snoc, byt_eq xs k hkl]
          have HSN := Lib.hid hsn
          generalize Wire.be (xs.take k) = y at *
          generalize byt xs k = b at *
          have hor : bits .or .u64 ((y : Int) * 256) (b : Int) = ((256 * y + b : Nat) : Int) := by
            have h1 := u64_or_nat (y * 256) b (by omega) (by omega)
            have h2 := Nat.two_pow_add_eq_or_of_lt (i := 8) hbl y
            have h3 : ((y * 256 : Nat) : Int) = (y : Int) * 256 := by omega
            rw [h3] at h1
            rw [h1, Nat.mul_comm y 256, ← h2]
          have HD := Lib.hid hdd
          have e1 : n - k - 1 = n - (k + 1) := by omega
          have e2 : c - k - 1 = c - (k + 1) := by omega
          have hput' : Rdr (wr.setCell ⟨g, 0, none⟩ (.slice A9 (n - k - 1) (c - k - 1))) g top A9 (n - (k + 1)) (c - (k + 1)) (xs.drop (k + 1)) := by
            rw [← hdd]
            rw [← e1, ← e2]
            exact hput
          clear hsn k9 r9 h9 hb0 hrd hdd hput e1 e2
          have hnk : ((((n - k : Nat)) : Int) == 0) = false := by rw [beq_eq_false_iff_ne]; omega
          generalize n - k = q at *
          generalize c - k = c2 at *
          generalize 256 * y + b = y2 at *
          go_wp2_with fail
          go_roundw
          case rel => exact ⟨k + 1, A9, by omega, by omega, by go_num, by rw [HSN.out], hput', hce, hfe, hg2⟩
          case measure => simp [intOf]; omega
      · obtain rfl : m = k := by omega
        have ht : Wire.numRead xs (m : Int) = (Wire.be (xs.take m), 0, xs.drop m) := by
          rw [Wire.numRead, if_neg (by omega), LX.out, if_neg (by omega)]
          rfl
        have HT := Lib.hid ht
        clear ht
        generalize Wire.be (xs.take m) = y at *
        go_wp2_with fail
        have cE : (wr.setCell ⟨H, 0, none⟩ (.int .i64 0)).cell? ⟨H, 0, none⟩ = some (.int .i64 0) := World.cell?_setCell_same _ _ _ ce
        have hrE := hrr.grown (w' := wr.setCell ⟨H, 0, none⟩ (.int .i64 0)) (row := some H) ⟨rfl, rfl, rfl, by simp [World.setCell], fun i hi hne => Below.heap_setCell wr ⟨H, 0, none⟩ _ i (fun e => hne (by rw [e]))⟩ (fun q hq => by injection hq with hq; omega)
        have hg2 := grownSet hgr ⟨H, 0, none⟩ (.int .i64 0) (.inr (Nat.le_of_eq HH.out.symm))
        refine leaves_cons (f := 38) (args := #[.pointer (some ⟨g, 0, none⟩), .slice A n c, .pointer (some ⟨H, 0, none⟩)]) (by simp) (by simp [go_sem]) ?_
        refine (keep_ok .returning _ ⟨g, 0, none⟩ _ _ cE).mono ?_
        rintro e u' w'' ⟨rfl, rfl, rfl⟩
        generalize wr.setCell ⟨H, 0, none⟩ (.int .i64 0) = wF at *
        simp [Leaves, settle, results, Try.results26, go_sem, cE]
        unfold RetRead
        rw [HT.out]
        exact ⟨rfl, ⟨_, _, _, hrE⟩, hg2⟩
end Go.Proofs.Ytnadohbgnanpiaa
