/-
  The walk of WireReads.
-/
import Derived.Test.YtljbghgpojdikaaWire5
namespace Go.Proofs.Ytljbghgpojdikaa
open Go.RowKit

theorem not8 (x : Nat) (h : x < 256) : bits .xor .u8 (x : Int) 255 = ((x ^^^ 255 : Nat) : Int) := u8_xor_nat x 255 h (by omega)
/-- A slice of pairs of ints that came in. -/
def RdP (w : World) (B : Nat) (A : Option Addr) (n : Nat) (f h : Nat → Int) : Prop :=
  0 < n → ∃ b o, A = some ⟨b, o, none⟩ ∧ b < B ∧ ∀ i, i < n → w.cell? ⟨b, o + i * 2, none⟩ = some (.int .i64 (f i)) ∧ w.cell? ⟨b, o + i * 2 + 1, none⟩ = some (.int .i64 (h i))
theorem RdP.below {w w' : World} {B : Nat} {A : Option Addr} {n : Nat} {f h : Nat → Int} (hr : RdP w B A n f h) (hb : Below B w w') : RdP w' B A n f h := by
  intro hn
  obtain ⟨b, o, e, hlt, hc⟩ := hr hn
  refine ⟨b, o, e, hlt, fun i hi => ?_⟩
  have hblk : w'.heap[b]? = w.heap[b]? := hb.block b hlt
  exact ⟨(World.cell?_of_block (w := w) (a := ⟨b, o + i * 2, none⟩) hblk).trans (hc i hi).1, (World.cell?_of_block (w := w) (a := ⟨b, o + i * 2 + 1, none⟩) hblk).trans (hc i hi).2⟩

theorem numRead_length (xs : List UInt8) (z : Int) : (Wire.numRead xs z).2.2.length ≤ xs.length := by
  unfold Wire.numRead
  split
  · simp
  · split
    · simp
    · simp
theorem takeRead_length (xs : List UInt8) (z : Int) : (Wire.takeRead xs z).2.2.length ≤ xs.length := by
  unfold Wire.takeRead
  split
  · simp
  · split
    · simp
    · simp
theorem Rdr.drewN {w : World} {g top : Nat} {A : Option Addr} {n c : Nat} {xs : List UInt8} (h : Rdr w g top A n c xs) (m : Nat) : Rdr (w.drewN m) g top A n c xs := h
theorem Qdr.drewN {w : World} {g : Nat} {ok : Nat → Prop} {A : Option Addr} {n c : Nat} {xs : List UInt8} (h : Qdr w g ok A n c xs) (m : Nat) : Qdr (w.drewN m) g ok A n c xs := h
theorem end_calls0 (g top : Nat) (A : Option Addr) (n c : Nat) (xs : List UInt8) (h : xs.length = 0) (w : World) (hr : Rdr w g top A n c xs) :
    Calls Try.prog 21 #[.pointer (some ⟨g, 0, none⟩)] w fun e w' => e = .returned (.int .i64 0) ∧ w = w' := by
  have := end_calls g top A n c xs w hr
  rwa [endOf, if_pos h] at this
theorem end_calls3 (g top : Nat) (A : Option Addr) (n c : Nat) (xs : List UInt8) (h : ¬ xs.length = 0) (w : World) (hr : Rdr w g top A n c xs) :
    Calls Try.prog 21 #[.pointer (some ⟨g, 0, none⟩)] w fun e w' => e = .returned (.int .i64 3) ∧ w = w' := by
  have := end_calls g top A n c xs w hr
  rwa [endOf, if_neg h] at this
theorem takeRead_len1 (xs : List UInt8) (z : Int) : (Wire.takeRead xs z).1.length ≤ xs.length := by
  unfold Wire.takeRead
  split
  · simp
  · split
    · simp
    · simp; omega
/-- New, and where what is left lies. -/
theorem new_calls2 (A : Option Addr) (n c : Nat) (xs : List UInt8) (w : World) (ok : Nat → Prop) (hr : RdB w ok A n xs) (hn : n ≤ 140737488355328) :
    Calls Try.prog 14 #[.slice A n c] w fun e w' => ∃ g A' n' c', e = .returned (.pointer (some ⟨g, 0, none⟩)) ∧ w.heap.size ≤ g ∧ Rdr w' g g A' n' c' xs ∧ RdB w' (fun k => w.heap.size ≤ k ∧ k < g) A' n' xs ∧ Below w.heap.size w w' := by
  go_enter Try.func14, Try.ntmps14
  go_wp2_with fail
  refine (bclone_calls A n c xs w ok hr hn).mono ?_
  rintro e w1 ⟨v1, rfl, ho1, hb1⟩
  obtain ⟨A1, c1, rfl, hc1, _, hr1⟩ := ho1.rd
  go_wp2
  go_ret
  refine ⟨_, A1, _, c1, rfl, hb1.size, ⟨by simp, World.cell?_alloc_new _ _ _ 0, World.cell?_alloc_new _ _ _ 1, fun j => World.frozen?_alloc_at _ _ _ _ rfl, hc1, ?_⟩, ?_, hb1.alloc hb1.size _⟩
  · refine RdB.mono (hr1.alloc _) fun k hk _ => ?_
    have := (ho1.lt k hk.2).2
    omega
  · exact RdB.mono (hr1.alloc _) fun k hk _ => ⟨hk.1, (ho1.lt k hk.2).2⟩
theorem Rdr.grown2 {w w' : World} {g top : Nat} {A : Option Addr} {n c : Nat} {xs : List UInt8} {row : Option Nat} {ok : Nat → Prop} (h : Rdr w g top A n c xs) (h2 : RdB w ok A n xs) (hb : w.grownBy w' row) (hr : ∀ k, row = some k → ¬ ok k ∧ k ≠ g) : Rdr w' g top A n c xs := by
  obtain ⟨h1, hA, hB, h4, h5, h6⟩ := h
  have hg : w'.heap[g]? = w.heap[g]? := hb.block g h1 (fun e => (hr g e.symm).2 rfl)
  refine ⟨by have := hb.size; omega, (World.cell?_of_block (w := w) (a := ⟨g, 0, none⟩) hg).trans hA, (World.cell?_of_block (w := w) (a := ⟨g, 1, none⟩) hg).trans hB, fun j => (World.frozen?_of_block (w := w) (a := ⟨g, j, none⟩) hg).trans (h4 j), h5, h6.1, h6.2.1, fun hn => ?_⟩
  obtain ⟨ad, e, ho, hlt, hs, hc⟩ := h6.2.2 hn
  obtain ⟨ad', e', ho', _, _, _⟩ := h2.2.2 hn
  have : ad = ad' := by rw [e] at e'; injection e'
  subst this
  refine ⟨ad, e, ho, by have := hb.size; omega, hs, fun j hj => ?_⟩
  rw [← hc j hj]
  exact World.cell?_of_block (by rw [addBlock]; exact hb.block _ hlt fun e => (hr _ e.symm).1 ho')

set_option maxHeartbeats 3200000 in
set_option maxRecDepth 100000 in
theorem wireReads_walk (w : World) (A : Option Addr) (n c : Nat) (xs : List UInt8) (L : Option Addr) (m cl : Nat) (f h : Nat → Int)
    (hr : RdB w (fun k => k < w.heap.size) A n xs) (_hc : n ≤ c) (hn : n ≤ 1048576) (hl : RdP w w.heap.size L m f h) (hm : m ≤ 1048576) (_hcl : m ≤ cl) :
    Calls Try.prog 6 #[.slice A n c, .slice L m cl] w fun e w' => e = .returned (.bool true) ∧ Below w.heap.size w w' := by
  have LX := Lib.hid hr.len
  go_enter Try.func6, Try.ntmps6
  go_wp2_with fail
  refine (awake_calls w).mono ?_
  rintro e w0 ⟨rfl, hb0⟩
  go_wp2_with fail
  refine (own_calls A n c xs w0 _ (hr.below hb0) (by omega)).mono ?_
  rintro e w1 ⟨v1, rfl, ho1, hb1⟩
  have hb01 := belowThen hb0 hb0.size hb1
  obtain ⟨A1, k1, rfl, hk1, _, r1⟩ := ho1.rd
  rw [LX.out] at r1 ho1 ⊢
  go_wp2_with fail
  refine (new_calls2 A1 n k1 xs w1 _ r1 (by omega)).mono ?_
  rintro e w2 ⟨g, Ar, nr, cr, rfl, hg1, hR2, hS2, hb2⟩
  have hb02 := belowThen hb01 hb01.size hb2
  have ho2 := ho1.below hb2
  have hob : ∀ q, (Value.slice A1 n k1).ownBlock = some q → w0.heap.size ≤ q ∧ q < w1.heap.size := fun q hq => ho1.lt q hq
  have z00 := hb0.size
  have z01 := hb1.size
  clear r1 ho1 hb0
  go_wp2_with fail
  refine (own_calls A n c xs w2 _ (hr.below hb02) (by omega)).mono ?_
  rintro e w3 ⟨v3, rfl, ho3, hb3⟩
  have hb03 := belowThen hb02 hb02.size hb3
  have ho23 := ho2.below hb3
  have hR3 := hR2.below hb3
  have hS3 := hS2.below hb3
  obtain ⟨A3, k3, rfl, hk3, _, r3⟩ := ho3.rd
  rw [LX.out] at r3 hk3 ⊢
  have z12 := hb2.size
  have z23 := hb3.size
  have hgl := hR2.1
  have ho3lt : ∀ q, (Value.slice A3 n k3).ownBlock = some q → q < w3.heap.size := by
    have h := ho3.lt
    rw [LX.out] at h
    exact fun q hq => (h q hq).2
  clear ho2 hR2 ho3
  go_wp2_with fail
  have haA := (Below.refl w3.heap.size w3).alloc (Nat.le_refl _) (.cells #[.slice A3 n k3] 43)
  have hbA := hb03.alloc hb03.size (.cells #[.slice A3 n k3] 43)
  have hRA := hR3.below haA
  have hSA := hS3.below haA
  have hoA := ho23.below haA
  have hQA : Qdr (w3.alloc (.cells #[.slice A3 n k3] 43)) w3.heap.size (fun k => g < k) A3 n k3 xs := by
    refine ⟨by simp, World.cell?_alloc_new _ _ _ 0, fun j => World.frozen?_alloc_at _ _ _ _ rfl, hk3, (r3.alloc _).mono fun k hk hl => ?_⟩
    have h1 := hk.1
    have h2 : k < w3.heap.size := ho3lt k hk.2
    omega
  clear haA hR3 hS3 ho23 r3
  generalize hgq : w3.heap.size = gq at *
  generalize w3.alloc (.cells #[.slice A3 n k3] 43) = wA at *
  clear hgq
  go_loopw [32] (fun i wr => ∃ (k : Nat) (ts : List UInt8), k ≤ n ∧ i = .int .i64 k ∧ ts.length = n ∧ OwnB wr w0.heap.size (.slice A1 n k1) ts ∧ wA.grownBy wr (Value.slice A1 n k1).ownBlock) (fun i _ => n - (intOf i).toNat)
  case atStart => exact ⟨0, _, Nat.zero_le _, rfl, LX.out, hoA, World.grownBy.refl _ _⟩
  case round =>
    obtain ⟨k, ts, hk, rfl, hts, ho, hgr⟩ := hrel
    by_cases hlt : k < n
    · have ho' : OwnB wr w0.heap.size (.slice A1 ts.length k1) ts := by rw [hts]; exact ho
      obtain ⟨g', cap', e1, _, _, _, hcell, hfz⟩ := ho'.form (by omega)
      rw [hts] at e1
      cases e1
      have cg := hcell k (by omega)
      have fg := hfz k
      have x1 := not8 (byt ts k) (byt_lt _ _)
      have hst := ho'.store k ((ts[k]?.getD 0) ^^^ 255)
      rw [UInt8.toNat_xor] at hst
      have hst1 : OwnB (wr.setCell ⟨g', k, none⟩ (.int .u8 ((byt ts k ^^^ 255 : Nat) : Int))) w0.heap.size (.slice (some ⟨g', 0, none⟩) n k1) (ts.set k ((ts[k]?.getD 0) ^^^ 255)) := by
        have h := hst.1
        unfold OwnB at h ⊢
        rw [List.length_set, hts] at h
        rw [List.length_set, hts]
        exact h
      have hst2 : wA.grownBy (wr.setCell ⟨g', k, none⟩ (.int .u8 ((byt ts k ^^^ 255 : Nat) : Int))) (some g') := World.grownBy.trans hgr hst.2
      have hts2 : (ts.set k ((ts[k]?.getD 0) ^^^ 255)).length = n := by rw [List.length_set]; exact hts
      clear hst hcell hfz ho' ho hts
      clear hoA hRA hSA hQA
      go_wp2
      go_roundw
      case rel => exact ⟨k + 1, _, by omega, by go_num, hts2, hst1, hst2⟩
      case measure => simp [intOf]; omega
    · have hRr := hRA.grown2 hSA hgr (fun q hq => by have := hob q hq; omega)
      have hQr := hQA.grown hgr (fun q hq => by have := hob q hq; omega)
      have hbr := hbA.grown hgr hbA.size (fun q hq => by have := hob q hq; omega)
      have hgqA : g < gq := by omega
      have hgqr := hQr.1
      clear hRA hSA hQA hbA hoA ho hgr
      go_wp2_with fail
      obtain ⟨wb, hwb⟩ : ∃ wb : World, wb = wr := ⟨_, rfl⟩
      rw [← hwb] at hRr hQr hbr ⊢
      clear hwb
      go_loopw [44] (fun i wr => ∃ (k : Nat) (ls : List UInt8) (Ar : Option Addr) (nr cr : Nat) (Aq : Option Addr) (nv cq : Nat), k ≤ m ∧ i = .int .i64 k ∧ ls.length ≤ n ∧ Rdr wr g g Ar nr cr ls ∧ Qdr wr gq (fun q => g < q) Aq nv cq ls ∧ Below w.heap.size w wr) (fun i _ => m - (intOf i).toNat)
      case atStart => exact ⟨0, xs, _, _, _, _, _, _, Nat.zero_le _, rfl, Nat.le_of_eq LX.out, hRr, hQr, hbr⟩
      case round =>
        obtain ⟨k, ls, Ar, nr, cr, Aq, nv, cq, hk, rfl, hls, hRr, hQr, hbr⟩ := hrel
        have hlr := hl.below hbr
        by_cases hlt : k < m
        · obtain ⟨bl, ol, eL, hbl, hcells⟩ := hlr (by omega)
          have ⟨cl0, cl1⟩ := hcells k hlt
          subst eL
          clear hcells hlr
          by_cases h200 : k = 200
          · have h2i : ((k : Int) == 200) = true := by rw [beq_iff_eq]; omega
            clear h200
            go_wp2_with fail
            go_ret
            exact ⟨rfl, hbr.alloc hbr.size _⟩
          · have h2i : ((k : Int) == 200) = false := by rw [beq_eq_false_iff_ne]; omega
            by_cases hf0 : f k = 0
            · rw [hf0] at cl0
              have haC := (Below.refl wr.heap.size wr).alloc (Nat.le_refl _) (.cells #[.int .i64 (0), .int .i64 (h k)] 45)
              have hRc := hRr.below haC
              have hQc := hQr.below haC
              have hbC := hbr.alloc hbr.size (.cells #[.int .i64 (0), .int .i64 (h k)] 45)
              have cN : (wr.alloc (.cells #[.int .i64 (0), .int .i64 (h k)] 45)).cell? ⟨wr.heap.size, 1, none⟩ = some (.int .i64 (h k)) := World.cell?_alloc_new _ _ _ 1
              have hsC : (wr.alloc (.cells #[.int .i64 (0), .int .i64 (h k)] 45)).heap.size = wr.heap.size + 1 := World.size_alloc _ _
              have hgW := hRr.1
              have hgqW := hQr.1
              clear haC hRr hQr
              clear hf0
              go_wp2_with fail
              refine (read_calls g g Ar nr cr ls (h k) _ hRc (Nat.le_of_lt hRc.1)).mono ?_
              unfold RetRead
              rintro e w5 ⟨rfl, ⟨Ar5, nr5, cr5, hR5⟩, hg5⟩
              have cN5 : w5.cell? ⟨wr.heap.size, 1, none⟩ = some (.int .i64 (h k)) := (World.cell?_of_block (hg5.block wr.heap.size (by omega) (fun e => by injection e with e; omega))).trans cN
              have hQ5 := hQc.grown hg5 (fun q hq => by injection hq with hq; omega)
              have hb5 := hbC.grown hg5 hbC.size (fun q hq => by injection hq with hq; omega)
              have z5 := hg5.size
              have hnq : nv = ls.length := hQ5.2.2.2.2.len.symm
              clear hRc hQc hbC hg5 cN
              go_wp2_with fail
              refine (qread_calls gq (fun q => g < q) Aq nv cq ls (h k) w5 hQ5 (by omega)).mono ?_
              rintro e w6 ⟨rfl, ⟨Aq6, nq6, cq6, hQ6⟩, hg6⟩
              have hRZ := hR5.grown hg6 (fun q hq => by injection hq with hq; omega)
              have hbZ := hb5.grown hg6 hb5.size (fun q hq => by injection hq with hq; omega)
              have hQZ := hQ6.mono (ok' := fun q => g < q) (fun q hq _ => by rcases hq with hq | hq; exact hq; omega)
              have hls2 := numRead_length ls (h k)
              have heq : ((Wire.numRead ls (h k)).2.1 == (Wire.numRead ls (h k)).2.1) = true := by simp
              generalize (Wire.numRead ls (h k)).2.2 = ls2 at *
              generalize (Wire.numRead ls (h k)).2.1 = er at *
              generalize (Wire.numRead ls (h k)).1 = y at *
              replace hls2 := Nat.le_trans hls2 hls
              have hn6 := hQZ.2.2.2.2.len
              subst hn6
              clear hR5 hQ5 hb5 hg6 hQ6 cN5
              have cq := hQZ.2.1
              by_cases hl0 : ls2.length = 0
              · have hl0i : ((ls2.length : Nat) : Int) = 0 := by omega
                go_wp2_with fail
                go_quiet ((first | (go_at_call 20; exact quietL (left_calls g _ _ _ _ _ _ (hRZ.drewN _))) | (go_at_call 21; exact quietL (end_calls0 g _ _ _ _ _ hl0 _ (hRZ.drewN _)))))
                go_wp2_with fail
                go_roundw
                case rel => exact ⟨k + 1, ls2, _, _, _, _, _, _, by omega, by go_num, hls2, hRZ.drewN nq, hQZ.drewN nq, belowDrewN hbZ nq⟩
                case measure => simp [intOf]; omega
              · have hl0i : (((ls2.length : Nat) : Int) == 0) = false := by rw [beq_eq_false_iff_ne]; omega
                go_wp2_with fail
                go_quiet ((first | (go_at_call 20; exact quietL (left_calls g _ _ _ _ _ _ (hRZ.drewN _))) | (go_at_call 21; exact quietL (end_calls3 g _ _ _ _ _ hl0 _ (hRZ.drewN _)))))
                go_wp2_with fail
                go_roundw
                case rel => exact ⟨k + 1, ls2, _, _, _, _, _, _, by omega, by go_num, hls2, hRZ.drewN nq, hQZ.drewN nq, belowDrewN hbZ nq⟩
                case measure => simp [intOf]; omega
            · by_cases hf1 : f k = 1
              · rw [hf1] at cl0
                have haC := (Below.refl wr.heap.size wr).alloc (Nat.le_refl _) (.cells #[.int .i64 (1), .int .i64 (h k)] 45)
                have hRc := hRr.below haC
                have hQc := hQr.below haC
                have hbC := hbr.alloc hbr.size (.cells #[.int .i64 (1), .int .i64 (h k)] 45)
                have cN : (wr.alloc (.cells #[.int .i64 (1), .int .i64 (h k)] 45)).cell? ⟨wr.heap.size, 1, none⟩ = some (.int .i64 (h k)) := World.cell?_alloc_new _ _ _ 1
                have hsC : (wr.alloc (.cells #[.int .i64 (1), .int .i64 (h k)] 45)).heap.size = wr.heap.size + 1 := World.size_alloc _ _
                have hgW := hRr.1
                have hgqW := hQr.1
                clear haC hRr hQr
                clear hf0 hf1
                go_wp2_with fail
                have hnr : nr = ls.length := hRc.2.2.2.2.2.len.symm
                refine (take_calls g g Ar nr cr ls (h k) _ hRc (Nat.le_of_lt hRc.1) (by omega)).mono ?_
                unfold RetTake
                rintro e w5 ⟨v5, rfl, ho5, ⟨Ar5, nr5, cr5, hR5⟩, hg5⟩
                have cN5 : w5.cell? ⟨wr.heap.size, 1, none⟩ = some (.int .i64 (h k)) := (World.cell?_of_block (hg5.block wr.heap.size (by omega) (fun e => by injection e with e; omega))).trans cN
                have hQ5 := hQc.grown hg5 (fun q hq => by injection hq with hq; omega)
                have hb5 := hbC.grown hg5 hbC.size (fun q hq => by injection hq with hq; omega)
                have z5 := hg5.size
                rw [hsC] at ho5 z5
                have hQ5' := (hQc.mono (ok' := fun q => g < q ∧ q < wr.heap.size + 1) (fun q hq hl => ⟨hq, by rw [hsC] at hl; exact hl⟩)).grown hg5 (fun q hq => by injection hq with hq; omega)
                have hob5 : ∀ q, v5.ownBlock = some q → wr.heap.size + 1 ≤ q ∧ q < w5.heap.size := fun q hq => ho5.lt q hq
                have hnq : nv = ls.length := hQ5.2.2.2.2.len.symm
                clear hRc hQc hbC hg5 cN
                go_wp2_with fail
                refine (qtake_calls gq _ Aq nv cq ls (h k) w5 hQ5' (by omega)).mono ?_
                rintro e w6 ⟨v6, rfl, ho6, ⟨Aq6, nq6, cq6, hQ6⟩, hg6⟩
                have hR6 := hR5.grown hg6 (fun q hq => by injection hq with hq; omega)
                have hb6 := hb5.grown hg6 hb5.size (fun q hq => by injection hq with hq; omega)
                have ho56 := ho5.grown hg6 (fun q hq e => by injection e with e; have := (hob5 q hq).1; omega)
                have hls2 := takeRead_length ls (h k)
                have hz1 := takeRead_len1 ls (h k)
                have heq : ((Wire.takeRead ls (h k)).2.1 == (Wire.takeRead ls (h k)).2.1) = true := by simp
                generalize (Wire.takeRead ls (h k)).2.2 = ls2 at *
                generalize (Wire.takeRead ls (h k)).2.1 = er at *
                generalize (Wire.takeRead ls (h k)).1 = zs at *
                replace hls2 := Nat.le_trans hls2 hls
                have hn6 := hQ6.2.2.2.2.len
                subst hn6
                obtain ⟨A7, k7, rfl, hk7, _, r7⟩ := ho56.rd
                obtain ⟨A8, k8, rfl, _, _, r8⟩ := ho6.rd
                obtain ⟨Lz, hLz⟩ : ∃ Lz, zs.length = Lz := ⟨_, rfl⟩
                have HLz := Lib.hid hLz
                rw [hLz] at r7 r8 hk7 ho56 hob5 hz1 ⊢
                replace hz1 := Nat.le_trans hz1 hls
                clear hR5 hQ5 hQ5' hb5 hg6 cN5 ho5 ho6
                go_wp2_with fail
                refine (equal_calls A7 A8 Lz k7 Lz k8 zs zs w6 _ _ r7 r8).mono ?_
                rintro e w7 ⟨rfl, rfl⟩
                have hdd : decide (zs = zs) = true := by simp
                rw [hdd]
                clear r7 r8 hdd hLz
                obtain ⟨H, hH⟩ : ∃ H, wr.heap.size = H := ⟨_, rfl⟩
                rw [hH] at ho56 hob5 z5 hgW hgqW hQ6
                clear cl0 cl1 hbr hsC hH
                go_wp2_with fail
                go_loopw [104] (fun i wr2 => ∃ (kk : Nat) (ts : List UInt8), kk ≤ Lz ∧ i = .int .i64 kk ∧ ts.length = Lz ∧ OwnB wr2 (H + 1) (.slice A7 Lz k7) ts ∧ w6.grownBy wr2 (Value.slice A7 Lz k7).ownBlock) (fun i _ => Lz - (intOf i).toNat)
                case atStart => exact ⟨0, _, Nat.zero_le _, rfl, HLz.out, ho56, World.grownBy.refl _ _⟩
                case round =>
                  obtain ⟨kk, ts, hkk, rfl, hts, ho, hgr⟩ := hrel
                  by_cases hlz : kk < Lz
                  · have ho' : OwnB wr (H + 1) (.slice A7 ts.length k7) ts := by rw [hts]; exact ho
                    obtain ⟨g', cap', e1, _, _, _, hcell, hfz⟩ := ho'.form (by omega)
                    rw [hts] at e1
                    cases e1
                    have cg := hcell kk (by omega)
                    have fg := hfz kk
                    have x1 := not8 (byt ts kk) (byt_lt _ _)
                    have hst := ho'.store kk ((ts[kk]?.getD 0) ^^^ 255)
                    rw [UInt8.toNat_xor] at hst
                    have hst1 : OwnB (wr.setCell ⟨g', kk, none⟩ (.int .u8 ((byt ts kk ^^^ 255 : Nat) : Int))) (H + 1) (.slice (some ⟨g', 0, none⟩) Lz k7) (ts.set kk ((ts[kk]?.getD 0) ^^^ 255)) := by
                      have h := hst.1
                      unfold OwnB at h ⊢
                      rw [List.length_set, hts] at h
                      rw [List.length_set, hts]
                      exact h
                    have hst2 : w6.grownBy (wr.setCell ⟨g', kk, none⟩ (.int .u8 ((byt ts kk ^^^ 255 : Nat) : Int))) (some g') := World.grownBy.trans hgr hst.2
                    have hts2 : (ts.set kk ((ts[kk]?.getD 0) ^^^ 255)).length = Lz := by rw [List.length_set]; exact hts
                    clear hst hcell hfz ho' ho hts ho56
                    go_wp2
                    go_roundw
                    case rel => exact ⟨kk + 1, _, by omega, by go_num, hts2, hst1, hst2⟩
                    case measure => simp [intOf]; omega
                  · have hRZ := hR6.grown hgr (fun q hq => by have := (hob5 q hq).1; omega)
                    have hQZ := (hQ6.grown hgr (fun q hq => by have := hob5 q hq; omega)).mono (ok' := fun q => g < q) (fun q hq _ => by rcases hq with hq | hq; exact hq.1; omega)
                    have hbZ := hb6.grown hgr hb6.size (fun q hq => by have := (hob5 q hq).1; omega)
                    clear hR6 hQ6 hb6 ho56 ho hgr
                    have cq := hQZ.2.1
                    by_cases hl0 : ls2.length = 0
                    · have hl0i : ((ls2.length : Nat) : Int) = 0 := by omega
                      go_wp2_with fail
                      go_quiet ((first | (go_at_call 20; exact quietL (left_calls g _ _ _ _ _ _ (hRZ.drewN _))) | (go_at_call 21; exact quietL (end_calls0 g _ _ _ _ _ hl0 _ (hRZ.drewN _)))))
                      go_wp2_with fail
                      go_roundw
                      case rel => exact ⟨k + 1, ls2, _, _, _, _, _, _, by omega, by go_num, hls2, hRZ.drewN nq, hQZ.drewN nq, belowDrewN hbZ nq⟩
                      case measure => simp [intOf]; omega
                    · have hl0i : (((ls2.length : Nat) : Int) == 0) = false := by rw [beq_eq_false_iff_ne]; omega
                      go_wp2_with fail
                      go_quiet ((first | (go_at_call 20; exact quietL (left_calls g _ _ _ _ _ _ (hRZ.drewN _))) | (go_at_call 21; exact quietL (end_calls3 g _ _ _ _ _ hl0 _ (hRZ.drewN _)))))
                      go_wp2_with fail
                      go_roundw
                      case rel => exact ⟨k + 1, ls2, _, _, _, _, _, _, by omega, by go_num, hls2, hRZ.drewN nq, hQZ.drewN nq, belowDrewN hbZ nq⟩
                      case measure => simp [intOf]; omega
              · have haC := (Below.refl wr.heap.size wr).alloc (Nat.le_refl _) (.cells #[.int .i64 (f k), .int .i64 (h k)] 45)
                have hRc := hRr.below haC
                have hQc := hQr.below haC
                have hbC := hbr.alloc hbr.size (.cells #[.int .i64 (f k), .int .i64 (h k)] 45)
                have cN : (wr.alloc (.cells #[.int .i64 (f k), .int .i64 (h k)] 45)).cell? ⟨wr.heap.size, 1, none⟩ = some (.int .i64 (h k)) := World.cell?_alloc_new _ _ _ 1
                have hsC : (wr.alloc (.cells #[.int .i64 (f k), .int .i64 (h k)] 45)).heap.size = wr.heap.size + 1 := World.size_alloc _ _
                have hgW := hRr.1
                have hgqW := hQr.1
                clear haC hRr hQr
                have hf0i : ((f k) == 0) = false := by rw [beq_eq_false_iff_ne]; exact hf0
                have hf1i : ((f k) == 1) = false := by rw [beq_eq_false_iff_ne]; exact hf1
                have hRZ := hRc
                have hQZ := hQc
                have hbZ := hbC
                have hn6 := hQZ.2.2.2.2.len
                subst hn6
                obtain ⟨ls2, hls2e⟩ : ∃ ls2, ls2 = ls := ⟨_, rfl⟩
                rw [← hls2e] at hRZ hQZ hls
                have hls2 := hls
                clear hf0 hf1 hls2e hRc hQc hbC cN
                have cq := hQZ.2.1
                by_cases hl0 : ls2.length = 0
                · have hl0i : ((ls2.length : Nat) : Int) = 0 := by omega
                  go_wp2_with fail
                  go_quiet ((first | (go_at_call 20; exact quietL (left_calls g _ _ _ _ _ _ (hRZ.drewN _))) | (go_at_call 21; exact quietL (end_calls0 g _ _ _ _ _ hl0 _ (hRZ.drewN _)))))
                  go_wp2_with fail
                  go_roundw
                  case rel => exact ⟨k + 1, ls2, _, _, _, _, _, _, by omega, by go_num, hls2, hRZ.drewN nq, hQZ.drewN nq, belowDrewN hbZ nq⟩
                  case measure => simp [intOf]; omega
                · have hl0i : (((ls2.length : Nat) : Int) == 0) = false := by rw [beq_eq_false_iff_ne]; omega
                  go_wp2_with fail
                  go_quiet ((first | (go_at_call 20; exact quietL (left_calls g _ _ _ _ _ _ (hRZ.drewN _))) | (go_at_call 21; exact quietL (end_calls3 g _ _ _ _ _ hl0 _ (hRZ.drewN _)))))
                  go_wp2_with fail
                  go_roundw
                  case rel => exact ⟨k + 1, ls2, _, _, _, _, _, _, by omega, by go_num, hls2, hRZ.drewN nq, hQZ.drewN nq, belowDrewN hbZ nq⟩
                  case measure => simp [intOf]; omega
        · obtain rfl : m = k := by omega
          go_wp2_with fail
          go_ret
          exact ⟨rfl, hbr⟩
end Go.Proofs.Ytljbghgpojdikaa
