/-
  The walk of pad.Chunks.
-/
import Derived.Laws.EntriesVeiled
import Derived.Test.YtnadohbgnanpiaaPad8
namespace Go.Proofs.Ytnadohbgnanpiaa
open Go.RowKit

/-- The slice '.slice A n c' of ints reads as zs. -/
def RdI (w : World) (ok : Nat → Prop) (A : Option Addr) (n : Nat) (zs : List Int) : Prop :=
  zs.length = n ∧ n ≤ 9223372036854775807 ∧ (∀ z ∈ zs, -9223372036854775808 ≤ z ∧ z ≤ 9223372036854775807) ∧ (0 < n → ∃ ad, A = some ad ∧ ok ad.block ∧ ad.block < w.heap.size ∧ ad.spot = none ∧ ∀ j, j < n → w.cell? (ad.add j) = some (.int .i64 (zs[j]?.getD 0)))
theorem RdI.keep {w w' : World} {ok : Nat → Prop} {A : Option Addr} {n : Nat} {zs : List Int} (h : RdI w ok A n zs) (hs : w.heap.size ≤ w'.heap.size) (hk : ∀ k, ok k → k < w.heap.size → w'.heap[k]? = w.heap[k]?) : RdI w' ok A n zs := by
  refine ⟨h.1, h.2.1, h.2.2.1, fun hn => ?_⟩
  obtain ⟨ad, e, ho, hl, hs', hc⟩ := h.2.2.2 hn
  refine ⟨ad, e, ho, by omega, hs', fun j hj => ?_⟩
  rw [← hc j hj]
  exact World.cell?_of_block (by rw [addBlock]; exact hk _ ho hl)
theorem RdI.below {w w' : World} {ok : Nat → Prop} {A : Option Addr} {n : Nat} {zs : List Int} (h : RdI w ok A n zs) (hb : Below w.heap.size w w') : RdI w' ok A n zs := h.keep hb.size fun k _ hl => hb.block k hl
theorem RdI.at_ {w : World} {ok : Nat → Prop} {A : Option Addr} {n : Nat} {zs : List Int} (h : RdI w ok A n zs) (j : Nat) (hj : j < n) : ∃ b o, A = some ⟨b, o, none⟩ ∧ w.cell? ⟨b, o + j, none⟩ = some (.int .i64 (zs[j]?.getD 0)) := by
  obtain ⟨⟨b, o, s⟩, e, _, _, hs, hc⟩ := h.2.2.2 (by omega)
  simp only at hs
  subst hs
  exact ⟨b, o, e, by rw [← addPlain]; exact hc j hj⟩
/-- The cuts, one behind the other. -/
def goCuts (xs : List UInt8) (room : Nat) : List Int → Int → Pad.St → Option Pad.St
  | [], _, st => some st
  | c :: cs, last, st => if c < last ∨ (xs.length : Int) < c then none else goCuts xs room cs c (Pad.cutAt xs room st c.toNat)
/-- What Chunks tells: the chunks, what is open, the error. -/
def chunkRes (xs : List UInt8) (cuts : List Int) (room : Nat) : List (List UInt8) × List UInt8 × Nat :=
  match goCuts xs room cuts 0 ([], 0) with
  | none => ([], [], 1)
  | some st => ((Pad.whole xs room xs.length (xs.length + 1) st).1, xs.drop (Pad.whole xs room xs.length (xs.length + 1) st).2, 0)
theorem whole_le (xs : List UInt8) (room z : Nat) : ∀ (f : Nat) (st : Pad.St), st.2 ≤ z → (Pad.whole xs room z f st).2 ≤ z := by
  intro f
  induction f with
  | zero => intro st h; exact h
  | succ f ih =>
    intro st h
    by_cases hg : st.2 + room ≤ z
    · rw [whole_step xs room z f st hg]; exact ih _ hg
    · rw [whole_stop xs room z _ st hg]; exact h
theorem whole_len (xs : List UInt8) (room z : Nat) (hr : 1 ≤ room) : ∀ (f : Nat) (st : Pad.St), st.1.length ≤ st.2 → (Pad.whole xs room z f st).1.length ≤ (Pad.whole xs room z f st).2 := by
  intro f
  induction f with
  | zero => intro st h; exact h
  | succ f ih =>
    intro st h
    by_cases hg : st.2 + room ≤ z
    · rw [whole_step xs room z f st hg]
      refine ih _ ?_
      show (st.1 ++ [_]).length ≤ st.2 + room
      rw [List.length_append, List.length_singleton]
      omega
    · rw [whole_stop xs room z _ st hg]; exact h
theorem cutAt_at (xs : List UInt8) (room : Nat) (st : Pad.St) (c : Nat) (h : st.2 ≤ c) : (Pad.cutAt xs room st c).2 = c := by
  have := whole_le xs room c (xs.length + 1) st h
  unfold Pad.cutAt
  by_cases hlt : (Pad.whole xs room c (xs.length + 1) st).2 < c
  · rw [if_pos hlt]; rfl
  · rw [if_neg hlt]; omega
theorem cutAt_len (xs : List UInt8) (room : Nat) (hr : 1 ≤ room) (st : Pad.St) (c : Nat) (h : st.1.length ≤ st.2) : (Pad.cutAt xs room st c).1.length ≤ (Pad.cutAt xs room st c).2 := by
  have := whole_len xs room c hr (xs.length + 1) st h
  unfold Pad.cutAt
  by_cases hlt : (Pad.whole xs room c (xs.length + 1) st).2 < c
  · rw [if_pos hlt]
    show (_ ++ [_]).length ≤ c
    rw [List.length_append, List.length_singleton]
    omega
  · rw [if_neg hlt]; exact this
theorem chunks_bad (A : Option Addr) (n c : Nat) (Ac : Option Addr) (m cc : Nat) (g s : Int) (w : World) (h : ¬ okGS g s) :
    Calls Try.prog 12 #[.slice A n c, .slice Ac m cc, .int .i64 g, .int .i64 s] w fun e w' => e = .returned (.tuple #[.slice none 0 0, .slice none 0 0, .int .i64 1]) ∧ Below w.heap.size w w' := by
  have H := Lib.hid h
  clear h
  go_enter Try.func12, Try.ntmps12
  go_wp2_with fail
  refine (room_bad g s _ H.out).mono ?_
  rintro e w' ⟨rfl, rfl⟩
  go_wp2_with fail
  go_ret3
  exact ⟨rfl, ((Below.refl _ _).alloc (Nat.le_refl _) _).alloc (by simp) _⟩
/-- What Chunks leaves. -/
def RetCh (w : World) (r : List (List UInt8) × List UInt8 × Nat) (e : Ending) (w' : World) : Prop :=
  ∃ v u, e = .returned (.tuple #[v, u, .int .i64 (r.2.2 : Int)]) ∧ OwnBB w' w.heap.size v r.1 ∧ OwnB w' w.heap.size u r.2.1 ∧ Below w.heap.size w w'
theorem RdI.len {w : World} {ok : Nat → Prop} {A : Option Addr} {n : Nat} {zs : List Int} (h : RdI w ok A n zs) : zs.length = n := h.1
theorem chStart (w : World) (A : Option Addr) (n c room : Nat) (xs : List UInt8) (R O T H : Nat) (hR : w.heap.size + 1 = R) (hO : R + 1 = O) (hT : O + 1 = T) (hH : T + 1 = H) (hr : RdB w (fun k => k < w.heap.size) A n xs) (hnc : n ≤ c) (hn : n ≤ 1099511627776) (wB : World)
    (hB : (((((w.alloc (.cells #[.slice A n c] 28)).alloc (.cells #[.int .i64 (room : Int)] 3)).alloc (.cells #[.slice none 0 0] 25)).alloc (.cells #[.int .i64 0] 3)).alloc
      (.cells #[.func (.func 31) #[] #[.pointer (some ⟨O, 0, none⟩), .pointer (some ⟨w.heap.size, 0, none⟩), .pointer (some ⟨T, 0, none⟩)]] 73)) = wB) :
    ChF w.heap.size (H + 1) O w.heap.size T R H n c room A xs wB ∧ ChV (H + 1) O T (.slice none 0 0) ([], 0) wB ∧ Below w.heap.size w wB := by
  obtain ⟨w1, h1⟩ : ∃ w1, w.alloc (.cells #[.slice A n c] 28) = w1 := ⟨_, rfl⟩
  have z1 : w1.heap.size = R := by rw [← h1, ← hR]; simp
  have c1 : w1.cell? ⟨w.heap.size, 0, none⟩ = some (.slice A n c) := by rw [← h1]; exact World.cell?_alloc_new _ _ _ 0
  have b1 : Below w.heap.size w w1 := by rw [← h1]; exact (Below.refl _ _).alloc (Nat.le_refl _) _
  rw [h1] at hB
  obtain ⟨w2, h2⟩ : ∃ w2, w1.alloc (.cells #[.int .i64 (room : Int)] 3) = w2 := ⟨_, rfl⟩
  have z2 : w2.heap.size = O := by rw [← h2, ← hO, ← z1]; simp
  have c2 : w2.cell? ⟨R, 0, none⟩ = some (.int .i64 (room : Int)) := by rw [← h2, ← z1]; exact World.cell?_alloc_new _ _ _ 0
  have b2 : Below w1.heap.size w1 w2 := by rw [← h2]; exact (Below.refl _ _).alloc (Nat.le_refl _) _
  rw [h2] at hB
  obtain ⟨w3, h3⟩ : ∃ w3, w2.alloc (.cells #[.slice none 0 0] 25) = w3 := ⟨_, rfl⟩
  have z3 : w3.heap.size = T := by rw [← h3, ← hT, ← z2]; simp
  have c3 : w3.cell? ⟨O, 0, none⟩ = some (.slice none 0 0) := by rw [← h3, ← z2]; exact World.cell?_alloc_new _ _ _ 0
  have f3 : w3.frozen? ⟨O, 0, none⟩ = false := by rw [← h3, ← z2]; exact World.frozen?_alloc_at _ _ _ _ rfl
  have b3 : Below w2.heap.size w2 w3 := by rw [← h3]; exact (Below.refl _ _).alloc (Nat.le_refl _) _
  rw [h3] at hB
  obtain ⟨w4, h4⟩ : ∃ w4, w3.alloc (.cells #[.int .i64 0] 3) = w4 := ⟨_, rfl⟩
  have z4 : w4.heap.size = H := by rw [← h4, ← hH, ← z3]; simp
  have c4 : w4.cell? ⟨T, 0, none⟩ = some (.int .i64 0) := by rw [← h4, ← z3]; exact World.cell?_alloc_new _ _ _ 0
  have f4 : w4.frozen? ⟨T, 0, none⟩ = false := by rw [← h4, ← z3]; exact World.frozen?_alloc_at _ _ _ _ rfl
  have b4 : Below w3.heap.size w3 w4 := by rw [← h4]; exact (Below.refl _ _).alloc (Nat.le_refl _) _
  rw [h4] at hB
  have z5 : wB.heap.size = H + 1 := by rw [← hB, ← z4]; simp
  have c5 := World.cell?_alloc_new w4 #[.func (.func 31) #[] #[.pointer (some ⟨O, 0, none⟩), .pointer (some ⟨w.heap.size, 0, none⟩), .pointer (some ⟨T, 0, none⟩)]] 73 0
  rw [hB, z4] at c5
  have b5 : Below w4.heap.size w4 wB := by rw [← hB]; exact (Below.refl _ _).alloc (Nat.le_refl _) _
  have b34 := belowThen b3 b3.size b4
  have k5 : Below w3.heap.size w3 wB := belowThen b4 b4.size b5
  have k4 : Below w2.heap.size w2 wB := belowThen b34 b34.size b5
  have k3 : Below w1.heap.size w1 wB := belowThen b2 b2.size k4
  have k2 : Below w.heap.size w wB := belowThen b1 b1.size k3
  refine ⟨⟨by omega, by omega, by omega, by omega, by omega, by omega, by omega, cellBelow k3 c1, cellBelow k4 c2, c5, (k5.frozen (p := ⟨O, 0, none⟩) (by simp; omega)).trans f3, (b5.frozen (p := ⟨T, 0, none⟩) (by simp; omega)).trans f4, hnc, hn, hr.below k2⟩, ⟨cellBelow k5 c3, cellBelow b5 c4, OwnBB.nil _ _⟩, k2⟩
set_option maxHeartbeats 2000000 in
theorem chunks_calls (A : Option Addr) (n c : Nat) (xs : List UInt8) (Ac : Option Addr) (m cc : Nat) (zs : List Int) (a b P : Nat) (w : World) (hr : RdB w (fun k => k < w.heap.size) A n xs) (hnc : n ≤ c) (hn : n ≤ 1099511627776) (hz : RdI w (fun k => k < w.heap.size) Ac m zs)
    (hP : ((a : Int) * (b : Int)) = (P : Int)) (h1 : 1 ≤ a) (h2 : a ≤ 255) (h3 : 1 ≤ b) (h4 : b ≤ 65535) (h5 : 4 < P) (h6 : P ≤ 16711425) :
    Calls Try.prog 12 #[.slice A n c, .slice Ac m cc, .int .i64 (a : Int), .int .i64 (b : Int)] w (RetCh w (chunkRes xs zs (P - 4))) := by
  have HP := Lib.hid hP
  obtain ⟨R, hR⟩ : ∃ R, P - 4 = R := ⟨_, rfl⟩
  rw [hR]
  have HR := Lib.hid hR
  have hR1 : 1 ≤ R := by omega
  have hR2 : R ≤ 16711421 := by omega
  have hroom : ∀ W : World, Calls Try.prog 9 #[.int .i64 (a : Int), .int .i64 (b : Int)] W fun e w' => e = .returned (.tuple #[.int .i64 (R : Int), .int .i64 0]) ∧ W = w' := fun W => by
    have h := room_calls a b P W HP.out h1 h2 h3 h4 h5 h6
    rwa [HR.out] at h
  clear hP hR
  go_enter Try.func12, Try.ntmps12
  go_wp2_with fail
  refine (hroom _).mono ?_
  rintro e w' ⟨rfl, rfl⟩
  clear hroom
  go_wp2_with fail
  obtain ⟨Rb, hRb⟩ : ∃ Rb, w.heap.size + 1 = Rb := ⟨_, rfl⟩
  rw [hRb]
  obtain ⟨O, hO⟩ : ∃ O, Rb + 1 = O := ⟨_, rfl⟩
  rw [hO]
  obtain ⟨T, hT⟩ : ∃ T, O + 1 = T := ⟨_, rfl⟩
  rw [hT]
  obtain ⟨H, hH⟩ : ∃ H, T + 1 = H := ⟨_, rfl⟩
  rw [hH]
  obtain ⟨wB, hwB⟩ : ∃ wB, (((((w.alloc (.cells #[.slice A n c] 28)).alloc (.cells #[.int .i64 (R : Int)] 3)).alloc (.cells #[.slice none 0 0] 25)).alloc (.cells #[.int .i64 0] 3)).alloc
      (.cells #[.func (.func 31) #[] #[.pointer (some ⟨O, 0, none⟩), .pointer (some ⟨w.heap.size, 0, none⟩), .pointer (some ⟨T, 0, none⟩)]] 73)) = wB := ⟨_, rfl⟩
  rw [hwB]
  obtain ⟨hF, hV, hbB⟩ := chStart w A n c R xs Rb O T H hRb hO hT hH hr hnc hn wB hwB
  have hzB := hz.below hbB
  have hxl := Lib.hid hr.len
  have hzl := Lib.hid hz.len
  have hbnd := hz.2.2.1
  have hmx := hz.2.1
  obtain ⟨G, hG⟩ : ∃ G, goCuts xs R zs 0 ([], 0) = G := ⟨_, rfl⟩
  have HG := Lib.hid hG
  clear hRb hO hT hH hwB hr hz hG
  go_loopw [17, 33] (fun l i wr => ∃ (k last : Nat) (st : Pad.St) (v : Value), k ≤ m ∧ i = .int .i64 k ∧ l = .int .i64 (last : Int) ∧ last ≤ n ∧ st.2 ≤ last ∧ st.1.length ≤ st.2 ∧ goCuts xs R (zs.drop k) last st = G ∧ ChV (H + 1) O T v st wr ∧ ChK (H + 1) O T wB wr) (fun _ i _ => m - (intOf i).toNat)
  case atStart => exact ⟨0, 0, _, _, Nat.zero_le _, rfl, rfl, Nat.zero_le _, Nat.le_refl _, Nat.le_refl _, HG.out, hV, ChK.refl _ _ _ _⟩
  case round =>
    obtain ⟨k, last, st, v, hk, rfl, rfl, hln, hsl, hll, hgo, hV', hK⟩ := hrel
    have hF' := hF.keep hK
    have hbr : Below w.heap.size w wr := hbB.trans ⟨hK.os, hK.tape, hK.output, hK.size, fun i hi => hK.block i (by have := hF.bO; omega) (by have := hF.bO; omega) (by have := hF.bT; omega)⟩
    have cS := hF'.cS
    have hzr := hzB.keep (w' := wr) hK.size fun i hi _ => hK.block i (by have := hF.bO; omega) (by have := hF.bO; omega) (by have := hF.bT; omega)
    by_cases hlt : k < m
    · obtain ⟨b1, o1, e1, k1⟩ := hzr.at_ k hlt
      subst e1
      have hkz : k < zs.length := by rw [hzl.out]; exact hlt
      have hdrop : zs.drop k = zs[k] :: zs.drop (k + 1) := by rw [List.drop_eq_getElem_cons hkz]
      have hxb := hbnd _ (List.getElem_mem hkz)
      have hxe : zs[k]?.getD 0 = zs[k] := by simp [hkz]
      rw [hxe] at k1
      obtain ⟨x, hx⟩ : ∃ x, zs[k] = x := ⟨_, rfl⟩
      rw [hx] at k1 hxb hdrop
      rw [hdrop, goCuts, hxl.out] at hgo
      have hlen : ((xs.length : Nat) : Int) = (n : Int) := by rw [hxl.out]
      clear hxe hx hdrop hzr
      by_cases hbad : x < (last : Int) ∨ (n : Int) < x
      · rw [if_pos hbad] at hgo
        have hdone : RetCh w (chunkRes xs zs R) (.returned (.tuple #[.slice none 0 0, .slice none 0 0, .int .i64 1])) wr := by
          rw [chunkRes, HG.out, ← hgo]
          exact ⟨_, _, rfl, OwnBB.nil _ _, OwnB.nil _ _, hbr⟩
        clear hgo hlen
        rcases hbad with h | h
        · go_wp2_with fail
          go_ret3
          exact hdone
        · have h' : ¬ x < (last : Int) := by omega
          go_wp2_with fail
          go_ret3
          exact hdone
      · rw [if_neg hbad] at hgo
        have hb1 : ¬ x < (last : Int) := by omega
        have hb2 : ¬ (n : Int) < x := by omega
        obtain ⟨z, rfl⟩ : ∃ z : Nat, x = (z : Int) := ⟨x.toNat, by omega⟩
        have hzn : z ≤ n := by omega
        have hlz : last ≤ z := by omega
        rw [Int.toNat_natCast] at hgo
        have HGO := Lib.hid hgo
        clear hbad hgo hlen
        have hwh := whole_calls w.heap.size (H + 1) O w.heap.size T Rb H n c R z (xs.length + 1) A xs wr v st hF' hV' hR1 (by omega) (by omega) hzn hll (by rw [hxl.out]; omega)
        obtain ⟨t, ht⟩ : ∃ t, Pad.whole xs R z (xs.length + 1) st = t := ⟨_, rfl⟩
        have htz : t.2 ≤ z := by rw [← ht]; exact whole_le xs R z (xs.length + 1) st (by omega)
        have htl : t.1.length ≤ t.2 := by rw [← ht]; exact whole_len xs R z hR1 (xs.length + 1) st hll
        rw [ht] at hwh
        have hcut : Pad.cutAt xs R st z = if t.2 < z then Pad.hand xs t z else t := by rw [Pad.cutAt, ht]
        have HCUT := Lib.hid hcut
        clear ht hcut
        go_wp2_with fail
        refine hwh.mono ?_
        rintro e w4 ⟨⟨u, rfl⟩, ⟨v4, hV4⟩, hK4⟩
        have hF4 := hF'.keep hK4
        have cT4 := hV4.cT
        have cH4 := hF4.cH
        clear hwh hF' hV' cS
        by_cases htlt : t.2 < z
        · have hti : (t.2 : Int) < (z : Int) := by omega
          have hhand := hand_calls w.heap.size (H + 1) O w.heap.size T Rb H n c R z A xs w4 v4 t hF4 hV4 htz hzn (by omega)
          go_wp2_with fail
          refine hhand.mono ?_
          rintro e w5 ⟨⟨u', rfl⟩, ⟨v5, hV5⟩, hK5⟩
          clear hhand
          go_wp2_with fail
          go_roundw
          case rel =>
            refine ⟨k + 1, z, Pad.hand xs t z, v5, by omega, by go_num, rfl, hzn, Nat.le_refl _, ?_, ?_, hV5, (hK.trans hK4).trans hK5⟩
            · show (t.1 ++ [_]).length ≤ z
              rw [List.length_append, List.length_singleton]
              omega
            · have := HGO.out
              rwa [HCUT.out, if_pos htlt] at this
          case measure => simp [intOf]; omega
        · have hti : ¬ (t.2 : Int) < (z : Int) := by omega
          have htz2 : t.2 = z := by omega
          have HTZ := Lib.hid htz2
          clear htz2
          go_wp2_with fail
          go_roundw
          case rel =>
            refine ⟨k + 1, z, t, v4, by omega, by go_num, rfl, hzn, by omega, htl, ?_, hV4, hK.trans hK4⟩
            have := HGO.out
            rwa [HCUT.out, if_neg htlt] at this
          case measure => simp [intOf]; omega
    · obtain rfl : k = m := by omega
      have hgs : G = some st := by
        rw [List.drop_eq_nil_of_le (by rw [hzl.out]; exact Nat.le_refl _)] at hgo
        exact hgo.symm
      have hwh := whole_calls w.heap.size (H + 1) O w.heap.size T Rb H n c R n (xs.length + 1) A xs wr v st hF' hV' hR1 (by omega) (by omega) (Nat.le_refl _) hll (by rw [hxl.out]; omega)
      obtain ⟨t, ht⟩ : ∃ t, Pad.whole xs R n (xs.length + 1) st = t := ⟨_, rfl⟩
      have htn : t.2 ≤ n := by rw [← ht]; exact whole_le xs R n (xs.length + 1) st (by omega)
      rw [ht] at hwh
      have hres : chunkRes xs zs R = (t.1, xs.drop t.2, 0) := by rw [chunkRes, HG.out, hgs, ← ht, hxl.out]
      have HRES := Lib.hid hres
      clear ht hres hgs hgo hzr
      go_wp2_with fail
      refine hwh.mono ?_
      rintro e w4 ⟨⟨u, rfl⟩, ⟨v4, hV4⟩, hK4⟩
      have hF4 := hF'.keep hK4
      have hb4 : Below w.heap.size w w4 := hbr.trans ⟨hK4.os, hK4.tape, hK4.output, hK4.size, fun i hi => hK4.block i (by have := hF.bO; omega) (by have := hF.bO; omega) (by have := hF.bT; omega)⟩
      have cT4 := hV4.cT
      have cO4 := hV4.cO
      have cS4 := hF4.cS
      clear hwh hF' hV' cS
      go_wp2_with fail
      obtain ⟨A5, hcut, hcr⟩ := cutFrom_run A n c t.2 htn hnc
      have r5 := hcr _ _ _ hF4.rd.drew
      have hcut' := hcut .i64
      have hdl := r5.len
      obtain ⟨d, hd⟩ : ∃ d, xs.drop t.2 = d := ⟨_, rfl⟩
      rw [hd] at r5 hdl
      have HD := Lib.hid hd
      have own4 := hV4.own
      have hH0 : w.heap.size ≤ H + 1 := by have := hF.bH; omega
      have hz4 := hb4.size
      clear hcut hcr hd hdl
      go_region_held3 (fun w' => w'.cell? ⟨O, 0, none⟩ = some v4 ∧ w'.cell? ⟨w.heap.size, 0, none⟩ = some (.slice A n c) ∧ w'.cell? ⟨T, 0, none⟩ = some (.int .i64 (t.2 : Int)))
        (first | exact ⟨cO5, cS5, cT5⟩ | exact ⟨cO4, cS4, cT4⟩)
        ((go_at_call 32; (with_reducible refine (bclone_calls A5 (n - t.2) (c - t.2) d w4.drew _ r5 (by omega)).mono ?_); rintro e w5 ⟨v5, rfl, ho5, hb5⟩; have cO5 := cellBelow hb5 (show w4.drew.cell? ⟨O, 0, none⟩ = _ from cO4); have cS5 := cellBelow hb5 (show w4.drew.cell? ⟨w.heap.size, 0, none⟩ = _ from cS4); have cT5 := cellBelow hb5 (show w4.drew.cell? ⟨T, 0, none⟩ = _ from cT4)))
      all_goals
        have hown5 := OwnBB.below (w := w4.drew) own4 hb5
        have hb5' : Below w.heap.size w w5 := belowThen hb4.drew hz4 hb5
        go_wp2_with fail
        go_ret3
        rw [HRES.out, HD.out]
        exact ⟨_, _, rfl, hown5.lower hH0, ho5.lower hz4, hb5'⟩
end Go.Proofs.Ytnadohbgnanpiaa
