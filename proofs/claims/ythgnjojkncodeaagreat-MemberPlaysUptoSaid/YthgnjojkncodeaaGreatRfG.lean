/-
  The document's member: its block; edge, any; who comes next, who came before.
-/
import Derived.Test.YthgnjojkncodeaaGreatRfF
import Derived.Test.YthgnjojkncodeaaGreatMbM
namespace Go.Proofs.YthgnjojkncodeaaGreat
open Go.RowKit
set_option linter.unusedVariables false
set_option linter.unusedSimpArgs false

/-- The document's member in block R; what it holds lies in the blocks of ok. -/
structure RB (w : World) (R : Nat) (ok : Nat → Prop) (nodes : Int) (flows : List Flw) (win que node ep : Int) (up : List Bool) (hops : List (List Ed)) : Prop where
  b : ∃ AF nF cF AU nU cU AH nH cH, w.heap[R]? = some (.cells #[.int .i64 nodes, .slice AF nF cF, .int .i64 win, .int .i64 que, .int .i64 node, .int .u64 ep, .slice AU nU cU, .slice AH nH cH] 59 (0, 0)) ∧
    nF ≤ cF ∧ nU ≤ cU ∧ nH ≤ cH ∧ Rd elFl w ok AF nF flows ∧ Rd El.bool w ok AU nU up ∧ Rd elEs w ok AH nH hops
  i : inI nodes ∧ inI win ∧ inI que ∧ inI node ∧ nodes ≤ 64
  few : Few hops
section
variable {w w' : World} {R : Nat} {ok S : Nat → Prop} {nodes win que node ep : Int} {flows : List Flw} {up : List Bool} {hops : List (List Ed)}
theorem RB.lt (h : RB w R ok nodes flows win que node ep up hops) : R < w.heap.size := by
  obtain ⟨_, _, _, _, _, _, _, _, _, hb, _⟩ := h.b
  exact (Array.getElem?_eq_some_iff.1 hb).1
theorem RB.chg (h : RB w R ok nodes flows win que node ep up hops) (hc : Chg S w w') (hS : ∀ k, k < w.heap.size → S k → k ≠ R ∧ ¬ ok k) : RB w' R ok nodes flows win que node ep up hops := by
  obtain ⟨AF, nF, cF, AU, nU, cU, AH, nH, cH, hb, h1, h2, h3, r1, r2, r3⟩ := h.b
  exact ⟨⟨AF, nF, cF, AU, nU, cU, AH, nH, cH, (hc.block _ h.lt fun e => (hS _ h.lt e).1 rfl).trans hb, h1, h2, h3, r1.chg hc fun k hk ho hs => (hS k hk hs).2 ho, r2.chg hc fun k hk ho hs => (hS k hk hs).2 ho, r3.chg hc fun k hk ho hs => (hS k hk hs).2 ho⟩, h.i, h.few⟩
theorem RB.below (h : RB w R ok nodes flows win que node ep up hops) (hb : Below w.heap.size w w') : RB w' R ok nodes flows win que node ep up hops := h.chg (S := NoB) (Chg.ofBelow hb) fun _ _ h => h.elim
theorem RB.drewN (h : RB w R ok nodes flows win que node ep up hops) (n : Nat) : RB (w.drewN n) R ok nodes flows win que node ep up hops := h.below (belowDrewN (Below.refl _ _) _)
/-- Its cells. -/
structure RF (w : World) (R : Nat) (nodes win que node ep : Int) (AF : Option Addr) (nF cF : Nat) (AU : Option Addr) (nU cU : Nat) (AH : Option Addr) (nH cH : Nat) : Prop where
  c0 : w.cell? ⟨R, 0, none⟩ = some (.int .i64 nodes)
  c1 : w.cell? ⟨R, 1, none⟩ = some (.slice AF nF cF)
  c2 : w.cell? ⟨R, 2, none⟩ = some (.int .i64 win)
  c3 : w.cell? ⟨R, 3, none⟩ = some (.int .i64 que)
  c4 : w.cell? ⟨R, 4, none⟩ = some (.int .i64 node)
  c5 : w.cell? ⟨R, 5, none⟩ = some (.int .u64 ep)
  c6 : w.cell? ⟨R, 6, none⟩ = some (.slice AU nU cU)
  c7 : w.cell? ⟨R, 7, none⟩ = some (.slice AH nH cH)
  fr : ∀ i, w.frozen? ⟨R, i, none⟩ = false
theorem RB.facts (h : RB w R ok nodes flows win que node ep up hops) : ∃ AF nF cF AU nU cU AH nH cH, RF w R nodes win que node ep AF nF cF AU nU cU AH nH cH ∧ nF ≤ cF ∧ nU ≤ cU ∧ nH ≤ cH ∧ Rd elFl w ok AF nF flows ∧ Rd El.bool w ok AU nU up ∧ Rd elEs w ok AH nH hops := by
  obtain ⟨AF, nF, cF, AU, nU, cU, AH, nH, cH, hb, h1, h2, h3, r1, r2, r3⟩ := h.b
  refine ⟨AF, nF, cF, AU, nU, cU, AH, nH, cH, ⟨?_, ?_, ?_, ?_, ?_, ?_, ?_, ?_, fun i => ?_⟩, h1, h2, h3, r1, r2, r3⟩ <;> simp [World.cell?, World.frozen?, hb]
end
theorem edgesOf_at {hops : List (List Ed)} {k : Nat} {es : List Ed} (h : hops[k]? = some es) : edgesOf hops (k : Int) = es := by unfold edgesOf; rw [if_pos (by omega)]; simp [h]
theorem edgesOf_out {hops : List (List Ed)} {fl : Int} (h : ¬ (0 ≤ fl ∧ fl < hops.length)) : edgesOf hops fl = [] := by
  unfold edgesOf
  by_cases h0 : 0 ≤ fl
  · rw [if_pos h0, List.getElem?_eq_none (by omega)]; rfl
  · rw [if_neg h0]
theorem nomem_takeE {es : List Ed} {k : Nat} {x y : Ed} (hx : es[k]? = some y) (h : x ∉ es.take k) (hne : y ≠ x) : x ∉ es.take (k + 1) := by
  rw [take_memE hx]
  rintro (h' | h')
  · exact h h'
  · exact hne h'.symm
set_option maxRecDepth 20000 in
set_option maxHeartbeats 4000000 in
theorem redge_calls (w : World) (R : Nat) (ok : Nat → Prop) (nodes : Int) (flows : List Flw) (win que node ep : Int) (up : List Bool) (hops : List (List Ed)) (h : RB w R ok nodes flows win que node ep up hops) (fl x y : Int) (r : Bool) (hr : decide ((x, y) ∈ edgesOf hops fl) = r) :
    Calls Tryz.prog 44 #[.pointer (some ⟨R, 0, none⟩), .int .i64 fl, .int .i64 x, .int .i64 y] w fun e w' => e = .returned (.bool r) ∧ w = w' := by
  have hR := h.lt
  obtain ⟨AF, nF, cF, AU, nU, cU, AH, nH, cH, hF, _, _, _, _, _, r3⟩ := h.facts
  have c7 := hF.c7
  have hl := r3.len
  have hmx := r3.max
  have HR := Lib.hid hr
  clear hr h hF
  by_cases hin : 0 ≤ fl ∧ fl < nH
  · obtain ⟨k, rfl⟩ : ∃ k : Nat, fl = k := ⟨fl.toNat, by omega⟩
    have hk : (k : Int) < (nH : Int) := by omega
    have hk0 : decide ((k : Int) < 0) = false := decide_eq_false (by omega)
    have hk1 : decide ((k : Int) ≥ (nH : Int)) = false := decide_eq_false (by omega)
    have hk2 : decide (nH ≤ k) = false := decide_eq_false (by omega)
    have hk3 : (0 : Int) ≤ (k : Int) := by omega
    obtain ⟨es, hes⟩ : ∃ es, hops[k]? = some es := ⟨_, List.getElem?_eq_getElem (by omega)⟩
    obtain ⟨b, o, vs, rfl, _, _, hV, hcl⟩ := r3.at_ k es hes
    obtain ⟨C, p, q, rfl, hpq, hrd⟩ := hV
    have k0 : w.cell? ⟨b, o + k, none⟩ = some (.slice C p q) := by have := hcl 0 _ rfl; simpa [El.slice] using this
    have HEO := Lib.hid (edgesOf_at hes)
    have HRD := Lib.hid hrd
    have HPL := Lib.hid hrd.len
    have hpm := hrd.max
    clear r3 hl hin hes hcl hrd
    go_enter Tryz.func44, Tryz.ntmps44
    go_wp2_with fail
    go_loopg [9] p (fun gg s9 wr => ∃ i : Nat, i ≤ p ∧ p - i ≤ gg ∧ s9 = .int .i64 (i : Int) ∧ Hid ((x, y) ∉ es.take i) ∧ wr = w)
    case atStart => exact ⟨0, by omega, by omega, rfl, Lib.hid (by simp), rfl⟩
    case round =>
      obtain ⟨i, hi, hgi, rfl, HN, hw⟩ := hrel
      subst hw
      by_cases hil : i < p
      · have hili : (i : Int) < (p : Int) := by omega
        have hi0 : (0 : Int) ≤ (i : Int) := by omega
        obtain ⟨z, hz⟩ : ∃ z, es[i]? = some z := ⟨_, List.getElem?_eq_getElem (by rw [HPL.out]; exact hil)⟩
        obtain ⟨b2, o2, vs, rfl, _, _, hV, hcl⟩ := HRD.out.at_ i z hz
        obtain ⟨rfl, _, _⟩ := ed_open hV
        have e0 : wr.cell? ⟨b2, o2 + i * 2, none⟩ = some (.int .i64 z.1) := hcl 0 _ rfl
        have e1 : wr.cell? ⟨b2, o2 + i * 2 + 1, none⟩ = some (.int .i64 z.2) := hcl 1 _ rfl
        obtain ⟨z1, z2⟩ := z
        simp only at e0 e1
        have HZ := Lib.hid hz
        clear hcl hV hz
        by_cases h1 : z1 = x
        · by_cases h2 : z2 = y
          · have d1 : (z1 == x) = true := beq_iff_eq.2 h1
            have d2 : (z2 == y) = true := beq_iff_eq.2 h2
            obtain rfl : r = true := by rw [← HR.out, HEO.out]; exact decide_eq_true (by rw [← h1, ← h2]; exact List.mem_of_getElem? HZ.out)
            clear h1 h2
            go_wp2_with fail
            go_ret
            exact ⟨rfl, rfl⟩
          · have d1 : (z1 == x) = true := beq_iff_eq.2 h1
            have d2 : (z2 == y) = false := beq_eq_false_iff_ne.2 h2
            have HN2 := Lib.hid (nomem_takeE HZ.out HN.out (fun e => h2 (by injection e)))
            clear h1 h2
            go_wp2_with fail
            go_roundg (p - (i + 1))
            case measure => omega
            case rel => exact ⟨i + 1, by omega, by omega, by go_num, HN2, rfl⟩
        · have d1 : (z1 == x) = false := beq_eq_false_iff_ne.2 h1
          have HN2 := Lib.hid (nomem_takeE HZ.out HN.out (fun e => h1 (by injection e)))
          clear h1
          go_wp2_with fail
          go_roundg (p - (i + 1))
          case measure => omega
          case rel => exact ⟨i + 1, by omega, by omega, by go_num, HN2, rfl⟩
      · have hili : ¬ ((i : Int) < (p : Int)) := by omega
        obtain rfl : r = false := by rw [← HR.out, HEO.out]; exact decide_eq_false (by have := HN.out; rwa [List.take_of_length_le (by rw [HPL.out]; omega)] at this)
        go_wp2_with fail
        go_ret
        exact ⟨rfl, rfl⟩
  · obtain rfl : r = false := by rw [← HR.out, edgesOf_out (by rw [hl]; exact hin)]; exact decide_eq_false (by simp)
    clear r3 hl
    by_cases h0 : fl < 0
    · have hd : decide (fl < 0) = true := decide_eq_true h0
      clear hin
      go_enter Tryz.func44, Tryz.ntmps44
      go_wp2_with fail
      go_ret
      exact ⟨rfl, rfl⟩
    · have hd : decide (fl < 0) = false := decide_eq_false h0
      have hd1 : decide (fl ≥ (nH : Int)) = true := decide_eq_true (by omega)
      have hd2 : (nH : Int) ≤ fl := by omega
      clear hin
      go_enter Tryz.func44, Tryz.ntmps44
      go_wp2_with fail
      go_ret
      exact ⟨rfl, rfl⟩
def anyE (hops : List (List Ed)) (x y : Int) (n : Nat) : Bool := (List.range n).any fun i => decide ((x, y) ∈ edgesOf hops (i : Int))
theorem anyE_step (hops : List (List Ed)) (x y : Int) (n : Nat) : anyE hops x y (n + 1) = (anyE hops x y n || decide ((x, y) ∈ edgesOf hops (n : Int))) := by simp [anyE, List.range_succ]
theorem anyE_le {hops : List (List Ed)} {x y : Int} {i n : Nat} (hi : i < n) (h : (x, y) ∈ edgesOf hops (i : Int)) : anyE hops x y n = true := List.any_eq_true.2 ⟨i, List.mem_range.2 hi, decide_eq_true h⟩
set_option maxHeartbeats 2000000 in
theorem rany_calls (w : World) (R : Nat) (ok : Nat → Prop) (nodes : Int) (flows : List Flw) (win que node ep : Int) (up : List Bool) (hops : List (List Ed)) (h : RB w R ok nodes flows win que node ep up hops) (x y : Int) (r : Bool) (hr : anyE hops x y hops.length = r) :
    Calls Tryz.prog 45 #[.pointer (some ⟨R, 0, none⟩), .int .i64 x, .int .i64 y] w fun e w' => e = .returned (.bool r) ∧ w = w' := by
  have hR := h.lt
  obtain ⟨AF, nF, cF, AU, nU, cU, AH, nH, cH, hF, _, _, _, _, _, r3⟩ := h.facts
  have c7 := hF.c7
  have HL := Lib.hid r3.len
  have hmx := r3.max
  have HR := Lib.hid hr
  have H := Lib.hid h
  clear hr h hF r3
  go_enter Tryz.func45, Tryz.ntmps45
  go_wp2_with fail
  go_loopg [7] nH (fun gg s7 wr => ∃ i : Nat, i ≤ nH ∧ nH - i ≤ gg ∧ s7 = .int .i64 (i : Int) ∧ Hid (anyE hops x y i = false) ∧ wr = w)
  case atStart => exact ⟨0, by omega, by omega, rfl, Lib.hid (by simp [anyE]), rfl⟩
  case round =>
    obtain ⟨i, hi, hgi, rfl, HN, hw⟩ := hrel
    subst hw
    by_cases hil : i < nH
    · have hili : (i : Int) < (nH : Int) := by omega
      by_cases hm : (x, y) ∈ edgesOf hops (i : Int)
      · have hed := redge_calls wr R ok nodes flows win que node ep up hops H.out (i : Int) x y true (decide_eq_true hm)
        obtain rfl : r = true := by rw [← HR.out]; exact anyE_le (by rw [HL.out]; exact hil) hm
        clear hm
        go_wp2_with fail
        refine hed.mono ?_
        rintro e w2 ⟨rfl, rfl⟩
        clear hed
        go_wp2_with fail
        go_ret
        exact ⟨rfl, rfl⟩
      · have hed := redge_calls wr R ok nodes flows win que node ep up hops H.out (i : Int) x y false (decide_eq_false hm)
        have HN2 : Hid (anyE hops x y (i + 1) = false) := Lib.hid (by rw [anyE_step, HN.out, decide_eq_false hm]; rfl)
        clear hm
        go_wp2_with fail
        refine hed.mono ?_
        rintro e w2 ⟨rfl, rfl⟩
        clear hed
        go_wp2_with fail
        go_roundg (nH - (i + 1))
        case measure => omega
        case rel => exact ⟨i + 1, by omega, by omega, by go_num, HN2, rfl⟩
    · have hili : ¬ ((i : Int) < (nH : Int)) := by omega
      obtain rfl : i = nH := by omega
      obtain rfl : r = false := by rw [← HR.out, HL.out]; exact HN.out
      go_wp2_with fail
      go_ret
      exact ⟨rfl, rfl⟩
/-- The numbers below i at which q holds, rising. -/
structure PkI (q : Int → Bool) (i : Nat) (out : List Int) : Prop where
  pw : out.Pairwise (· < ·)
  mem : ∀ y, y ∈ out ↔ (0 ≤ y ∧ y < (i : Int) ∧ q y = true)
  len : out.length ≤ i
theorem PkI.put {q : Int → Bool} {i : Nat} {out : List Int} (h : PkI q i out) (hq : q (i : Int) = true) : PkI q (i + 1) (out ++ [(i : Int)]) := by
  refine ⟨List.pairwise_append.2 ⟨h.pw, by simp, fun y hy u hu => ?_⟩, fun y => ?_, by rw [List.length_append]; have := h.len; simp; omega⟩
  · rw [List.mem_singleton] at hu
    subst hu
    exact ((h.mem y).1 hy).2.1
  · rw [List.mem_append, List.mem_singleton, h.mem]
    constructor
    · rintro (⟨h1, h2, h3⟩ | rfl)
      · exact ⟨h1, by omega, h3⟩
      · exact ⟨by omega, by omega, hq⟩
    · rintro ⟨h1, h2, h3⟩
      by_cases hy : y = (i : Int)
      · exact .inr hy
      · exact .inl ⟨h1, by omega, h3⟩
theorem PkI.skip {q : Int → Bool} {i : Nat} {out : List Int} (h : PkI q i out) (hq : q (i : Int) = false) : PkI q (i + 1) out :=
  ⟨h.pw, fun y => by
    rw [h.mem]
    constructor
    · rintro ⟨h1, h2, h3⟩; exact ⟨h1, by omega, h3⟩
    · rintro ⟨h1, h2, h3⟩
      refine ⟨h1, ?_, h3⟩
      by_cases hy : y = (i : Int)
      · subst hy; rw [hq] at h3; cases h3
      · omega, by have := h.len; omega⟩
set_option maxHeartbeats 2000000 in
theorem rmnext_calls (w : World) (R : Nat) (ok : Nat → Prop) (nodes : Int) (flows : List Flw) (win que node ep : Int) (up : List Bool) (hops : List (List Ed)) (h : RB w R ok nodes flows win que node ep up hops) (fl : Int) (zs : List Int) (hz : zs.Pairwise (· < ·)) (hm : ∀ y, y ∈ zs ↔ (0 ≤ y ∧ y < nodes ∧ decide ((node, y) ∈ edgesOf hops fl) = true)) :
    Calls Tryz.prog 15 #[.pointer (some ⟨R, 0, none⟩), .int .i64 fl] w (RetI w zs) := by
  have hR := h.lt
  obtain ⟨_, _, _, hin4, hn64⟩ := h.i
  obtain ⟨AF, nF, cF, AU, nU, cU, AH, nH, cH, hF, _, _, _, _, _, _⟩ := h.facts
  have HC := Lib.hid (And.intro hF.c0 hF.c4)
  have H := Lib.hid h
  have HZ := Lib.hid (And.intro hz hm)
  have c0 := hF.c0
  have c4 := hF.c4
  clear h hF hz hm
  go_enter Tryz.func15, Tryz.ntmps15
  go_wp2_with fail
  go_loopg [5, 6] 64 (fun gg s5 s6 wr => ∃ (i : Nat) (zo : List Int), (i : Int) ≤ max nodes 0 ∧ 64 - i ≤ gg ∧ s6 = .int .i64 (i : Int) ∧ Hid (OwnI wr w.heap.size s5 zo) ∧ Hid (PkI (fun y => decide ((node, y) ∈ edgesOf hops fl)) i zo) ∧ Hid (Below w.heap.size w wr))
  case atStart => exact ⟨0, [], by omega, by omega, rfl, Lib.hid (OwnI.nil _ _), Lib.hid ⟨.nil, fun y => ⟨fun h => by (cases h), fun h => by omega⟩, by simp⟩, Lib.hid (Below.refl _ _)⟩
  case round =>
    clear c0 c4
    obtain ⟨i, zo, hi, hgi, rfl, HO, HP, HB⟩ := hrel
    have c0 := cellBelow HB.out HC.out.1
    have c4 := cellBelow HB.out HC.out.2
    have hol := HP.out.len
    by_cases hil : (i : Int) < nodes
    · have hpl : zo.length ≤ 1099511627776 := by omega
      cases hq : decide ((node, (i : Int)) ∈ edgesOf hops fl) with
      | true =>
        have hed := redge_calls wr R ok nodes flows win que node ep up hops (H.out.below HB.out) fl node (i : Int) true hq
        have HP2 := Lib.hid (HP.out.put hq)
        have HO2 := HO.out
        have HB2 := HB.out
        clear hq
        go_wp2_with fail
        refine hed.mono ?_
        rintro e w2 ⟨rfl, rfl⟩
        clear hed
        go_wp2_with (at_builtin; refine appI w.heap.size w.heap.size rfl (.tmp 24) (.tmp 26) rfl u5 _ _ rfl rfl HO2 HB2 HB2.size (Nat.le_refl _) hpl ?_; intro v3 w3 HO3 HB3; have HL3 := Lib.hid HO3; clear HO3)
        go_roundg (64 - (i + 1))
        case measure => omega
        case rel => exact ⟨i + 1, _, by omega, by omega, by go_num, HL3, HP2, Lib.hid HB3⟩
      | false =>
        have hed := redge_calls wr R ok nodes flows win que node ep up hops (H.out.below HB.out) fl node (i : Int) false hq
        have HP2 := Lib.hid (HP.out.skip hq)
        clear hq
        go_wp2_with fail
        refine hed.mono ?_
        rintro e w2 ⟨rfl, rfl⟩
        clear hed
        go_wp2_with fail
        go_roundg (64 - (i + 1))
        case measure => omega
        case rel => exact ⟨i + 1, _, by omega, by omega, by go_num, HO, HP2, HB⟩
    · have HE : Hid (zo = zs) := Lib.hid (rise_ext _ _ HP.out.pw HZ.out.1 fun y => by
        rw [HP.out.mem, HZ.out.2]
        constructor
        · rintro ⟨h1, h2, h3⟩; exact ⟨h1, by omega, h3⟩
        · rintro ⟨h1, h2, h3⟩; exact ⟨h1, by omega, h3⟩)
      go_wp2_with fail
      go_ret
      exact ⟨_, rfl, by rw [← HE.out]; exact HO.out, HB.out⟩
set_option maxHeartbeats 2000000 in
theorem rmprev_calls (w : World) (R : Nat) (ok : Nat → Prop) (nodes : Int) (flows : List Flw) (win que node ep : Int) (up : List Bool) (hops : List (List Ed)) (h : RB w R ok nodes flows win que node ep up hops) (fl : Int) (zs : List Int) (hz : zs.Pairwise (· < ·)) (hm : ∀ y, y ∈ zs ↔ (0 ≤ y ∧ y < nodes ∧ decide ((y, node) ∈ edgesOf hops fl) = true)) :
    Calls Tryz.prog 17 #[.pointer (some ⟨R, 0, none⟩), .int .i64 fl] w (RetI w zs) := by
  have hR := h.lt
  obtain ⟨_, _, _, hin4, hn64⟩ := h.i
  obtain ⟨AF, nF, cF, AU, nU, cU, AH, nH, cH, hF, _, _, _, _, _, _⟩ := h.facts
  have HC := Lib.hid (And.intro hF.c0 hF.c4)
  have H := Lib.hid h
  have HZ := Lib.hid (And.intro hz hm)
  have c0 := hF.c0
  have c4 := hF.c4
  clear h hF hz hm
  go_enter Tryz.func17, Tryz.ntmps17
  go_wp2_with fail
  go_loopg [5, 6] 64 (fun gg s5 s6 wr => ∃ (i : Nat) (zo : List Int), (i : Int) ≤ max nodes 0 ∧ 64 - i ≤ gg ∧ s6 = .int .i64 (i : Int) ∧ Hid (OwnI wr w.heap.size s5 zo) ∧ Hid (PkI (fun y => decide ((y, node) ∈ edgesOf hops fl)) i zo) ∧ Hid (Below w.heap.size w wr))
  case atStart => exact ⟨0, [], by omega, by omega, rfl, Lib.hid (OwnI.nil _ _), Lib.hid ⟨.nil, fun y => ⟨fun h => by (cases h), fun h => by omega⟩, by simp⟩, Lib.hid (Below.refl _ _)⟩
  case round =>
    clear c0 c4
    obtain ⟨i, zo, hi, hgi, rfl, HO, HP, HB⟩ := hrel
    have c0 := cellBelow HB.out HC.out.1
    have c4 := cellBelow HB.out HC.out.2
    have hol := HP.out.len
    by_cases hil : (i : Int) < nodes
    · have hpl : zo.length ≤ 1099511627776 := by omega
      cases hq : decide (((i : Int), node) ∈ edgesOf hops fl) with
      | true =>
        have hed := redge_calls wr R ok nodes flows win que node ep up hops (H.out.below HB.out) fl (i : Int) node true hq
        have HP2 := Lib.hid (HP.out.put hq)
        have HO2 := HO.out
        have HB2 := HB.out
        clear hq
        go_wp2_with fail
        refine hed.mono ?_
        rintro e w2 ⟨rfl, rfl⟩
        clear hed
        go_wp2_with (at_builtin; refine appI w.heap.size w.heap.size rfl (.tmp 24) (.tmp 26) rfl u5 _ _ rfl rfl HO2 HB2 HB2.size (Nat.le_refl _) hpl ?_; intro v3 w3 HO3 HB3; have HL3 := Lib.hid HO3; clear HO3)
        go_roundg (64 - (i + 1))
        case measure => omega
        case rel => exact ⟨i + 1, _, by omega, by omega, by go_num, HL3, HP2, Lib.hid HB3⟩
      | false =>
        have hed := redge_calls wr R ok nodes flows win que node ep up hops (H.out.below HB.out) fl (i : Int) node false hq
        have HP2 := Lib.hid (HP.out.skip hq)
        clear hq
        go_wp2_with fail
        refine hed.mono ?_
        rintro e w2 ⟨rfl, rfl⟩
        clear hed
        go_wp2_with fail
        go_roundg (64 - (i + 1))
        case measure => omega
        case rel => exact ⟨i + 1, _, by omega, by omega, by go_num, HO, HP2, HB⟩
    · have HE : Hid (zo = zs) := Lib.hid (rise_ext _ _ HP.out.pw HZ.out.1 fun y => by
        rw [HP.out.mem, HZ.out.2]
        constructor
        · rintro ⟨h1, h2, h3⟩; exact ⟨h1, by omega, h3⟩
        · rintro ⟨h1, h2, h3⟩; exact ⟨h1, by omega, h3⟩)
      go_wp2_with fail
      go_ret
      exact ⟨_, rfl, by rw [← HE.out]; exact HO.out, HB.out⟩
set_option maxHeartbeats 2000000 in
theorem rmnexts_calls (w : World) (R : Nat) (ok : Nat → Prop) (nodes : Int) (flows : List Flw) (win que node ep : Int) (up : List Bool) (hops : List (List Ed)) (h : RB w R ok nodes flows win que node ep up hops) (zs : List Int) (hz : zs.Pairwise (· < ·)) (hm : ∀ y, y ∈ zs ↔ (0 ≤ y ∧ y < nodes ∧ anyE hops node y hops.length = true)) :
    Calls Tryz.prog 23 #[.pointer (some ⟨R, 0, none⟩)] w (RetI w zs) := by
  have hR := h.lt
  obtain ⟨_, _, _, hin4, hn64⟩ := h.i
  obtain ⟨AF, nF, cF, AU, nU, cU, AH, nH, cH, hF, _, _, _, _, _, _⟩ := h.facts
  have HC := Lib.hid (And.intro hF.c0 hF.c4)
  have H := Lib.hid h
  have HZ := Lib.hid (And.intro hz hm)
  have c0 := hF.c0
  have c4 := hF.c4
  clear h hF hz hm
  go_enter Tryz.func23, Tryz.ntmps23
  go_wp2_with fail
  go_loopg [3, 4] 64 (fun gg s3 s4 wr => ∃ (i : Nat) (zo : List Int), (i : Int) ≤ max nodes 0 ∧ 64 - i ≤ gg ∧ s4 = .int .i64 (i : Int) ∧ Hid (OwnI wr w.heap.size s3 zo) ∧ Hid (PkI (fun y => anyE hops node y hops.length) i zo) ∧ Hid (Below w.heap.size w wr))
  case atStart => exact ⟨0, [], by omega, by omega, rfl, Lib.hid (OwnI.nil _ _), Lib.hid ⟨.nil, fun y => ⟨fun h => by (cases h), fun h => by omega⟩, by simp⟩, Lib.hid (Below.refl _ _)⟩
  case round =>
    clear c0 c4
    obtain ⟨i, zo, hi, hgi, rfl, HO, HP, HB⟩ := hrel
    have c0 := cellBelow HB.out HC.out.1
    have c4 := cellBelow HB.out HC.out.2
    have hol := HP.out.len
    by_cases hil : (i : Int) < nodes
    · have hpl : zo.length ≤ 1099511627776 := by omega
      cases hq : anyE hops node (i : Int) hops.length with
      | true =>
        have hed := rany_calls wr R ok nodes flows win que node ep up hops (H.out.below HB.out) node (i : Int) true hq
        have HP2 := Lib.hid (HP.out.put hq)
        have HO2 := HO.out
        have HB2 := HB.out
        clear hq
        go_wp2_with fail
        refine hed.mono ?_
        rintro e w2 ⟨rfl, rfl⟩
        clear hed
        go_wp2_with (at_builtin; refine appI w.heap.size w.heap.size rfl (.tmp 21) (.tmp 23) rfl u3 _ _ rfl rfl HO2 HB2 HB2.size (Nat.le_refl _) hpl ?_; intro v3 w3 HO3 HB3; have HL3 := Lib.hid HO3; clear HO3)
        go_roundg (64 - (i + 1))
        case measure => omega
        case rel => exact ⟨i + 1, _, by omega, by omega, by go_num, HL3, HP2, Lib.hid HB3⟩
      | false =>
        have hed := rany_calls wr R ok nodes flows win que node ep up hops (H.out.below HB.out) node (i : Int) false hq
        have HP2 := Lib.hid (HP.out.skip hq)
        clear hq
        go_wp2_with fail
        refine hed.mono ?_
        rintro e w2 ⟨rfl, rfl⟩
        clear hed
        go_wp2_with fail
        go_roundg (64 - (i + 1))
        case measure => omega
        case rel => exact ⟨i + 1, _, by omega, by omega, by go_num, HO, HP2, HB⟩
    · have HE : Hid (zo = zs) := Lib.hid (rise_ext _ _ HP.out.pw HZ.out.1 fun y => by
        rw [HP.out.mem, HZ.out.2]
        constructor
        · rintro ⟨h1, h2, h3⟩; exact ⟨h1, by omega, h3⟩
        · rintro ⟨h1, h2, h3⟩; exact ⟨h1, by omega, h3⟩)
      go_wp2_with fail
      go_ret
      exact ⟨_, rfl, by rw [← HE.out]; exact HO.out, HB.out⟩
set_option maxHeartbeats 2000000 in
theorem rmprevs_calls (w : World) (R : Nat) (ok : Nat → Prop) (nodes : Int) (flows : List Flw) (win que node ep : Int) (up : List Bool) (hops : List (List Ed)) (h : RB w R ok nodes flows win que node ep up hops) (zs : List Int) (hz : zs.Pairwise (· < ·)) (hm : ∀ y, y ∈ zs ↔ (0 ≤ y ∧ y < nodes ∧ anyE hops y node hops.length = true)) :
    Calls Tryz.prog 25 #[.pointer (some ⟨R, 0, none⟩)] w (RetI w zs) := by
  have hR := h.lt
  obtain ⟨_, _, _, hin4, hn64⟩ := h.i
  obtain ⟨AF, nF, cF, AU, nU, cU, AH, nH, cH, hF, _, _, _, _, _, _⟩ := h.facts
  have HC := Lib.hid (And.intro hF.c0 hF.c4)
  have H := Lib.hid h
  have HZ := Lib.hid (And.intro hz hm)
  have c0 := hF.c0
  have c4 := hF.c4
  clear h hF hz hm
  go_enter Tryz.func25, Tryz.ntmps25
  go_wp2_with fail
  go_loopg [3, 4] 64 (fun gg s3 s4 wr => ∃ (i : Nat) (zo : List Int), (i : Int) ≤ max nodes 0 ∧ 64 - i ≤ gg ∧ s4 = .int .i64 (i : Int) ∧ Hid (OwnI wr w.heap.size s3 zo) ∧ Hid (PkI (fun y => anyE hops y node hops.length) i zo) ∧ Hid (Below w.heap.size w wr))
  case atStart => exact ⟨0, [], by omega, by omega, rfl, Lib.hid (OwnI.nil _ _), Lib.hid ⟨.nil, fun y => ⟨fun h => by (cases h), fun h => by omega⟩, by simp⟩, Lib.hid (Below.refl _ _)⟩
  case round =>
    clear c0 c4
    obtain ⟨i, zo, hi, hgi, rfl, HO, HP, HB⟩ := hrel
    have c0 := cellBelow HB.out HC.out.1
    have c4 := cellBelow HB.out HC.out.2
    have hol := HP.out.len
    by_cases hil : (i : Int) < nodes
    · have hpl : zo.length ≤ 1099511627776 := by omega
      cases hq : anyE hops (i : Int) node hops.length with
      | true =>
        have hed := rany_calls wr R ok nodes flows win que node ep up hops (H.out.below HB.out) (i : Int) node true hq
        have HP2 := Lib.hid (HP.out.put hq)
        have HO2 := HO.out
        have HB2 := HB.out
        clear hq
        go_wp2_with fail
        refine hed.mono ?_
        rintro e w2 ⟨rfl, rfl⟩
        clear hed
        go_wp2_with (at_builtin; refine appI w.heap.size w.heap.size rfl (.tmp 21) (.tmp 23) rfl u3 _ _ rfl rfl HO2 HB2 HB2.size (Nat.le_refl _) hpl ?_; intro v3 w3 HO3 HB3; have HL3 := Lib.hid HO3; clear HO3)
        go_roundg (64 - (i + 1))
        case measure => omega
        case rel => exact ⟨i + 1, _, by omega, by omega, by go_num, HL3, HP2, Lib.hid HB3⟩
      | false =>
        have hed := rany_calls wr R ok nodes flows win que node ep up hops (H.out.below HB.out) (i : Int) node false hq
        have HP2 := Lib.hid (HP.out.skip hq)
        clear hq
        go_wp2_with fail
        refine hed.mono ?_
        rintro e w2 ⟨rfl, rfl⟩
        clear hed
        go_wp2_with fail
        go_roundg (64 - (i + 1))
        case measure => omega
        case rel => exact ⟨i + 1, _, by omega, by omega, by go_num, HO, HP2, HB⟩
    · have HE : Hid (zo = zs) := Lib.hid (rise_ext _ _ HP.out.pw HZ.out.1 fun y => by
        rw [HP.out.mem, HZ.out.2]
        constructor
        · rintro ⟨h1, h2, h3⟩; exact ⟨h1, by omega, h3⟩
        · rintro ⟨h1, h2, h3⟩; exact ⟨h1, by omega, h3⟩)
      go_wp2_with fail
      go_ret
      exact ⟨_, rfl, by rw [← HE.out]; exact HO.out, HB.out⟩
end Go.Proofs.YthgnjojkncodeaaGreat
