/-
  The document's topologies: edges, add, Next. The document's topologies: Has, Next, Reach. The document's topologies: Reach.
-/
import Derived.Test.YthgnjojkncodeaaGreatTpR
import Derived.Deep.CutBlock
import Derived.Test.YthgnjojkncodeaaGreatTpD
import Derived.Deep.RegionHeld3
namespace Go.Proofs.YthgnjojkncodeaaGreat
open Go.RowKit
set_option linter.unusedVariables false
set_option linter.unusedSimpArgs false

def RetEd (w : World) (ok : Nat → Prop) (es : List Ed) (e : Ending) (w' : World) : Prop := ∃ A n c, e = .returned (.slice A n c) ∧ Rd elEd w' ok A n es ∧ Below w.heap.size w w'
set_option maxHeartbeats 1000000 in
theorem redges_calls (w : World) (v : Value) (ep : Int) (up : List Bool) (hops : List (List Ed)) (ok : Nat → Prop) (h : TopoV w ok v ep up hops) (flow : Int) (hf : inI flow) :
    Calls Tryz.prog 85 #[v, .int .i64 flow] w (RetEd w ok (edgesOf hops flow)) := by
  obtain ⟨A, n, c, B, m, d, rfl, h1, h2, h3, h4⟩ := h
  have hm := h4.max
  have hl := h4.len
  obtain ⟨w1, hw1⟩ : ∃ w1, w.alloc (.cells #[.int .u64 ep, .slice A n c, .slice B m d] 38) = w1 := ⟨_, rfl⟩
  have b1 : Below w.heap.size w w1 := by rw [← hw1]; exact (Below.refl _ _).alloc (Nat.le_refl _) _
  have e1 : w1.heap[w.heap.size]? = some (.cells #[.int .u64 ep, .slice A n c, .slice B m d] 38 (0, 0)) := by rw [← hw1]; exact heap_alloc_new w _
  have c2 : w1.cell? ⟨w.heap.size, 2, none⟩ = some (.slice B m d) := by simp [World.cell?, e1]
  have HW1 := Lib.hid hw1
  have HB1 := Lib.hid b1
  by_cases hin : 0 ≤ flow ∧ flow < m
  · obtain ⟨k, rfl⟩ : ∃ k : Nat, flow = k := ⟨flow.toNat, by omega⟩
    have hk : k < m := by omega
    obtain ⟨x, hx⟩ : ∃ x, hops[k]? = some x := ⟨_, List.getElem?_eq_getElem (by rw [hl]; exact hk)⟩
    have he : edgesOf hops (k : Int) = x := by unfold edgesOf; rw [if_pos (by omega)]; simp [hx]
    obtain ⟨b, o, vs, rfl, hb1, hb2, hV, hcl⟩ := (h4.below b1).at_ k x hx
    obtain ⟨C, p, q, rfl, hpq, hrd⟩ := hV
    have k0 : w1.cell? ⟨b, o + k, none⟩ = some (.slice C p q) := by have := hcl 0 _ rfl; simpa [El.slice] using this
    have hkm : (k : Int) < (m : Int) := by omega
    have hk0 : decide ((k : Int) < 0) = false := decide_eq_false (by omega)
    have hk1 : decide ((k : Int) ≥ (m : Int)) = false := decide_eq_false (by omega)
    have hk2 : decide (m ≤ k) = false := decide_eq_false (by omega)
    rw [he]
    have HR := Lib.hid hrd
    clear hin h3 h4 hcl hx hrd he hl hw1 b1 e1
    go_enter Tryz.func85, Tryz.ntmps85
    go_upto_region 1 with (fail)
    rw [HW1.out]
    go_wp2_with fail
    go_ret
    exact ⟨_, _, _, rfl, HR.out, HB1.out⟩
  · have he : edgesOf hops flow = [] := by
      unfold edgesOf
      by_cases h0 : 0 ≤ flow
      · rw [if_pos h0, List.getElem?_eq_none (by omega)]; rfl
      · rw [if_neg h0]
    rw [he]
    clear h3 h4 he hl hw1 b1 e1
    by_cases h0 : flow < 0
    · have hd : decide (flow < 0) = true := decide_eq_true h0
      clear hin
      go_enter Tryz.func85, Tryz.ntmps85
      go_upto_region 1 with (fail)
      rw [HW1.out]
      go_wp2_with fail
      go_ret
      exact ⟨none, 0, 0, rfl, Rd.nil _ _ _ _, HB1.out⟩
    · have hd : decide (flow < 0) = false := decide_eq_false h0
      have hd1 : (m : Int) ≤ flow := by omega
      have hd2 : decide (flow ≥ (m : Int)) = true := decide_eq_true (by omega)
      clear hin
      go_enter Tryz.func85, Tryz.ntmps85
      go_upto_region 1 with (fail)
      rw [HW1.out]
      go_wp2_with fail
      go_ret
      exact ⟨none, 0, 0, rfl, Rd.nil _ _ _ _, HB1.out⟩
/-- add's loop: so far. -/
structure AddI (zs : List Int) (x : Int) (i : Nat) (put : Bool) (out : List Int) : Prop where
  no : x ∉ zs.take i
  pw : out.Pairwise (· < ·)
  mem : ∀ y, y ∈ out ↔ y ∈ zs.take i ∨ (put = true ∧ y = x)
  lo : put = false → ∀ y ∈ zs.take i, y < x
  hi : put = true → ∃ y ∈ zs.take i, x < y
  len : out.length ≤ i + 1
theorem AddI.start (zs : List Int) (x : Int) : AddI zs x 0 false [] := ⟨by simp, .nil, by simp, by simp, by simp, by simp⟩
theorem take_memA {zs : List Int} {i : Nat} {z y : Int} (hz : zs[i]? = some z) : y ∈ zs.take (i + 1) ↔ y ∈ zs.take i ∨ y = z := by
  rw [List.take_add_one, hz]
  simp
theorem take_ltA {zs : List Int} {i : Nat} {z y : Int} (hs : zs.Pairwise (· < ·)) (hz : zs[i]? = some z) (hy : y ∈ zs.take i) : y < z := by
  obtain ⟨j, hj⟩ := List.mem_iff_getElem?.1 hy
  rw [List.getElem?_take] at hj
  split at hj
  · rename_i hji
    obtain ⟨h1, h2⟩ := List.getElem?_eq_some_iff.1 hj
    obtain ⟨h3, h4⟩ := List.getElem?_eq_some_iff.1 hz
    have := List.pairwise_iff_getElem.1 hs j i h1 h3 hji
    rw [h2, h4] at this
    exact this
  · cases hj
theorem AddI.keep {zs : List Int} {x z : Int} {i : Nat} {out : List Int} {put : Bool} (h : AddI zs x i put out) (hs : zs.Pairwise (· < ·)) (hz : zs[i]? = some z) (hne : z ≠ x) (hgt : put = false → ¬ x < z) : AddI zs x (i + 1) put (out ++ [z]) := by
  have ht := fun y => take_memA (y := y) hz
  refine ⟨fun hh => ?_, List.pairwise_append.2 ⟨h.pw, by simp, fun y hy u hu => ?_⟩, fun y => ?_, fun hp y hy => ?_, fun hp => ?_, by rw [List.length_append]; have := h.len; simp; omega⟩
  · rcases (ht x).1 hh with h1 | h1
    · exact h.no h1
    · exact hne h1.symm
  · rw [List.mem_singleton] at hu
    subst hu
    rcases (h.mem y).1 hy with h1 | ⟨hp, rfl⟩
    · exact take_ltA hs hz h1
    · obtain ⟨b, hb, hlt⟩ := h.hi hp
      have := take_ltA hs hz hb
      omega
  · rw [List.mem_append, List.mem_singleton, h.mem, ht]
    constructor
    · rintro ((h1 | h1) | h1)
      · exact .inl (.inl h1)
      · exact .inr h1
      · exact .inl (.inr h1)
    · rintro ((h1 | h1) | h1)
      · exact .inl (.inl h1)
      · exact .inr h1
      · exact .inl (.inr h1)
  · rcases (ht y).1 hy with h1 | h1
    · exact h.lo hp y h1
    · have := hgt hp
      omega
  · obtain ⟨b, hb, hlt⟩ := h.hi hp
    exact ⟨b, (ht b).2 (.inl hb), hlt⟩
theorem AddI.put {zs : List Int} {x z : Int} {i : Nat} {out : List Int} (h : AddI zs x i false out) (hs : zs.Pairwise (· < ·)) (hz : zs[i]? = some z) (hgt : x < z) : AddI zs x (i + 1) true ((out ++ [x]) ++ [z]) := by
  have ht := fun y => take_memA (y := y) hz
  have hm : ∀ y, y ∈ out ↔ y ∈ zs.take i := fun y => by rw [h.mem]; simp
  refine ⟨fun hh => ?_, List.pairwise_append.2 ⟨List.pairwise_append.2 ⟨h.pw, by simp, fun y hy u hu => ?_⟩, by simp, fun y hy u hu => ?_⟩, fun y => ?_, (fun hp => by cases hp), fun _ => ⟨z, (ht z).2 (.inr rfl), hgt⟩, ?_⟩
  · rcases (ht x).1 hh with h1 | h1
    · exact h.no h1
    · omega
  · rw [List.mem_singleton] at hu
    subst hu
    exact h.lo rfl y ((hm y).1 hy)
  · rw [List.mem_singleton] at hu
    subst hu
    rcases List.mem_append.1 hy with h1 | h1
    · exact take_ltA hs hz ((hm y).1 h1)
    · rw [List.mem_singleton] at h1; omega
  · rw [List.mem_append, List.mem_append, List.mem_singleton, List.mem_singleton, hm, ht]
    constructor
    · rintro ((h1 | h1) | h1)
      · exact .inl (.inl h1)
      · exact .inr ⟨rfl, h1⟩
      · exact .inl (.inr h1)
    · rintro ((h1 | h1) | h1)
      · exact .inl (.inl h1)
      · exact .inr h1
      · exact .inl (.inr h1.2)
  · have h2 : out.length ≤ (zs.take i).length := nodup_le _ _ (h.pw.imp fun h => by omega) fun y hy => (hm y).1 hy
    rw [List.length_take] at h2
    simp only [List.length_append, List.length_singleton]
    omega
/-- A row of ints that a call leaves: rising, its members so. -/
def RetAdd (w : World) (ok : Nat → Prop) (zs : List Int) (x : Int) (e : Ending) (w' : World) : Prop :=
  ∃ A n c ys, e = .returned (.slice A n c) ∧ RdI w' (fun k => ok k ∨ w.heap.size ≤ k) A n ys ∧ ys.Pairwise (· < ·) ∧ (∀ y, y ∈ ys ↔ y ∈ zs ∨ y = x) ∧ Below w.heap.size w w'
theorem AddI.done {zs : List Int} {x : Int} {i : Nat} {out : List Int} (h : AddI zs x i true out) (hi : zs.length ≤ i) : out.Pairwise (· < ·) ∧ ∀ y, y ∈ out ↔ y ∈ zs ∨ y = x :=
  ⟨h.pw, fun y => by rw [h.mem, List.take_of_length_le hi]; simp⟩
theorem AddI.last {zs : List Int} {x : Int} {i : Nat} {out : List Int} (h : AddI zs x i false out) (hi : zs.length ≤ i) : (out ++ [x]).Pairwise (· < ·) ∧ ∀ y, y ∈ out ++ [x] ↔ y ∈ zs ∨ y = x := by
  have hm : ∀ y, y ∈ out ↔ y ∈ zs := fun y => by rw [h.mem, List.take_of_length_le hi]; simp
  refine ⟨List.pairwise_append.2 ⟨h.pw, by simp, fun y hy u hu => ?_⟩, fun y => by rw [List.mem_append, List.mem_singleton, hm]⟩
  rw [List.mem_singleton] at hu
  subst hu
  exact h.lo rfl y (by rw [List.take_of_length_le hi]; exact (hm y).1 hy)
theorem OwnI.toRd {w : World} {base : Nat} {v : Value} {zs : List Int} (h : OwnI w base v zs) : ∃ A n c, v = .slice A n c ∧ RdI w (fun k => base ≤ k) A n zs := by
  obtain ⟨A, c, e, _, _, _, h4⟩ := h.rd
  exact ⟨A, _, c, e, h4.mono fun k hk _ => hk.1⟩
theorem cellRd {w w' : World} {ok : Nat → Prop} {n : Nat} {zs : List Int} {b o i : Nat} {z : Int} (h : RdI w ok (some ⟨b, o, none⟩) n zs) (hb : Below w.heap.size w w') (hi : i < n) (hz : zs[i]? = some z) : w'.cell? ⟨b, o + i, none⟩ = some (.int .i64 z) := by
  obtain ⟨b2, o2, e, _, hc⟩ := (h.below hb).at_ i hi
  cases e
  rw [hz] at hc
  exact hc
set_option maxHeartbeats 2000000 in
theorem radd_calls (w : World) (ok : Nat → Prop) (A : Option Addr) (n c : Nat) (zs : List Int) (hr : RdI w ok A n zs) (hs : zs.Pairwise (· < ·)) (hn : n ≤ 1048576) (x : Int) :
    Calls Tryz.prog 86 #[.slice A n c, .int .i64 x] w (RetAdd w ok zs x) := by
  have HL := Lib.hid hr.len
  have HS := Lib.hid hs
  have HR := Lib.hid hr
  clear hs hr
  go_enter Tryz.func86, Tryz.ntmps86
  go_wp2
  go_loopg [5, 6, 7] n (fun gg s5 s6 s7 wr => ∃ (i : Nat) (put : Bool) (out : List Int), i ≤ n ∧ n - i ≤ gg ∧ s6 = .bool put ∧ s7 = .int .i64 (i : Int) ∧ Hid (OwnI wr w.heap.size s5 out) ∧ Hid (AddI zs x i put out) ∧ Hid (Below w.heap.size w wr))
  case atStart => exact ⟨0, false, [], by omega, by omega, rfl, rfl, Lib.hid (OwnI.nil _ _), Lib.hid (AddI.start _ _), Lib.hid (Below.refl _ _)⟩
  case round =>
    obtain ⟨i, put, out, hi, hgi, rfl, rfl, HO, HI, HB⟩ := hrel
    have hol := HI.out.len
    by_cases hlt : i < n
    · have hlti : (i : Int) < (n : Int) := by omega
      have hi0 : (0 : Int) ≤ (i : Int) := by omega
      obtain ⟨z, hz⟩ : ∃ z, zs[i]? = some z := ⟨_, List.getElem?_eq_getElem (by rw [HL.out]; exact hlt)⟩
      obtain ⟨b, o, rfl, hb, hc⟩ := (HR.out.below HB.out).at_ i hlt
      rw [hz] at hc
      have hc : wr.cell? ⟨b, o + i, none⟩ = some (.int .i64 z) := hc
      have HZ := Lib.hid hz
      clear hz
      have hpl : out.length ≤ 1099511627776 := by omega
      have hpl2 : (out ++ [x]).length ≤ 1099511627776 := by simp; omega
      by_cases he : z = x
      · subst he
        have h1 : (z == z) = true := beq_self_eq_true _
        clear hpl hpl2
        go_wp2
        go_ret
        exact ⟨_, _, _, zs, rfl, (HR.out.below HB.out).mono fun k hk _ => .inl hk, HS.out, fun y => ⟨.inl, fun hh => hh.elim id fun e => by rw [e]; exact List.mem_of_getElem? HZ.out⟩, HB.out⟩
      · have h1 : (z == x) = false := beq_eq_false_iff_ne.2 he
        have HE := Lib.hid he
        clear he
        cases put with
        | true =>
          have HI2 := Lib.hid (HI.out.keep HS.out HZ.out HE.out (fun h => by cases h))
          have HO2 := HO.out
          have HB2 := HB.out
          go_wp2_with (at_builtin; refine appI w.heap.size w.heap.size rfl (.tmp 35) (.tmp 40) rfl u5 _ _ rfl rfl HO2 HB2 HB2.size (Nat.le_refl _) hpl ?_; intro v3 w3 HO3 HB3; have HL3 := Lib.hid HO3; clear HO3)
          go_roundg (n - (i + 1))
          case measure => omega
          case rel => exact ⟨i + 1, true, _, by omega, by omega, rfl, by go_num, HL3, HI2, Lib.hid HB3⟩
        | false =>
          by_cases hgt : x < z
          · have hg : decide (z > x) = true := decide_eq_true hgt
            have HI2 := Lib.hid (HI.out.put HS.out HZ.out hgt)
            have HO2 := HO.out
            have HB2 := HB.out
            go_wp2_with (at_builtin; first
              | (refine appI w.heap.size w.heap.size rfl (.tmp 31) (.tmp 33) rfl u5 _ _ rfl rfl HO2 HB2 HB2.size (Nat.le_refl _) hpl ?_; intro v3 w3 HO3 HB3; have hc3 : w3.cell? ⟨b, o + i, none⟩ = some (.int .i64 z) := cellRd HR.out HB3 hlt HZ.out)
              | (refine appI w.heap.size w.heap.size rfl (.tmp 35) (.tmp 40) rfl v3 _ _ rfl rfl HO3 HB3 HB3.size (Nat.le_refl _) hpl2 ?_; intro v4 w4 HO4 HB4; have HL4 := Lib.hid HO4; clear HO4))
            go_roundg (n - (i + 1))
            case measure => omega
            case rel => exact ⟨i + 1, true, _, by omega, by omega, rfl, by go_num, HL4, HI2, Lib.hid HB4⟩
          · have hg : decide (z > x) = false := decide_eq_false hgt
            have HI2 := Lib.hid (HI.out.keep HS.out HZ.out HE.out (fun _ => hgt))
            have HO2 := HO.out
            have HB2 := HB.out
            clear hgt
            go_wp2_with (at_builtin; refine appI w.heap.size w.heap.size rfl (.tmp 35) (.tmp 40) rfl u5 _ _ rfl rfl HO2 HB2 HB2.size (Nat.le_refl _) hpl ?_; intro v3 w3 HO3 HB3; have HL3 := Lib.hid HO3; clear HO3)
            go_roundg (n - (i + 1))
            case measure => omega
            case rel => exact ⟨i + 1, false, _, by omega, by omega, rfl, by go_num, HL3, HI2, Lib.hid HB3⟩
    · have hlti : ¬ (i : Int) < (n : Int) := by omega
      cases put with
      | true =>
        obtain ⟨d1, d2⟩ := HI.out.done (by rw [HL.out]; omega)
        obtain ⟨A', n', c', hv, hrd⟩ := HO.out.toRd
        have HD := Lib.hid (And.intro d1 (And.intro d2 hrd))
        subst hv
        clear d1 d2 hrd
        go_wp2
        go_ret
        exact ⟨_, _, _, out, rfl, HD.out.2.2.mono fun k hk _ => .inr hk, HD.out.1, HD.out.2.1, HB.out⟩
      | false =>
        have HD := Lib.hid (HI.out.last (by rw [HL.out]; omega))
        have hpl : out.length ≤ 1099511627776 := by omega
        have HO2 := HO.out
        have HB2 := HB.out
        go_wp2_with (at_builtin; refine appI w.heap.size w.heap.size rfl (.tmp 44) (.tmp 46) rfl u5 _ _ rfl rfl HO2 HB2 HB2.size (Nat.le_refl _) hpl ?_; intro v3 w3 HO3 HB3; obtain ⟨A', n', c', rfl, hrd⟩ := HO3.toRd; have HL3 := Lib.hid hrd; clear HO3 hrd)
        go_ret
        exact ⟨_, _, _, _, rfl, HL3.out.mono fun k hk _ => .inr hk, HD.out.1, HD.out.2, HB3⟩
end Go.Proofs.YthgnjojkncodeaaGreat
namespace Go.Proofs.YthgnjojkncodeaaGreat
open Go.RowKit
set_option linter.unusedVariables false
set_option linter.unusedSimpArgs false

theorem take_hasR (zs : List Int) (k : Nat) (x : Int) (hk : k < zs.length) (h : x ∉ zs.take k) (hx : zs[k]?.getD 0 ≠ x) : x ∉ zs.take (k + 1) := by
  rw [List.take_succ_eq_append_getElem hk]
  simp only [List.mem_append, List.mem_singleton, not_or]
  refine ⟨h, fun e => hx ?_⟩
  simp [hk, e]
set_option maxHeartbeats 1000000 in
theorem rhas_calls (w : World) (ok : Nat → Prop) (A : Option Addr) (n c : Nat) (zs : List Int) (x : Int) (hr : RdI w ok A n zs) :
    Calls Tryz.prog 66 #[.slice A n c, .int .i64 x] w fun e w' => e = .returned (.bool (decide (x ∈ zs))) ∧ w = w' := by
  obtain ⟨rb, hrb⟩ : ∃ rb, decide (x ∈ zs) = rb := ⟨_, rfl⟩
  rw [hrb]
  have HRB := Lib.hid hrb
  clear hrb
  have hl := hr.len
  have hm := hr.2.1
  go_enter Tryz.func66, Tryz.ntmps66
  go_wp2
  go_loop [5] (fun i => ∃ k : Nat, k ≤ n ∧ i = .int .i64 k ∧ Hid (x ∉ zs.take k)) (fun i => n - (intOf i).toNat)
  case atStart => exact ⟨0, Nat.zero_le _, rfl, Lib.hid (by simp)⟩
  case round =>
    obtain ⟨k, hk, rfl, HN⟩ := hrel
    by_cases hlt : k < n
    · have hlti : (k : Int) < (n : Int) := by omega
      obtain ⟨b, o, rfl, hb, hc⟩ := hr.at_ k hlt
      by_cases he : zs[k]?.getD 0 = x
      · have h1 : ((zs[k]?.getD 0) == x) = true := by rw [beq_iff_eq]; exact he
        have hmem : decide (x ∈ zs) = true := decide_eq_true (by
          have : zs[k]? = some x := by rw [List.getElem?_eq_getElem (by omega)] at he ⊢; simpa using he
          exact List.mem_of_getElem? this)
        have HM := Lib.hid hmem
        clear hmem he hr hl
        go_wp2
        go_ret
        exact ⟨ret_bool (HM.out.symm.trans HRB.out), rfl⟩
      · have h1 : ((zs[k]?.getD 0) == x) = false := by rw [beq_eq_false_iff_ne]; exact he
        have HT := Lib.hid (take_hasR zs k x (by omega) HN.out he)
        clear he hr hl
        go_wp2
        go_round
        case rel => exact ⟨k + 1, by omega, by go_num, HT⟩
        case measure => simp [intOf]; omega
    · have hlti : ¬ (k : Int) < (n : Int) := by omega
      have hmem : decide (x ∈ zs) = false := decide_eq_false (by have := HN.out; rwa [List.take_of_length_le (by omega)] at this)
      have HM := Lib.hid hmem
      clear hmem hr hl
      go_wp2
      go_ret
      exact ⟨ret_bool (HM.out.symm.trans HRB.out), rfl⟩
/-- A call's row of ints, in new memory. -/
def RetL (w : World) (zs : List Int) (e : Ending) (w' : World) : Prop := ∃ A n c, e = .returned (.slice A n c) ∧ RdI w' (fun k => w.heap.size ≤ k) A n zs ∧ Below w.heap.size w w'
/-- Next's loop: so far. -/
structure NxI (es : List Ed) (a : Int) (i : Nat) (zs : List Int) : Prop where
  pw : zs.Pairwise (· < ·)
  mem : ∀ y, y ∈ zs ↔ (a, y) ∈ es.take i
theorem NxI.len {es : List Ed} {a : Int} {i : Nat} {zs : List Int} (h : NxI es a i zs) : zs.length ≤ es.length := by
  have h1 : zs.length ≤ (es.map fun e => e.2).length := nodup_le _ _ (h.pw.imp fun h => by omega) fun y hy => List.mem_map.2 ⟨(a, y), List.take_subset _ _ ((h.mem y).1 hy), rfl⟩
  rwa [List.length_map] at h1
theorem take_memE {es : List Ed} {i : Nat} {x y : Ed} (hx : es[i]? = some x) : y ∈ es.take (i + 1) ↔ y ∈ es.take i ∨ y = x := by
  rw [List.take_add_one, hx]
  simp
theorem NxI.skip {es : List Ed} {a : Int} {i : Nat} {zs : List Int} {x : Ed} (h : NxI es a i zs) (hx : es[i]? = some x) (hne : x.1 ≠ a) : NxI es a (i + 1) zs :=
  ⟨h.pw, fun y => by rw [h.mem, take_memE hx]; exact ⟨.inl, fun hh => hh.elim id fun e => absurd (by rw [← e]) hne⟩⟩
theorem NxI.put {es : List Ed} {a : Int} {i : Nat} {zs ys : List Int} {x : Ed} (h : NxI es a i zs) (hx : es[i]? = some x) (he : x.1 = a) (hp : ys.Pairwise (· < ·)) (hm : ∀ y, y ∈ ys ↔ y ∈ zs ∨ y = x.2) : NxI es a (i + 1) ys :=
  ⟨hp, fun y => by
    rw [hm, h.mem, take_memE hx]
    refine or_congr Iff.rfl ⟨fun e => ?_, fun e => ?_⟩
    · rw [e, ← he]
    · rw [← e]⟩
theorem NxI.all {es : List Ed} {a : Int} {i : Nat} {zs : List Int} (h : NxI es a i zs) (hi : es.length ≤ i) : zs = endsOf (fun e : Ed => (e.2, e.1 == a)) es :=
  rise_ext _ _ h.pw (endsOf_spec _ _).1 fun y => by rw [h.mem, next_mem, List.take_of_length_le hi]
set_option maxHeartbeats 2000000 in
theorem rnext_calls (w : World) (v : Value) (ep : Int) (up : List Bool) (hops : List (List Ed)) (ok : Nat → Prop) (h : TopoV w ok v ep up hops) (hf : Few hops) (flow node : Int) (h1 : inI flow) :
    Calls Tryz.prog 65 #[v, .int .i64 flow, .int .i64 node] w (RetL w (nextOf hops flow node)) := by
  obtain ⟨A, n, c, B, m, d, rfl, g1, g2, g3, g4⟩ := h
  obtain ⟨w1, hw1⟩ : ∃ w1, w.alloc (.cells #[.int .u64 ep, .slice A n c, .slice B m d] 38) = w1 := ⟨_, rfl⟩
  have b1 : Below w.heap.size w w1 := by rw [← hw1]; exact (Below.refl _ _).alloc (Nat.le_refl _) _
  have e1 : w1.heap[w.heap.size]? = some (.cells #[.int .u64 ep, .slice A n c, .slice B m d] 38 (0, 0)) := by rw [← hw1]; exact heap_alloc_new w _
  have c0 : w1.cell? ⟨w.heap.size, 0, none⟩ = some (.int .u64 ep) := by simp [World.cell?, e1]
  have c1 : w1.cell? ⟨w.heap.size, 1, none⟩ = some (.slice A n c) := by simp [World.cell?, e1]
  have c2 : w1.cell? ⟨w.heap.size, 2, none⟩ = some (.slice B m d) := by simp [World.cell?, e1]
  have hed := redges_calls w1 (.agg #[.int .u64 ep, .slice A n c, .slice B m d]) ep up hops ok ⟨_, _, _, _, _, _, rfl, g1, g2, g3.below b1, g4.below b1⟩ flow h1
  have HW1 := Lib.hid hw1
  have HB1 := Lib.hid b1
  obtain ⟨es, hes⟩ : ∃ es, edgesOf hops flow = es := ⟨_, rfl⟩
  have HES := Lib.hid hes
  have HF : Hid (es.length ≤ 1048576) := Lib.hid (by rw [← hes]; exact hf.edges flow)
  rw [hes] at hed
  have hnx : nextOf hops flow node = endsOf (fun e : Ed => (e.2, e.1 == node)) es := by unfold nextOf; rw [hes]
  rw [hnx]
  clear hw1 b1 e1 g3 g4 hes hf hnx
  go_enter Tryz.func65, Tryz.ntmps65
  go_upto_region 1 with (fail)
  rw [HW1.out]
  go_wp2_with fail
  refine hed.mono ?_
  rintro e w2 ⟨A2, n2, c2', rfl, hR2, b2⟩
  have HB2 := Lib.hid (belowThen HB1.out HB1.out.size b2)
  have HR2 := Lib.hid hR2
  have HL := Lib.hid hR2.len
  have hm2 : n2 ≤ 1048576 := by rw [← hR2.len]; exact HF.out
  clear hed hR2 b2 c0 c1 c2
  go_wp2_with fail
  go_loopg [7, 9] n2 (fun gg s7 s9 wr => ∃ (i : Nat) (A' : Option Addr) (n' c' : Nat) (zs : List Int), i ≤ n2 ∧ n2 - i ≤ gg ∧ s7 = .slice A' n' c' ∧ s9 = .int .i64 (i : Int) ∧ Hid (RdI wr (fun k => w.heap.size ≤ k) A' n' zs) ∧ Hid (NxI es node i zs) ∧ Hid (Below w.heap.size w wr) ∧ Hid (Below w2.heap.size w2 wr))
  case atStart => exact ⟨0, none, 0, 0, [], by omega, by omega, rfl, rfl, Lib.hid (RdI.nil _ _ _), Lib.hid ⟨.nil, by simp⟩, HB2, Lib.hid (Below.refl _ _)⟩
  case round =>
    obtain ⟨i, A', n', c', zs, hi, hgi, rfl, rfl, HZ, HN, HB, HB2r⟩ := hrel
    by_cases hlt : i < n2
    · have hlti : (i : Int) < (n2 : Int) := by omega
      have hi0 : (0 : Int) ≤ (i : Int) := by omega
      obtain ⟨x, hx⟩ : ∃ x, es[i]? = some x := ⟨_, List.getElem?_eq_getElem (by rw [HL.out]; exact hlt)⟩
      obtain ⟨b4, o4, vs, rfl, hb41, hb42, hV, hcl⟩ := (HR2.out.below HB2r.out).at_ i x hx
      obtain ⟨rfl, hi1, hi2⟩ := ed_open hV
      have k0 : wr.cell? ⟨b4, o4 + i * 2, none⟩ = some (.int .i64 x.1) := hcl 0 _ rfl
      have k1 : wr.cell? ⟨b4, o4 + i * 2 + 1, none⟩ = some (.int .i64 x.2) := hcl 1 _ rfl
      have HX := Lib.hid hx
      clear hcl hV hx
      by_cases he : x.1 = node
      · have hq : (x.1 == node) = true := beq_iff_eq.2 he
        have hzl := HZ.out.len
        have hadd := radd_calls wr _ A' n' c' zs HZ.out HN.out.pw (by have := HN.out.len; have := HF.out; omega) x.2
        have HE := Lib.hid he
        clear he hzl
        obtain ⟨x1, x2⟩ := x
        simp only at k0 k1 hq hadd
        go_wp2_with fail
        refine hadd.mono ?_
        rintro e w4 ⟨A5, n5, c5, ys, rfl, hR5, hp5, hm5, b5⟩
        have HN5 := Lib.hid (HN.out.put HX.out HE.out hp5 hm5)
        have HR5 := Lib.hid (hR5.mono (ok' := fun k => w.heap.size ≤ k) fun k hk _ => hk.elim id fun h => by have := HB.out.size; omega)
        have HB5 := Lib.hid (belowThen HB.out HB.out.size b5)
        have HB25 := Lib.hid (belowThen HB2r.out HB2r.out.size b5)
        clear hadd hR5 hp5 hm5 b5 k0 k1
        go_wp2_with fail
        go_roundg (n2 - (i + 1))
        case measure => omega
        case rel => exact ⟨i + 1, A5, n5, c5, ys, by omega, by omega, rfl, by go_num, HR5, HN5, HB5, HB25⟩
      · have hq : (x.1 == node) = false := beq_eq_false_iff_ne.2 he
        have HN5 := Lib.hid (HN.out.skip HX.out he)
        clear he
        obtain ⟨x1, x2⟩ := x
        simp only at k0 k1 hq
        go_wp2_with fail
        go_roundg (n2 - (i + 1))
        case measure => omega
        case rel => exact ⟨i + 1, A', n', c', zs, by omega, by omega, rfl, by go_num, HZ, HN5, HB, HB2r⟩
    · have hlti : ¬ (i : Int) < (n2 : Int) := by omega
      have HQ := Lib.hid (HN.out.all (by rw [HL.out]; omega))
      go_wp2_with fail
      go_ret
      exact ⟨A', n', c', rfl, by rw [← HQ.out]; exact HZ.out, HB.out⟩
end Go.Proofs.YthgnjojkncodeaaGreat
namespace Go.Proofs.YthgnjojkncodeaaGreat
open Go.RowKit
set_option linter.unusedVariables false
set_option linter.unusedSimpArgs false

/-- Reach's loops: what has been gathered. -/
structure RcI (es : List Ed) (a : Int) (zs : List Int) (i : Nat) (ms : List Int) : Prop where
  pw : ms.Pairwise (· < ·)
  sub : ∀ x ∈ zs, x ∈ ms
  re : ∀ x ∈ ms, Reaches es a x
  did : ∀ j z, j < i → zs[j]? = some z → ∀ y, (z, y) ∈ es → y ∈ ms
theorem RcI.len {es : List Ed} {a : Int} {zs : List Int} {i : Nat} {ms : List Int} (h : RcI es a zs i ms) : ms.length ≤ es.length := by
  have h1 : ms.length ≤ (es.map fun e => e.2).length := nodup_le _ _ (h.pw.imp fun h => by omega) fun y hy => reaches_end (h.re y hy)
  rwa [List.length_map] at h1
theorem RcI.add {es : List Ed} {a : Int} {zs : List Int} {i : Nat} {ms ys : List Int} {x : Int} (h : RcI es a zs i ms) (hx : Reaches es a x) (hp : ys.Pairwise (· < ·)) (hm : ∀ y, y ∈ ys ↔ y ∈ ms ∨ y = x) : RcI es a zs i ys :=
  ⟨hp, fun y hy => (hm y).2 (.inl (h.sub y hy)), fun y hy => ((hm y).1 hy).elim (h.re y) fun e => by rw [e]; exact hx, fun j z hj hz y hy => (hm y).2 (.inl (h.did j z hj hz y hy))⟩
theorem RcI.next {es : List Ed} {a : Int} {zs : List Int} {i : Nat} {ms : List Int} {z : Int} (h : RcI es a zs i ms) (hz : zs[i]? = some z) (hd : ∀ y, (z, y) ∈ es → y ∈ ms) : RcI es a zs (i + 1) ms :=
  ⟨h.pw, h.sub, h.re, fun j z' hj hz' y hy => by
    by_cases hji : j = i
    · subst hji
      rw [hz] at hz'
      cases hz'
      exact hd y hy
    · exact h.did j z' (by omega) hz' y hy⟩
theorem RcI.start {es : List Ed} {a : Int} {zs : List Int} (hp : zs.Pairwise (· < ·)) (hr : ∀ x ∈ zs, Reaches es a x) : RcI es a zs 0 zs := ⟨hp, fun _ h => h, hr, fun j z hj => absurd hj (by omega)⟩
theorem sub_eq : ∀ {xs ys : List Int}, xs.Pairwise (· < ·) → ys.Pairwise (· < ·) → (∀ x ∈ xs, x ∈ ys) → xs.length = ys.length → ys = xs := by
  intro xs ys hx hy hs hl
  refine (rise_ext _ _ hy hx fun x => ⟨fun h => ?_, hs x⟩)
  by_cases hin : x ∈ xs
  · exact hin
  · have : (x :: xs).length ≤ ys.length := nodup_le _ _ (List.nodup_cons.2 ⟨hin, hx.imp fun h => by omega⟩) fun y hy => by
      rcases List.mem_cons.1 hy with rfl | h2
      · exact h
      · exact hs y h2
    simp only [List.length_cons] at this
    omega
theorem RcI.closed {es : List Ed} {a : Int} {zs : List Int} {ms : List Int} (h : RcI es a zs zs.length ms) (hp : zs.Pairwise (· < ·)) (h0 : ∀ y, (a, y) ∈ es → y ∈ zs) (hl : ms.length = zs.length) : ∀ x, x ∈ zs ↔ Reaches es a x := by
  have he := sub_eq hp h.pw h.sub hl.symm
  intro x
  refine ⟨fun hx => h.re x (h.sub x hx), fun hx => ?_⟩
  induction hx with
  | one h1 => exact h0 _ h1
  | more _ h2 ih =>
    obtain ⟨j, hj⟩ := List.mem_iff_getElem?.1 ih
    have := h.did j _ (List.getElem?_eq_some_iff.1 hj).1 hj _ h2
    rwa [he] at this
def RetRL (w : World) (es : List Ed) (a : Int) (e : Ending) (w' : World) : Prop := ∃ zs, zs.Pairwise (· < ·) ∧ (∀ x, x ∈ zs ↔ Reaches es a x) ∧ RetL w zs e w'
theorem getI {zs : List Int} {n i : Nat} {z : Int} (hl : zs.length = n) (hi : i < n) (h : zs[i]?.getD 0 = z) : zs[i]? = some z := by
  have : i < zs.length := by omega
  rw [List.getElem?_eq_getElem this] at h ⊢
  simpa using h
set_option maxRecDepth 20000 in
set_option maxHeartbeats 4000000 in
theorem rreach_calls (w : World) (v : Value) (ep : Int) (up : List Bool) (hops : List (List Ed)) (ok : Nat → Prop) (h : TopoV w ok v ep up hops) (hf : Few hops) (flow node : Int) (h1 : inI flow) :
    Calls Tryz.prog 67 #[v, .int .i64 flow, .int .i64 node] w (RetRL w (edgesOf hops flow) node) := by
  obtain ⟨A, n, c, B, m, d, rfl, g1, g2, g3, g4⟩ := h
  obtain ⟨w1, hw1⟩ : ∃ w1, w.alloc (.cells #[.int .u64 ep, .slice A n c, .slice B m d] 38) = w1 := ⟨_, rfl⟩
  have b1 : Below w.heap.size w w1 := by rw [← hw1]; exact (Below.refl _ _).alloc (Nat.le_refl _) _
  have e1 : w1.heap[w.heap.size]? = some (.cells #[.int .u64 ep, .slice A n c, .slice B m d] 38 (0, 0)) := by rw [← hw1]; exact heap_alloc_new w _
  have HT1 : Hid (TBox w1 w.heap.size A n c B m d ep up hops) := Lib.hid ⟨by rw [← hw1]; simp, ⟨by simp [World.cell?, e1], by simp [World.cell?, e1], by simp [World.cell?, e1]⟩,
    ⟨_, _, _, _, _, _, rfl, g1, g2, (g3.below b1).mono fun k _ hk => hk, (g4.below b1).mono fun k _ hk => hk⟩⟩
  have HW1 := Lib.hid hw1
  have HB1 := Lib.hid b1
  obtain ⟨es, hes⟩ : ∃ es, edgesOf hops flow = es := ⟨_, rfl⟩
  have HNX : Hid (∀ x, nextOf hops flow x = endsOf (fun e : Ed => (e.2, e.1 == x)) es) := Lib.hid fun x => by unfold nextOf; rw [hes]
  have HF : Hid (es.length ≤ 1048576) := Lib.hid (by rw [← hes]; exact hf.edges flow)
  have HFW := Lib.hid hf
  rw [hes]
  have hnx := rnext_calls w1 _ ep up hops _ HT1.out.tv hf flow node h1
  rw [HNX.out] at hnx
  obtain ⟨P, hP⟩ : ∃ P, w.heap.size = P := ⟨_, rfl⟩
  have HP := Lib.hid hP
  rw [hP] at HT1
  clear hw1 b1 e1 g3 g4 hes hf hP
  obtain ⟨c0, c1, c2⟩ := HT1.out.cells
  go_enter Tryz.func67, Tryz.ntmps67
  go_upto_region 1 with (fail)
  rw [HW1.out]
  try rw [HP.out]
  go_wp2_with fail
  refine hnx.mono ?_
  rintro e w2 ⟨A2, n2, c2', rfl, hR2, b2⟩
  have HT2 := Lib.hid (HT1.out.below b2)
  have HB2 := Lib.hid (belowThen HB1.out HB1.out.size b2)
  have HR2 := Lib.hid (hR2.mono (ok' := fun k => w.heap.size ≤ k) fun k hk _ => by have := HB1.out.size; omega)
  have HE2 : Hid ((∀ x ∈ endsOf (fun e : Ed => (e.2, e.1 == node)) es, Reaches es node x) ∧ (∀ y, (node, y) ∈ es → y ∈ endsOf (fun e : Ed => (e.2, e.1 == node)) es) ∧ (endsOf (fun e : Ed => (e.2, e.1 == node)) es).Pairwise (· < ·)) :=
    Lib.hid ⟨fun x hx => .one ((next_mem es node x).1 hx), fun y hy => (next_mem es node y).2 hy, (endsOf_spec _ _).1⟩
  have hnl2 : n2 ≤ es.length := by have := hR2.len; have := (RcI.start HE2.out.2.2 HE2.out.1).len; omega
  clear hnx hR2 b2 c0 c1 c2 HT1 HB1
  go_wp2_with fail
  go_loopg [7] (es.length + 1 - n2) (fun gg s7 wr => ∃ (A' : Option Addr) (n' c' : Nat) (zs : List Int), n' ≤ es.length ∧ es.length + 1 - n' ≤ gg ∧ s7 = .slice A' n' c' ∧ Hid (RdI wr (fun k => w.heap.size ≤ k) A' n' zs) ∧ Hid (zs.Pairwise (· < ·)) ∧
    Hid (∀ x ∈ zs, Reaches es node x) ∧ Hid (∀ y, (node, y) ∈ es → y ∈ zs) ∧ Hid (TBox wr P A n c B m d ep up hops) ∧ Hid (Below w.heap.size w wr))
  case atStart => exact ⟨A2, n2, c2', _, hnl2, Nat.le_refl _, rfl, HR2, Lib.hid HE2.out.2.2, Lib.hid HE2.out.1, Lib.hid HE2.out.2.1, HT2, HB2⟩
  case round =>
    clear HR2 HE2 HT2 HB2 hnl2
    obtain ⟨A', n', c', zs, hn', hgg, rfl, HZ, HPW, HRE, H0, HT, HB⟩ := hrel
    have HZL := Lib.hid HZ.out.len
    obtain ⟨wq, rfl⟩ : ∃ y, y = wr := ⟨_, rfl⟩
    have HRC := Lib.hid (RcI.start HPW.out HRE.out)
    have hnm : n' ≤ 1048576 := by have := HF.out; omega
    go_wp2_with fail
    go_loopg [8, 9] n' (fun g2 s8 s9 wx => ∃ (i : Nat) (A3 : Option Addr) (n3 c3 : Nat) (ms : List Int), i ≤ n' ∧ n' - i ≤ g2 ∧ s8 = .slice A3 n3 c3 ∧ s9 = .int .i64 (i : Int) ∧ Hid (RdI wx (fun k => w.heap.size ≤ k) A3 n3 ms) ∧ Hid (RcI es node zs i ms) ∧
      Hid (TBox wx P A n c B m d ep up hops) ∧ Hid (Below w.heap.size w wx) ∧ Hid (Below wq.heap.size wq wx))
    case atStart => exact ⟨0, A', n', c', zs, by omega, by omega, rfl, rfl, HZ, HRC, HT, HB, Lib.hid (Below.refl _ _)⟩
    case round =>
      clear HT HB
      obtain ⟨i, A3, n3, c3, ms, hi, hgi, rfl, rfl, HM, HC, HT, HB, HBQ⟩ := hrel
      have HML := Lib.hid HM.out.len
      have hn3 : n3 ≤ es.length := by have := HC.out.len; have := HML.out; omega
      have hn3m : n3 ≤ 1048576 := by have := HF.out; omega
      by_cases hlt : i < n'
      · have hlti : (i : Int) < (n' : Int) := by omega
        have hi0 : (0 : Int) ≤ (i : Int) := by omega
        obtain ⟨b, o, rfl, hb, hc⟩ := (HZ.out.below HBQ.out).at_ i hlt
        obtain ⟨z, hz⟩ : ∃ z, zs[i]?.getD 0 = z := ⟨_, rfl⟩
        rw [hz] at hc
        have HZI := Lib.hid (getI HZL.out hlt hz)
        clear hz hb
        have hnx := rnext_calls wr.drew _ ep up hops _ HT.out.drew.tv HFW.out flow z h1
        rw [HNX.out] at hnx
        obtain ⟨x0, x1, x2⟩ := HT.out.cells
        go_upto_region 6 with (fail)
        go_region_held3 (fun w' => w'.cell? ⟨P, 0, none⟩ = some (.int .u64 ep) ∧ w'.cell? ⟨P, 1, none⟩ = some (.slice A n c) ∧ w'.cell? ⟨P, 2, none⟩ = some (.slice B m d) ∧ w'.cell? ⟨b, o + i, none⟩ = some (.int .i64 z))
          (first | exact ⟨x0, x1, x2, hc⟩ | exact ⟨HT4.out.cells.1, HT4.out.cells.2.1, HT4.out.cells.2.2, hc4⟩)
          (first | (go_at_call 65; (with_reducible refine hnx.mono ?_); rintro e w4 ⟨A4, n4, c4, rfl, hR4, b4⟩; have hc4 : w4.cell? ⟨b, o + i, none⟩ = some (.int .i64 z) := cellBelow (stepB1 b4) hc; have HT4 := Lib.hid (HT.out.below (stepB1 b4)); have HR4 := Lib.hid hR4; have HB4 := Lib.hid (stepB1 b4); clear hR4 b4))
        have HB4w := Lib.hid (belowThen HB.out HB.out.size HB4.out)
        have HB4q := Lib.hid (belowThen HBQ.out HBQ.out.size HB4.out)
        have HM4 := Lib.hid (HM.out.below HB4.out)
        have HNL := Lib.hid HR4.out.len
        have hn4 : n4 ≤ 1048576 := by
          have h1 := HNL.out
          have h2 := (RcI.start (a := z) (endsOf_spec (fun e : Ed => (e.2, e.1 == z)) es).1 fun x hx => .one ((next_mem es z x).1 hx)).len
          have := HF.out
          omega
        obtain ⟨ns, hns⟩ : ∃ ns, endsOf (fun e : Ed => (e.2, e.1 == z)) es = ns := ⟨_, rfl⟩
        have HNS : Hid (∀ y, y ∈ ns ↔ (z, y) ∈ es) := Lib.hid fun y => by rw [← hns]; exact next_mem es z y
        rw [hns] at HR4 HNL
        have HRZ : Hid (Reaches es node z) := Lib.hid (HC.out.re z (HC.out.sub z (List.mem_of_getElem? HZI.out)))
        clear hnx x0 x1 x2 hc hc4 hns HT HB HM HBQ HB4
        go_wp2_with fail
        go_loopg [8, 11] n4 (fun g3 s8 s11 wy => ∃ (k : Nat) (A5 : Option Addr) (n5 c5 : Nat) (ms : List Int), k ≤ n4 ∧ n4 - k ≤ g3 ∧ s8 = .slice A5 n5 c5 ∧ s11 = .int .i64 (k : Int) ∧ Hid (RdI wy (fun k => w.heap.size ≤ k) A5 n5 ms) ∧ Hid (RcI es node zs i ms) ∧
          Hid (∀ j y, j < k → ns[j]? = some y → y ∈ ms) ∧ Hid (Below w4.heap.size w4 wy))
        case atStart => exact ⟨0, A3, n3, c3, ms, by omega, by omega, rfl, rfl, HM4, HC, Lib.hid fun j y hj => absurd hj (by omega), Lib.hid (Below.refl _ _)⟩
        case round =>
          clear HM4 HC HML hn3 hn3m
          obtain ⟨k, A5, n5, c5, ms5, hk, hgk, rfl, rfl, HM, HC, HD, HB5⟩ := hrel
          have HML := Lib.hid HM.out.len
          have hn5 : n5 ≤ 1048576 := by have := HC.out.len; have := HML.out; have := HF.out; omega
          by_cases hkl : k < n4
          · have hkli : (k : Int) < (n4 : Int) := by omega
            have hk0 : (0 : Int) ≤ (k : Int) := by omega
            obtain ⟨b5, o5, rfl, hb5, hc5⟩ := (HR4.out.below HB5.out).at_ k hkl
            obtain ⟨y, hy⟩ : ∃ y, ns[k]?.getD 0 = y := ⟨_, rfl⟩
            rw [hy] at hc5
            have HY := Lib.hid (getI HNL.out hkl hy)
            have HYR : Hid (Reaches es node y) := Lib.hid (.more HRZ.out ((HNS.out y).1 (List.mem_of_getElem? HY.out)))
            have hadd := radd_calls wr _ A5 n5 c5 ms5 HM.out HC.out.pw hn5 y
            clear hy hb5
            go_wp2_with fail
            refine hadd.mono ?_
            rintro e w6 ⟨A6, n6, c6, ys, rfl, hR6, hp6, hm6, b6⟩
            have HC6 := Lib.hid (HC.out.add HYR.out hp6 hm6)
            have HD6 : Hid (∀ j y, j < k + 1 → ns[j]? = some y → y ∈ ys) := Lib.hid fun j u hj hu => (hm6 u).2 (by
              by_cases hjk : j = k
              · subst hjk; rw [HY.out] at hu; cases hu; exact .inr rfl
              · exact .inl (HD.out j u (by omega) hu))
            have HM6 := Lib.hid (hR6.mono (ok' := fun k => w.heap.size ≤ k) fun q hq _ => hq.elim id fun h => by have := HB5.out.size; have := HB4w.out.size; omega)
            have HB6 := Lib.hid (belowThen HB5.out HB5.out.size b6)
            clear hadd hR6 hp6 hm6 b6 hc5
            go_wp2_with fail
            go_roundg (n4 - (k + 1))
            case measure => omega
            case rel => exact ⟨k + 1, A6, n6, c6, ys, by omega, by omega, rfl, by go_num, HM6, HC6, HD6, HB6⟩
          · have hkli : ¬ ((k : Int) < (n4 : Int)) := by omega
            have HCN := Lib.hid (HC.out.next HZI.out fun y hy => by
              obtain ⟨j, hj⟩ := List.mem_iff_getElem?.1 ((HNS.out y).2 hy)
              exact HD.out j y (by have := (List.getElem?_eq_some_iff.1 hj).1; have := HNL.out; omega) hj)
            go_wp2_with fail
            go_roundg (n' - (i + 1))
            case measure => omega
            case rel => exact ⟨i + 1, A5, n5, c5, ms5, by omega, by omega, rfl, by go_num, HM, HCN, Lib.hid (HT4.out.below HB5.out), Lib.hid (belowThen HB4w.out HB4w.out.size HB5.out), Lib.hid (belowThen HB4q.out HB4q.out.size HB5.out)⟩
      · have hlti : ¬ ((i : Int) < (n' : Int)) := by omega
        obtain rfl : i = n' := by omega
        by_cases he : n3 = i
        · subst he
          have HX := Lib.hid (RcI.closed (by rw [HZL.out]; exact HC.out) HPW.out H0.out (by rw [HML.out, HZL.out]))
          go_wp2_with fail
          go_ret
          exact ⟨zs, HPW.out, HX.out, A', _, c', rfl, HZ.out.below HBQ.out, HB.out⟩
        · have hne : ((n3 : Int) == (i : Int)) = false := beq_eq_false_iff_ne.2 (by omega)
          have hge : i ≤ n3 := by
            have := nodup_le _ _ (HPW.out.imp fun h => by omega) HC.out.sub
            have := HML.out
            have := HZL.out
            omega
          go_wp2_with fail
          go_roundg (es.length + 1 - n3)
          case measure => omega
          case rel => exact ⟨A3, n3, c3, ms, hn3, Nat.le_refl _, rfl, HM, Lib.hid HC.out.pw, Lib.hid HC.out.re, Lib.hid fun y hy => HC.out.sub y (H0.out y hy), HT, HB⟩
end Go.Proofs.YthgnjojkncodeaaGreat
