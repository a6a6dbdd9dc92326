/-
  The closures of topo.May.
-/
import Derived.Test.YthgnjojkncodeaaGreatTpJ
namespace Go.Proofs.YthgnjojkncodeaaGreat
open Go.RowKit
set_option linter.unusedVariables false

def upB (nodes : Int) (up : List Bool) (x : Int) : Bool := withinB x 0 (nodes - 1) && up[x.toNat]?.getD false
def edgeBad (nodes : Int) (up : List Bool) (hops : List (List Ed)) (fl src : Int) (e : Ed) : Bool :=
  !upB nodes up e.1 || !upB nodes up e.2 || (e.1 == e.2) || (e.2 == src) || decide ((nextOf hops fl e.1).length > 8)
set_option maxHeartbeats 1000000 in
theorem up_calls (nodes : Int) (up : List Bool) (C P : Nat) (A : Option Addr) (nU cU : Nat) (x : Int) (w : World) (h1 : 1 ≤ nodes) (h2 : nodes ≤ 64) (hn : (nU : Int) = nodes) (hc : w.cell? ⟨C, 0, none⟩ = some (.int .i64 nodes))
    (hp : w.cell? ⟨P, 1, none⟩ = some (.slice A nU cU)) (hr : Rd El.bool w (fun _ => True) A nU up) :
    Calls Tryz.prog 54 #[.int .i64 x, .pointer (some ⟨C, 0, none⟩), .pointer (some ⟨P, 0, none⟩)] w fun e w' => e = .returned (.bool (upB nodes up x)) ∧ w = w' := by
  have hwi := within_any x 0 (nodes - 1) w
  obtain ⟨r, hrr⟩ : ∃ r, withinB x 0 (nodes - 1) = r := ⟨_, rfl⟩
  obtain ⟨rb, hrb⟩ : ∃ rb, upB nodes up x = rb := ⟨_, rfl⟩
  have hrb2 := hrb
  unfold upB at hrb2
  rw [hrr] at hrb2 hwi
  rw [hrb]
  have HRB := Lib.hid hrb2
  have HR := Lib.hid hrr
  clear hrb hrb2 hrr
  cases r with
  | false =>
    obtain rfl : rb = false := by rw [← HRB.out]; rfl
    clear hr hn
    go_enter Tryz.func54, Tryz.ntmps54
    go_wp2_with (go_at_call 52; (with_reducible refine hwi.mono ?_); rintro e w2 ⟨rfl, rfl⟩)
    go_ret
    exact ⟨rfl, rfl⟩
  | true =>
    have hx := withinB_iff.1 HR.out
    obtain ⟨v, rfl⟩ : ∃ v : Nat, x = (v : Int) := ⟨x.toNat, by omega⟩
    have hvn : (v : Int) < (nU : Int) := by omega
    have hv0 : (0 : Int) ≤ (v : Int) := by omega
    have hl := hr.len
    obtain ⟨b, o, vs, rfl, _, _, hV, hcl⟩ := hr.at_ v _ (List.getElem?_eq_getElem (by omega))
    have hVe : vs = [.bool up[v]] := hV
    subst hVe
    have k0 : w.cell? ⟨b, o + v, none⟩ = some (.bool up[v]) := by have := hcl 0 _ rfl; simpa [El.bool] using this
    have hrv : rb = up[v] := by
      rw [← HRB.out, Int.toNat_natCast, List.getElem?_eq_getElem (by omega)]; rfl
    rw [← hrv] at k0
    clear hr hn hl hcl hV hrv hx
    go_enter Tryz.func54, Tryz.ntmps54
    go_wp2_with (go_at_call 52; (with_reducible refine hwi.mono ?_); rintro e w2 ⟨rfl, rfl⟩)
    go_ret
    exact ⟨rfl, rfl⟩
set_option maxRecDepth 100000 in
set_option maxHeartbeats 4000000 in
theorem bad_gives (nodes : Int) (up : List Bool) (hops : List (List Ed)) (flows : List Flw) (fl : Nat) (f : Flw) (ep : Int) (U C F P : Nat) (AU : Option Addr) (nU cU : Nat) (B : Option Addr) (m d : Nat) (FA : Option Addr) (nF cF : Nat) (w : World)
    (h1 : 1 ≤ nodes) (h2 : nodes ≤ 64) (hn : (nU : Int) = nodes) (hf : Few hops) (hfl : flows[fl]? = some f)
    (hU : U < w.heap.size) (hCl : C < w.heap.size) (hFl : F < w.heap.size)
    (cU' : w.cell? ⟨U, 0, none⟩ = some (.func (.func 54) #[] #[.pointer (some ⟨C, 0, none⟩), .pointer (some ⟨P, 0, none⟩)]))
    (cC0 : w.cell? ⟨C, 0, none⟩ = some (.int .i64 nodes)) (cC1 : w.cell? ⟨C, 1, none⟩ = some (.slice FA nF cF)) (cF' : w.cell? ⟨F, 0, none⟩ = some (.int .i64 (fl : Int)))
    (hT : TBox w P AU nU cU B m d ep up hops) (hF : Rd elFl w (fun k => k < w.heap.size) FA nF flows) :
    GivesB 55 #[.pointer (some ⟨U, 0, none⟩), .pointer (some ⟨C, 0, none⟩), .pointer (some ⟨F, 0, none⟩), .pointer (some ⟨P, 0, none⟩)] (edgeBad nodes up hops fl f.2.2.1) w := fun W e hb => by
  obtain ⟨e1, e2⟩ := e
  obtain ⟨src, hsrc⟩ : ∃ src, f.2.2.1 = src := ⟨_, rfl⟩
  obtain ⟨W1, hW1⟩ : ∃ W1, W.alloc (.cells #[.int .i64 e1, .int .i64 e2] 77) = W1 := ⟨_, rfl⟩
  have hb1 : Below W.heap.size W W1 := by rw [← hW1]; exact (Below.refl _ _).alloc (Nat.le_refl _) _
  have hbb := belowThen hb hb.size hb1
  have s0 : W1.cell? ⟨W.heap.size, 0, none⟩ = some (.int .i64 e1) := by rw [← hW1]; simp
  have s1 : W1.cell? ⟨W.heap.size, 1, none⟩ = some (.int .i64 e2) := by rw [← hW1]; simp
  have gU := cellBelow hbb cU'
  have gC0 := cellBelow hbb cC0
  have gC1 := cellBelow hbb cC1
  have gF := cellBelow hbb cF'
  have hT1 := hT.below hbb
  obtain ⟨t0, t1, t2⟩ := hT1.cells
  obtain ⟨A', n', c', B', m', d', ee, hh1, hh2, hh3, hh4⟩ := hT1.tv
  injection ee with ee
  have e0 := congrArg Array.toList ee
  simp at e0
  obtain ⟨⟨rfl, rfl, rfl⟩, rfl, rfl, rfl⟩ := e0
  obtain ⟨bf, of_, vf, rfl, _, _, hVf, hclf⟩ := (hF.below hbb).at_ fl f hfl
  obtain ⟨A4, n4, c4, rfl, _, _, _, _, _⟩ := fl_open hVf
  have kf : W1.cell? ⟨bf, of_ + fl * 4 + 2, none⟩ = some (.int .i64 src) := by rw [← hsrc]; exact hclf 2 _ rfl
  have hflt : (fl : Int) < (nF : Int) := by have := (List.getElem?_eq_some_iff.1 hfl).1; have := hF.len; omega
  have hfl0 : (0 : Int) ≤ (fl : Int) := by omega
  have hup1 := fun q : Nat => up_calls nodes up C P AU nU cU e1 (W1.drewN q) h1 h2 hn (by rw [World.cell?_drewN]; exact gC0) (by rw [World.cell?_drewN]; exact t1) ((hh3.mono fun _ _ _ => trivial).below (belowDrewN (Below.refl _ _) q))
  have hup2 := fun q : Nat => up_calls nodes up C P AU nU cU e2 (W1.drewN q) h1 h2 hn (by rw [World.cell?_drewN]; exact gC0) (by rw [World.cell?_drewN]; exact t1) ((hh3.mono fun _ _ _ => trivial).below (belowDrewN (Below.refl _ _) q))
  obtain ⟨b1, hb1'⟩ : ∃ b1, upB nodes up e1 = b1 := ⟨_, rfl⟩
  obtain ⟨b2, hb2'⟩ : ∃ b2, upB nodes up e2 = b2 := ⟨_, rfl⟩
  obtain ⟨rb, hrb⟩ : ∃ rb, edgeBad nodes up hops fl f.2.2.1 (e1, e2) = rb := ⟨_, rfl⟩
  have hrb2 := hrb
  unfold edgeBad at hrb2
  simp only at hrb2
  rw [hb1', hb2', hsrc] at hrb2
  rw [hb1'] at hup1
  rw [hb2'] at hup2
  have hnx := fun q : Nat => (hT1.below (belowDrewN (Below.refl _ _) q)).next hf (fl : Int) e1 ⟨by omega, by have := hF.max; omega⟩
  rw [hrb]
  show Calls Tryz.prog 55 #[.agg #[.int .i64 e1, .int .i64 e2], .pointer (some ⟨U, 0, none⟩), .pointer (some ⟨C, 0, none⟩), .pointer (some ⟨F, 0, none⟩), .pointer (some ⟨P, 0, none⟩)] W _
  have HRB := Lib.hid hrb2
  have HW1 := Lib.hid hW1
  have HB1 := Lib.hid hb1
  have HNX := Lib.hid hnx
  have HT1 := Lib.hid hT1
  clear hrb hrb2 hW1 hb1 hnx hb1' hb2' hh3 hh4 hclf hVf hF hT hbb hb cU' cC0 cC1 cF' hn hT1 hf hfl hsrc
  cases b1 with
  | false =>
    obtain rfl : rb = true := by rw [← HRB.out]; rfl
    go_enter Tryz.func55, Tryz.ntmps55
    go_upto_region 1 with (fail)
    rw [HW1.out]
    go_quiet ((go_at_call 54; exact quietL (hup1 _)))
    go_wp2_with fail
    go_ret
    exact ⟨rfl, belowDrewN HB1.out _⟩
  | true =>
    cases b2 with
    | false =>
      obtain rfl : rb = true := by rw [← HRB.out]; rfl
      go_enter Tryz.func55, Tryz.ntmps55
      go_upto_region 1 with (fail)
      rw [HW1.out]
      go_quiet ((go_at_call 54; first | (with_reducible exact quietL (hup1 _)) | (with_reducible exact quietL (hup2 _))))
      go_wp2_with fail
      go_ret
      exact ⟨rfl, belowDrewN HB1.out _⟩
    | true =>
      cases hq : (e1 == e2) with
      | true =>
        obtain rfl : rb = true := by rw [← HRB.out, hq]; rfl
        go_enter Tryz.func55, Tryz.ntmps55
        go_upto_region 1 with (fail)
        rw [HW1.out]
        go_quiet ((go_at_call 54; first | (with_reducible exact quietL (hup1 _)) | (with_reducible exact quietL (hup2 _))))
        go_wp2_with fail
        go_ret
        exact ⟨rfl, belowDrewN HB1.out _⟩
      | false =>
        cases hs : (e2 == src) with
        | true =>
          obtain rfl : rb = true := by rw [← HRB.out, hq, hs]; rfl
          go_enter Tryz.func55, Tryz.ntmps55
          go_upto_region 1 with (fail)
          rw [HW1.out]
          go_quiet ((go_at_call 54; first | (with_reducible exact quietL (hup1 _)) | (with_reducible exact quietL (hup2 _))))
          go_wp2_with fail
          go_ret
          exact ⟨rfl, belowDrewN HB1.out _⟩
        | false =>
          have hnx1 := HNX.out 1
          obtain ⟨xs, hxs⟩ : ∃ xs, nextOf hops (fl : Int) e1 = xs := ⟨_, rfl⟩
          rw [hxs] at hnx1
          have hrbx := HRB.out
          rw [hq, hs, hxs] at hrbx
          have HRX := Lib.hid hrbx
          have hd1 : Calls Tryz.prog 54 #[.int .i64 e1, .pointer (some ⟨C, 0, none⟩), .pointer (some ⟨P, 0, none⟩)] W1.drew fun e w' => e = .returned (.bool true) ∧ W1.drew = w' := hup1 1
          have hd2 : Calls Tryz.prog 54 #[.int .i64 e2, .pointer (some ⟨C, 0, none⟩), .pointer (some ⟨P, 0, none⟩)] W1.drew fun e w' => e = .returned (.bool true) ∧ W1.drew = w' := hup2 1
          have hd3 : Calls Tryz.prog 56 #[.agg #[.int .u64 ep, .slice AU nU cU, .slice B m d], .int .i64 (fl : Int), .int .i64 e1] W1.drew (RetI W1.drew xs) := hnx1
          clear hup1 hup2 hnx1 hxs hrbx
          go_enter Tryz.func55, Tryz.ntmps55
          go_upto_region 1 with (fail)
          rw [HW1.out]
          go_region_held3 (fun w' => w'.cell? ⟨W.heap.size, 0, none⟩ = some (.int .i64 e1) ∧ w'.cell? ⟨W.heap.size, 1, none⟩ = some (.int .i64 e2) ∧ w'.cell? ⟨U, 0, none⟩ = some (.func (.func 54) #[] #[.pointer (some ⟨C, 0, none⟩), .pointer (some ⟨P, 0, none⟩)]) ∧ w'.cell? ⟨C, 1, none⟩ = some (.slice (some ⟨bf, of_, none⟩) nF cF) ∧ w'.cell? ⟨F, 0, none⟩ = some (.int .i64 (fl : Int)) ∧ w'.cell? ⟨bf, of_ + fl * 4 + 2, none⟩ = some (.int .i64 src) ∧ w'.cell? ⟨P, 0, none⟩ = some (.int .u64 ep) ∧ w'.cell? ⟨P, 1, none⟩ = some (.slice AU nU cU) ∧ w'.cell? ⟨P, 2, none⟩ = some (.slice B m d))
            (first | exact ⟨s0, s1, gU, gC1, gF, kf, t0, t1, t2⟩ | exact ⟨cellBelow B5.out s0, cellBelow B5.out s1, cellBelow B5.out gU, cellBelow B5.out gC1, cellBelow B5.out gF, cellBelow B5.out kf, cellBelow B5.out t0, cellBelow B5.out t1, cellBelow B5.out t2⟩)
            (first
            | (go_at_call 54; (with_reducible refine hd1.mono ?_); rintro e wq ⟨rfl, rfl⟩)
            | (go_at_call 54; (with_reducible refine hd2.mono ?_); rintro e wq ⟨rfl, rfl⟩)
            | (go_at_call 56; (with_reducible refine hd3.mono ?_); rintro e w5 ⟨v5, rfl, hO5, b5⟩; obtain ⟨A5, c5, rfl, _, _, _, _⟩ := hO5.rd; have B5 := Lib.hid (stepB1 b5); clear hO5 b5))
          clear hd1 hd2 hd3
          go_wp2_with fail
          go_ret
          exact ⟨ret_bool (by rw [← HRX.out]; simp; omega), belowThen HB1.out HB1.out.size B5.out⟩
end Go.Proofs.YthgnjojkncodeaaGreat
