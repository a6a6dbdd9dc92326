/-
  TopoKnown: the closure that copies a configuration, has it changed, and asks of it.
-/
import Derived.Test.YtgfnlfkbbedkaaaTpKa
import Derived.Test.YtgfnlfkbbedkaaaTpB
import Derived.Deep.RegionHeld3
namespace Go.Proofs.Ytgfnlfkbbedkaaa
open Go.RowKit
set_option linter.unusedVariables false
set_option linter.unusedSimpArgs false

theorem info_fl : (Try.prog.info? 46).map (fun i => (i.zero, i.size, i.bytes)) = some (some (.agg #[.int .i64 0, .int .i64 0, .int .i64 0, .slice none 0 0]), 4, 48) := by kernel_rfl
theorem CW.rd {w : World} {P F S cF cS : Nat} (h : CW w P F S cF cS) : Rd elFl w (fun k => k < w.heap.size) (some ⟨F, 0, none⟩) 1 [(1, 5, 0, [3, 4])] :=
  flow_rd h.lt.2.1 h.f.1 h.f.2.1 h.f.2.2.1 h.f.2.2.2 (by decide) (by decide) (by decide) h.cap.2 (two_rd h.lt.2.2 h.s.1 h.s.2 (by decide) (by decide))
theorem CW.below {w w' : World} {P F S cF cS : Nat} (h : CW w P F S cF cS) (hb : Below w.heap.size w w') : CW w' P F S cF cS :=
  have s := hb.size
  ⟨⟨by have := h.lt.1; omega, by have := h.lt.2.1; omega, by have := h.lt.2.2; omega⟩, h.ne, h.cap, ⟨cellBelow hb h.p.1, cellBelow hb h.p.2.1, cellBelow hb h.p.2.2.1, cellBelow hb h.p.2.2.2⟩,
    ⟨cellBelow hb h.f.1, cellBelow hb h.f.2.1, cellBelow hb h.f.2.2.1, cellBelow hb h.f.2.2.2⟩, ⟨cellBelow hb h.s.1, cellBelow hb h.s.2⟩,
    ⟨fun i => (hb.frozen (p := ⟨P, i, none⟩) h.lt.1).trans (h.fr.1 i), fun i => (hb.frozen (p := ⟨F, i, none⟩) h.lt.2.1).trans (h.fr.2.1 i), fun i => (hb.frozen (p := ⟨S, i, none⟩) h.lt.2.2).trans (h.fr.2.2 i)⟩⟩
/-- The copy's flows. -/
theorem copy_flows {w w1 : World} {P F S cF cS : Nat} (h : CW w P F S cF cS) (hw1 : w.alloc (.cells #[.int .i64 5, .slice (some ⟨F, 0, none⟩) 1 cF, .int .i64 1, .int .i64 1] 49) = w1) :
    ∃ g cap w2, 1 ≤ cap ∧ (Builtin.append_ #[47, 47] 47 #[.slice none 0 0, .slice (some ⟨F, 0, none⟩) 1 cF]).run Try.prog w1 = .ok (.slice (some ⟨g, 0, none⟩) 1 cap) w2 ∧ Below w1.heap.size w1 w2 ∧ g = w1.heap.size ∧ g < w2.heap.size ∧
      (w2.cell? ⟨g, 0, none⟩ = some (.int .i64 1) ∧ w2.cell? ⟨g, 1, none⟩ = some (.int .i64 5) ∧ w2.cell? ⟨g, 2, none⟩ = some (.int .i64 0) ∧ ∃ v, w2.cell? ⟨g, 3, none⟩ = some v) ∧ ∀ i, w2.frozen? ⟨g, i, none⟩ = false := by
  obtain ⟨i0, hi0, hzz⟩ := Option.map_eq_some_iff.1 info_fl
  simp only [Prod.mk.injEq] at hzz
  obtain ⟨hz0, hz1, hz2⟩ := hzz
  have b1 : Below w.heap.size w w1 := by rw [← hw1]; exact (Below.refl _ _).alloc (Nat.le_refl _) _
  have hrd := (h.below b1).rd
  obtain ⟨v1, w2, hrun, ho, hg, hv⟩ := Own.apps (E := elFl) (P := Try.prog) 47 47 i0 _ 48 Try.underlying47 hi0 hz0 hz1 hz2 rfl (by decide) (Own.nil elFl 46 w1 (fun k => k < w1.heap.size)) hrd
    (fun q hq _ => ⟨hq, by simp [Value.ownBlock]⟩) (by unfold maxLen; simp) (by simp) cF
  obtain ⟨g, cap, vs, rfl, hS, hgl, hcap, hV, hcl, hfr⟩ := ho.at_ 0 _ rfl
  obtain ⟨A, n, c, rfl, _, _, _, _, _⟩ := fl_open hV
  have hgg : g = w1.heap.size := by
    rcases hv with e | e
    · simp [Value.ownBlock] at e
    · exact Option.some.inj e
  refine ⟨g, cap, w2, hcap, hrun, (Below.refl _ _).grown hg (Nat.le_refl _) (fun k hk => by simp [Value.ownBlock] at hk), hgg, hgl, ⟨?_, ?_, ?_, .slice A n c, ?_⟩, hfr⟩
  · simpa using hcl 0 _ rfl
  · simpa using hcl 1 _ rfl
  · simpa using hcl 2 _ rfl
  · simpa using hcl 3 _ rfl
theorem copy_sinks {w1 : World} {S cS : Nat} (hS : S < w1.heap.size) (h0 : w1.cell? ⟨S, 0, none⟩ = some (.int .i64 3)) (h1 : w1.cell? ⟨S, 1, none⟩ = some (.int .i64 4)) :
    ∃ g cap w2, 2 ≤ cap ∧ (Builtin.append_ #[29, 29] 29 #[.slice none 0 0, .slice (some ⟨S, 0, none⟩) 2 cS]).run Try.prog w1 = .ok (.slice (some ⟨g, 0, none⟩) 2 cap) w2 ∧ Below w1.heap.size w1 w2 ∧ g = w1.heap.size ∧ g < w2.heap.size ∧
      (w2.cell? ⟨g, 0, none⟩ = some (.int .i64 3) ∧ w2.cell? ⟨g, 1, none⟩ = some (.int .i64 4)) ∧ ∀ i, w2.frozen? ⟨g, i, none⟩ = false := by
  obtain ⟨i0, hi0, hzz⟩ := Option.map_eq_some_iff.1 info_int
  simp only [Prod.mk.injEq] at hzz
  obtain ⟨hz0, hz1, hz2⟩ := hzz
  have hrd := two_rd hS h0 h1 (by decide) (by decide)
  obtain ⟨v1, w2, hrun, ho, hg, hv⟩ := Own.apps (E := El.int) (P := Try.prog) 29 29 i0 _ 8 Try.underlying29 hi0 hz0 hz1 hz2 rfl (by decide) (Own.nil El.int 3 w1 (fun k => k < w1.heap.size)) hrd
    (fun q hq _ => ⟨hq, by simp [Value.ownBlock]⟩) (by unfold maxLen; simp) (by simp) cS
  have ho' := ho
  obtain ⟨g, cap, vs, rfl, hS, hgl, hcap, hV, hcl, hfr⟩ := ho.at_ 0 _ rfl
  obtain ⟨g2, cap2, vs2, e2, _, _, _, hV2, hcl2, _⟩ := ho'.at_ 1 _ rfl
  obtain ⟨rfl, _⟩ := hV
  obtain ⟨rfl, _⟩ := hV2
  injection e2 with e3 e4 e5
  have e6 := Option.some.inj e3
  injection e6 with e7
  subst e7
  have hgg : g = w1.heap.size := by
    rcases hv with e | e
    · simp [Value.ownBlock] at e
    · exact Option.some.inj e
  refine ⟨g, cap, w2, hcap, hrun, (Below.refl _ _).grown hg (Nat.le_refl _) (fun k hk => by simp [Value.ownBlock] at hk), hgg, hgl, ⟨?_, ?_⟩, hfr⟩
  · simpa using hcl 0 _ rfl
  · exact hcl2 0 _ rfl
set_option maxHeartbeats 4000000 in
theorem change_calls (w : World) (P F S cF cS : Nat) (h : CW w P F S cF cS) (g : Nat) (nodes : Int) (flows : List Flw) (win que : Int) (hd : Does g nodes flows win que) (eg : ∀ args w, (callFunc g args).run Try.prog w = .ok (.enter g args) w)
    (hin : inI nodes ∧ inI win ∧ inI que) (r : Bool) (hr : configOk nodes flows win que = r) :
    Calls Try.prog 22 #[.func (.func g) #[] #[], .pointer (some ⟨P, 0, none⟩)] w fun e w' => e = .returned (.bool r) ∧ Below w.heap.size w w' := by
  obtain ⟨p0, p1, p2, p3⟩ := h.p
  have hPl := h.lt.1
  go_enter Try.func22, Try.ntmps22
  go_upto_region 2 with (fail)
  obtain ⟨w1, hw1⟩ : ∃ w1, w.alloc (.cells #[.int .i64 5, .slice (some ⟨F, 0, none⟩) 1 cF, .int .i64 1, .int .i64 1] 49) = w1 := ⟨_, rfl⟩
  rw [hw1]
  have b1 : Below w.heap.size w w1 := by rw [← hw1]; exact (Below.refl _ _).alloc (Nat.le_refl _) _
  have s1 : w1.heap.size = w.heap.size + 1 := by rw [← hw1]; simp
  have e1 : w1.heap[w.heap.size]? = some (.cells #[.int .i64 5, .slice (some ⟨F, 0, none⟩) 1 cF, .int .i64 1, .int .i64 1] 49 (0, 0)) := by rw [← hw1]; exact heap_alloc_new w _
  obtain ⟨g2, cap, w2, hcap, hrun, b2, hg2, hgl, ⟨f0, f1, f2, vF, f3⟩, hfr⟩ := copy_flows h hw1
  obtain ⟨P2, hP2⟩ : ∃ P2, w.heap.size = P2 := ⟨_, rfl⟩
  rw [hP2] at e1
  have s2 := b2.size
  have e2 : w2.heap[P2]? = some (.cells #[.int .i64 5, .slice (some ⟨F, 0, none⟩) 1 cF, .int .i64 1, .int .i64 1] 49 (0, 0)) := (b2.block _ (by omega)).trans e1
  obtain ⟨w3, hw3⟩ : ∃ w3, w2.setCell ⟨P2, 1, none⟩ (.slice (some ⟨g2, 0, none⟩) 1 cap) = w3 := ⟨_, rfl⟩
  have c3 : Chg (fun k => k = P2) w2 w3 := by rw [← hw3]; exact Chg.set w2 ⟨P2, 1, none⟩ _
  have e3 : w3.heap[P2]? = some (.cells #[.int .i64 5, .slice (some ⟨g2, 0, none⟩) 1 cap, .int .i64 1, .int .i64 1] 49 (0, 0)) := by rw [← hw3]; simp [World.setCell, Array.getElem?_modify, e2]
  have s3 : w3.heap.size = w2.heap.size := by rw [← hw3]; simp [World.setCell]
  have b13 : Below w.heap.size w w3 := c3.below (belowThen b1 b1.size b2) (by omega) fun k hk => by omega
  have h3 := h.below b13
  obtain ⟨g4, cap4, w4, hcap4, hrun4, b4, hg4, hgl4, ⟨t0, t1⟩, hfr4⟩ := copy_sinks (cS := cS) (w1 := w3.drew) h3.lt.2.2 h3.s.1 h3.s.2
  have b4' : Below w3.heap.size w3 w4 := (Below.refl _ _).drew.trans b4
  have q1 : w1.cell? ⟨P, 1, none⟩ = some (.slice (some ⟨F, 0, none⟩) 1 cF) := cellBelow b1 h.p.2.1
  have k1 : w2.cell? ⟨P2, 1, none⟩ = some (.slice (some ⟨F, 0, none⟩) 1 cF) := by simp [World.cell?, e2]
  have z1 : w2.frozen? ⟨P2, 1, none⟩ = false := by simp [World.frozen?, e2]
  have HRUN := Lib.hid hrun
  have HRUN4 := Lib.hid hrun4
  have HW3 := Lib.hid hw3
  have E3 := Lib.hid e3
  have HP2 := Lib.hid hP2
  have H3 := Lib.hid h3
  have HG2 := Lib.hid hg2
  have HG4 := Lib.hid hg4
  have S3 := Lib.hid s3
  have S1 := Lib.hid s1
  have HFR := Lib.hid hfr
  have HFR4 := Lib.hid hfr4
  have H := Lib.hid h
  have C3 := Lib.hid c3
  have F0123 := Lib.hid (And.intro f0 (And.intro f1 (And.intro f2 f3)))
  have T01 := Lib.hid (And.intro t0 t1)
  rw [hP2]
  clear hw1 hrun hrun4 hw3 e1 e2 e3 hP2 h3 hg2 hg4 s3 s1 hfr hfr4 h p0 p1 p2 p3 c3 f0 f1 f2 f3 t0 t1
  go_upto_region 3 with (at_builtin; refine wpList_app_run rfl (.const (.slice none 0 0)) (.tmp 7) 47 47 rfl rfl rfl HRUN.out ?_)
  rw [HW3.out]
  have hP2 := HP2.out
  have u1 : w3.cell? ⟨P2, 1, none⟩ = some (.slice (some ⟨g2, 0, none⟩) 1 cap) := by simp [World.cell?, E3.out]
  have u2 : w3.cell? ⟨P, 1, none⟩ = some (.slice (some ⟨F, 0, none⟩) 1 cF) := H3.out.p.2.1
  have u3 : w3.cell? ⟨F, 3, none⟩ = some (.slice (some ⟨S, 0, none⟩) 2 cS) := H3.out.f.2.2.2
  have hg2' := HG2.out
  have hs1' := S1.out
  have hs3' := S3.out
  have v1 : w4.cell? ⟨P2, 1, none⟩ = some (.slice (some ⟨g2, 0, none⟩) 1 cap) := (b4'.cell (p := ⟨P2, 1, none⟩) (by show P2 < _; omega)).trans u1
  have v2 : w4.cell? ⟨P, 1, none⟩ = some (.slice (some ⟨F, 0, none⟩) 1 cF) := (b4'.cell (p := ⟨P, 1, none⟩) H3.out.lt.1).trans u2
  have v3 : w4.cell? ⟨F, 3, none⟩ = some (.slice (some ⟨S, 0, none⟩) 2 cS) := (b4'.cell (p := ⟨F, 3, none⟩) H3.out.lt.2.1).trans u3
  have hne : ¬ g2 = P2 := by omega
  have v4 : w4.cell? ⟨g2, 3, none⟩ = some vF := (b4'.cell (p := ⟨g2, 3, none⟩) (by show g2 < _; omega)).trans (C3.out.cell F0123.out.2.2.2 hne)
  have v5 : w4.frozen? ⟨g2, 3, none⟩ = false := by
    rw [b4'.frozen (p := ⟨g2, 3, none⟩) (by show g2 < _; omega), ← HW3.out, World.frozen?_setCell]; exact HFR.out 3
  have m1 : (w4.setCell ⟨g2, 3, none⟩ (.slice (some ⟨g4, 0, none⟩) 2 cap4)).cell? ⟨P2, 1, none⟩ = some (.slice (some ⟨g2, 0, none⟩) 1 cap) := cell_far v1 (.inr (by decide))
  have hPg : ¬ g2 = P := by have := H.out.lt.1; omega
  have hFg : ¬ g2 = F := by have := H.out.lt.2.1; omega
  have m2 : (w4.setCell ⟨g2, 3, none⟩ (.slice (some ⟨g4, 0, none⟩) 2 cap4)).cell? ⟨P, 1, none⟩ = some (.slice (some ⟨F, 0, none⟩) 1 cF) := cell_far v2 (.inl hPg)
  have m3 : (w4.setCell ⟨g2, 3, none⟩ (.slice (some ⟨g4, 0, none⟩) 2 cap4)).cell? ⟨F, 3, none⟩ = some (.slice (some ⟨S, 0, none⟩) 2 cS) := cell_far v3 (.inl hFg)
  clear hP2 hg2' hs1' hs3' q1 k1 z1
  go_region_held3 (fun w' => w'.cell? ⟨P2, 1, none⟩ = some (.slice (some ⟨g2, 0, none⟩) 1 cap) ∧ w'.cell? ⟨P, 1, none⟩ = some (.slice (some ⟨F, 0, none⟩) 1 cF) ∧ w'.cell? ⟨F, 3, none⟩ = some (.slice (some ⟨S, 0, none⟩) 2 cS))
    (first | exact ⟨u1, u2, u3⟩ | exact ⟨v1, v2, v3⟩ | exact ⟨m1, m2, m3⟩)
    (refine stepRunL (by rfl) _ _ 29 (by rfl) (.slice none 0 0) (.slice (some ⟨S, 0, none⟩) 2 cS) (.slice (some ⟨g4, 0, none⟩) 2 cap4) (by go_simp) (by go_simp) HRUN4.out ?_)
  all_goals
    obtain ⟨w5, hw5⟩ : ∃ w5, w4.setCell ⟨g2, 3, none⟩ (.slice (some ⟨g4, 0, none⟩) 2 cap4) = w5 := ⟨_, rfl⟩
    rw [hw5]
    have hP2 := HP2.out
    have hg2' := HG2.out
    have hg4' := HG4.out
    have hs1' := S1.out
    have hs3' := S3.out
    have hs4 := b4'.size
    have hs5 : w5.heap.size = w4.heap.size := by rw [← hw5]; simp [World.setCell]
    have c5 : Chg (fun k => k = g2) w4 w5 := by rw [← hw5]; exact Chg.set w4 ⟨g2, 3, none⟩ _
    have e5 : w5.heap[P2]? = some (.cells #[.int .i64 5, .slice (some ⟨g2, 0, none⟩) 1 cap, .int .i64 1, .int .i64 1] 49 (0, 0)) :=
      (c5.block P2 (by omega) (by omega)).trans ((b4'.block P2 (by omega)).trans E3.out)
    have n24 : ¬ g2 = g4 := by show ¬ g2 = g4; have : w3.drew.heap.size = w3.heap.size := rfl; omega
    have hF : ∀ j v, w2.cell? ⟨g2, j, none⟩ = some v → w4.cell? ⟨g2, j, none⟩ = some v := fun j v hh => (b4'.cell (p := ⟨g2, j, none⟩) (by show g2 < _; omega)).trans (C3.out.cell hh hne)
    have h5 : CW w5 P2 g2 g4 cap cap4 := by
      refine ⟨⟨by omega, by omega, by omega⟩, ⟨by omega, by have : w3.drew.heap.size = w3.heap.size := rfl; omega, n24⟩, ⟨hcap, hcap4⟩, ⟨by simp [World.cell?, e5], by simp [World.cell?, e5], by simp [World.cell?, e5], by simp [World.cell?, e5]⟩, ⟨?_, ?_, ?_, ?_⟩, ⟨?_, ?_⟩, ⟨fun i => by simp [World.frozen?, e5], fun i => ?_, fun i => ?_⟩⟩
      · rw [← hw5]; exact cell_far (hF _ _ F0123.out.1) (.inr (by decide))
      · rw [← hw5]; exact cell_far (hF _ _ F0123.out.2.1) (.inr (by decide))
      · rw [← hw5]; exact cell_far (hF _ _ F0123.out.2.2.1) (.inr (by decide))
      · rw [← hw5]; exact World.cell?_setCell_same _ _ _ v4
      · rw [← hw5]; exact cell_far T01.out.1 (.inl n24)
      · rw [← hw5]; exact cell_far T01.out.2 (.inl n24)
      · rw [← hw5, World.frozen?_setCell, b4'.frozen (p := ⟨g2, i, none⟩) (by show g2 < _; omega), ← HW3.out, World.frozen?_setCell]; exact HFR.out i
      · rw [← hw5, World.frozen?_setCell]; exact HFR4.out i
    have b05 : Below w.heap.size w w5 := c5.below (belowThen b13 b13.size b4') (by omega) fun k hk => by omega
    have B05 := Lib.hid b05
    have hcall := hd w5 P2 g2 g4 cap cap4 h5
    have hlt : w.heap.size ≤ P2 ∧ w.heap.size ≤ g2 ∧ w.heap.size ≤ g4 := ⟨by omega, by omega, by have : w3.drew.heap.size = w3.heap.size := rfl; omega⟩
    have HLT := Lib.hid hlt
    clear hw5 hP2 hg2' hg4' hs1' hs3' hs4 hs5 c5 e5 n24 hF h5 b05 hlt v1 v2 v3 v4 v5 m1 m2 m3 u1 u2 u3 hd hne hPg hFg b1 b13 b2 b4 b4' s2
    go_upto_region 5 with (go_at_fn g; refine hcall.mono ?_; rintro e w6 ⟨rfl, c6, A, n, c, ⟨x0, x1, x2, x3⟩, hnc, hrd⟩)
    have hcf := config_calls w6 _ nodes flows win que ⟨A, n, c, rfl, hnc, hin.1, hin.2.1, hin.2.2, hrd⟩
    rw [hr] at hcf
    have C6 := Lib.hid c6
    clear c6 hrd hr
    go_wp2_with (go_at_call 19; refine hcf.mono ?_; rintro e w7 ⟨rfl, b7⟩)
    go_ret
    exact ⟨rfl, belowThen (C6.out.below B05.out B05.out.size fun k hk => by have := HLT.out; omega) (by have := B05.out.size; have := C6.out.size; omega) b7⟩
end Go.Proofs.Ytgfnlfkbbedkaaa
