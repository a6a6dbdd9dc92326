/-
  The document's net: Deliver, Corrupt.
-/
import Derived.Test.YtmkmbnfmmibifaaNetE
namespace Go.Proofs.Ytmkmbnfmmibifaa
open Go.RowKit

/-- The document's net with another row, whose new blocks are told. -/
theorem refPutQ {w w' : World} {S Q : Nat → Prop} {P : Nat} {N : Int} {v v' : Value} {L L' : List Par} (h : QNet w S P N v L) (hb : Below w.heap.size w w') (hQ : ∀ k, Q k → New w w' k) (ho : Own elPar TR w' (fun k => (S k ∧ k ≠ P) ∨ Q k) v' L') :
    QNet (w'.setCell ⟨P, 1, none⟩ v') (fun k => ((S k ∧ k ≠ P) ∨ Q k) ∨ k = P) P N v' L' ∧ Chg (fun k => k = P) w (w'.setCell ⟨P, 1, none⟩ v') :=
  ⟨h.put (Chg.ofBelow hb) ho (fun k hk => hk.imp_right (hQ k)), (Chg.ofBelow hb).trans (Chg.set w' ⟨P, 1, none⟩ v') fun _ _ h => h⟩
/-- A store into other blocks behind it. -/
theorem refPutQ.ret {w w1 w' : World} {S Q : Nat → Prop} {P : Nat} {N : Int} {v' : Value} {L' : List Par} {D : Nat → Prop} (h : QNet w1 (fun k => ((S k ∧ k ≠ P) ∨ Q k) ∨ k = P) P N v' L') (hc : Chg (fun k => k = P) w w1) (hsp : S P) (hQ : ∀ k, Q k → w.heap.size ≤ k)
    (hd : Chg D w1 w') (hD : ∀ k, D k → w.heap.size ≤ k ∧ ¬ Q k) (hlt : ∀ k, S k → k < w.heap.size) : RetRef w S P N L' w' := by
  refine ⟨_, v', h.chg hd fun k hk hd => ?_, hc.trans hd fun k hl hk => by have := (hD k hk).1; omega, fun k hk => ?_, fun k hk => ?_⟩
  · obtain ⟨h1, h2⟩ := hD k hd
    rcases hk with (hk | hk) | hk
    · have := hlt k hk.1; omega
    · exact h2 hk
    · have := hlt P hsp; omega
  · rcases hk with (hk | hk) | rfl
    · exact .inl hk.1
    · exact .inr (hQ k hk)
    · exact .inl hsp
  · by_cases e : k = P
    · exact .inr e
    · exact .inl (.inl ⟨hk, e⟩)
theorem hsz4 : ∀ W : World, (sizeOf (Try.prog.elem 56)).run Try.prog W = .ok elPar.k W := fun _ => rfl
set_option maxRecDepth 100000 in
set_option maxHeartbeats 3200000 in
theorem rDeliver_calls (w : World) (S : Nat → Prop) (P : Nat) (N : Int) (v : Value) (L : List Par) (h : QNet w S P N v L) (hm : L.length ≤ 4096) (i : Nat) (p : Par) (hp : L[i]? = some p) :
    Calls Try.prog 19 #[.pointer (some ⟨P, 0, none⟩), .int .i64 (i : Int)] w (RetRDel w S P N p 0 (L.eraseIdx i)) := by
  obtain ⟨wS, hwS⟩ : ∃ wS, w.alloc (.cells #[.int .i64 0, .int .i64 0, .slice none 0 0, .bool false] TR) = wS := ⟨_, rfl⟩
  have hbS : Below w.heap.size w wS := by rw [← hwS]; exact allocBelow' _ _
  have hbox : BoxT TR wS w.heap.size 0 0 (.slice none 0 0) false := by rw [← hwS]; exact BoxT.made w 0 0 _ _
  have hcall := rAt_calls wS S P N v L (h.below hbS) i p hp
  have hi : i < L.length := (List.getElem?_eq_some_iff.1 hp).1
  obtain ⟨Av, cv, rfl, hcv⟩ := h.form
  obtain ⟨AL, cL, eL, hcL, hLr⟩ := h.own.rd (by omega)
  injection eL with eL _ eL2
  subst eL
  subst eL2
  obtain ⟨B1, hB1, hR1⟩ := cutToR elPar 56 (P := Try.prog) (by kernel_rfl) hsz4 Av L.length cv i (by omega) hcv
  obtain ⟨B2, hB2, hR2⟩ := cutFromR elPar 56 (P := Try.prog) (by kernel_rfl) hsz4 Av L.length cv (i + 1) (by omega) hcv
  have hB1' := hB1 .i64
  have hB2' := hB2 .i64
  rw [Int.natCast_add] at hB2'
  have hi1 : ((1 : Nat) : Int) = 1 := rfl
  rw [hi1] at hB2'
  have hwr : IntKind.i64.wrap ((i : Int) + 1) = (i : Int) + 1 := IntWalk.i64_in _ ⟨by omega, by omega⟩
  have hlt := h.lt
  obtain ⟨i0, hi0, hzz⟩ := Option.map_eq_some_iff.1 info_rpar
  simp only [Prod.mk.injEq] at hzz
  obtain ⟨hz0, hz1, hz2⟩ := hzz
  have htl : (L.take i).length = i := by rw [List.length_take]; omega
  have hm0 : ([] : List Par).length + i ≤ maxLen := by unfold maxLen; simp; omega
  have hb0 : (([] : List Par).length + i) * 48 ≤ 140737488355328 := by simp; omega
  have hm1 : (L.take i).length + (L.length - (i + 1)) ≤ maxLen := by unfold maxLen; omega
  have hb1' : ((L.take i).length + (L.length - (i + 1))) * 48 ≤ 140737488355328 := by omega
  have her : L.eraseIdx i = L.take i ++ L.drop (i + 1) := List.eraseIdx_eq_take_drop_succ L i
  have HER := Lib.hid her
  have HWS := Lib.hid hwS
  clear hwS her hB1 hB2 htl hi1
  go_enter Try.func19, Try.ntmps19
  go_wp2_with fail
  rw [HWS.out]
  refine hcall.mono ?_
  rintro e w1 ⟨A, n, c, rfl, hnc, hrd, hb1⟩
  obtain ⟨w2, hw2⟩ : ∃ w2, w1.alloc (.cells #[.int .i64 p.1, .int .i64 p.2.1, .slice A n c, .bool p.2.2.2] TR) = w2 := ⟨_, rfl⟩
  have hb2 : Below w1.heap.size w1 w2 := by rw [← hw2]; exact allocBelow' _ _
  have hb3 := stepBelow hb1 hb2
  have hbx := (hbox.below hb3)
  have hbw := stepBelow hbS hb3
  have hbox6 : BoxT TR w2 w1.heap.size p.1 p.2.1 (.slice A n c) p.2.2.2 := by rw [← hw2]; exact BoxT.made w1 _ _ _ _
  have hrd2 := hrd.below hb2
  have hz1w := hb1.size
  have hzSw := hbS.size
  have HW2 := Lib.hid hw2
  clear hw2 hrd
  go_upto_region 2 with (fail)
  rw [HW2.out]
  have c1 := (h.below hbw).c1
  have hN1 := Own.nil elPar TR w2 (fun k => S k ∧ k ≠ P)
  have hRa := hR1 _ _ _ (hLr.below hbw)
  go_wp2_with (first
    | (at_builtin; refine Own.lists (E := elPar) rfl _ _ 56 rfl i0 _ 48 Try.underlying56 hi0 hz0 hz1 hz2 rfl (by decide) (.slice none 0 0) rfl hN1 B1 i cv rfl hRa (fun q _ hq => ⟨hq, by simp [Value.ownBlock]⟩) hm0 hb0 ?_; intro v3 w3 ho3 hg3 h53;
        have hbw3 : Below w.heap.size w w3 := hbw.grown hg3 hbw.size (fun k hk => by simp [Value.ownBlock] at hk);
        have hb23 : Below w2.heap.size w2 w3 := (Below.refl _ _).grown hg3 (Nat.le_refl _) (fun k hk => by simp [Value.ownBlock] at hk);
        have hv3 : ∀ k, v3.ownBlock = some k → w2.heap.size ≤ k := (fun k hk => by
          rcases h53 with h53 | h53
          · rw [hk] at h53; simp [Value.ownBlock] at h53
          · rw [hk] at h53; injection h53 with h53; omega);
        have c13 := (h.below hbw3).c1;
        have hRb := hR2 _ _ _ (hLr.below hbw3);
        have hO3 : Own elPar TR w3 (fun k => (S k ∧ k ≠ P) ∨ New w2 w3 k) v3 (L.take i) := ho3.mono (fun k hl hk => hk.imp_right fun e => ⟨by omega, hl⟩))
    | (at_builtin; refine Own.lists (E := elPar) rfl _ _ 56 rfl i0 _ 48 Try.underlying56 hi0 hz0 hz1 hz2 rfl (by decide) v3 rfl hO3 B2 (L.length - (i + 1)) (cv - (i + 1)) rfl hRb (fun q hl hq => ⟨.inl hq, fun e => by have h1 := hv3 q e.symm; have h2 := hlt q hq.1; have := hbw.size; omega⟩) hm1 hb1' ?_; intro v4 w4 ho4 hg4 h54;
        obtain ⟨A4, n4, cc4, rfl, -, -⟩ := ho4.shape;
        have hb24 : Below w2.heap.size w2 w4 := hb23.grown hg4 hb23.size (fun k hk => hv3 k hk);
        have hbw4 := stepBelow hbw hb24;
        have h4 := h.below hbw4;
        have c14 := h4.c1;
        have f14 := h4.fr;
        have hB4 := (hbx.below hb24).chg (Chg.set w4 ⟨P, 1, none⟩ (.slice A4 n4 cc4)) (fun e => by have e' : w.heap.size = P := e; have h1 := hlt P h.sp; omega);
        have hB6 := (hbox6.below hb24).chg (Chg.set w4 ⟨P, 1, none⟩ (.slice A4 n4 cc4)) (fun e => by have e' : w1.heap.size = P := e; have h1 := hlt P h.sp; omega);
        obtain ⟨x0, x1, x2, x3, fx⟩ := hB4.cells;
        obtain ⟨y0, y1, y2, y3, fy⟩ := hB6.cells))
  have ho5 : Own elPar TR w4 (fun k => (S k ∧ k ≠ P) ∨ New w2 w4 k) (.slice A4 n4 cc4) (L.eraseIdx i) := by
    rw [HER.out]
    refine ho4.mono fun k hl hk => ?_
    rcases hk with (hk | hk) | hk
    · exact .inl hk
    · exact .inr ⟨hk.1, hl⟩
    · exact .inr ⟨by rw [hk]; exact hb23.size, hl⟩
  have hw2w := hbw.size
  obtain ⟨hq, hcq⟩ := refPutQ h hbw4 (fun k hk => ⟨by have := hk.1; omega, hk.2⟩) ho5
  have hzw2 : w.heap.size < w2.heap.size := hbx.lt
  have hcb := chgBox (w4.setCell ⟨P, 1, none⟩ (.slice A4 n4 cc4)) w.heap.size (.int .i64 p.1) (.int .i64 p.2.1) (.slice A n c) (.bool p.2.2.2)
  have hres := refPutQ.ret hq hcq h.sp (fun k hk => by have := hk.1; omega) hcb (fun k hk => ⟨by omega, fun hh => by have := hh.1; omega⟩) hlt
  have hrdF := ((hrd2.below hb24).keep (Chg.set w4 ⟨P, 1, none⟩ (.slice A4 n4 cc4)).size fun k hk hl => (Chg.set w4 ⟨P, 1, none⟩ (.slice A4 n4 cc4)).block k hl hk.2).keep hcb.size fun k hk hl => hcb.block k hl (fun e => by have h1 := hlt k hk.1; omega)
  exact bodyPost_ret (v := .tuple #[.agg #[.int .i64 p.1, .int .i64 p.2.1, .slice A n c, .bool p.2.2.2], .int .i64 0]) (by simp [results, Try.results19, go_sem, x0, x1, x2, x3, fx]) rfl ⟨A, n, c, rfl, hnc, hrdF, hres⟩
end Go.Proofs.Ytmkmbnfmmibifaa
