/-
  The document's net: New, add, Send, is, At, Double.
-/
import Derived.Test.YtmkmbnfmmibifaaNetB
import Derived.Test.YtmkmbnfmmibifaaSt2
namespace Go.Proofs.Ytmkmbnfmmibifaa
open Go.RowKit

abbrev TQ : TypeId := 58
abbrev TR : TypeId := 47
abbrev QNet (w : World) (S : Nat → Prop) (P : Nat) (N : Int) (v : Value) (L : List Par) : Prop := NetAt TQ TR w S P N v L
theorem info_rpar : (Try.prog.info? 47).map (fun i => (i.zero, i.size, i.bytes)) = some (some (.agg #[.int .i64 0, .int .i64 0, .slice none 0 0, .bool false]), 4, 48) := by kernel_rfl
/-- A block of four cells that holds a parcel. -/
def BoxT (T : TypeId) (w : World) (x : Nat) (f t : Int) (v : Value) (b : Bool) : Prop := w.heap[x]? = some (.cells #[.int .i64 f, .int .i64 t, v, .bool b] T (0, 0))
section
variable {T : TypeId} {S : Nat → Prop} {w w' : World} {x : Nat} {f t : Int} {v : Value} {b : Bool}
theorem BoxT.put2 (h : BoxT T w x f t v b) (v' : Value) : BoxT T (w.setCell ⟨x, 2, none⟩ v') x f t v' b := heap_setCell_same w x 2 _ _ v' h
theorem BoxT.cells (h : BoxT T w x f t v b) : w.cell? ⟨x, 0, none⟩ = some (.int .i64 f) ∧ w.cell? ⟨x, 1, none⟩ = some (.int .i64 t) ∧ w.cell? ⟨x, 2, none⟩ = some v ∧ w.cell? ⟨x, 3, none⟩ = some (.bool b) ∧ ∀ i, w.frozen? ⟨x, i, none⟩ = false := by
  unfold BoxT at h
  exact ⟨by simp [World.cell?, h], by simp [World.cell?, h], by simp [World.cell?, h], by simp [World.cell?, h], fun i => by simp [World.frozen?, h]⟩
theorem BoxT.lt (h : BoxT T w x f t v b) : x < w.heap.size := by
  unfold BoxT at h
  exact (Array.getElem?_eq_some_iff.1 h).1
theorem BoxT.chg (h : BoxT T w x f t v b) (hc : Chg S w w') (hs : ¬ S x) : BoxT T w' x f t v b := (hc.block x h.lt hs).trans h
theorem BoxT.below (h : BoxT T w x f t v b) (hb : Below w.heap.size w w') : BoxT T w' x f t v b := h.chg (Chg.ofBelow (S := NoB) hb) id
theorem BoxT.made (w : World) (f t : Int) (v : Value) (b : Bool) : BoxT T (w.alloc (.cells #[.int .i64 f, .int .i64 t, v, .bool b] T)) w.heap.size f t v b := heap_alloc_new w _
end
/-- What a call of the document's net leaves: it writes its head alone; what it led to before is kept. -/
def RetRef (w : World) (S : Nat → Prop) (P : Nat) (N : Int) (L' : List Par) (w' : World) : Prop := ∃ S' v', QNet w' S' P N v' L' ∧ Chg (fun k => k = P) w w' ∧ (∀ k, S' k → S k ∨ w.heap.size ≤ k) ∧ ∀ k, S k → S' k
theorem RetRef.same {w w' : World} {S : Nat → Prop} {P : Nat} {N : Int} {v : Value} {L : List Par} (h : QNet w S P N v L) (hb : Below w.heap.size w w') : RetRef w S P N L w' :=
  ⟨S, v, h.below hb, Chg.ofBelow hb, fun _ hk => .inl hk, fun _ hk => hk⟩
theorem RetRef.from {w wS w' : World} {S : Nat → Prop} {P : Nat} {N : Int} {L : List Par} (h : RetRef wS S P N L w') (hb : Below w.heap.size w wS) : RetRef w S P N L w' := by
  obtain ⟨S', v', h1, h2, h3, h4⟩ := h
  exact ⟨S', v', h1, (Chg.ofBelow hb).trans h2 fun _ _ h => h, fun k hk => (h3 k hk).imp_right (Nat.le_trans hb.size), h4⟩
/-- The document's net with another row. -/
theorem refPut {w w' : World} {S : Nat → Prop} {P : Nat} {N : Int} {v v' : Value} {L L' : List Par} (h : QNet w S P N v L) (hb : Below w.heap.size w w') (ho : Own elPar TR w' (fun k => (S k ∧ k ≠ P) ∨ New w w' k) v' L') : RetRef w S P N L' (w'.setCell ⟨P, 1, none⟩ v') := by
  have hlt := h.lt
  have hp := h.put (Chg.ofBelow hb) ho (fun k hk => hk)
  refine ⟨_, _, hp, (Chg.ofBelow hb).trans (Chg.set w' ⟨P, 1, none⟩ v') fun _ _ h => h, fun k hk => ?_, fun k hk => ?_⟩
  · rcases hk with (hk | hk) | rfl
    · exact .inl hk.1
    · exact .inr hk.1
    · exact .inl h.sp
  · by_cases e : k = P
    · exact .inr e
    · exact .inl (.inl ⟨hk, e⟩)
theorem rNew_bad (w : World) (z : Int) (h : z < 1 ∨ 64 < z) : Calls Try.prog 14 #[.int .i64 z] w fun e w' => e = .returned (.tuple #[.pointer none, .int .i64 1]) ∧ w = w' := by
  rcases h with h | h
  · have d1 : decide (z < 1) = true := decide_eq_true h
    go_enter Try.func14, Try.ntmps14
    go_wp2_with fail
    go_ret2
    exact ⟨rfl, rfl⟩
  · have d1 : decide (z < 1) = false := decide_eq_false (by omega)
    have d2 : decide (64 < z) = true := decide_eq_true h
    go_enter Try.func14, Try.ntmps14
    go_wp2_with fail
    go_ret2
    exact ⟨rfl, rfl⟩
theorem rNew_calls (w : World) (z : Int) (h1 : 1 ≤ z) (h2 : z ≤ 64) : Calls Try.prog 14 #[.int .i64 z] w fun e w' => e = .returned (.tuple #[.pointer (some ⟨w.heap.size, 0, none⟩), .int .i64 0]) ∧
    QNet w' (fun k => k = w.heap.size) w.heap.size z (.slice none 0 0) [] ∧ Below w.heap.size w w' := by
  have d1 : decide (z < 1) = false := decide_eq_false (by omega)
  have d2 : decide (64 < z) = false := decide_eq_false (by omega)
  have hres : QNet (w.alloc (.cells #[.int .i64 z, .slice none 0 0] TQ)) (fun k => k = w.heap.size) w.heap.size z (.slice none 0 0) [] := ⟨heap_alloc_new w _, rfl, Own.nil _ _ _ _, fun k hk => by rw [hk]; simp⟩
  have HRES := Lib.hid hres
  clear hres
  go_enter Try.func14, Try.ntmps14
  go_wp2_with fail
  go_ret2
  exact ⟨rfl, HRES.out, allocBelow' _ _⟩
set_option maxRecDepth 100000 in
theorem radd_full (w : World) (S : Nat → Prop) (P : Nat) (N : Int) (v : Value) (L : List Par) (h : QNet w S P N v L) (hL : 4096 ≤ L.length) (f t : Int) (A : Option Addr) (n c : Nat) (b : Bool) :
    Calls Try.prog 33 #[.pointer (some ⟨P, 0, none⟩), .agg #[.int .i64 f, .int .i64 t, .slice A n c, .bool b]] w fun e w' => e = .returned (.int .i64 7) ∧ RetRef w S P N L w' := by
  have hres := RetRef.same h (allocBelow' w (.cells #[.int .i64 f, .int .i64 t, .slice A n c, .bool b] TR))
  obtain ⟨Av, cv, rfl, hcv⟩ := h.form
  have c1 := h.c1
  have hpl := h.plt
  have HRES := Lib.hid hres
  clear hres
  go_enter Try.func33, Try.ntmps33
  go_wp2
  go_ret
  exact ⟨rfl, HRES.out⟩
set_option maxRecDepth 100000 in
set_option maxHeartbeats 2000000 in
theorem radd_calls (w : World) (S : Nat → Prop) (P : Nat) (N : Int) (v : Value) (L : List Par) (h : QNet w S P N v L) (hL : L.length < 4096) (f t : Int) (A : Option Addr) (n c : Nat) (b : Bool) (xs : List UInt8) (ok : Nat → Prop) (hf : inI f) (ht : inI t) (hr : RdB w ok A n xs) (hn : n ≤ 140737488355328) :
    Calls Try.prog 33 #[.pointer (some ⟨P, 0, none⟩), .agg #[.int .i64 f, .int .i64 t, .slice A n c, .bool b]] w fun e w' => e = .returned (.int .i64 0) ∧ RetRef w S P N (L ++ [(f, t, xs, b)]) w' := by
  have hbS : Below w.heap.size w (w.alloc (.cells #[.int .i64 f, .int .i64 t, .slice A n c, .bool b] TR)) := allocBelow' _ _
  have hbox : BoxT TR (w.alloc (.cells #[.int .i64 f, .int .i64 t, .slice A n c, .bool b] TR)) w.heap.size f t (.slice A n c) b := BoxT.made w _ _ _ _
  obtain ⟨p0, p1, p2, p3, pf⟩ := hbox.cells
  have hrS := hr.below hbS
  have hxl := hr.len
  obtain ⟨Av, cv, rfl, hcv⟩ := h.form
  have c1w := h.c1
  have hpl := h.plt
  have c1 := (h.below hbS).c1
  obtain ⟨i0, hi0, hzz⟩ := Option.map_eq_some_iff.1 info_rpar
  simp only [Prod.mk.injEq] at hzz
  obtain ⟨hz0, hz1, hz2⟩ := hzz
  obtain ⟨AL, cL, eL, hcL, hLr⟩ := h.own.rd (by omega)
  injection eL with eL _ eL2
  subst eL
  subst eL2
  have hnilB := OwnB.nil (w.alloc (.cells #[.int .i64 f, .int .i64 t, .slice A n c, .bool b] TR)) (w.alloc (.cells #[.int .i64 f, .int .i64 t, .slice A n c, .bool b] TR)).heap.size
  have hlB : ([] : List UInt8).length + n ≤ 140737488355328 := by simpa using hn
  have HXL := Lib.hid hxl
  have hlt := h.lt
  have hzS := hbS.size
  have hm0 : ([] : List Par).length + L.length ≤ maxLen := by unfold maxLen; simp; omega
  have hb0 : (([] : List Par).length + L.length) * 48 ≤ 140737488355328 := by simp; omega
  have hm1 : L.length + 1 ≤ maxLen := by unfold maxLen; omega
  have hb1' : (L.length + 1) * 48 ≤ 140737488355328 := by omega
  clear hr hxl
  go_enter Try.func33, Try.ntmps33
  go_wp2_with (first
    | (at_builtin; refine appB (w0 := (w.alloc (.cells #[.int .i64 f, .int .i64 t, .slice A n c, .bool b] TR))) (w.alloc (.cells #[.int .i64 f, .int .i64 t, .slice A n c, .bool b] TR)).heap.size (w.alloc (.cells #[.int .i64 f, .int .i64 t, .slice A n c, .bool b] TR)).heap.size rfl _ _ rfl (.slice none 0 0) [] xs A n c rfl rfl hnilB hrS (Below.refl _ _) (Nat.le_refl _) (Nat.le_refl _) hlB ?_; intro v1 w1 ho1 hb1 _ _;
        have ho1' : OwnB w1 (w.alloc (.cells #[.int .i64 f, .int .i64 t, .slice A n c, .bool b] TR)).heap.size v1 xs := ho1;
        obtain ⟨A1, d1, rfl, hfb1⟩ := ho1'.asFB n HXL.out;
        have hbw1 := stepBelow hbS hb1;
        have hB1 := (hbox.below hb1).put2 (.slice A1 n d1);
        have hbW : Below w.heap.size w (w1.setCell ⟨w.heap.size, 2, none⟩ (.slice A1 n d1)) := hbw1.setCell (p := ⟨w.heap.size, 2, none⟩) (Nat.le_refl _) _;
        obtain ⟨q0, q1, q2, q3, qf⟩ := hB1.cells;
        obtain ⟨s0, s1, s2, s3, sf⟩ := (hbox.below hb1).cells;
        have hLW := hLr.below hbW;
        have c1W := (h.below hbW).c1;
        have hN1 := (Own.nil elPar TR (w1.setCell ⟨w.heap.size, 2, none⟩ (.slice A1 n d1)) (fun k => S k ∧ k ≠ P)))
    | (at_builtin; refine Own.lists (E := elPar) rfl _ _ 56 rfl i0 _ 48 Try.underlying56 hi0 hz0 hz1 hz2 rfl (by decide) (.slice none 0 0) rfl hN1 Av L.length cv rfl hLW (fun q _ hq => ⟨hq, by simp [Value.ownBlock]⟩) hm0 hb0 ?_; intro v2 w2 ho2 hg2 h52;
        have hbW2 : Below w.heap.size w w2 := hbW.grown hg2 hbW.size (fun k hk => by simp [Value.ownBlock] at hk);
        have hB2 := hB1.chg (Chg.ofGrown hg2) (by simp [Value.ownBlock]);
        obtain ⟨t0, t1, t2, t3, tf⟩ := hB2.cells;
        have c1W2 := (h.below hbW2).c1;
        have hz12 := hg2.size;
        obtain ⟨hrd1, hcc2⟩ := hfb1.rd;
        have hc12 : Chg (fun k => k = w.heap.size) w1 w2 := (Chg.set w1 ⟨w.heap.size, 2, none⟩ (.slice A1 n d1)).trans (Chg.ofGrown hg2) (fun k _ e => by simp [Value.ownBlock] at e);
        have hz1S := (heapAlloc w (.cells #[.int .i64 f, .int .i64 t, .slice A n c, .bool b] TR));
        have hbl := hbox.lt;
        have hrd2 : RdB w2 (New (w.alloc (.cells #[.int .i64 f, .int .i64 t, .slice A n c, .bool b] TR)) w1) A1 n xs := hrd1.keep hc12.size (fun k hk hl => hc12.block k hl (fun e => by have h1 := hk.1; omega));
        have hv2 : ∀ k, v2.ownBlock = some k → w.heap.size ≤ k ∧ w1.heap.size ≤ k := (fun k hk => by
          rcases h52 with h52 | h52
          · rw [hk] at h52; simp [Value.ownBlock] at h52
          · rw [hk] at h52; injection h52 with h52; simp only [World.size_setCell] at h52; have := hbw1.size; omega);
        have hbW3 : Below w.heap.size w (w2.alloc (.cells #[.int .i64 f, .int .i64 t, .slice A1 n d1, .bool b] TR)) := stepBelow hbW2 (allocBelow' _ _);
        have c1W3 := (h.below hbW3).c1;
        have hO2 : Own elPar TR (w2.alloc (.cells #[.int .i64 f, .int .i64 t, .slice A1 n d1, .bool b] TR)) (fun k => (S k ∧ k ≠ P) ∨ New w (w2.alloc (.cells #[.int .i64 f, .int .i64 t, .slice A1 n d1, .bool b] TR)) k) v2 L := (ho2.alloc _).mono (fun k hl hk => hk.imp_right fun e => ⟨by have := hbW.size; omega, hl⟩);
        have hVne : ∀ k, New (w.alloc (.cells #[.int .i64 f, .int .i64 t, .slice A n c, .bool b] TR)) w1 k → New w (w2.alloc (.cells #[.int .i64 f, .int .i64 t, .slice A1 n d1, .bool b] TR)) k ∧ some k ≠ v2.ownBlock := (fun k hk => ⟨⟨by have h1 := hk.1; omega, by have h1 := hk.2; have h2 := hc12.size; have h3 := heapAlloc w2 (.cells #[.int .i64 f, .int .i64 t, .slice A1 n d1, .bool b] TR); omega⟩, fun e => by have h1 := (hv2 k e.symm).2; have h2 := hk.2; omega⟩);
        have hV2 : elPar.V (w2.alloc (.cells #[.int .i64 f, .int .i64 t, .slice A1 n d1, .bool b] TR)) (fun k => ((S k ∧ k ≠ P) ∨ New w (w2.alloc (.cells #[.int .i64 f, .int .i64 t, .slice A1 n d1, .bool b] TR)) k) ∧ some k ≠ v2.ownBlock) [.int .i64 f, .int .i64 t, .slice A1 n d1, .bool b] (f, t, xs, b) := par_mk hf ht hcc2 ((hrd2.alloc _).mono fun k hk _ => ⟨.inr (hVne k hk).1, (hVne k hk).2⟩);
        have hnc := newCells w2 #[.int .i64 f, .int .i64 t, .slice A1 n d1, .bool b] TR (0, 0))
    | (at_builtin; refine Own.list (E := elPar) rfl _ _ 56 rfl i0 _ 48 Try.underlying56 hi0 hz0 hz1 hz2 rfl (by decide) rfl hO2 ⟨w2.heap.size, 0, none⟩ 1 _ _ rfl hV2 hnc hm1 hb1' ?_; intro v3 w3 ho3 hg3 _;
        obtain ⟨A3, n3, cc3, rfl, -, -⟩ := ho3.shape;
        have hbW4 : Below w.heap.size w w3 := hbW3.grown hg3 hbW3.size (fun k hk => (hv2 k hk).1);
        have h3 := h.below hbW4;
        have c3 := h3.c1;
        have fr3 := h3.fr))
  have ho4 : Own elPar TR w3 (fun k => (S k ∧ k ≠ P) ∨ New w w3 k) (.slice A3 n3 cc3) (L ++ [(f, t, xs, b)]) := ho3.mono fun k hl hk => by
    rcases hk with (hk | hk) | hk
    · exact .inl hk
    · exact .inr ⟨hk.1, hl⟩
    · exact .inr ⟨by rw [hk]; exact hbW3.size, hl⟩
  have hres := refPut h hbW4 ho4
  have HRES := Lib.hid hres
  clear hres ho4 ho3
  go_ret
  exact ⟨rfl, HRES.out⟩
end Go.Proofs.Ytmkmbnfmmibifaa
