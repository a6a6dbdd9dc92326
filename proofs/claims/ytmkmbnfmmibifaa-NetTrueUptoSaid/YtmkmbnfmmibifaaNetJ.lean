/-
  All, told slice by slice: what lies where.
-/
import Derived.Test.YtmkmbnfmmibifaaNetI
namespace Go.Proofs.Ytmkmbnfmmibifaa
open Go.RowKit

abbrev Raw := Int × Int × Value × Bool
def El.val : El Value where
  k := 1
  bulk := fun _ => 1
  V := fun _ _ vs x => vs = [x] ∧ x.oneCell' = true
  len := by rintro w ok vs x ⟨rfl, _⟩; rfl
  one := by rintro w ok vs x ⟨rfl, h⟩ u hu; simp at hu; subst hu; exact h
  keep := fun h _ _ => h
  mono := fun h _ => h
abbrev elRaw : El Raw := El.prod El.int (El.prod El.int (El.prod El.val El.bool))
theorem raw_open {w : World} {ok : Nat → Prop} {vs : List Value} {x : Raw} (h : elRaw.V w ok vs x) : vs = [.int .i64 x.1, .int .i64 x.2.1, x.2.2.1, .bool x.2.2.2] := by
  obtain ⟨_, _, e1, ⟨rfl, _⟩, _, _, rfl, ⟨rfl, _⟩, _, _, rfl, ⟨rfl, _⟩, rfl⟩ := h
  exact e1
theorem raw_mk {w : World} {ok : Nat → Prop} {f t : Int} {u : Value} {b : Bool} (hf : inI f) (ht : inI t) (hu : u.oneCell' = true) : elRaw.V w ok [.int .i64 f, .int .i64 t, u, .bool b] (f, t, u, b) :=
  ⟨[.int .i64 f], _, rfl, ⟨rfl, hf⟩, [.int .i64 t], _, rfl, ⟨rfl, ht⟩, [u], _, rfl, ⟨rfl, hu⟩, rfl⟩
/-- A row of parcels of a call's own, each with bytes of its own. -/
structure Rows (w0 w : World) (v : Value) (R : List Raw) (L : List Par) : Prop where
  own : Own elRaw TP w (fun k => w0.heap.size ≤ k) v R
  len : R.length = L.length
  each : ∀ (j : Nat) (p : Par), L[j]? = some p → ∃ u, R[j]? = some (p.1, p.2.1, u, p.2.2.2) ∧ OwnB w w0.heap.size u p.2.2.1
  ne : ∀ (j : Nat) (x : Raw) (q : Nat), R[j]? = some x → x.2.2.1.ownBlock = some q → q < w.heap.size ∧ v.ownBlock ≠ some q
  dis : ∀ (i j : Nat) (x y : Raw) (q : Nat), i < j → R[i]? = some x → R[j]? = some y → x.2.2.1.ownBlock = some q → y.2.2.1.ownBlock ≠ some q
theorem Rows.nil (w0 w : World) : Rows w0 w (.slice none 0 0) [] [] := ⟨Own.nil _ _ _ _, rfl, fun j p h => by simp at h, fun j x q h => by simp at h, fun i j x y q _ h => by simp at h⟩
def RetRows (w : World) (L : List Par) (e : Ending) (w' : World) : Prop := ∃ v' R, e = .returned v' ∧ Rows w w' v' R L ∧ Below w.heap.size w w'
theorem Rows.snoc {w0 w1 w2 w3 : World} {v v3 : Value} {R : List Raw} {L : List Par} {p : Par} {A : Option Addr} {n c : Nat} (h : Rows w0 w1 v R L) (hb12 : Below w1.heap.size w1 w2) (hb0 : w0.heap.size ≤ w1.heap.size)
    (hfb : FB w1 w2 A n c p.2.2.1) {W : World} (hbW : Below w2.heap.size w2 W) (hg : W.grownBy w3 v.ownBlock) (hv3 : v3.ownBlock = v.ownBlock ∨ v3.ownBlock = some W.heap.size)
    (ho : Own elRaw TP w3 (fun k => w0.heap.size ≤ k) v3 (R ++ [(p.1, p.2.1, .slice A n c, p.2.2.2)])) : Rows w0 w3 v3 (R ++ [(p.1, p.2.1, .slice A n c, p.2.2.2)]) (L ++ [p]) := by
  have hl := h.len
  have hz2 := hbW.size
  have hz3 := hg.size
  have hz1 := hb12.size
  have hc13 : Chg (fun k => v.ownBlock = some k) w1 w3 := (Chg.ofBelow (stepBelow hb12 hbW)).trans (Chg.ofGrown hg) fun k _ hk => hk.symm
  have hc23 : Chg (fun k => v.ownBlock = some k) w2 w3 := (Chg.ofBelow hbW).trans (Chg.ofGrown hg) fun k _ hk => hk.symm
  have hvlt : ∀ k, v.ownBlock = some k → k < w1.heap.size := fun k hk => (h.own.lt k hk).2
  have hnew : ∀ q, (Value.slice A n c).ownBlock = some q → w1.heap.size ≤ q ∧ q < w2.heap.size := fun q hq => hfb.2.lt q hq
  refine ⟨ho, by simp [hl], fun j q hj => ?_, fun j x q hj hx => ?_, fun i j x y q hij hi hj hx => ?_⟩
  · by_cases hlt : j < L.length
    · rw [List.getElem?_append_left hlt] at hj
      obtain ⟨u, h1, h2⟩ := h.each j q hj
      refine ⟨u, by rw [List.getElem?_append_left (by omega)]; exact h1, h2.chg hc13 fun k hk hh => (h.ne j _ k h1 hk).2 hh⟩
    · have := (List.getElem?_eq_some_iff.1 hj).1
      rw [List.length_append, List.length_singleton] at this
      obtain rfl : j = L.length := by omega
      rw [List.getElem?_append_right (Nat.le_refl _), Nat.sub_self] at hj
      simp at hj
      subst hj
      refine ⟨_, by rw [← hl, List.getElem?_append_right (Nat.le_refl _), Nat.sub_self]; rfl, (hfb.2.lower hb0).chg hc23 fun k hk hh => ?_⟩
      have h1 := hnew k hk
      have h2 := hvlt k hh
      omega
  · by_cases hlt : j < R.length
    · rw [List.getElem?_append_left hlt] at hj
      obtain ⟨h1, h2⟩ := h.ne j x q hj hx
      refine ⟨by omega, fun e => ?_⟩
      rcases hv3 with hv3 | hv3
      · exact h2 (by rw [← hv3]; exact e)
      · rw [hv3] at e; injection e with e; omega
    · have := (List.getElem?_eq_some_iff.1 hj).1
      rw [List.length_append, List.length_singleton] at this
      obtain rfl : j = R.length := by omega
      rw [List.getElem?_append_right (Nat.le_refl _), Nat.sub_self] at hj
      simp at hj
      subst hj
      have h1 := hnew q hx
      refine ⟨by omega, fun e => ?_⟩
      rcases hv3 with hv3 | hv3
      · have := hvlt q (by rw [← hv3]; exact e); omega
      · rw [hv3] at e; injection e with e; omega
  · have hjl := (List.getElem?_eq_some_iff.1 hj).1
    rw [List.length_append, List.length_singleton] at hjl
    rw [List.getElem?_append_left (by omega)] at hi
    by_cases hlt : j < R.length
    · rw [List.getElem?_append_left hlt] at hj
      exact h.dis i j x y q hij hi hj hx
    · obtain rfl : j = R.length := by omega
      rw [List.getElem?_append_right (Nat.le_refl _), Nat.sub_self] at hj
      simp at hj
      subst hj
      intro e
      have h1 := hnew q e
      have h2 := (h.ne i x q hi hx).1
      omega
set_option maxHeartbeats 3200000 in
theorem All_rows (w : World) (S : Nat → Prop) (P : Nat) (N : Int) (v : Value) (L : List Par) (h : PNet w S P N v L) (hN : 1 ≤ N) (hs : Small L) (hm : L.length ≤ 4096) :
    Calls Try.prog 23 #[.pointer (some ⟨P, 0, none⟩)] w (RetRows w L) := by
  have c1 := h.c1
  obtain ⟨Av, cv, rfl, hcv⟩ := h.form
  have hnone := none_calls w S P N _ L h hN
  obtain ⟨i0, hi0, hzz⟩ := Option.map_eq_some_iff.1 info_par
  simp only [Prod.mk.injEq] at hzz
  obtain ⟨hz0, hz1, hz2⟩ := hzz
  have hlt := h.lt
  go_enter Try.func23, Try.ntmps23
  go_wp2_with fail
  refine hnone.mono ?_
  rintro e w' ⟨rfl, rfl⟩
  go_wp2_with fail
  go_loopw [3, 13] (fun u i wr => ∃ (k : Nat) (R : List Raw), k ≤ L.length ∧ i = .int .i64 (k : Int) ∧ Rows w wr u R (L.take k) ∧ Below w.heap.size w wr) (fun _ i _ => L.length - (intOf i).toNat)
  case atStart => exact ⟨0, [], Nat.zero_le _, rfl, Rows.nil _ _, Below.refl _ _⟩
  case round =>
    obtain ⟨k, R, hk, rfl, ho, hbe⟩ := hrel
    by_cases hltk : k < L.length
    · obtain ⟨g, e⟩ := inSome h k hltk
      subst e
      obtain ⟨p, hp⟩ : ∃ p, L[k]? = some p := ⟨_, List.getElem?_eq_getElem hltk⟩
      obtain ⟨A, n, c, k0, k1, k2, k3, hnc, hf1, hf2, hr, _⟩ := parCells (h.below hbe) k p hp
      have hn : n ≤ 140737488355328 := by have := hs p (List.mem_of_getElem? hp); have := hr.len; omega
      obtain ⟨f0, t0, bs, b0⟩ := p
      have htk : L.take (k + 1) = L.take k ++ [(f0, t0, bs, b0)] := by rw [List.take_add_one, hp]; rfl
      have hap := apart_calls f0 t0 A n c bs b0 (wr.alloc (.cells #[.int .i64 f0, .int .i64 t0, .slice A n c, .bool b0] TP)) _ (hr.alloc _) hn
      have hzw := hbe.size
      have hRl : R.length = k := by rw [ho.len, List.length_take]; omega
      have hm1 : R.length + 1 ≤ maxLen := by unfold maxLen; omega
      have hb1 : (R.length + 1) * 48 ≤ 140737488355328 := by omega
      have HTK := Lib.hid htk
      have HRL := Lib.hid hRl
      clear htk hr hRl
      go_wp2_with (first
        | (go_at_call 35; refine hap.mono ?_; rintro e w2 ⟨A', c', rfl, hfb, hb2⟩;
            have hbw2 : Below wr.heap.size wr (w2.alloc (.cells #[.int .i64 f0, .int .i64 t0, .slice A' n c', .bool b0] TP)) := stepBelow (stepBelow (allocBelow' _ _) hb2) (allocBelow' _ _);
            have hO2 := ho.own.below hbw2;
            have hV2 : elRaw.V (w2.alloc (.cells #[.int .i64 f0, .int .i64 t0, .slice A' n c', .bool b0] TP)) (fun q => w.heap.size ≤ q ∧ some q ≠ u3.ownBlock) [.int .i64 f0, .int .i64 t0, .slice A' n c', .bool b0] (f0, t0, .slice A' n c', b0) := raw_mk hf1 hf2 rfl;
            have hnc2 := newCells w2 #[.int .i64 f0, .int .i64 t0, .slice A' n c', .bool b0] TP (0, 0))
        | (at_builtin; refine Own.list (E := elRaw) rfl _ _ 54 rfl i0 _ 48 Try.underlying54 hi0 hz0 hz1 hz2 rfl (by decide) rfl hO2 ⟨w2.heap.size, 0, none⟩ 1 _ _ rfl hV2 hnc2 hm1 hb1 ?_; intro v3 w3 ho3 hg3 h53;
            have hb3 : Below w.heap.size w w3 := ((stepBelow hbe hbw2).grown hg3 (by have := hbw2.size; omega) (fun q hq => (ho.own.lt q hq).1))))
      have hR3 := Rows.snoc (p := (f0, t0, bs, b0)) ho (stepBelow (allocBelow' _ _) hb2) hzw (hfb.from (heapAlloc _ _)) (allocBelow' w2 (.cells #[.int .i64 f0, .int .i64 t0, .slice A' n c', .bool b0] TP)) hg3 h53 (ho3.mono (fun q _ hq => by rcases hq with hq | hq; exact hq; have h1 := hb2.size; have h2 := heapAlloc wr (.cells #[.int .i64 f0, .int .i64 t0, .slice A n c, .bool b0] TP); simp at hq; omega))
      have HR3 := Lib.hid hR3
      clear hR3 ho3
      go_roundw
      case rel => exact ⟨k + 1, _, by omega, by go_num, by rw [HTK.out]; exact HR3.out, hb3⟩
      case measure => simp [intOf]; omega
    · obtain rfl : k = L.length := by omega
      rw [List.take_of_length_le (Nat.le_refl _)] at ho
      have hres : RetRows w L (.returned u3) wr := ⟨u3, R, rfl, ho, hbe⟩
      have HRES := Lib.hid hres
      clear ho hres
      go_wp2_with fail
      go_ret
      exact HRES.out
end Go.Proofs.Ytmkmbnfmmibifaa
