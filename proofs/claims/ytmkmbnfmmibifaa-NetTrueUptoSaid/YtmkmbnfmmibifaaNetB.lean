/-
  The net's All, Copy.
-/
import Derived.Test.YtmkmbnfmmibifaaNetA
namespace Go.Proofs.Ytmkmbnfmmibifaa
open Go.RowKit

/-- What All leaves. -/
def RetAll (w : World) (L : List Par) (e : Ending) (w' : World) : Prop := ∃ v', e = .returned v' ∧ Own elPar TP w' (New w w') v' L ∧ Below w.heap.size w w'
theorem Own.ne {α : Type} {E : El α} {T : TypeId} {w w1 : World} {S : Nat → Prop} {v : Value} {xs : List α} (h : Own E T w S v xs) (hb : w.heap.size ≤ w1.heap.size) : ∀ k, w1.heap.size ≤ k → some k ≠ v.ownBlock := fun k hk e => by
  have := (h.lt k e.symm).2
  omega
theorem inSome {w : World} {S : Nat → Prop} {P : Nat} {N : Int} {A : Option Addr} {c : Nat} {L : List Par} (h : PNet w S P N (.slice A L.length c) L) (i : Nat) (hi : i < L.length) : ∃ g, A = some ⟨g, 0, none⟩ := by
  obtain ⟨g, cap, vs, e, _⟩ := h.own.at_ i L[i] (List.getElem?_eq_getElem hi)
  injection e with e _ _
  exact ⟨g, e⟩
set_option maxHeartbeats 3200000 in
theorem All_calls (w : World) (S : Nat → Prop) (P : Nat) (N : Int) (v : Value) (L : List Par) (h : PNet w S P N v L) (hN : 1 ≤ N) (hs : Small L) (hm : L.length ≤ 4096) :
    Calls Try.prog 23 #[.pointer (some ⟨P, 0, none⟩)] w (RetAll w L) := by
  have c1 := h.c1
  obtain ⟨Av, cv, rfl, hcv⟩ := h.form
  have hnone := none_calls w S P N _ L h hN
  obtain ⟨i0, hi0, hzz⟩ := Option.map_eq_some_iff.1 info_par
  simp only [Prod.mk.injEq] at hzz
  obtain ⟨hz0, hz1, hz2⟩ := hzz
  have hlt := h.lt
  go_enter Try.func23, Try.ntmps23
  go_wp2_with fail
  refine hnone.mono ?_
  rintro e w' ⟨rfl, rfl⟩
  go_wp2_with fail
  go_loopw [3, 13] (fun u i wr => ∃ k : Nat, k ≤ L.length ∧ i = .int .i64 (k : Int) ∧ Own elPar TP wr (New w wr) u (L.take k) ∧ Below w.heap.size w wr) (fun _ i _ => L.length - (intOf i).toNat)
  case atStart => exact ⟨0, Nat.zero_le _, rfl, Own.nil _ _ _ _, Below.refl _ _⟩
  case round =>
    obtain ⟨k, hk, rfl, ho, hbe⟩ := hrel
    by_cases hltk : k < L.length
    · obtain ⟨g, e⟩ := inSome h k hltk
      subst e
      obtain ⟨p, hp⟩ : ∃ p, L[k]? = some p := ⟨_, List.getElem?_eq_getElem hltk⟩
      obtain ⟨A, n, c, k0, k1, k2, k3, hnc, hf1, hf2, hr, _⟩ := parCells (h.below hbe) k p hp
      have hn : n ≤ 140737488355328 := by have := hs p (List.mem_of_getElem? hp); have := hr.len; omega
      obtain ⟨f0, t0, bs, b0⟩ := p
      have htk : L.take (k + 1) = L.take k ++ [(f0, t0, bs, b0)] := by rw [List.take_add_one, hp]; rfl
      have hap := apart_calls f0 t0 A n c bs b0 (wr.alloc (.cells #[.int .i64 f0, .int .i64 t0, .slice A n c, .bool b0] TP)) _ (hr.alloc _) hn
      have hnb := ho.ne (Nat.le_refl _)
      have hzw := hbe.size
      have hm1 : (L.take k).length + 1 ≤ maxLen := by rw [List.length_take]; unfold maxLen; omega
      have hb1 : ((L.take k).length + 1) * 48 ≤ 140737488355328 := by rw [List.length_take]; omega
      have HTK := Lib.hid htk
      clear htk hr
      go_wp2_with (first
        | (go_at_call 35; refine hap.mono ?_; rintro e w2 ⟨A', c', rfl, hfb, hb2⟩;
            obtain ⟨hr', hc'⟩ := hfb.rd;
            have hbw2 : Below wr.heap.size wr (w2.alloc (.cells #[.int .i64 f0, .int .i64 t0, .slice A' n c', .bool b0] TP)) := stepBelow (stepBelow (allocBelow' _ _) hb2) (allocBelow' _ _);
            have hsz := hbw2.size;
            have hO2 := (ho.below hbw2).mono (S' := New w (w2.alloc (.cells #[.int .i64 f0, .int .i64 t0, .slice A' n c', .bool b0] TP))) (fun q hl hq => ⟨hq.1, hl⟩);
            have hV2 : elPar.V (w2.alloc (.cells #[.int .i64 f0, .int .i64 t0, .slice A' n c', .bool b0] TP)) (fun q => New w (w2.alloc (.cells #[.int .i64 f0, .int .i64 t0, .slice A' n c', .bool b0] TP)) q ∧ some q ≠ u3.ownBlock) [.int .i64 f0, .int .i64 t0, .slice A' n c', .bool b0] (f0, t0, bs, b0) := par_mk hf1 hf2 hc' ((hr'.alloc _).mono fun q hq hl => ⟨⟨by have h1 := hq.1; have h2 := heapAlloc wr (.cells #[.int .i64 f0, .int .i64 t0, .slice A n c, .bool b0] TP); omega, hl⟩, hnb q (by have h1 := hq.1; have h2 := heapAlloc wr (.cells #[.int .i64 f0, .int .i64 t0, .slice A n c, .bool b0] TP); omega)⟩);
            have hnc2 := newCells w2 #[.int .i64 f0, .int .i64 t0, .slice A' n c', .bool b0] TP (0, 0))
        | (at_builtin; refine Own.list (E := elPar) rfl _ _ 54 rfl i0 _ 48 Try.underlying54 hi0 hz0 hz1 hz2 rfl (by decide) rfl hO2 ⟨w2.heap.size, 0, none⟩ 1 _ _ rfl hV2 hnc2 hm1 hb1 ?_; intro v3 w3 ho3 hg3 _;
            have hb3 : Below w.heap.size w w3 := ((stepBelow hbe hbw2).grown hg3 (by have := hbw2.size; omega) (fun q hq => (ho.lt q hq).1.1))))
      go_roundw
      case rel => exact ⟨k + 1, by omega, by go_num, by rw [HTK.out]; exact ho3.mono fun q hl hq => ⟨by rcases hq with hq | hq; exact hq.1; have h1 := hb2.size; have h2 := heapAlloc wr (.cells #[.int .i64 f0, .int .i64 t0, .slice A n c, .bool b0] TP); simp at hq; omega, hl⟩, hb3⟩
      case measure => simp [intOf]; omega
    · obtain rfl : k = L.length := by omega
      rw [List.take_of_length_le (Nat.le_refl _)] at ho
      have hres : RetAll w L (.returned u3) wr := ⟨u3, rfl, ho, hbe⟩
      have HRES := Lib.hid hres
      clear ho hres
      go_wp2_with fail
      go_ret
      exact HRES.out
/-- What Copy leaves. -/
def RetCopy (w : World) (N : Int) (L : List Par) (e : Ending) (w' : World) : Prop := ∃ P' S' v', e = .returned (.pointer (some ⟨P', 0, none⟩)) ∧ PNet w' S' P' N v' L ∧ Below w.heap.size w w' ∧ ∀ k, S' k → w.heap.size ≤ k
set_option maxHeartbeats 1600000 in
theorem Copy_calls (w : World) (S : Nat → Prop) (P : Nat) (N : Int) (v : Value) (L : List Par) (h : PNet w S P N v L) (hN : 1 ≤ N) (hs : Small L) (hm : L.length ≤ 4096) :
    Calls Try.prog 22 #[.pointer (some ⟨P, 0, none⟩)] w (RetCopy w N L) := by
  have c0 := h.c0
  have hnone := none_calls w S P N _ L h hN
  have hall := All_calls w.drew S P N v L h.drew hN hs hm
  have hpl := h.plt
  go_enter Try.func22, Try.ntmps22
  go_wp2_with fail
  refine hnone.mono ?_
  rintro e w' ⟨rfl, rfl⟩
  go_wp2_with fail
  go_region_law (first
    | (go_simp; go_at_call 23; (with_reducible refine hall.mono ?_); rintro e w2 ⟨v2, rfl, ho2, hb2⟩; obtain ⟨A2, n2, cc2, rfl, -, -⟩ := ho2.shape;
        have hb3 : Below w.heap.size w w2 := stepBelow (Below.refl _ _).drew hb2;
        have k0 := cellBelow hb3 c0))
  all_goals
    have hown : Own elPar TP (w2.alloc (.cells #[.int .i64 N, .slice A2 n2 cc2] TN)) (fun k => (New w w2 k ∨ k = w2.heap.size) ∧ k ≠ w2.heap.size) (.slice A2 n2 cc2) L := (ho2.alloc _).mono fun k _ hk => ⟨.inl hk, fun e => by have := hk.2; omega⟩
    have hres : RetCopy w N L (.returned (.pointer (some ⟨w2.heap.size, 0, none⟩))) (w2.alloc (.cells #[.int .i64 N, .slice A2 n2 cc2] TN)) :=
      ⟨w2.heap.size, fun k => New w w2 k ∨ k = w2.heap.size, _, rfl, ⟨heap_alloc_new w2 _, .inr rfl, hown, fun k hk => by
        rcases hk with hk | hk
        · exact Nat.lt_of_lt_of_le hk.2 (heapAlloc _ _)
        · rw [hk]; simp⟩, stepBelow hb3 (allocBelow' _ _), fun k hk => by
        rcases hk with hk | hk
        · exact hk.1
        · rw [hk]; exact hb3.size⟩
    have HRES := Lib.hid hres
    clear hres hown ho2
    go_wp2_with fail
    go_ret
    exact HRES.out
end Go.Proofs.Ytmkmbnfmmibifaa
