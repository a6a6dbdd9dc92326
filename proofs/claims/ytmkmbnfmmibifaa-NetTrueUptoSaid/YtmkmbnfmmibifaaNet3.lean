/-
  slices.Delete of one parcel.
-/
import Derived.Test.YtmkmbnfmmibifaaNet2
import Derived.Deep.RegionLaw
namespace Go.Proofs.Ytmkmbnfmmibifaa
open Go.RowKit

theorem setCells_heap (g : Nat) (t : TypeId) : ∀ (vs : List Value) (o : Nat) (w : World) (cur : Array Value), w.heap[g]? = some (.cells cur t (0, 0)) → o + vs.length ≤ cur.size →
    ∃ cur', (w.setCells g o vs).heap[g]? = some (.cells cur' t (0, 0)) ∧ cur'.size = cur.size ∧ ∀ j, cur'[j]? = if o ≤ j ∧ j < o + vs.length then vs[j - o]? else cur[j]? := by
  intro vs
  induction vs with
  | nil =>
    intro o w cur h _
    refine ⟨cur, h, rfl, fun j => ?_⟩
    rw [if_neg (by simp)]
  | cons v vs ih =>
    intro o w cur h hl
    have hl' : o + (vs.length + 1) ≤ cur.size := hl
    have h1 := heap_setCell_same w g o cur t v h
    obtain ⟨cur', k1, k2, k3⟩ := ih (o + 1) (w.setCell ⟨g, o, none⟩ v) (cur.setIfInBounds o v) h1 (by simp; omega)
    refine ⟨cur', k1, by rw [k2]; simp, fun j => ?_⟩
    rw [k3 j]
    by_cases hj : j = o
    · subst hj
      rw [if_neg (by omega), if_pos (by simp), Nat.sub_self]
      rw [Array.getElem?_setIfInBounds_self_of_lt (by omega)]
      rfl
    · by_cases hr : o + 1 ≤ j ∧ j < o + 1 + vs.length
      · rw [if_pos hr, if_pos (by simp; omega)]
        rw [show j - o = (j - (o + 1)) + 1 by omega]
        rfl
      · rw [if_neg hr, if_neg (by simp; omega)]
        rw [Array.getElem?_setIfInBounds_ne (by omega)]
theorem setCells_chg (g : Nat) : ∀ (vs : List Value) (o : Nat) (w : World), Chg (fun k => k = g) w (w.setCells g o vs) := by
  intro vs
  induction vs with
  | nil => intro o w; exact Chg.refl _ _
  | cons v vs ih => intro o w; exact (Chg.set w ⟨g, o, none⟩ v).trans (ih _ _) fun _ _ h => h
theorem run_clear_one {P : Program} (w : World) (t e ty : TypeId) (z : Value) (ht : P.underlying t = some (.slice e)) (hv : ∀ w, (zeroValue e).run P w = .ok z w) (h1 : ∀ v ∈ z.cells.toList, v.oneCell' = true) (b o c : Nat)
    (hc : ∀ j, j < z.cells.size → (w.cell? ⟨b, o + j, none⟩).isSome = true) (hf : ∀ j, j < z.cells.size → w.frozen? ⟨b, o + j, none⟩ = false) :
    (Builtin.clear_ #[t] ty #[.slice (some ⟨b, o, none⟩) 1 c]).run P w = .ok (.tuple #[]) (w.setCells b o z.cells.toList) := by
  have hzc : Builtin.zeroCells z.cells 1 = z.cells := by
    apply Array.ext
    · simp [Builtin.zeroCells]
    · intro i h1 h2
      simp [Builtin.zeroCells, Nat.mod_eq_of_lt h2, getElem!_pos z.cells i h2]
  have hst := run_storeCells_cells (P := P) b o z.cells.toList 0 w (by simpa using hc) (by simpa using hf) h1
  simp only [Nat.add_zero] at hst
  simp [Builtin.clear_, run_underlying ht, hv, hzc, hst]
/-- What a call leaves that hands back a row anew, written in its place. -/
def RetOwn (w : World) (S : Nat → Prop) (v : Value) (L' : List Par) (e : Ending) (w' : World) : Prop := ∃ v', e = .returned v' ∧ Own elPar 35 w' S v' L' ∧ Chg (fun k => some k = v.ownBlock) w w'
set_option maxRecDepth 100000 in
set_option maxHeartbeats 2000000 in
theorem delete_calls (w : World) (S : Nat → Prop) (v : Value) (L : List Par) (i : Nat) (ho : Own elPar 35 w S v L) (hi : i < L.length) (hm : L.length ≤ 4096) :
    Calls Try.prog 29 #[v, .int .i64 (i : Int), .int .i64 ((i : Int) + 1)] w (RetOwn w S v (L.eraseIdx i)) := by
  obtain ⟨vss, h1, h2, h3⟩ := ho
  have h2' := h2
  rcases h2.2 with ⟨rfl, h0⟩ | ⟨g, cap, cur, rfl, hb, hg, hn, hmm, hc, ht⟩
  · omega
  · unfold maxLen at hmm
    generalize hLn : L.length = n at h1 h2 h2' h3 hi hm hn ht ⊢
    obtain ⟨m, rfl⟩ : ∃ m, n = m + 1 := ⟨n - 1, by omega⟩
    have hne : ¬ (i : Int) = (i : Int) + 1 := by omega
    have hil : (i : Int) ≤ (m : Int) := by omega
    obtain ⟨i0, hi0, hzz⟩ := Option.map_eq_some_iff.1 info_par
    simp only [Prod.mk.injEq] at hzz
    obtain ⟨hz0, hz1, hz2⟩ := hzz
    have hic : i < cap := by omega
    have hA : ∀ W : World, (Instr.slice 54 (.slice (some ⟨g, 0, none⟩) (m + 1) cap) none (some (.int .i64 (i : Int))) none).run Try.prog W = .ok (.slice (some ⟨g, 0, none⟩) i cap) W := fun W => by
      rw [run_slice_h W _ _ (m + 1) cap (by kernel_rfl) .i64 i (by omega) (by omega)]
      have hsz : (sizeOf (Try.prog.elem 54)).run Try.prog W = .ok 4 W := by rfl
      rw [hsz]
      simp only [Result.andThen_ok, sliced, Int.toNat_natCast, Option.map_some, addPlain, Nat.zero_mul, Nat.add_zero, Nat.sub_zero]
      rw [if_neg (by omega)]
    obtain ⟨ad2, had2⟩ : ∃ ad2 : Addr, (if cap = i + 1 then some (⟨g, 0, none⟩ : Addr) else some ⟨g, (i + 1) * 4, none⟩) = some ad2 := by split <;> exact ⟨_, rfl⟩
    have hB : ∀ W : World, (Instr.slice 54 (.slice (some ⟨g, 0, none⟩) (m + 1) cap) (some (.int .i64 ((i : Int) + 1))) none none).run Try.prog W = .ok (.slice (some ad2) (m - i) (cap - (i + 1))) W := fun W => by
      have h := run_slice_l (P := Try.prog) W 54 (some ⟨g, 0, none⟩) (m + 1) cap (by kernel_rfl) .i64 (i + 1) (by omega) (by omega)
      refine h.trans ?_
      have hsz : (sizeOf (Try.prog.elem 54)).run Try.prog W = .ok 4 W := by rfl
      rw [hsz]
      have hi1 : ((i : Int) + 1).toNat = i + 1 := by omega
      simp only [Result.andThen_ok, sliced, hi1, Option.map_some, addPlain, Nat.zero_add, Nat.add_sub_add_right]
      rw [had2]
    have hk4 : elPar.k = 4 := rfl
    rw [hk4] at hc ht h2
    have hvl : vss.flatten.length = (m + 1) * 4 := by rw [← hLn]; exact h1.flat
    have hct : ∀ j, j < (m + 1) * 4 → cur[j]? = vss.flatten[j]? := fun j hj => by
      rw [← ht, List.getElem?_take, if_pos hj, Array.getElem?_toList]
    have hcell : ∀ (W : World), W.heap[g]? = some (.cells cur 35 (0, 0)) → ∀ j, j < cap * 4 → ∃ u, W.cell? ⟨g, j, none⟩ = some u ∧ cur[j]? = some u := fun W hW j hj => by
      refine ⟨cur[j]'(by omega), ?_, by simp [show j < cur.size by omega]⟩
      simp [World.cell?, hW, show j < cur.size by omega]
    obtain ⟨news, hnews⟩ : ∃ news, vss.flatten.drop ((i + 1) * 4) = news := ⟨_, rfl⟩
    have hnl : news.length = (m - i) * 4 := by rw [← hnews, List.length_drop, hvl]; omega
    have hone : ∀ u ∈ news, u.oneCell' = true := fun u hu => by
      rw [← hnews] at hu
      obtain ⟨vs, hvs, huv⟩ := List.mem_flatten.1 (List.mem_of_mem_drop hu)
      obtain ⟨q, hq⟩ := List.mem_iff_getElem?.1 hvs
      have hq2 : q < L.length := by have := (List.getElem?_eq_some_iff.1 hq).1; rw [h1.length] at this; exact this
      obtain ⟨us, k1, k2, _⟩ := h1.at_ q L[q] (List.getElem?_eq_getElem hq2)
      rw [hq] at k1
      injection k1 with k1
      subst k1
      exact elPar.one k2 u huv
    have hsrc : ∀ j u, news[j]? = some u → w.drew.cell? (ad2.add j) = some u := fun j u hu => by
      have hj : j < news.length := (List.getElem?_eq_some_iff.1 hu).1
      rw [if_neg (by omega)] at had2
      injection had2 with had2
      subst had2
      rw [addPlain]
      obtain ⟨u', k1, k2⟩ := hcell w.drew hg ((i + 1) * 4 + j) (by omega)
      rw [k1, ← k2, hct _ (by omega), ← hu, ← hnews, List.getElem?_drop]
    have hspare : ∀ j, j < news.length → (w.drew.cell? ⟨g, 0 + i * 4 + j, none⟩).isSome = true ∧ w.drew.frozen? ⟨g, 0 + i * 4 + j, none⟩ = false := fun j hj => by
      obtain ⟨u', k1, _⟩ := hcell w.drew hg (0 + i * 4 + j) (by omega)
      exact ⟨by rw [k1]; rfl, by simp [World.frozen?, show w.drew.heap[g]? = _ from hg]⟩
    have hroom : i + (m - i) ≤ cap := by omega
    have him : i + (m - i) = m := by omega
    have HS := Lib.hid hsrc
    have HP := Lib.hid hspare
    have HC := Lib.hid hcell
    have HO := Lib.hid hone
    clear hsrc hspare hcell hone had2
    obtain ⟨w1, hw1⟩ : ∃ w1, w.drew.setCells g (i * 4) news = w1 := ⟨_, rfl⟩
    obtain ⟨cur1, e1, e2, e3⟩ := setCells_heap g 35 news (i * 4) w.drew cur hg (by omega)
    rw [hw1] at e1
    obtain ⟨w2, hw2⟩ : ∃ w2, w1.setCells g (m * 4) [.int .i64 0, .int .i64 0, .slice none 0 0, .bool false] = w2 := ⟨_, rfl⟩
    obtain ⟨cur2, f1, f2, f3⟩ := setCells_heap g 35 [.int .i64 0, .int .i64 0, .slice none 0 0, .bool false] (m * 4) w1 cur1 e1 (by rw [e2, hc]; simp; omega)
    rw [hw2] at f1
    have hcl : ∀ ty, (Builtin.clear_ #[54] ty #[.slice (some ⟨g, m * 4, none⟩) 1 (cap - m)]).run Try.prog w1 = .ok (.tuple #[]) w2 := fun ty => by
      have := run_clear_one (P := Try.prog) w1 54 35 ty (.agg #[.int .i64 0, .int .i64 0, .slice none 0 0, .bool false]) Try.underlying54 (fun W => by kernel_rfl) (by simp [Value.cells, Value.oneCell']) g (m * 4) (cap - m)
        (fun j hj => by
          have hj4 : j < 4 := hj
          simp [World.cell?, e1, show m * 4 + j < cur1.size by omega])
        (fun j hj => by simp [World.frozen?, e1])
      rw [this, ← hw2]
      rfl
    have hch : Chg (fun k => k = g) w w2 := by
      rw [← hw2, ← hw1]
      exact (((Chg.refl _ w).drew).trans (setCells_chg g news (i * 4) w.drew) fun _ _ h => h).trans (setCells_chg g _ (m * 4) _) fun _ _ h => h
    have hfin : Own elPar 35 w2 S (.slice (some ⟨g, 0, none⟩) m cap) (L.eraseIdx i) := by
      have hcc : Cells elPar w (fun k => S k ∧ some k ≠ (Value.slice (some ⟨g, 0, none⟩) (m + 1) cap).ownBlock) (vss.take i ++ vss.drop (i + 1)) (L.eraseIdx i) := by
        rw [List.eraseIdx_eq_take_drop_succ]
        exact (h1.take i).append (h1.drop (i + 1))
      have hlen : (L.eraseIdx i).length = m := by rw [List.length_eraseIdx_of_lt (by omega), hLn]; rfl
      have hfl : (vss.take i ++ vss.drop (i + 1)).flatten = vss.flatten.take (i * 4) ++ vss.flatten.drop ((i + 1) * 4) := by
        rw [List.flatten_append, flatten_take 4 vss h1.lens, flatten_drop 4 vss h1.lens]
      refine ⟨vss.take i ++ vss.drop (i + 1), hcc.keep hch.size fun k hk hl => hch.block k hl fun e => hk.2 (by rw [e]; rfl), ⟨?_, .inr ⟨g, cap, cur2, by rw [hlen], Nat.zero_le _, f1, by rw [hlen]; omega, by unfold maxLen; omega, by rw [f2, e2, hc]; rfl, ?_⟩⟩, fun g' hg' => h3 g' hg'⟩
      · rw [hcc.flat]
      · rw [hfl, hlen]
        apply List.ext_getElem?
        intro j
        show (cur2.toList.take (m * 4))[j]? = _
        rw [List.getElem?_take]
        by_cases hj : j < m * 4
        · rw [if_pos hj, Array.getElem?_toList, f3 j, if_neg (by omega), e3 j]
          by_cases hji : j < i * 4
          · rw [if_neg (by omega), hct j (by omega), List.getElem?_append_left (by rw [List.length_take]; omega), List.getElem?_take, if_pos hji]
          · rw [if_pos (by omega), ← hnews, List.getElem?_drop, List.getElem?_append_right (by rw [List.length_take]; omega), List.getElem?_drop, List.length_take]
            congr 1
            omega
        · rw [if_neg hj, List.getElem?_eq_none (by rw [List.length_append, List.length_take, List.length_drop]; omega)]
    have HFIN := Lib.hid hfin
    have HCH := Lib.hid hch
    clear hfin hch
    have hE1 := Lib.hid e1
    have HLN := Lib.hid hLn
    have HNE := Lib.hid hnews
    have HIM := Lib.hid him
    have HW1 := Lib.hid hw1
    have HW2 := Lib.hid hw2
    have E2 := Lib.hid e2
    have E3 := Lib.hid e3
    have F1 := Lib.hid f1
    have F2 := Lib.hid f2
    have F3 := Lib.hid f3
    clear e1 hLn hnews him hw1 hw2 e2 e3 f1 f2 f3 hct
    go_enter Try.func29, Try.ntmps29
    go_wp2_with fail
    go_region_law (refine step_append_room (by rfl) _ _ 54 (by rfl) 35 i0 4 Try.underlying54 hi0 hz1 g 0 i cap (by rfl) ad2 (m - i) (cap - (i + 1)) news (by rfl) hnl HS.out HO.out hroom HP.out ?_)
    all_goals
      rw [HIM.out, HW1.out]
      go_wp2_with fail
      go_ret
      exact ⟨_, rfl, HFIN.out, HCH.out.mono fun k _ hk => by rw [hk]; rfl⟩
end Go.Proofs.Ytmkmbnfmmibifaa
