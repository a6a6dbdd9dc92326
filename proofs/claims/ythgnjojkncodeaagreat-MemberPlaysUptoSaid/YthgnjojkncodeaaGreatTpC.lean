/-
  slices.Clone of three kinds; topo.Copy.
-/
import Derived.Test.YthgnjojkncodeaaGreatTpD
import Derived.Deep.CutBlock
namespace Go.Proofs.YthgnjojkncodeaaGreat
open Go.RowKit

theorem info_bool : (Tryz.prog.info? 4).map (fun i => (i.zero, i.size, i.bytes)) = some (some (.bool false), 1, 1) := by kernel_rfl
theorem info_eds : (Tryz.prog.info? 74).map (fun i => (i.zero, i.size, i.bytes)) = some (some (.slice none 0 0), 1, 24) := by kernel_rfl
section
variable {α : Type} {E : El α} {T : TypeId} {w w' : World} {ok S S' : Nat → Prop} {v : Value} {xs : List α} {vss : List (List Value)}
theorem Own.empty (E : El α) (T : TypeId) (w : World) (S : Nat → Prop) (hS : S w.heap.size) : Own E T (w.alloc (.cells #[] T)) S (.slice (some ⟨w.heap.size, 0, none⟩) 0 0) [] :=
  ⟨[], .nil, ⟨by simp, .inr ⟨w.heap.size, 0, #[], rfl, Nat.zero_le _, heap_alloc_new w _, by simp, by simp [maxLen], by simp, by simp⟩⟩, fun g hg => by have e := Option.some.inj hg; have e : w.heap.size = g := e; rw [← e]; exact hS⟩
theorem Own.ofParts {vss : List (List Value)} (h1 : Cells E w ok vss xs) (h2 : w.ownsRow 0 T E.k v xs.length vss.flatten) (hS : ∀ k, k < w.heap.size → ok k → S k ∧ some k ≠ v.ownBlock) (hv : ∀ g, v.ownBlock = some g → S g) : Own E T w S v xs :=
  ⟨vss, h1.mono fun k hk hl => hS k hl hk, h2, hv⟩
theorem Own.keepB (h : Own E T w S v xs) (hs : w.heap.size ≤ w'.heap.size) (hk : ∀ k, S k → k < w.heap.size → w'.heap[k]? = w.heap[k]?) : Own E T w' S v xs := by
  obtain ⟨vss, h1, h2, h3⟩ := h
  refine ⟨vss, h1.keep hs fun k hS hl => hk k hS.1 hl, ⟨h2.1, ?_⟩, h3⟩
  rcases h2.2 with h4 | ⟨g, cap, cur, rfl, hb, hg, r⟩
  · exact .inl h4
  · exact .inr ⟨g, cap, cur, rfl, hb, (hk g (h3 g rfl) (Array.getElem?_eq_some_iff.1 hg).1).trans hg, r⟩
/-- Elements that lead nowhere. -/
def Flat (E : El α) : Prop := ∀ (w : World) (ok ok' : Nat → Prop) (vs : List Value) (x : α), E.V w ok vs x → E.V w ok' vs x
theorem Cells.flatten_ (hf : Flat E) (h : Cells E w S vss xs) : Cells E w S' vss xs := by
  induction h with
  | nil => exact .nil
  | cons hv _ ih => exact .cons (hf _ _ _ _ _ hv) ih
theorem Own.shrink (hf : Flat E) (h : Own E T w S v xs) (hs : ∀ g, v.ownBlock = some g → S' g) : Own E T w S' v xs := by
  obtain ⟨vss, h1, h2, h3⟩ := h
  exact ⟨vss, h1.flatten_ hf, h2, hs⟩
end
/-- Rows of a call's own, in a row. -/
def El.own {α : Type} (E : El α) (T : TypeId) : El (List α) where
  k := 1
  bulk := fun _ => 1
  V := fun w ok vs x => ∃ v, vs = [v] ∧ Own E T w ok v x
  len := by rintro w ok vs x ⟨v, rfl, _⟩; rfl
  one := by
    rintro w ok vs x ⟨v, rfl, h⟩ u hu
    simp at hu; subst hu
    obtain ⟨A, n, c, rfl, _⟩ := h.shape
    rfl
  keep := by rintro w w' ok vs x ⟨v, rfl, h⟩ hs hk; exact ⟨v, rfl, h.keepB hs hk⟩
  mono := by rintro w ok ok' vs x ⟨v, rfl, h⟩ hk; exact ⟨v, rfl, h.mono fun k hl hS => hk k hS hl⟩
abbrev elOw : El (List Ed) := El.own elEd 77
theorem flat_bool : Flat El.bool := fun _ _ _ _ _ h => h
theorem flat_ed : Flat elEd := fun w ok ok' vs x h => by
  obtain ⟨rfl, h1, h2⟩ := ed_open h
  exact ed_mk _ _ h1 h2
/-- What a call leaves that hands back a row of its own. -/
def RetOwn {α : Type} (E : El α) (T : TypeId) (w : World) (ok : Nat → Prop) (xs : List α) (e : Ending) (w' : World) : Prop :=
  ∃ v vss, e = .returned v ∧ Cells E w' ok vss xs ∧ w'.ownsRow 0 T E.k v xs.length vss.flatten ∧ (∀ g, v.ownBlock = some g → w.heap.size ≤ g) ∧ Below w.heap.size w w'
section
variable {α : Type} {E : El α} {T : TypeId} {ok : Nat → Prop} {n : Nat} {ys : List α}
theorem clone_run {P : Program} {W : World} (st ty : TypeId) (i : TypeInfo) (z : Value) (bytes : Nat) (ht : P.underlying st = some (.slice T)) (hi : P.info? T = some i) (hz : i.zero = some z)
    (hsize : i.size = E.k) (hby : i.bytes = bytes) (hzs : z.cells.size = E.k) (hk : 0 < E.k) (g : Nat) (hg : W.heap[g]? = some (.cells #[] T (0, 0))) (ad : Addr) (HR : Rd E W ok (some ad) n ys)
    (hm : 0 + n ≤ maxLen) (hb : (0 + n) * bytes ≤ 140737488355328) (c : Nat) :
    ∃ v1 w1 wss, (Builtin.append_ #[st, st] ty #[.slice (some ⟨g, 0, none⟩) 0 0, .slice (some ad) n c]).run P W = .ok v1 w1 ∧ Cells E W ok wss ys ∧ w1.ownsRow 0 T E.k v1 n wss.flatten ∧ W.grownBy w1 (some g) ∧ (v1.ownBlock = some g ∨ v1.ownBlock = some W.heap.size) := by
  have hyl := HR.len
  have hcl : ∃ wss, Cells E W ok wss ys ∧ ∀ q u, wss.flatten[q]? = some u → W.cell? (ad.add q) = some u := by
    rcases Nat.eq_zero_or_pos n with h0 | h0
    · obtain rfl : ys = [] := List.eq_nil_of_length_eq_zero (by omega)
      exact ⟨[], .nil, fun q u h => by simp at h⟩
    · obtain ⟨b, o, e, _, _, hc⟩ := HR.2.2 h0
      injection e with e
      subst e
      obtain ⟨wss, k1, k2⟩ := Rd.cells (E := E) hk ys b o hc
      exact ⟨wss, k1, fun q u hu => by rw [addPlain]; exact k2 q u hu⟩
  obtain ⟨wss, k1, k2⟩ := hcl
  have hone : ∀ u ∈ wss.flatten, u.oneCell' = true := fun u hu => by
    obtain ⟨vs, hvs, huv⟩ := List.mem_flatten.1 hu
    obtain ⟨q, hq⟩ := List.mem_iff_getElem?.1 hvs
    have hq2 : q < ys.length := by have := (List.getElem?_eq_some_iff.1 hq).1; rw [k1.length] at this; exact this
    obtain ⟨us, j1, j2, _⟩ := k1.at_ q ys[q] (List.getElem?_eq_getElem hq2)
    rw [hq] at j1
    injection j1 with j1
    subst j1
    exact E.one j2 u huv
  have h2 : W.ownsRow 0 T E.k (.slice (some ⟨g, 0, none⟩) 0 0) 0 [] := ⟨by simp, .inr ⟨g, 0, #[], rfl, Nat.zero_le _, hg, by simp, by simp [maxLen], by simp, by simp⟩⟩
  obtain ⟨v1, w1, hr, q2, q3, _, q5⟩ := run_append_own_at (P := P) W 0 st ty T i z E.k bytes ht hi hz hsize hby hzs hk _ 0 [] h2 ad n c wss.flatten (by rw [k1.flat, hyl]) k2 hone hm hb (Nat.zero_le _)
  rw [Nat.zero_add, List.nil_append] at q2
  exact ⟨v1, w1, wss, hr, k1, q2, q3, q5⟩
end
set_option maxRecDepth 100000 in
set_option maxHeartbeats 1000000 in
theorem cloneB_calls (w : World) (ok : Nat → Prop) (A : Option Addr) (n c : Nat) (xs : List Bool) (hr : Rd El.bool w ok A n xs) (hok : ∀ k, ok k → k < w.heap.size) (hn : n ≤ 1048576) :
    Calls Tryz.prog 63 #[.slice A n c] w (RetOwn El.bool 4 w ok xs) := by
  obtain ⟨i0, hi0, hzz⟩ := Option.map_eq_some_iff.1 info_bool
  simp only [Prod.mk.injEq] at hzz
  obtain ⟨hz0, hz1, hz2⟩ := hzz
  have hl := hr.len
  cases A with
  | none =>
    have hn0 : n = 0 := by
      rcases Nat.eq_zero_or_pos n with h0 | h0
      · exact h0
      · obtain ⟨b, o, h, _⟩ := hr.2.2 h0
        cases h
    subst hn0
    obtain rfl : xs = [] := List.eq_nil_of_length_eq_zero hl
    have hq := fun W => Lib.run_eql_slice_nil (P := Tryz.prog) W 35 4 none 0 c 0 0 Tryz.underlying35
    clear hr hl hi0 hz0 hz1 hz2 hok
    go_enter Tryz.func63, Tryz.ntmps63
    go_wp2
    go_ret
    exact ⟨_, [], rfl, .nil, World.ownsRow_nil _ _ _ _, fun g h => (by cases h), Below.refl _ _⟩
  | some ad =>
    obtain ⟨w1, hw1⟩ : ∃ w1, w.alloc (.cells #[] 4) = w1 := ⟨_, rfl⟩
    have b1 : Below w.heap.size w w1 := by rw [← hw1]; exact (Below.refl _ _).alloc (Nat.le_refl _) _
    have hg1 : w1.heap[w.heap.size]? = some (.cells #[] 4 (0, 0)) := by rw [← hw1]; exact heap_alloc_new w _
    have hbig : 0 + n ≤ maxLen := by unfold maxLen; omega
    have hbb : (0 + n) * 1 ≤ 140737488355328 := by omega
    obtain ⟨v1, w2, wss, hrun, hcw, ho2, hg2, hv2⟩ := clone_run (E := El.bool) (P := Tryz.prog) 35 35 i0 _ 1 Tryz.underlying35 hi0 hz0 hz1 hz2 rfl (by decide) w.heap.size hg1 ad (hr.below b1) hbig hbb c
    have hs1 : w1.heap.size = w.heap.size + 1 := by rw [← hw1]; simp
    have hb2 : Below w.heap.size w w2 := b1.grown hg2 b1.size (fun k hk => by have e := Option.some.inj hk; omega)
    have hown : RetOwn El.bool 4 w ok xs (.returned v1) w2 := by
      refine ⟨v1, wss, rfl, hcw.keep hg2.size fun k hk hl => hg2.block k hl fun e => ?_, by rw [hl]; exact ho2, fun g hg => ?_, hb2⟩
      · have e := Option.some.inj e; have := hok k hk; omega
      · rcases hv2 with h | h
        · rw [hg] at h; have e := Option.some.inj h; omega
        · rw [hg] at h; have e := Option.some.inj h; omega
    have hq := fun W => Lib.run_eql_slice_nil (P := Tryz.prog) W 35 4 (some ad) n c 0 0 Tryz.underlying35
    have HRUN := Lib.hid hrun
    have HW1 := Lib.hid hw1
    have HOWN := Lib.hid hown
    clear hr hl hi0 hz0 hz1 hz2 hok hrun hw1 hown ho2 hg2 hv2 hb2 hs1 hg1 b1 hbig hbb hcw
    go_enter Tryz.func63, Tryz.ntmps63
    go_wp2_with (at_builtin; rw [HW1.out]; refine wpList_app_run rfl (.tmp 5) (.tmp 6) 35 35 rfl rfl rfl HRUN.out ?_)
    go_ret
    exact HOWN.out
set_option maxRecDepth 100000 in
set_option maxHeartbeats 1000000 in
theorem cloneE_calls (w : World) (ok : Nat → Prop) (A : Option Addr) (n c : Nat) (xs : List Ed) (hr : Rd elEd w ok A n xs) (hok : ∀ k, ok k → k < w.heap.size) (hn : n ≤ 1048576) :
    Calls Tryz.prog 60 #[.slice A n c] w (RetOwn elEd 77 w ok xs) := by
  obtain ⟨i0, hi0, hzz⟩ := Option.map_eq_some_iff.1 info_ed
  simp only [Prod.mk.injEq] at hzz
  obtain ⟨hz0, hz1, hz2⟩ := hzz
  have hl := hr.len
  cases A with
  | none =>
    have hn0 : n = 0 := by
      rcases Nat.eq_zero_or_pos n with h0 | h0
      · exact h0
      · obtain ⟨b, o, h, _⟩ := hr.2.2 h0
        cases h
    subst hn0
    obtain rfl : xs = [] := List.eq_nil_of_length_eq_zero hl
    have hq := fun W => Lib.run_eql_slice_nil (P := Tryz.prog) W 74 77 none 0 c 0 0 Tryz.underlying74
    clear hr hl hi0 hz0 hz1 hz2 hok
    go_enter Tryz.func60, Tryz.ntmps60
    go_wp2
    go_ret
    exact ⟨_, [], rfl, .nil, World.ownsRow_nil _ _ _ _, fun g h => (by cases h), Below.refl _ _⟩
  | some ad =>
    obtain ⟨w1, hw1⟩ : ∃ w1, w.alloc (.cells #[] 77) = w1 := ⟨_, rfl⟩
    have b1 : Below w.heap.size w w1 := by rw [← hw1]; exact (Below.refl _ _).alloc (Nat.le_refl _) _
    have hg1 : w1.heap[w.heap.size]? = some (.cells #[] 77 (0, 0)) := by rw [← hw1]; exact heap_alloc_new w _
    have hbig : 0 + n ≤ maxLen := by unfold maxLen; omega
    have hbb : (0 + n) * 16 ≤ 140737488355328 := by omega
    obtain ⟨v1, w2, wss, hrun, hcw, ho2, hg2, hv2⟩ := clone_run (E := elEd) (P := Tryz.prog) 74 74 i0 _ 16 Tryz.underlying74 hi0 hz0 hz1 hz2 rfl (by decide) w.heap.size hg1 ad (hr.below b1) hbig hbb c
    have hs1 : w1.heap.size = w.heap.size + 1 := by rw [← hw1]; simp
    have hb2 : Below w.heap.size w w2 := b1.grown hg2 b1.size (fun k hk => by have e := Option.some.inj hk; omega)
    have hown : RetOwn elEd 77 w ok xs (.returned v1) w2 := by
      refine ⟨v1, wss, rfl, hcw.keep hg2.size fun k hk hl => hg2.block k hl fun e => ?_, by rw [hl]; exact ho2, fun g hg => ?_, hb2⟩
      · have e := Option.some.inj e; have := hok k hk; omega
      · rcases hv2 with h | h
        · rw [hg] at h; have e := Option.some.inj h; omega
        · rw [hg] at h; have e := Option.some.inj h; omega
    have hq := fun W => Lib.run_eql_slice_nil (P := Tryz.prog) W 74 77 (some ad) n c 0 0 Tryz.underlying74
    have HRUN := Lib.hid hrun
    have HW1 := Lib.hid hw1
    have HOWN := Lib.hid hown
    clear hr hl hi0 hz0 hz1 hz2 hok hrun hw1 hown ho2 hg2 hv2 hb2 hs1 hg1 b1 hbig hbb hcw
    go_enter Tryz.func60, Tryz.ntmps60
    go_wp2_with (at_builtin; rw [HW1.out]; refine wpList_app_run rfl (.tmp 5) (.tmp 6) 74 74 rfl rfl rfl HRUN.out ?_)
    go_ret
    exact HOWN.out
set_option maxRecDepth 100000 in
set_option maxHeartbeats 1000000 in
theorem cloneH_calls (w : World) (ok : Nat → Prop) (A : Option Addr) (n c : Nat) (xs : List (List Ed)) (hr : Rd elEs w ok A n xs) (hok : ∀ k, ok k → k < w.heap.size) (hn : n ≤ 1048576) :
    Calls Tryz.prog 64 #[.slice A n c] w (RetOwn elEs 74 w ok xs) := by
  obtain ⟨i0, hi0, hzz⟩ := Option.map_eq_some_iff.1 info_eds
  simp only [Prod.mk.injEq] at hzz
  obtain ⟨hz0, hz1, hz2⟩ := hzz
  have hl := hr.len
  cases A with
  | none =>
    have hn0 : n = 0 := by
      rcases Nat.eq_zero_or_pos n with h0 | h0
      · exact h0
      · obtain ⟨b, o, h, _⟩ := hr.2.2 h0
        cases h
    subst hn0
    obtain rfl : xs = [] := List.eq_nil_of_length_eq_zero hl
    have hq := fun W => Lib.run_eql_slice_nil (P := Tryz.prog) W 36 74 none 0 c 0 0 Tryz.underlying36
    clear hr hl hi0 hz0 hz1 hz2 hok
    go_enter Tryz.func64, Tryz.ntmps64
    go_wp2
    go_ret
    exact ⟨_, [], rfl, .nil, World.ownsRow_nil _ _ _ _, fun g h => (by cases h), Below.refl _ _⟩
  | some ad =>
    obtain ⟨w1, hw1⟩ : ∃ w1, w.alloc (.cells #[] 74) = w1 := ⟨_, rfl⟩
    have b1 : Below w.heap.size w w1 := by rw [← hw1]; exact (Below.refl _ _).alloc (Nat.le_refl _) _
    have hg1 : w1.heap[w.heap.size]? = some (.cells #[] 74 (0, 0)) := by rw [← hw1]; exact heap_alloc_new w _
    have hbig : 0 + n ≤ maxLen := by unfold maxLen; omega
    have hbb : (0 + n) * 24 ≤ 140737488355328 := by omega
    obtain ⟨v1, w2, wss, hrun, hcw, ho2, hg2, hv2⟩ := clone_run (E := elEs) (P := Tryz.prog) 36 36 i0 _ 24 Tryz.underlying36 hi0 hz0 hz1 hz2 rfl (by decide) w.heap.size hg1 ad (hr.below b1) hbig hbb c
    have hs1 : w1.heap.size = w.heap.size + 1 := by rw [← hw1]; simp
    have hb2 : Below w.heap.size w w2 := b1.grown hg2 b1.size (fun k hk => by have e := Option.some.inj hk; omega)
    have hown : RetOwn elEs 74 w ok xs (.returned v1) w2 := by
      refine ⟨v1, wss, rfl, hcw.keep hg2.size fun k hk hl => hg2.block k hl fun e => ?_, by rw [hl]; exact ho2, fun g hg => ?_, hb2⟩
      · have e := Option.some.inj e; have := hok k hk; omega
      · rcases hv2 with h | h
        · rw [hg] at h; have e := Option.some.inj h; omega
        · rw [hg] at h; have e := Option.some.inj h; omega
    have hq := fun W => Lib.run_eql_slice_nil (P := Tryz.prog) W 36 74 (some ad) n c 0 0 Tryz.underlying36
    have HRUN := Lib.hid hrun
    have HW1 := Lib.hid hw1
    have HOWN := Lib.hid hown
    clear hr hl hi0 hz0 hz1 hz2 hok hrun hw1 hown ho2 hg2 hv2 hb2 hs1 hg1 b1 hbig hbb hcw
    go_enter Tryz.func64, Tryz.ntmps64
    go_wp2_with (at_builtin; rw [HW1.out]; refine wpList_app_run rfl (.tmp 5) (.tmp 6) 36 36 rfl rfl rfl HRUN.out ?_)
    go_ret
    exact HOWN.out
end Go.Proofs.YthgnjojkncodeaaGreat
