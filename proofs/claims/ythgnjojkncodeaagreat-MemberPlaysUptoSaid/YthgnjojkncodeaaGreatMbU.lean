/-
  The law's own: a topology in new memory, by append.
-/
import Derived.Test.YthgnjojkncodeaaGreatMbM
import Derived.Deep.CutBlock
namespace Go.Proofs.YthgnjojkncodeaaGreat
open Go.RowKit
set_option linter.unusedVariables false
set_option linter.unusedSimpArgs false

section
variable {α : Type} {E : El α} {T : TypeId} {ok : Nat → Prop} {n : Nat} {ys : List α}
/-- append([]T{}, others...). -/
theorem fresh_run {P : Program} {w : World} (st ty : TypeId) (i : TypeInfo) (z : Value) (bytes : Nat) (ht : P.underlying st = some (.slice T)) (hi : P.info? T = some i) (hz : i.zero = some z)
    (hsize : i.size = E.k) (hby : i.bytes = bytes) (hzs : z.cells.size = E.k) (hk : 0 < E.k) (A : Option Addr) (HR : Rd E w ok A n ys) (hok : ∀ k, ok k → k < w.heap.size)
    (hm : n ≤ maxLen) (hb : n * bytes ≤ 140737488355328) (c : Nat) :
    ∃ v1 w2, (Builtin.append_ #[st, st] ty #[.slice (some ⟨w.heap.size, 0, none⟩) 0 0, .slice A n c]).run P (w.alloc (.cells #[] T)) = .ok v1 w2 ∧ RetOwn E T w ok ys (.returned v1) w2 := by
  have hl := HR.len
  have b1 : Below w.heap.size w (w.alloc (.cells #[] T)) := (Below.refl _ _).alloc (Nat.le_refl _) _
  have hs1 : (w.alloc (.cells #[] T)).heap.size = w.heap.size + 1 := by simp
  cases A with
  | none =>
    have hn0 : n = 0 := by
      rcases Nat.eq_zero_or_pos n with h0 | h0
      · exact h0
      · obtain ⟨b, o, h, _⟩ := HR.2.2 h0
        cases h
    subst hn0
    obtain rfl : ys = [] := List.eq_nil_of_length_eq_zero hl
    refine ⟨.slice (some ⟨w.heap.size, 0, none⟩) 0 0, w.alloc (.cells #[] T), by simp [Builtin.append_, run_underlying ht, sizeOf, typeInfo, hi, Builtin.lenOf, Builtin.firstCells, storeCells], _, [], rfl, .nil, ⟨by simp, .inr ⟨w.heap.size, 0, #[], rfl, Nat.zero_le _, heap_alloc_new w _, by simp, by simp [maxLen], by simp, by simp⟩⟩, fun g hg => ?_, b1⟩
    have e := Option.some.inj hg
    have e : w.heap.size = g := e
    omega
  | some ad =>
    obtain ⟨v1, w2, wss, hrun, hcw, ho2, hg2, hv2⟩ := clone_run (E := E) (P := P) (W := w.alloc (.cells #[] T)) st ty i z bytes ht hi hz hsize hby hzs hk w.heap.size (heap_alloc_new w _) ad (HR.below b1) (by omega) (by rw [Nat.zero_add]; exact hb) c
    refine ⟨v1, w2, hrun, v1, wss, rfl, hcw.keep hg2.size fun k hk hl => hg2.block k hl fun e => ?_, by rw [hl]; exact ho2, fun g hg => ?_, b1.grown hg2 b1.size (fun k hk => by have e := Option.some.inj hk; omega)⟩
    · have e := Option.some.inj e; have := hok k hk; omega
    · rcases hv2 with h | h
      · rw [hg] at h; have e := Option.some.inj h; omega
      · rw [hg] at h; have e := Option.some.inj h; omega
end
theorem freshB (w : World) (ok : Nat → Prop) (A : Option Addr) (n c : Nat) (xs : List Bool) (hr : Rd El.bool w ok A n xs) (hok : ∀ k, ok k → k < w.heap.size) (hn : n ≤ 1048576) :
    ∃ v1 w2, (Builtin.append_ #[35, 35] 35 #[.slice (some ⟨w.heap.size, 0, none⟩) 0 0, .slice A n c]).run Tryz.prog (w.alloc (.cells #[] 4)) = .ok v1 w2 ∧ RetOwn El.bool 4 w ok xs (.returned v1) w2 := by
  obtain ⟨i0, hi0, hzz⟩ := Option.map_eq_some_iff.1 info_bool
  simp only [Prod.mk.injEq] at hzz
  obtain ⟨hz0, hz1, hz2⟩ := hzz
  exact fresh_run _ _ i0 _ 1 Tryz.underlying35 hi0 hz0 hz1 hz2 rfl (by decide) A hr hok (by unfold maxLen; omega) (by omega) c
theorem freshE (w : World) (ok : Nat → Prop) (A : Option Addr) (n c : Nat) (xs : List Ed) (hr : Rd elEd w ok A n xs) (hok : ∀ k, ok k → k < w.heap.size) (hn : n ≤ 1048576) :
    ∃ v1 w2, (Builtin.append_ #[74, 74] 74 #[.slice (some ⟨w.heap.size, 0, none⟩) 0 0, .slice A n c]).run Tryz.prog (w.alloc (.cells #[] 77)) = .ok v1 w2 ∧ RetOwn elEd 77 w ok xs (.returned v1) w2 := by
  obtain ⟨i0, hi0, hzz⟩ := Option.map_eq_some_iff.1 info_ed
  simp only [Prod.mk.injEq] at hzz
  obtain ⟨hz0, hz1, hz2⟩ := hzz
  exact fresh_run _ _ i0 _ 16 Tryz.underlying74 hi0 hz0 hz1 hz2 rfl (by decide) A hr hok (by unfold maxLen; omega) (by omega) c
theorem freshH (w : World) (ok : Nat → Prop) (A : Option Addr) (n c : Nat) (xs : List (List Ed)) (hr : Rd elEs w ok A n xs) (hok : ∀ k, ok k → k < w.heap.size) (hn : n ≤ 1048576) :
    ∃ v1 w2, (Builtin.append_ #[36, 36] 36 #[.slice (some ⟨w.heap.size, 0, none⟩) 0 0, .slice A n c]).run Tryz.prog (w.alloc (.cells #[] 74)) = .ok v1 w2 ∧ RetOwn elEs 74 w ok xs (.returned v1) w2 := by
  obtain ⟨i0, hi0, hzz⟩ := Option.map_eq_some_iff.1 info_eds
  simp only [Prod.mk.injEq] at hzz
  obtain ⟨hz0, hz1, hz2⟩ := hzz
  exact fresh_run _ _ i0 _ 24 Tryz.underlying36 hi0 hz0 hz1 hz2 rfl (by decide) A hr hok (by unfold maxLen; omega) (by omega) c
theorem RetOwn.val {α : Type} {E : El α} {T : TypeId} {w w' : World} {ok : Nat → Prop} {xs : List α} {v : Value} (h : RetOwn E T w ok xs (.returned v) w') : ∃ vss, Cells E w' ok vss xs ∧ w'.ownsRow 0 T E.k v xs.length vss.flatten ∧ (∀ g, v.ownBlock = some g → w.heap.size ≤ g) ∧ Below w.heap.size w w' := by
  obtain ⟨v2, vss, e, h1, h2, h3, h4⟩ := h
  cases e
  exact ⟨vss, h1, h2, h3, h4⟩
set_option maxRecDepth 100000 in
set_option maxHeartbeats 4000000 in
theorem own_calls (w : World) (v : Value) (ep : Int) (up : List Bool) (hops : List (List Ed)) (h : TopoV w (fun k => k < w.heap.size) v ep up hops) (hf : Few hops) (hn1 : up.length ≤ 1048576) (hn2 : hops.length ≤ 1048576) :
    Calls Tryz.prog 7 #[v] w (RetTO w ep up hops) := by
  obtain ⟨A, n, c, B, m, d, rfl, g1, g2, g3, g4⟩ := h
  have hl3 := g3.len
  have hl4 := g4.len
  obtain ⟨w2, hw2⟩ : ∃ w2, (w.alloc (.cells #[.int .u64 ep, .slice A n c, .slice B m d] 38)).alloc (.cells #[.int .u64 0, .slice none 0 0, .slice none 0 0] 38) = w2 := ⟨_, rfl⟩
  have b2 : Below w.heap.size w w2 := by rw [← hw2]; exact ((Below.refl _ _).alloc (Nat.le_refl _) _).alloc (by simp) _
  have hs2 : w2.heap.size = w.heap.size + 2 := by rw [← hw2]; simp
  have e0 : w2.heap[w.heap.size]? = some (.cells #[.int .u64 ep, .slice A n c, .slice B m d] 38 (0, 0)) := by
    rw [← hw2, Below.heap_alloc _ _ _ (by simp)]
    exact heap_alloc_new w _
  have e1 : w2.heap[w.heap.size + 1]? = some (.cells #[.int .u64 0, .slice none 0 0, .slice none 0 0] 38 (0, 0)) := by
    rw [← hw2]
    have := heap_alloc_new (w.alloc (.cells #[.int .u64 ep, .slice A n c, .slice B m d] 38)) (.cells #[.int .u64 0, .slice none 0 0, .slice none 0 0] 38)
    simpa using this
  obtain ⟨v1, wu, hrun, hret⟩ := freshB w2 _ A n c up (g3.below b2) (fun k hk => by omega) (by omega)
  obtain ⟨usU, hqU, hoU, hgU, bU⟩ := hret.val
  obtain ⟨AU, cU, rfl, hcU⟩ := owns_shape2 hoU
  obtain ⟨wb, hwb⟩ : ∃ wb, w2.alloc (.cells #[] 4) = wb := ⟨_, rfl⟩
  have bb : Below w2.heap.size w2 wb := by rw [← hwb]; exact (Below.refl _ _).alloc (Nat.le_refl _) _
  have c1 : wb.cell? ⟨w.heap.size, 1, none⟩ = some (.slice A n c) := by simp [World.cell?, bb.block w.heap.size (by omega), e0]
  rw [hwb] at hrun
  have HW2 := Lib.hid hw2
  have HWB := Lib.hid hwb
  have HRUN := Lib.hid hrun
  have HB2 := Lib.hid b2
  have HS2 := Lib.hid hs2
  have E0 := Lib.hid e0
  have E1 := Lib.hid e1
  have G4 := Lib.hid g4
  have HF := Lib.hid hf
  have HL4 := Lib.hid hl4
  have HN2 := Lib.hid hn2
  have hsU := bU.size
  have eu0 : wu.heap[w.heap.size]? = some (.cells #[.int .u64 ep, .slice A n c, .slice B m d] 38 (0, 0)) := (bU.block _ (by omega)).trans E0.out
  have z1 : wu.frozen? ⟨w.heap.size, 1, none⟩ = false := by simp [World.frozen?, eu0]
  have k1 : wu.cell? ⟨w.heap.size, 1, none⟩ = some (.slice A n c) := by simp [World.cell?, eu0]
  obtain ⟨wx, hwx⟩ : ∃ wx, wu.setCell ⟨w.heap.size, 1, none⟩ (.slice AU up.length cU) = wx := ⟨_, rfl⟩
  have hcx : Chg (fun k => k = w.heap.size) wu wx := by rw [← hwx]; exact Chg.set wu ⟨w.heap.size, 1, none⟩ _
  have ex0 : wx.heap[w.heap.size]? = some (.cells #[.int .u64 ep, .slice AU up.length cU, .slice B m d] 38 (0, 0)) := by rw [← hwx]; simp [World.setCell, Array.getElem?_modify, eu0]
  have ex1 : wx.heap[w.heap.size + 1]? = some (.cells #[.int .u64 0, .slice none 0 0, .slice none 0 0] 38 (0, 0)) := (hcx.block _ (by omega) (by omega)).trans ((bU.block _ (by omega)).trans E1.out)
  have hsx : wx.heap.size = wu.heap.size := by rw [← hwx]; simp [World.setCell]
  have hbx : Below w.heap.size w wx := hcx.below (belowThen HB2.out HB2.out.size bU) (by omega) fun k hk => by omega
  obtain ⟨v2, wh, hrun2, hret2⟩ := freshH wx _ B m d hops (G4.out.keep hbx.size fun k hk _ => hbx.block k hk) (fun k hk => by omega) (by omega)
  obtain ⟨usH, hqH, hoH, hgH, bH⟩ := hret2.val
  obtain ⟨AH, cH, rfl, hcH⟩ := owns_shape2 hoH
  obtain ⟨wy, hwy⟩ : ∃ wy, wx.alloc (.cells #[] 74) = wy := ⟨_, rfl⟩
  have by_ : Below wx.heap.size wx wy := by rw [← hwy]; exact (Below.refl _ _).alloc (Nat.le_refl _) _
  have k2 : wy.cell? ⟨w.heap.size, 2, none⟩ = some (.slice B m d) := by simp [World.cell?, by_.block w.heap.size (by omega), ex0]
  rw [hwy] at hrun2
  have HRUN2 := Lib.hid hrun2
  have HWX := Lib.hid hwx
  have HWY := Lib.hid hwy
  have HST := Lib.hid (CSt.start HS2.out HB2.out bU hcx bH hqU hoU hgU hqH hoH hgH ex0 ex1)
  obtain ⟨N, hN⟩ : ∃ N, hops.length = N := ⟨_, rfl⟩
  obtain ⟨u9, hU9⟩ : ∃ u9, up.length = u9 := ⟨_, rfl⟩
  rw [hN] at HST hcH HRUN2
  rw [hU9] at HST HRUN HWX
  have HN := Lib.hid hN
  have HU9 := Lib.hid hU9
  have hN2 : N ≤ 1048576 := by rw [← hN]; exact HN2.out
  have hl2 : w.heap.size + 2 = w2.heap.size := hs2.symm
  clear hw2 hrun b2 hs2 e0 e1 g4 hf hl4 hn2 g3 hl3 hn1 hret hqU hoU hgU bU bb hsU eu0 hwx hcx ex0 ex1 hsx hbx hret2 hqH hoH hgH bH by_ hrun2 hN hU9 hl2
  go_enter Tryz.func7, Tryz.ntmps7
  go_upto_region 1 with (fail)
  rw [HW2.out]
  go_upto_region 2 with (at_builtin; refine wpList_app_run rfl (.tmp 5) (.tmp 7) 35 35 rfl rfl rfl HRUN.out ?_)
  rw [HWX.out]
  clear hwb z1 k1 c1
  go_upto_region 3 with (at_builtin; refine wpList_app_run rfl (.tmp 10) (.tmp 12) 36 36 rfl rfl rfl HRUN2.out ?_)
  go_wp2_with fail
  go_loopg [16] N (fun gg s16 wr => ∃ i : Nat, i ≤ N ∧ N - i ≤ gg ∧ s16 = .int .i64 (i : Int) ∧ Hid (CSt w (.slice B m d) (.slice AU u9 cU) (.slice AH N cH) ep up hops i wr))
  case atStart => exact ⟨0, by omega, by omega, rfl, HST⟩
  case round =>
    clear HST
    obtain ⟨i, hi, hgi, rfl, HS⟩ := hrel
    by_cases hil : i < N
    · have hili : (i : Int) < (N : Int) := by omega
      have hi0 : (0 : Int) ≤ (i : Int) := by omega
      obtain ⟨es, hes⟩ : ∃ es, hops[i]? = some es := ⟨_, List.getElem?_eq_getElem (by rw [HN.out]; exact hil)⟩
      obtain ⟨g, cap, C, p, q, e1, hgl, hcl, hfr, hpq, hrd, hgp⟩ := HS.out.at_ hes
      rw [HN.out] at e1
      injection e1 with e1 _ e2
      subst e1 e2
      have hsz := HS.out.bel.size
      obtain ⟨v5, w5, hrun5, hret5⟩ := freshE wr _ C p q es hrd (fun k hk => by omega) (by have := hrd.len; have := HF.out es (List.mem_of_getElem? hes); omega)
      obtain ⟨usC, hqC, hoC, hgC, bC⟩ := hret5.val
      obtain ⟨AC, cC, rfl, hcC⟩ := owns_shape2 hoC
      obtain ⟨wz, hwz⟩ : ∃ wz, wr.alloc (.cells #[] 77) = wz := ⟨_, rfl⟩
      have bz : Below wr.heap.size wr wz := by rw [← hwz]; exact (Below.refl _ _).alloc (Nat.le_refl _) _
      rw [hwz] at hrun5
      have HRUN5 := Lib.hid hrun5
      have hclz : wz.cell? ⟨g, i, none⟩ = some (.slice C p q) := cellBelow bz hcl
      have HES := Lib.hid hes
      have HUL := Lib.hid HS.out.ru.lt
      clear hes hrd hret5 hrun5 bz
      have HS5 := Lib.hid (HS.out.below bC)
      have hcl5 : w5.cell? ⟨g, i, none⟩ = some (.slice C p q) := cellBelow bC hcl
      have hfr5 : w5.frozen? ⟨g, i, none⟩ = false := (bC.frozen (p := ⟨g, i, none⟩) hgl).trans hfr
      have HV : Hid (elOw.V w5 (fun k => w.heap.size + 1 < k ∧ (Value.slice AU u9 cU).ownBlock ≠ some k ∧ (Value.slice (some ⟨g, 0, none⟩) N cH).ownBlock ≠ some k) [.slice AC es.length cC] es) := Lib.hid (by
        have hO : Own elEd 77 w5 (fun k => w.heap.size + 1 < k ∧ (Value.slice AU u9 cU).ownBlock ≠ some k ∧ (Value.slice (some ⟨g, 0, none⟩) N cH).ownBlock ≠ some k) (.slice AC es.length cC) es :=
          Own.ofParts (ok := fun _ => False) (hqC.flatten_ flat_ed) hoC (fun k _ h => h.elim) fun q hq => by
            have h1 := hgC q hq
            have h2 := (Array.getElem?_eq_some_iff.1 HS.out.b0).1
            refine ⟨by omega, fun e => ?_, fun e => ?_⟩
            · have := (HUL.out q e).2; omega
            · have e := Option.some.inj e; have e : g = q := e; omega
        exact ⟨_, rfl, hO⟩)
      have HPUT := Lib.hid (CSt.put (g := g) (cap := cH) (vC := .slice AC es.length cC) (hops := hops) (by rw [HN.out]; exact HS5.out) HES.out (by rw [HN.out]; exact HV.out))
      rw [HN.out] at HPUT
      clear hqC hoC hgC bC hcl hfr
      go_wp2_with (at_builtin; refine wpList_app_run rfl (.tmp 21) (.tmp 25) 74 74 rfl rfl rfl HRUN5.out ?_)
      go_roundg (N - (i + 1))
      case measure => omega
      case rel => exact ⟨i + 1, by omega, by omega, by go_num, HPUT⟩
    · have hili : ¬ ((i : Int) < (N : Int)) := by omega
      obtain ⟨p0, p1, p2, p3, z0, z1, z2, z3, z4, z5⟩ := HS.out.facts
      obtain ⟨w5, hw5⟩ : ∃ w5, (((wr.setCell ⟨w.heap.size, 2, none⟩ (.slice AH N cH)).setCell ⟨w.heap.size + 1, 0, none⟩ (.int .u64 ep)).setCell ⟨w.heap.size + 1, 1, none⟩ (.slice AU u9 cU)).setCell ⟨w.heap.size + 1, 2, none⟩ (.slice AH N cH) = w5 := ⟨_, rfl⟩
      have hc5 : Chg (fun k => k = w.heap.size ∨ k = w.heap.size + 1) wr w5 := by
        rw [← hw5]
        exact ((((Chg.set wr ⟨w.heap.size, 2, none⟩ _).mono (T := fun k => k = w.heap.size ∨ k = w.heap.size + 1) fun _ _ h => .inl h).trans (Chg.set _ ⟨w.heap.size + 1, 0, none⟩ _) fun _ _ h => .inr h).trans (Chg.set _ ⟨w.heap.size + 1, 1, none⟩ _) fun _ _ h => .inr h).trans (Chg.set _ ⟨w.heap.size + 1, 2, none⟩ _) fun _ _ h => .inr h
      have HD := Lib.hid (HS.out.done (by rw [HN.out]; omega) hc5)
      have hh : w5.heap[w.heap.size + 1]? = some (.cells #[.int .u64 ep, .slice AU u9 cU, .slice AH N cH] 38 (0, 0)) := by
        have hz := HS.out.b0
        have hne : ¬ w.heap.size = w.heap.size + 1 := by omega
        rw [← hw5]; simp [World.setCell, Array.getElem?_modify, hz, hne]
      have F0 : Hid (w5.cell? ⟨w.heap.size + 1, 0, none⟩ = some (.int .u64 ep)) := Lib.hid (by simp [World.cell?, hh])
      have F1 : Hid (w5.cell? ⟨w.heap.size + 1, 1, none⟩ = some (.slice AU u9 cU)) := Lib.hid (by simp [World.cell?, hh])
      have F2 : Hid (w5.cell? ⟨w.heap.size + 1, 2, none⟩ = some (.slice AH N cH)) := Lib.hid (by simp [World.cell?, hh])
      have HW5 := Lib.hid hw5
      clear hw5 hc5 hh
      go_wp2_with fail
      rw [HW5.out]
      have f0 := F0.out
      have f1 := F1.out
      have f2 := F2.out
      refine bodyPost_ret (v := .agg #[.int .u64 ep, .slice AU u9 cU, .slice AH N cH]) (by simp [results, Tryz.results7, go_sem, f0, f1, f2]) rfl ⟨_, rfl, HD.out.1, HD.out.2⟩
end Go.Proofs.YthgnjojkncodeaaGreat
