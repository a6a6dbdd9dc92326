/-
  The walk of PadChunks.
-/
import Derived.Test.YtnadohbgnanpiaaPadC2
import Derived.Test.YtnadohbgnanpiaaPadLays
namespace Go.Proofs.Ytnadohbgnanpiaa
open Go.RowKit

theorem RdI.take {w : World} {ok : Nat → Prop} {A : Option Addr} {n : Nat} {zs : List Int} (h : RdI w ok A n zs) (m : Nat) (hm : m ≤ n) : RdI w ok A m (zs.take m) := by
  refine ⟨by rw [List.length_take, h.1]; omega, by have := h.2.1; omega, fun z hz => h.2.2.1 z (List.mem_of_mem_take hz), fun h0 => ?_⟩
  obtain ⟨ad, e, ho, hl, hs', hc⟩ := h.2.2.2 (by omega)
  refine ⟨ad, e, ho, hl, hs', fun j hj => ?_⟩
  rw [hc j (by omega), List.getElem?_take, if_pos hj]
theorem RdI.mono2 {w : World} {ok ok' : Nat → Prop} {A : Option Addr} {n : Nat} {zs : List Int} (h : RdI w ok A n zs) (hk : ∀ k, ok k → ok' k) : RdI w ok' A n zs := by
  refine ⟨h.1, h.2.1, h.2.2.1, fun h0 => ?_⟩
  obtain ⟨ad, e, ho, r⟩ := h.2.2.2 h0
  exact ⟨ad, e, hk _ ho, r⟩
theorem cutToI_run (A : Option Addr) (n c hi : Nat) (h2 : hi ≤ n) (h3 : n ≤ c) :
    ∃ A' : Option Addr, (∀ W : World, (Instr.slice 33 (.slice A n c) none (some (.int .i64 (hi : Int))) none).run Try.prog W = .ok (.slice A' hi c) W) ∧
      ∀ (w : World) (ok : Nat → Prop) (zs : List Int), RdI w ok A n zs → RdI w ok A' hi (zs.take hi) := by
  refine ⟨if c = 0 then A else A.map fun a => a.add (0 * 1), fun W => ?_, fun w ok ls h => ?_⟩
  · rw [run_slice_h W _ A n c (by kernel_rfl) .i64 hi (by omega) (by omega)]
    have hsz : (sizeOf (Try.prog.elem 33)).run Try.prog W = .ok 1 W := by rfl
    rw [hsz]
    rfl
  · have h4 := h.take hi h2
    split
    · exact h4
    · rw [Nat.zero_mul]
      cases A with
      | none => exact h4
      | some ad =>
        obtain ⟨h5, h6, h7, h8⟩ := h4
        refine ⟨h5, h6, h7, fun h0 => ?_⟩
        obtain ⟨ad', e, ho, hl, hs, hc⟩ := h8 h0
        cases e
        obtain ⟨bb, oo, ss⟩ := ad
        simp only at hs
        subst hs
        exact ⟨_, rfl, ho, hl, rfl, hc⟩
set_option maxHeartbeats 4000000 in
theorem padChunks_any (w : World) (g s : Int) (hg : -9223372036854775808 ≤ g ∧ g ≤ 9223372036854775807) (hs : -9223372036854775808 ≤ s ∧ s ≤ 9223372036854775807) (A : Option Addr) (n c : Nat) (xs : List UInt8) (B : Option Addr) (m e : Nat) (zs : List Int)
    (hr : RdB w (fun k => k < w.heap.size) A n xs) (hc : n ≤ c) (hq : RdI w (fun k => k < w.heap.size) B m zs) (he : m ≤ e) (g' s' : Int) (T : List UInt8 → List Int → List (List UInt8) × List UInt8 × Nat) (hsg : sz1 g = g') (hss : sz2 s = s')
    (hch : ∀ W A n c xs B m e zs, w.heap.size ≤ W.heap.size → n ≤ c → n ≤ 2000 → m ≤ 60 → RdB W (fun k => k < w.heap.size) A n xs → RdI W (fun k => k < w.heap.size) B m zs → Calls Try.prog 12 #[.slice A n c, .slice B m e, .int .i64 g', .int .i64 s'] W (RetCh W (T xs zs)))
    (hrch : ∀ W A n c xs B m e zs, w.heap.size ≤ W.heap.size → n ≤ c → n ≤ 2000 → m ≤ 60 → RdB W (fun k => k < w.heap.size) A n xs → RdI W (fun k => k < w.heap.size) B m zs → Calls Try.prog 20 #[.slice A n c, .slice B m e, .int .i64 g', .int .i64 s'] W (RetCh W (T xs zs))) :
    Calls Try.prog 5 #[.int .i64 g, .int .i64 s, .agg #[.slice A n c, .slice B m e]] w fun e w' => e = .returned (.bool true) ∧ Below w.heap.size w w' := by
  obtain ⟨wS, hwS⟩ : ∃ wS, w.alloc (.cells #[.slice A n c, .slice B m e] 47) = wS := ⟨_, rfl⟩
  obtain ⟨hbS, c0, c1, f1, f0⟩ := boxed2 _ _ _ _ _ hwS
  have HWS := Lib.hid hwS
  have hsz := sizes_calls g s wS hg hs
  rw [hsg, hss] at hsz
  obtain ⟨ka, hka⟩ : ∃ ka, ka = min n 2000 := ⟨_, rfl⟩
  have hmin1 : ∀ W : World, (Builtin.min_ #[3, 3] 3 #[.int .i64 (n : Int), .int .i64 2000]).run Try.prog W = .ok (.int .i64 (ka : Int)) W := min2_run n 2000 ka hka
  obtain ⟨kb, hkb⟩ : ∃ kb, kb = min m 60 := ⟨_, rfl⟩
  have hmin2 : ∀ W : World, (Builtin.min_ #[3, 3] 3 #[.int .i64 (m : Int), .int .i64 60]).run Try.prog W = .ok (.int .i64 (kb : Int)) W := min2_run m 60 kb hkb
  have hkan : ka ≤ n := by omega
  have hka1 : ka ≤ 2000 := by omega
  have hkbm : kb ≤ m := by omega
  have hkb1 : kb ≤ 60 := by omega
  obtain ⟨A1, hcut1, hcr1⟩ := cutTo_run A n c ka hkan hc
  obtain ⟨B1, hcut2, hcr2⟩ := cutToI_run B m e kb hkbm he
  have hcut1' := hcut1 .i64
  have hkac : ka ≤ c := by omega
  clear hwS hsg hss hka hkb hcut1
  go_enter Try.func5, Try.ntmps5
  go_wp2_with fail
  rw [HWS.out]
  refine hsz.mono ?_
  rintro e' w' ⟨rfl, rfl⟩
  clear hsz
  go_wp2_with fail
  go_region
  obtain ⟨w1, hw1⟩ : ∃ w1, ((wS.setCell ⟨w.heap.size, 0, none⟩ (.slice A1 ka c)).setCell ⟨w.heap.size, 1, none⟩ (.slice B1 kb e)).drew = w1 := ⟨_, rfl⟩
  have hb1 : Below w.heap.size w w1 := by
    rw [← hw1]
    exact ((hbS.setCell (p := ⟨w.heap.size, 0, none⟩) (Nat.le_refl _) _).setCell (p := ⟨w.heap.size, 1, none⟩) (Nat.le_refl _) _).drew
  have x0 : (wS.setCell ⟨w.heap.size, 0, none⟩ (.slice A1 ka c)).cell? ⟨w.heap.size, 0, none⟩ = some (.slice A1 ka c) := World.cell?_setCell_same' _ _ _ (by rw [c0]; rfl)
  have x1 : (wS.setCell ⟨w.heap.size, 0, none⟩ (.slice A1 ka c)).cell? ⟨w.heap.size, 1, none⟩ = some (.slice B m e) := (World.cell?_setCell_other _ _ _ _ (by intro h; injection h with _ h; cases h)).trans c1
  have d0 : w1.cell? ⟨w.heap.size, 0, none⟩ = some (.slice A1 ka c) := by
    rw [← hw1]
    exact (World.cell?_setCell_other _ _ _ _ (by intro h; injection h with _ h; cases h)).trans x0
  have d1 : w1.cell? ⟨w.heap.size, 1, none⟩ = some (.slice B1 kb e) := by
    rw [← hw1]
    exact World.cell?_setCell_same' _ _ _ (by rw [x1]; rfl)
  have r1 := hcr1 _ _ _ (hr.below hb1)
  have q1 := hcr2 _ _ _ (hq.below hb1)
  rw [hw1]
  clear hw1 x0 x1 c0 c1 f0 f1 hcut1' hcut2 hcr1 hcr2 hmin1 hmin2 hr hq hbS
  go_wp2_with fail
  refine (hch w1 A1 ka c (xs.take ka) B1 kb e (zs.take kb) hb1.size hkac hka1 hkb1 r1 q1).mono ?_
  obtain ⟨⟨X, Y, er⟩, hres⟩ : ∃ r, T (xs.take ka) (zs.take kb) = r := ⟨_, rfl⟩
  rw [hres]
  have HRES := Lib.hid hres
  clear hres hch
  unfold RetCh
  rintro e2 w2 ⟨v2, u2, rfl, ho2, hu2, hb⟩
  have hb2 := stepBelow hb1 hb
  have d0 := cellBelow hb d0
  have d1 := cellBelow hb d1
  have r1 := r1.below hb
  have q1 := q1.below hb
  clear hb hb1
  go_wp2_with fail
  refine (hrch w2 A1 ka c (xs.take ka) B1 kb e (zs.take kb) hb2.size hkac hka1 hkb1 r1 q1).mono ?_
  rw [HRES.out]
  clear hrch
  unfold RetCh
  rintro e3 w3 ⟨v3, u3, rfl, ho3, hu3, hb⟩
  have hb3 := stepBelow hb2 hb
  have ho2 := ho2.below hb
  have hu2 := hu2.below hb
  clear hb hb2 r1 q1 d0 d1
  go_wp2_with fail
  refine (awake_calls w3).mono ?_
  rintro e4 w4 ⟨rfl, hb⟩
  have hb4 := stepBelow hb3 hb
  obtain ⟨A2, c2, rfl, _, p2⟩ := (ho2.below hb).rdn X.length rfl
  obtain ⟨A3, c3, rfl, _, p3⟩ := (ho3.below hb).rdn X.length rfl
  obtain ⟨B2, e2, rfl, _, t2⟩ := (hu2.below hb).rdn Y.length rfl
  obtain ⟨B3, e3, rfl, _, t3⟩ := (hu3.below hb).rdn Y.length rfl
  clear hb hb3 ho2 ho3 hu2 hu3
  go_wp2_with fail
  refine (weakD (bb_same_eq A2 A3 X.length c2 c3 X w4 _ _ p2 p3)).mono ?_
  rintro e5 w5 ⟨rfl, hb⟩
  have hb5 := stepBelow hb4 hb
  have heq := equal_calls B2 B3 Y.length e2 Y.length e3 Y Y w5 _ _ (t2.below hb) (t3.below hb)
  rw [decide_eq_true (show Y = Y from rfl)] at heq
  clear hb hb4 p2 p3 t2 t3
  go_wp2_with fail
  refine heq.mono ?_
  rintro e6 w' ⟨rfl, rfl⟩
  go_wp2_with fail
  go_ret
  exact ⟨rfl, hb5⟩
theorem padChunks_walk (w : World) (g s : Int) (A : Option Addr) (n c : Nat) (xs : List UInt8) (B : Option Addr) (m e : Nat) (zs : List Int) (hg1 : -9223372036854775808 ≤ g) (hg2 : g ≤ 9223372036854775807) (hs1 : -9223372036854775808 ≤ s) (hs2 : s ≤ 9223372036854775807)
    (hr : RdB w (fun k => k < w.heap.size) A n xs) (hc : n ≤ c) (hq : RdI w (fun k => k < w.heap.size) B m zs) (he : m ≤ e) (_hn : n ≤ 1048576) (_hm : m ≤ 1048576) :
    Calls Try.prog 5 #[.int .i64 g, .int .i64 s, .agg #[.slice A n c, .slice B m e]] w fun e w' => e = .returned (.bool true) ∧ Below w.heap.size w w' := by
  by_cases h : okGS (sz1 g) (sz2 s)
  · obtain ⟨a, b, P, ha, hb, _, hP, h1, h2, h3, h4, h5, h6⟩ := okGS_nat h
    refine padChunks_any w g s ⟨hg1, hg2⟩ ⟨hs1, hs2⟩ A n c xs B m e zs hr hc hq he a b (fun xs zs => chunkRes xs zs (P - 4)) ha hb ?_ ?_
    · intro W A n c xs B m e zs hW hnc hn hm r q
      exact chunks_calls A n c xs B m e zs a b P W (r.mono fun k hk _ => Nat.lt_of_lt_of_le hk hW) hnc (by omega) (q.mono2 fun k hk => Nat.lt_of_lt_of_le hk hW) hP h1 h2 h3 h4 h5 h6
    · intro W A n c xs B m e zs hW hnc hn hm r q
      exact rchunks_calls A n c xs B m e zs a b P W (r.mono fun k hk _ => Nat.lt_of_lt_of_le hk hW) hnc (by omega) (by omega) (q.mono2 fun k hk => Nat.lt_of_lt_of_le hk hW) hP h1 h2 h3 h4 h5 h6
  · obtain ⟨g', hg'⟩ : ∃ g', sz1 g = g' := ⟨_, rfl⟩
    obtain ⟨s', hs'⟩ : ∃ s', sz2 s = s' := ⟨_, rfl⟩
    rw [hg', hs'] at h
    refine padChunks_any w g s ⟨hg1, hg2⟩ ⟨hs1, hs2⟩ A n c xs B m e zs hr hc hq he g' s' (fun _ _ => ([], [], 1)) hg' hs' ?_ ?_
    · intro W A n c xs B m e zs _ _ _ _ _ _
      exact (chunks_bad A n c B m e g' s' W h).mono fun e' w' hp => ⟨_, _, hp.1, OwnBB.nil _ _, OwnB.nil _ _, hp.2⟩
    · intro W A n c xs B m e zs _ _ _ _ _ _
      exact (rchunks_bad A n c B m e g' s' W h).mono fun e' w' hp => ⟨_, _, hp.1, OwnBB.nil _ _, OwnB.nil _ _, hp.2⟩
end Go.Proofs.Ytnadohbgnanpiaa
