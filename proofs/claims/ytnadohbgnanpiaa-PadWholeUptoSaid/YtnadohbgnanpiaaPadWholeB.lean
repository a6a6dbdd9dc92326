/-
  The walk of PadWhole: the way on which there is no room.
-/
import Derived.Test.YtnadohbgnanpiaaPadM
namespace Go.Proofs.Ytnadohbgnanpiaa
open Go.RowKit Go.Maps

theorem u64_wrap (z : Int) : IntKind.u64.wrap z = z % 18446744073709551616 := by simp [IntKind.wrap, IntKind.bits, IntKind.signed]
theorem RdI.below2 {w W W' : World} {A : Option Addr} {n : Nat} {zs : List Int} (h : RdI W (fun k => k < w.heap.size) A n zs) (h1 : Below w.heap.size w W) (h2 : Below w.heap.size w W') : RdI W' (fun k => k < w.heap.size) A n zs := by
  refine ⟨h.1, h.2.1, h.2.2.1, fun hn => ?_⟩
  obtain ⟨ad, e, ho, hl, hs', hc⟩ := h.2.2.2 hn
  have hz : ad.block < W'.heap.size := Nat.lt_of_lt_of_le ho h2.size
  refine ⟨ad, e, ho, hz, hs', fun j hj => ?_⟩
  rw [← hc j hj]
  exact World.cell?_of_block (by rw [addBlock]; exact (h2.block _ ho).trans (h1.block _ ho).symm)
theorem rising_bound (L : Nat) : ∀ (zs : List Int) (a : Nat), Rising L zs a → L ≤ 1099511627776 → ∀ z ∈ zs, -9223372036854775808 ≤ z ∧ z ≤ 9223372036854775807 := by
  intro zs
  induction zs with
  | nil => intro a _ _ z hz; cases hz
  | cons c cs ih =>
    intro a h hL z hz
    obtain ⟨h1, h2, h3⟩ := h
    rcases List.mem_cons.1 hz with rfl | hz
    · omega
    · exact ih _ h3 hL z hz
theorem RdI.inWorld {w : World} {ok : Nat → Prop} {A : Option Addr} {n : Nat} {zs : List Int} (h : RdI w ok A n zs) : RdI w (fun k => k < w.heap.size) A n zs := by
  refine ⟨h.1, h.2.1, h.2.2.1, fun h0 => ?_⟩
  obtain ⟨ad, e, _, hl, r⟩ := h.2.2.2 h0
  exact ⟨ad, e, hl, hl, r⟩
theorem RdB.below2 {w W W' : World} {A : Option Addr} {n : Nat} {zs : List UInt8} (h : RdB W (fun k => k < w.heap.size) A n zs) (h1 : Below w.heap.size w W) (h2 : Below w.heap.size w W') : RdB W' (fun k => k < w.heap.size) A n zs := by
  refine ⟨h.1, h.2.1, fun hn => ?_⟩
  obtain ⟨ad, e, ho, hl, hs', hc⟩ := h.2.2 hn
  have hz : ad.block < W'.heap.size := Nat.lt_of_lt_of_le ho h2.size
  refine ⟨ad, e, ho, hz, hs', fun j hj => ?_⟩
  rw [← hc j hj]
  exact World.cell?_of_block (by rw [addBlock]; exact (h2.block _ ho).trans (h1.block _ ho).symm)
set_option maxHeartbeats 8000000 in
set_option maxRecDepth 20000 in
theorem padWhole_bad (w : World) (g s : Int) (hg : -9223372036854775808 ≤ g ∧ g ≤ 9223372036854775807) (hs : -9223372036854775808 ≤ s ∧ s ≤ 9223372036854775807) (A : Option Addr) (n c : Nat) (xs : List UInt8) (B : Option Addr) (m e : Nat) (zs : List Int) (D : Option Addr) (q f : Nat) (ys : List UInt8)
    (hr : RdB w (fun k => k < w.heap.size) A n xs) (hc : n ≤ c) (hz : RdI w (fun k => k < w.heap.size) B m zs) (he : m ≤ e) (hq : RdB w (fun k => k < w.heap.size) D q ys) (hf : q ≤ f) (g' s' : Int) (hsg : sz1 g = g') (hss : sz2 s = s')
    (hroom : ∀ W, Calls Try.prog 9 #[.int .i64 g', .int .i64 s'] W fun e w' => e = .returned (.tuple #[.int .i64 (0 : Int), .int .i64 1]) ∧ W = w')
    (hch : ∀ W A n c us B k e cs, n ≤ c → n ≤ 2200 → k ≤ 60 → RdB W (fun k => k < W.heap.size) A n us → RdI W (fun k => k < W.heap.size) B k cs → Calls Try.prog 12 #[.slice A n c, .slice B k e, .int .i64 g', .int .i64 s'] W (RetCh W ([], [], 1))) :
    Calls Try.prog 7 #[.agg #[.int .i64 g, .int .i64 s, .slice A n c, .slice B m e, .slice D q f]] w fun e w' => e = .returned (.bool true) ∧ Below w.heap.size w w' := by
  have hmm := @run_makeMap Try.prog
  obtain ⟨wS, hwS⟩ : ∃ wS, w.alloc (.cells #[.int .i64 g, .int .i64 s, .slice A n c, .slice B m e, .slice D q f] 52) = wS := ⟨_, rfl⟩
  have HWS := Lib.hid hwS
  have hbS : Below w.heap.size w wS := by rw [← hwS]; exact (Below.refl _ _).alloc (Nat.le_refl _) _
  have c0 : wS.cell? ⟨w.heap.size, 0, none⟩ = some (.int .i64 g) := by rw [← hwS]; exact World.cell?_alloc_new _ _ _ 0
  have c1 : wS.cell? ⟨w.heap.size, 1, none⟩ = some (.int .i64 s) := by rw [← hwS]; exact World.cell?_alloc_new _ _ _ 1
  have c2 : wS.cell? ⟨w.heap.size, 2, none⟩ = some (.slice A n c) := by rw [← hwS]; exact World.cell?_alloc_new _ _ _ 2
  have c3 : wS.cell? ⟨w.heap.size, 3, none⟩ = some (.slice B m e) := by rw [← hwS]; exact World.cell?_alloc_new _ _ _ 3
  have c4 : wS.cell? ⟨w.heap.size, 4, none⟩ = some (.slice D q f) := by rw [← hwS]; exact World.cell?_alloc_new _ _ _ 4
  clear hwS
  have hsz : ∀ W : World, Calls Try.prog 14 #[.int .i64 g, .int .i64 s] W fun e w' => e = .returned (.tuple #[.int .i64 g', .int .i64 s']) ∧ W = w' := fun W => by
    have h := sizes_calls g s W hg hs
    rw [hsg, hss] at h
    exact h
  obtain ⟨L, hL⟩ : ∃ L, L = min n 2000 := ⟨_, rfl⟩
  have hmin1 : ∀ W : World, (Builtin.min_ #[3, 3] 3 #[.int .i64 (n : Int), .int .i64 2000]).run Try.prog W = .ok (.int .i64 (L : Int)) W := min2_run n 2000 L hL
  have hLn : L ≤ n := by omega
  have hL1 : L ≤ 2000 := by omega
  obtain ⟨A1, hcut1, hcr1⟩ := cutTo_run A n c L hLn hc
  have hcut1' := hcut1 .i64
  have hLc : L ≤ c := by omega
  clear hcut1 hL hsg hss
  have hbA : Below wS.heap.size wS (wS.alloc (.cells #[.slice none 0 0, .slice none 0 0] 47)) := (Below.refl _ _).alloc (Nat.le_refl _) _
  have a0 := cellBelow hbA c0
  have a1 := cellBelow hbA c1
  have a2 := cellBelow hbA c2
  have a3 := cellBelow hbA c3
  have a4 := cellBelow hbA c4
  have hbB : Below wS.heap.size wS (wS.alloc (.cells #[.slice A n c, .slice B m e] 47)) := (Below.refl _ _).alloc (Nat.le_refl _) _
  have b0 := cellBelow hbB c0
  have b1 := cellBelow hbB c1
  have b2 := cellBelow hbB c2
  have b3 := cellBelow hbB c3
  have b4 := cellBelow hbB c4
  have x0 : (wS.alloc (.cells #[.slice A n c, .slice B m e] 47)).cell? ⟨wS.heap.size, 0, none⟩ = some (.slice A n c) := World.cell?_alloc_new _ _ _ 0
  have x1 : (wS.alloc (.cells #[.slice A n c, .slice B m e] 47)).cell? ⟨wS.heap.size, 1, none⟩ = some (.slice B m e) := World.cell?_alloc_new _ _ _ 1
  have n0 : (wS.alloc (.cells #[.slice none 0 0, .slice none 0 0] 47)).cell? ⟨wS.heap.size, 0, none⟩ = some (.slice none 0 0) := World.cell?_alloc_new _ _ _ 0
  have n1 : (wS.alloc (.cells #[.slice none 0 0, .slice none 0 0] 47)).cell? ⟨wS.heap.size, 1, none⟩ = some (.slice none 0 0) := World.cell?_alloc_new _ _ _ 1
  have m0 : (wS.alloc (.cells #[.slice none 0 0, .slice none 0 0] 47)).frozen? ⟨wS.heap.size, 0, none⟩ = false := World.frozen?_alloc_at _ _ _ _ rfl
  have m1 : (wS.alloc (.cells #[.slice none 0 0, .slice none 0 0] 47)).frozen? ⟨wS.heap.size, 1, none⟩ = false := World.frozen?_alloc_at _ _ _ _ rfl
  go_enter Try.func7, Try.ntmps7
  go_wp2_with fail
  rw [HWS.out]
  go_region
  obtain ⟨wB, hwB⟩ : ∃ wB, (wS.alloc (.cells #[.slice A n c, .slice B m e] 47)).drew = wB := ⟨_, rfl⟩
  have hbw : Below w.heap.size w wB := by rw [← hwB]; exact stepBelow hbS hbB.drew
  have b0 : wB.cell? ⟨w.heap.size, 0, none⟩ = some (.int .i64 g) := by rw [← hwB]; exact b0
  have b1 : wB.cell? ⟨w.heap.size, 1, none⟩ = some (.int .i64 s) := by rw [← hwB]; exact b1
  have x0 : wB.cell? ⟨wS.heap.size, 0, none⟩ = some (.slice A n c) := by rw [← hwB]; exact x0
  have x1 : wB.cell? ⟨wS.heap.size, 1, none⟩ = some (.slice B m e) := by rw [← hwB]; exact x1
  have rB := hr.below hbw
  have zB := hz.below hbw
  have qB := hq.below hbw
  have r1 := hcr1 _ _ _ rB
  rw [hwB]
  clear hwB hbA hbB a0 a1 a2 a3 a4 b2 b3 b4 n0 n1 m0 m1 c0 c1 c2 c3 c4 hbS HWS hcr1 hr hz hq rB
  go_wp2_with fail
  refine (hsz wB).mono ?_
  rintro e1 w' ⟨rfl, rfl⟩
  clear hsz
  go_wp2_with fail
  obtain ⟨us, hus⟩ : ∃ us, xs.take L = us := ⟨_, rfl⟩
  rw [hus] at r1
  have hul := r1.len
  have HUL := Lib.hid hul
  clear hus hul
  go_loopw [8, 9, 48] (fun v l i wr => ∃ (k last : Nat) (cs : List Int), k ≤ m ∧ k ≤ 40 ∧ i = .int .i64 (k : Int) ∧ l = .int .i64 (last : Int) ∧ cs.length = k ∧ last ≤ L ∧ Rising L cs 0 ∧ (cs = [] → last = 0) ∧ (∀ h : cs ≠ [], cs.getLast h = (last : Int)) ∧ OwnI wr w.heap.size v cs ∧ Below w.heap.size w wr) (fun _ _ i _ => m - (intOf i).toNat)
  case atStart => exact ⟨0, 0, [], Nat.zero_le _, Nat.zero_le _, rfl, rfl, rfl, Nat.zero_le _, trivial, fun _ => rfl, fun h => absurd rfl h, OwnI.nil _ _, hbw⟩
  case round =>
    obtain ⟨k, last, cs, hkm, hk40, rfl, rfl, hcl, hlL, hri, hn0, hgl, ho, hbe⟩ := hrel
    by_cases hlt : k < m
    · by_cases hlt40 : k < 40
      · obtain ⟨bb, oo, e1, k1⟩ := (zB.below2 hbw hbe).at2 k hlt
        subst e1
        obtain ⟨z, hzz⟩ : ∃ z, zat zs k = z := ⟨_, rfl⟩
        rw [hzz] at k1
        have hne : ((k : Int) == 40) = false := by rw [beq_eq_false_iff_ne]; omega
        obtain ⟨U, hU⟩ : ∃ U : Nat, IntKind.u64.wrap z = (U : Int) := ⟨(z % 18446744073709551616).toNat, by rw [u64_wrap z]; omega⟩
        have hU64 : U < 18446744073709551616 := by rw [u64_wrap z] at hU; omega
        obtain ⟨E, hE⟩ : ∃ E : Nat, L - last = E := ⟨_, rfl⟩
        have hls : (L : Int) - (last : Int) = (E : Int) := by omega
        have hE2 : E ≤ 2000 := by omega
        obtain ⟨t, ht⟩ : ∃ t, U % (E + 1) = t := ⟨_, rfl⟩
        have htd : t < E + 1 := by rw [← ht]; exact Nat.mod_lt _ (by omega)
        have hmod : (U : Int) % ((E : Int) + 1) = (t : Int) := by rw [← ht]; rfl
        have hnew : last + t ≤ L := by omega
        have ht2 : t ≤ 2000 := by omega
        have hri2 := rising_snoc L cs 0 last (last + t) hri hn0 hgl (by omega) hnew
        have HRI := Lib.hid hri2
        have hcs : cs.length ≤ 1099511627776 := by omega
        have HCL := Lib.hid hcl
        have hz1 := hbe.size
        clear hzz ht hE hri hn0 hgl hri2 hcl
        go_wp2_with (at_builtin; refine appI (w0 := w) w.heap.size w.heap.size rfl _ _ rfl u8 cs ((last : Int) + (t : Int)) rfl rfl ho hbe hz1 (Nat.le_refl _) hcs ?_; intro v2 w2 ho2 hb2)
        go_roundw
        case rel =>
          refine ⟨k + 1, last + t, cs ++ [((last + t : Nat) : Int)], by omega, by omega, by go_num, by go_num, by rw [List.length_append, HCL.out]; rfl, hnew, HRI.out, fun h => by simp at h, fun h => by simp, ?_, hb2⟩
          exact ho2
        case measure => simp [intOf]; omega
      · obtain rfl : k = 40 := by omega
        obtain ⟨bb, oo, e1, k1⟩ := (zB.below2 hbw hbe).at2 40 hlt
        subst e1
        have hlt40i : (40 : Int) < (m : Int) := by omega
        have HCL := Lib.hid hcl
        clear hcl
        obtain ⟨A2, c2, rfl, hc2, rc⟩ := ho.rd (rising_bound L cs 0 hri (by omega))
        have hcsl : cs.length ≤ 60 := by rw [HCL.out]; omega
        have rc := rc.mono2 (ok' := fun _ => True) (fun _ _ => trivial)
        have rcw : RdI wr (fun k => k < wr.heap.size) A2 cs.length cs := rc.inWorld
        have r1w : RdB wr (fun k => k < wr.heap.size) A1 L us := (r1.below2 hbw hbe).mono fun k _ hl => hl
        go_wp2_with fail
        refine (hroom wr).mono ?_
        rintro e1 w' ⟨rfl, rfl⟩
        go_wp2_with fail
        refine (hch wr A1 L c us A2 cs.length c2 cs hLc (by omega) hcsl r1w rcw).mono ?_
        unfold RetCh
        rintro e2 w2 ⟨v2, u2, rfl, _, _, hb⟩
        have hb2 := stepBelow hbe hb
        go_wp2_with fail
        refine (awake_calls w2).mono ?_
        rintro e3 w3 ⟨rfl, hb⟩
        have hb3 := stepBelow hb2 hb
        go_wp2_with fail
        go_ret
        exact ⟨rfl, hb3⟩
    · obtain rfl : m = k := by omega
      have HCL := Lib.hid hcl
      clear hcl
      obtain ⟨A2, c2, rfl, hc2, rc⟩ := ho.rd (rising_bound L cs 0 hri (by omega))
      have hcsl : cs.length ≤ 60 := by rw [HCL.out]; omega
      have rc := rc.mono2 (ok' := fun _ => True) (fun _ _ => trivial)
      have rcw : RdI wr (fun k => k < wr.heap.size) A2 cs.length cs := rc.inWorld
      have r1w : RdB wr (fun k => k < wr.heap.size) A1 L us := (r1.below2 hbw hbe).mono fun k _ hl => hl
      go_wp2_with fail
      refine (hroom wr).mono ?_
      rintro e1 w' ⟨rfl, rfl⟩
      go_wp2_with fail
      refine (hch wr A1 L c us A2 cs.length c2 cs hLc (by omega) hcsl r1w rcw).mono ?_
      unfold RetCh
      rintro e2 w2 ⟨v2, u2, rfl, _, _, hb⟩
      have hb2 := stepBelow hbe hb
      go_wp2_with fail
      refine (awake_calls w2).mono ?_
      rintro e3 w3 ⟨rfl, hb⟩
      have hb3 := stepBelow hb2 hb
      go_wp2_with fail
      go_ret
      exact ⟨rfl, hb3⟩
end Go.Proofs.Ytnadohbgnanpiaa
