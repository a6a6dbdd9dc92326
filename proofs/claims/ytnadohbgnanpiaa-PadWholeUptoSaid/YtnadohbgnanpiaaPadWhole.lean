/-
  The walk of PadWhole.
-/
import Derived.Test.YtnadohbgnanpiaaPadWholeB
namespace Go.Proofs.Ytnadohbgnanpiaa
open Go.RowKit Go.Maps

theorem row_at (us : List UInt8) (X : List (List UInt8)) (k p nj : Nat) (hk : k < X.length) (hf : X.flatten = us.take X.flatten.length) (hp : reach X k = p) (hn : (lrow X k).length = nj) : (us.take (p + nj)).drop p = lrow X k := by
  have h1 : X.flatten = (X.take k).flatten ++ (lrow X k ++ (X.drop (k + 1)).flatten) := by
    rw [← List.append_assoc, ← flat_next X k hk, ← List.flatten_append, List.take_append_drop]
  have h2 : (X.take k).flatten.length = p := hp
  have h3 : X.flatten.length = p + nj + (X.drop (k + 1)).flatten.length := by rw [h1, List.length_append, List.length_append, h2, hn]; omega
  have h4 : us.take (p + nj) = X.flatten.take (p + nj) := by rw [hf, List.take_take]; congr 1; omega
  rw [h4, h1, List.take_append, List.drop_append]
  rw [List.take_of_length_le (by omega), h2, List.drop_of_length_le (by omega), Nat.sub_self, List.drop_zero, List.nil_append, List.take_append, Nat.add_sub_cancel_left, List.take_of_length_le (by omega)]
  simp [hn]
theorem reach_le (X : List (List UInt8)) (k : Nat) : reach X k ≤ X.flatten.length := by
  unfold reach
  have : X.flatten.length = (X.take k).flatten.length + (X.drop k).flatten.length := by rw [← List.length_append, ← List.flatten_append, List.take_append_drop]
  omega
theorem rising_in (L : Nat) : ∀ (zs : List Int) (a : Nat), Rising L zs a → ∀ z ∈ zs, 0 ≤ z ∧ z ≤ (L : Int) := by
  intro zs
  induction zs with
  | nil => intro a _ z hz; cases hz
  | cons c cs ih =>
    intro a h z hz
    obtain ⟨h1, h2, h3⟩ := h
    rcases List.mem_cons.1 hz with rfl | hz
    · omega
    · exact ih _ h3 z hz
theorem zat_mem (zs : List Int) (i : Nat) (h : i < zs.length) : zat zs i ∈ zs := by
  unfold zat
  rw [List.getElem?_eq_getElem h]
  exact List.getElem_mem h
set_option maxHeartbeats 8000000 in
set_option maxRecDepth 20000 in
theorem padWhole_good (w : World) (g s : Int) (hg : -9223372036854775808 ≤ g ∧ g ≤ 9223372036854775807) (hs : -9223372036854775808 ≤ s ∧ s ≤ 9223372036854775807) (A : Option Addr) (n c : Nat) (xs : List UInt8) (B : Option Addr) (m e : Nat) (zs : List Int) (D : Option Addr) (q f : Nat) (ys : List UInt8)
    (hr : RdB w (fun k => k < w.heap.size) A n xs) (hc : n ≤ c) (hz : RdI w (fun k => k < w.heap.size) B m zs) (he : m ≤ e) (hq : RdB w (fun k => k < w.heap.size) D q ys) (hf : q ≤ f) (g' s' : Int) (hsg : sz1 g = g') (hss : sz2 s = s')
    (R : Nat) (hR1 : 1 ≤ R) (hR2 : R ≤ 16711421)
    (hroom : ∀ W, Calls Try.prog 9 #[.int .i64 g', .int .i64 s'] W fun e w' => e = .returned (.tuple #[.int .i64 (R : Int), .int .i64 0]) ∧ W = w')
    (hch : ∀ W A n c us B k e cs, n ≤ c → n ≤ 2200 → k ≤ 60 → RdB W (fun k => k < W.heap.size) A n us → RdI W (fun k => k < W.heap.size) B k cs → Calls Try.prog 12 #[.slice A n c, .slice B k e, .int .i64 g', .int .i64 s'] W (RetCh W (chunkRes us cs R))) :
    Calls Try.prog 7 #[.agg #[.int .i64 g, .int .i64 s, .slice A n c, .slice B m e, .slice D q f]] w fun e w' => e = .returned (.bool true) ∧ Below w.heap.size w w' := by
  have hmm := @run_makeMap Try.prog
  obtain ⟨wS, hwS⟩ : ∃ wS, w.alloc (.cells #[.int .i64 g, .int .i64 s, .slice A n c, .slice B m e, .slice D q f] 52) = wS := ⟨_, rfl⟩
  have HWS := Lib.hid hwS
  have hbS : Below w.heap.size w wS := by rw [← hwS]; exact (Below.refl _ _).alloc (Nat.le_refl _) _
  have c0 : wS.cell? ⟨w.heap.size, 0, none⟩ = some (.int .i64 g) := by rw [← hwS]; exact World.cell?_alloc_new _ _ _ 0
  have c1 : wS.cell? ⟨w.heap.size, 1, none⟩ = some (.int .i64 s) := by rw [← hwS]; exact World.cell?_alloc_new _ _ _ 1
  have c2 : wS.cell? ⟨w.heap.size, 2, none⟩ = some (.slice A n c) := by rw [← hwS]; exact World.cell?_alloc_new _ _ _ 2
  have c3 : wS.cell? ⟨w.heap.size, 3, none⟩ = some (.slice B m e) := by rw [← hwS]; exact World.cell?_alloc_new _ _ _ 3
  have c4 : wS.cell? ⟨w.heap.size, 4, none⟩ = some (.slice D q f) := by rw [← hwS]; exact World.cell?_alloc_new _ _ _ 4
  clear hwS
  have hsz : ∀ W : World, Calls Try.prog 14 #[.int .i64 g, .int .i64 s] W fun e w' => e = .returned (.tuple #[.int .i64 g', .int .i64 s']) ∧ W = w' := fun W => by
    have h := sizes_calls g s W hg hs
    rw [hsg, hss] at h
    exact h
  obtain ⟨L, hL⟩ : ∃ L, L = min n 2000 := ⟨_, rfl⟩
  have hmin1 : ∀ W : World, (Builtin.min_ #[3, 3] 3 #[.int .i64 (n : Int), .int .i64 2000]).run Try.prog W = .ok (.int .i64 (L : Int)) W := min2_run n 2000 L hL
  have hLn : L ≤ n := by omega
  have hL1 : L ≤ 2000 := by omega
  obtain ⟨A1, hcut1, hcr1⟩ := cutTo_run A n c L hLn hc
  have hcut1' := hcut1 .i64
  have hLc : L ≤ c := by omega
  obtain ⟨q2, hq2⟩ : ∃ q2, q2 = min q 200 := ⟨_, rfl⟩
  have hmin2 : ∀ W : World, (Builtin.min_ #[3, 3] 3 #[.int .i64 (q : Int), .int .i64 200]).run Try.prog W = .ok (.int .i64 (q2 : Int)) W := min2_run q 200 q2 hq2
  have hqq : q2 ≤ q := by omega
  have hq200 : q2 ≤ 200 := by omega
  obtain ⟨D1, hcutD, hcrD⟩ := cutTo_run D q f q2 hqq hf
  have hcutD' := hcutD .i64
  have hqf : q2 ≤ f := by omega
  clear hcutD hq2
  clear hcut1 hL hsg hss
  have hbA : Below wS.heap.size wS (wS.alloc (.cells #[.slice none 0 0, .slice none 0 0] 47)) := (Below.refl _ _).alloc (Nat.le_refl _) _
  have a0 := cellBelow hbA c0
  have a1 := cellBelow hbA c1
  have a2 := cellBelow hbA c2
  have a3 := cellBelow hbA c3
  have a4 := cellBelow hbA c4
  have hbB : Below wS.heap.size wS (wS.alloc (.cells #[.slice A n c, .slice B m e] 47)) := (Below.refl _ _).alloc (Nat.le_refl _) _
  have b0 := cellBelow hbB c0
  have b1 := cellBelow hbB c1
  have b2 := cellBelow hbB c2
  have b3 := cellBelow hbB c3
  have b4 := cellBelow hbB c4
  have x0 : (wS.alloc (.cells #[.slice A n c, .slice B m e] 47)).cell? ⟨wS.heap.size, 0, none⟩ = some (.slice A n c) := World.cell?_alloc_new _ _ _ 0
  have x1 : (wS.alloc (.cells #[.slice A n c, .slice B m e] 47)).cell? ⟨wS.heap.size, 1, none⟩ = some (.slice B m e) := World.cell?_alloc_new _ _ _ 1
  have n0 : (wS.alloc (.cells #[.slice none 0 0, .slice none 0 0] 47)).cell? ⟨wS.heap.size, 0, none⟩ = some (.slice none 0 0) := World.cell?_alloc_new _ _ _ 0
  have n1 : (wS.alloc (.cells #[.slice none 0 0, .slice none 0 0] 47)).cell? ⟨wS.heap.size, 1, none⟩ = some (.slice none 0 0) := World.cell?_alloc_new _ _ _ 1
  have m0 : (wS.alloc (.cells #[.slice none 0 0, .slice none 0 0] 47)).frozen? ⟨wS.heap.size, 0, none⟩ = false := World.frozen?_alloc_at _ _ _ _ rfl
  have m1 : (wS.alloc (.cells #[.slice none 0 0, .slice none 0 0] 47)).frozen? ⟨wS.heap.size, 1, none⟩ = false := World.frozen?_alloc_at _ _ _ _ rfl
  go_enter Try.func7, Try.ntmps7
  go_wp2_with fail
  rw [HWS.out]
  go_region
  obtain ⟨wB, hwB⟩ : ∃ wB, (wS.alloc (.cells #[.slice A n c, .slice B m e] 47)).drew = wB := ⟨_, rfl⟩
  have hbw : Below w.heap.size w wB := by rw [← hwB]; exact stepBelow hbS hbB.drew
  have b0 : wB.cell? ⟨w.heap.size, 0, none⟩ = some (.int .i64 g) := by rw [← hwB]; exact b0
  have b1 : wB.cell? ⟨w.heap.size, 1, none⟩ = some (.int .i64 s) := by rw [← hwB]; exact b1
  have x0 : wB.cell? ⟨wS.heap.size, 0, none⟩ = some (.slice A n c) := by rw [← hwB]; exact x0
  have x1 : wB.cell? ⟨wS.heap.size, 1, none⟩ = some (.slice B m e) := by rw [← hwB]; exact x1
  have rB := hr.below hbw
  have zB := hz.below hbw
  have qB := hq.below hbw
  have r1 := hcr1 _ _ _ rB
  have rD := hcrD _ _ _ qB
  rw [hwB]
  clear hwB hbA hbB a0 a1 a2 a3 a4 b2 b3 b4 n0 n1 m0 m1 c0 c1 c2 c3 c4 hbS HWS hcr1 hr hz hq rB hcrD qB
  go_wp2_with fail
  refine (hsz wB).mono ?_
  rintro e1 w' ⟨rfl, rfl⟩
  clear hsz
  go_wp2_with fail
  obtain ⟨us, hus⟩ : ∃ us, xs.take L = us := ⟨_, rfl⟩
  rw [hus] at r1
  have hul := r1.len
  have HUL := Lib.hid hul
  clear hus hul
  go_loopw [8, 9, 48] (fun v l i wr => ∃ (k last : Nat) (cs : List Int), k ≤ m ∧ k ≤ 40 ∧ i = .int .i64 (k : Int) ∧ l = .int .i64 (last : Int) ∧ cs.length = k ∧ last ≤ L ∧ Rising L cs 0 ∧ (cs = [] → last = 0) ∧ (∀ h : cs ≠ [], cs.getLast h = (last : Int)) ∧ OwnI wr w.heap.size v cs ∧ Below w.heap.size w wr) (fun _ _ i _ => m - (intOf i).toNat)
  case atStart => exact ⟨0, 0, [], Nat.zero_le _, Nat.zero_le _, rfl, rfl, rfl, Nat.zero_le _, trivial, fun _ => rfl, fun h => absurd rfl h, OwnI.nil _ _, hbw⟩
  case round =>
    obtain ⟨k, last, cs, hkm, hk40, rfl, rfl, hcl, hlL, hri, hn0, hgl, ho, hbe⟩ := hrel
    by_cases hlt : k < m
    · by_cases hlt40 : k < 40
      · obtain ⟨bb, oo, e1, k1⟩ := (zB.below2 hbw hbe).at2 k hlt
        subst e1
        obtain ⟨z, hzz⟩ : ∃ z, zat zs k = z := ⟨_, rfl⟩
        rw [hzz] at k1
        have hne : ((k : Int) == 40) = false := by rw [beq_eq_false_iff_ne]; omega
        obtain ⟨U, hU⟩ : ∃ U : Nat, IntKind.u64.wrap z = (U : Int) := ⟨(z % 18446744073709551616).toNat, by rw [u64_wrap z]; omega⟩
        have hU64 : U < 18446744073709551616 := by rw [u64_wrap z] at hU; omega
        obtain ⟨E, hE⟩ : ∃ E : Nat, L - last = E := ⟨_, rfl⟩
        have hls : (L : Int) - (last : Int) = (E : Int) := by omega
        have hE2 : E ≤ 2000 := by omega
        obtain ⟨t, ht⟩ : ∃ t, U % (E + 1) = t := ⟨_, rfl⟩
        have htd : t < E + 1 := by rw [← ht]; exact Nat.mod_lt _ (by omega)
        have hmod : (U : Int) % ((E : Int) + 1) = (t : Int) := by rw [← ht]; rfl
        have hnew : last + t ≤ L := by omega
        have ht2 : t ≤ 2000 := by omega
        have hri2 := rising_snoc L cs 0 last (last + t) hri hn0 hgl (by omega) hnew
        have HRI := Lib.hid hri2
        have hcs : cs.length ≤ 1099511627776 := by omega
        have HCL := Lib.hid hcl
        have hz1 := hbe.size
        clear hzz ht hE hri hn0 hgl hri2 hcl
        go_wp2_with (at_builtin; refine appI (w0 := w) w.heap.size w.heap.size rfl _ _ rfl u8 cs ((last : Int) + (t : Int)) rfl rfl ho hbe hz1 (Nat.le_refl _) hcs ?_; intro v2 w2 ho2 hb2)
        go_roundw
        case rel =>
          refine ⟨k + 1, last + t, cs ++ [((last + t : Nat) : Int)], by omega, by omega, by go_num, by go_num, by rw [List.length_append, HCL.out]; rfl, hnew, HRI.out, fun h => by simp at h, fun h => by simp, ?_, hb2⟩
          exact ho2
        case measure => simp [intOf]; omega
      · obtain rfl : k = 40 := by omega
        obtain ⟨bb, oo, e1, k1⟩ := (zB.below2 hbw hbe).at2 40 hlt
        subst e1
        have hlt40i : (40 : Int) < (m : Int) := by omega
        have HCL := Lib.hid hcl
        clear hcl
        obtain ⟨A2, c2, rfl, hc2, rc⟩ := ho.rd (rising_bound L cs 0 hri (by omega))
        have hcsl : cs.length ≤ 60 := by rw [HCL.out]; omega
        have rc := rc.mono2 (ok' := fun _ => True) (fun _ _ => trivial)
        have rcw : RdI wr (fun k => k < wr.heap.size) A2 cs.length cs := rc.inWorld
        have r1w : RdB wr (fun k => k < wr.heap.size) A1 L us := (r1.below2 hbw hbe).mono fun k _ hl => hl
        have rDw : RdB wr (fun k => k < wr.heap.size) D1 q2 (ys.take q2) := (rD.below2 hbw hbe).mono fun k _ hl => hl
        obtain ⟨ms, hms⟩ : ∃ ms, ys.take q2 = ms := ⟨_, rfl⟩
        rw [hms] at rDw
        have hri' : Rising us.length cs 0 := by rw [HUL.out]; exact hri
        obtain ⟨X, Y, hres, hY, hYR, hXf, hXl, hrow, hends, Z, Y2, hres2⟩ := whole_law us ms cs R hR1 hri'
        rw [HUL.out] at hXl
        have HRES := Lib.hid hres
        have HRIN := Lib.hid (rising_in L cs 0 hri)
        have HRES2 := Lib.hid hres2
        have HY := Lib.hid hY
        have HXF := Lib.hid hXf
        have HROW := Lib.hid hrow
        have HEND := Lib.hid hends
        have hX2000 : X.length ≤ 2000 := by
          have : X.length ≤ X.flatten.length := by
            clear hres hres2 hY hXf hends HEND HROW HXF HY HRES HRES2 hXl
            induction X with
            | nil => simp
            | cons c X ih =>
              have h1 := (hrow c (by simp)).1
              have h2 := ih (fun d hd => hrow d (by simp [hd]))
              rw [List.flatten_cons, List.length_append, List.length_cons]
              omega
          omega
        clear hres hres2 hY hXf hrow hends hms hri hri' ho hn0 hgl
        go_wp2_with fail
        refine (hroom wr).mono ?_
        rintro e1 w' ⟨rfl, rfl⟩
        go_wp2_with fail
        refine (hch wr A1 L c us A2 cs.length c2 cs hLc (by omega) hcsl r1w rcw).mono ?_
        unfold RetCh
        rw [HRES.out]
        rintro e2 w2 ⟨v2, u2, rfl, hoX, hoY, hb⟩
        have hb2 := stepBelow hbe hb
        have r1v := r1w.below hb
        have rDv := rDw.below hb
        have rcv := rcw.below hb
        obtain ⟨AX, cX, rfl, hcX, rX⟩ := hoX.rdn X.length rfl
        obtain ⟨AY, cY, rfl, hcY, rY⟩ := hoY.rdn Y.length rfl
        have hsw2 := hb.size
        clear hoX hoY hb rcw r1w rDw rc hroom
        go_wp2_with (refine onesInsert _ rfl _ _ _ rfl w2.heap.size 0 0 (fun _ => False) rfl (Ones.made w2) (by unfold maxLen; omega) (by omega) rfl rfl ?_; intro w3 hM3 hg3)
        have hb23 : Below w2.heap.size w2 w3 := ((Below.refl _ _).alloc (Nat.le_refl _) _).grown hg3 (by simp) (fun k hk => by injection hk with hk; omega)
        go_loopw [18, 98] (fun a i wq => ∃ (k p cnt : Nat), k ≤ X.length ∧ i = .int .i64 (k : Int) ∧ a = .int .i64 (p : Int) ∧ reach X k = p ∧ Ones wq w2.heap.size cnt (fun z => ∃ j, j ≤ k ∧ reach X j = z) ∧ cnt ≤ k + 1 ∧ Below w2.heap.size w2 wq) (fun _ i _ => X.length - (intOf i).toNat)
        case atStart =>
          refine ⟨0, 0, 1, Nat.zero_le _, rfl, rfl, reach_zero X, ?_, by omega, hb23⟩
          obtain ⟨D0, hD1, hD2⟩ := hM3
          exact ⟨D0, hD1, fun z hz => hD2 z (.inr (by obtain ⟨j, hj, e⟩ := hz; obtain rfl : j = 0 := (by omega); rw [← e]; exact reach_zero X))⟩
        case round =>
          obtain ⟨k, p, cnt, hkX, rfl, rfl, hp, hM, hcnt, hbq⟩ := hrel
          by_cases hltX : k < X.length
          · obtain ⟨b5, o5, Aj, nj, cj, e5, _, _, hcell, hnc, rj⟩ := (rX.below hbq).at_ k hltX
            subst e5
            have hnj := rj.len
            have hrk := HROW.out (lrow X k) (by rw [lrow_eq X k hltX]; exact List.getElem_mem hltX)
            rw [hnj] at hrk
            have hsucc := reach_succ X k hltX
            rw [hp, hnj] at hsucc
            have hle := reach_le X (k + 1)
            have hn1 : 1 ≤ nj := hrk.1
            have hnR : nj ≤ R := hrk.2
            have hpL : p + nj ≤ L := by omega
            have hrow2 := row_at us X k p nj hltX HXF.out hp hnj
            have hmn : ∀ W : World, (Builtin.min_ #[3, 3] 3 #[.int .i64 ((p : Int) + (nj : Int)), .int .i64 (L : Int)]).run Try.prog W = .ok (.int .i64 ((p : Int) + (nj : Int))) W := by
              have := min2_run (p + nj) L (p + nj) (by omega)
              simpa using this
            obtain ⟨As, hcs, hcsr⟩ := cut_run A1 L c p (p + nj) (by omega) hpL hLc
            have hcs' := hcs .i64 .i64
            rw [Nat.add_sub_cancel_left, Int.natCast_add] at hcs'
            have rs := hcsr wr _ us (r1v.below hbq)
            rw [Nat.add_sub_cancel_left, hrow2] at rs
            have heq := equal_calls Aj As nj cj nj (c - p) (lrow X k) (lrow X k) wr _ _ rj rs
            rw [decide_eq_true (show lrow X k = lrow X k from rfl)] at heq
            have HP := Lib.hid hp
            have HSUC := Lib.hid hsucc
            clear hp hsucc hrow2 hcs hcsr hnj hrk hle rs rj
            go_wp2_with (first
              | (go_at_call 19; refine heq.mono ?_; rintro e6 w' ⟨rfl, rfl⟩)
              | (refine onesUpdate _ rfl _ _ _ rfl w2.heap.size cnt (p + nj) _ rfl hM (by unfold maxLen; omega) (by omega) rfl rfl ?_; intro w5 hM5 hg5))
            have hb5 := hbq.grown hg5 hbq.size (fun k hk => by injection hk with hk; omega)
            go_roundw
            case rel =>
              refine ⟨k + 1, p + nj, cnt + 1, by omega, by go_num, by go_num, by rw [HSUC.out], ?_, by omega, hb5⟩
              obtain ⟨D0, hD1, hD2⟩ := hM5
              refine ⟨D0, hD1, fun z hz => hD2 z ?_⟩
              obtain ⟨j, hj, ej⟩ := hz
              by_cases hjk : j ≤ k
              · exact .inl ⟨j, hjk, ej⟩
              · obtain rfl : j = k + 1 := by omega
                exact .inr (by rw [← ej, HSUC.out])
            case measure => simp [intOf]; omega
          · obtain rfl : X.length = k := by omega
            have hpX : p = X.flatten.length := by rw [← hp, reach_all]
            have hpL : p ≤ L := by omega
            obtain ⟨As, hcs, hcsr⟩ := cutFrom_run A1 L c p hpL hLc
            have hcs' := hcs .i64
            have rs := hcsr wr _ us (r1v.below hbq)
            have hYe : Y = us.drop p := by rw [hpX]; exact HY.out
            rw [← hYe] at rs
            have hYl : Y.length = L - p := rs.len
            have heq := equal_calls AY As Y.length cY (L - p) (c - p) Y Y wr _ _ (rY.below hbq) rs
            rw [decide_eq_true (show Y = Y from rfl)] at heq
            have HP := Lib.hid hp
            have HPX := Lib.hid hpX
            have HYL := Lib.hid hYl
            clear hp hpX hYe hYl hcs hcsr rs
            go_wp2_with (go_at_call 19; refine heq.mono ?_; rintro e6 w' ⟨rfl, rfl⟩)
            go_loop [151] (fun i => ∃ k : Nat, k ≤ cs.length ∧ i = .int .i64 (k : Int)) (fun i => cs.length - (intOf i).toNat)
            case atStart => exact ⟨0, Nat.zero_le _, rfl⟩
            case round =>
              obtain ⟨k2, hk2, rfl⟩ := hrel
              by_cases hltc : k2 < cs.length
              · obtain ⟨b6, o6, e6, hcell6⟩ := (rcv.below hbq).at2 k2 hltc
                subst e6
                have hmem := zat_mem cs k2 hltc
                obtain ⟨j, hj, ej⟩ := HEND.out (zat cs k2) hmem
                obtain ⟨hz0, hzL⟩ := HRIN.out (zat cs k2) hmem
                obtain ⟨z, hz⟩ : ∃ z : Nat, zat cs k2 = (z : Int) := ⟨(zat cs k2).toNat, by omega⟩
                rw [hz] at hcell6 ej hzL
                have ej2 : reach X j = z := by simpa using ej
                have EJ := Lib.hid ej2
                clear hz hz0 ej ej2 hmem
                go_wp2_with (refine onesLookup _ rfl _ _ rfl w2.heap.size cnt z _ rfl hM ⟨j, hj, EJ.out⟩ (by omega) rfl ?_)
                go_round
                case rel => exact ⟨_, _, _, ⟨k2 + 1, by omega, rfl⟩, rfl, rfl, by go_num⟩
                case measure => simp [intOf]; omega
              · obtain rfl : cs.length = k2 := by omega
                have rA := (r1v.below hbq)
                have rM := (rDv.below hbq)
                have hlA : ([] : List UInt8).length + L ≤ 140737488355328 := by simp; omega
                have hlU : us.length + q2 ≤ 140737488355328 := by rw [HUL.out]; omega
                have hE : OwnB (wr.drew.alloc (.cells #[] 5)) wr.heap.size (.slice (some ⟨wr.heap.size, 0, none⟩) 0 0) [] := OwnB.lit wr.drew wr.heap.size [] (Nat.le_refl _) (by simp)
                have hbE : Below wr.heap.size wr (wr.drew.alloc (.cells #[] 5)) := ((Below.refl _ _).drew).alloc (Nat.le_refl _) _
                have hzE : wr.heap.size ≤ (wr.drew.alloc (.cells #[] 5)).heap.size := by simp
                have rE := rA.below hbE
                have rE2 := rM.below hbE
                go_wp2_with fail
                go_region_law (first
                  | (refine stepAppB wr.heap.size wr.heap.size (by rfl) _ _ (by rfl) (.slice (some ⟨wr.heap.size, 0, none⟩) 0 0) [] us A1 L c (by rfl) (by rfl) hE rE hbE hzE (Nat.le_refl _) hlA ?_; intro v4 w4 ho4 hb4 _ _; have ho4' : OwnB w4 wr.heap.size v4 us := ho4; have hz4 := hb4.size; have rb4 := rM.below hb4)
                  | (refine stepAppB wr.heap.size wr.heap.size (by rfl) _ _ (by rfl) v4 us ms D1 q2 f (by rfl) (by rfl) ho4' rb4 hb4 hz4 (Nat.le_refl _) hlU ?_; intro v5 w5 ho5 hb5 _ _; have hsum : (us ++ ms).length = L + q2 := (by rw [List.length_append, HUL.out, rM.len]); obtain ⟨A5, d5, rfl, hd5, r5⟩ := ho5.rdn (L + q2) hsum; clear hsum)
                  | (go_simp; go_at_call 12; (with_reducible refine (hch w5 A5 (L + q2) d5 (us ++ ms) A2 cs.length c2 cs hd5 (by omega) hcsl (r5.mono fun k _ hl => hl) (((rcv.below hbq).below hb5).inWorld)).mono ?_); unfold RetCh; rw [HRES2.out]; rintro e7 w7 ⟨v7, u7, rfl, hoM, _, hb7⟩))
                all_goals
                  obtain ⟨mz, hmz⟩ : ∃ mz, (X ++ Z).length = mz := ⟨_, rfl⟩
                  have hle : X.length ≤ mz := by rw [← hmz, List.length_append]; omega
                  obtain ⟨AM, cM, rfl, hcM, rM7⟩ := hoM.rdn mz hmz
                  have hb9 := stepBelow (stepBelow (stepBelow hb2 hbq) hb5) hb7
                  have rX7 := ((rX.below hbq).below hb5).below hb7
                  obtain ⟨AN, hcutM, hcrM⟩ := cutToBB_run AM mz cM X.length hle hcM
                  clear hmz
                  go_wp2_with fail
                  refine (awake_calls w7).mono ?_
                  rintro e8 w8 ⟨rfl, hb8⟩
                  have rN := hcrM _ _ _ (rM7.below hb8)
                  rw [List.take_left] at rN
                  have hsame := bb_same_eq AN AX X.length cM cX X w8 _ _ rN (rX7.below hb8)
                  go_wp2_with fail
                  refine (weakD hsame).mono ?_
                  rintro e10 w10 ⟨rfl, hb10⟩
                  have hb11 := stepBelow (stepBelow hb9 hb8) hb10
                  go_wp2_with fail
                  go_ret
                  exact ⟨rfl, hb11⟩
    · obtain rfl : m = k := by omega
      have HCL := Lib.hid hcl
      clear hcl
      obtain ⟨A2, c2, rfl, hc2, rc⟩ := ho.rd (rising_bound L cs 0 hri (by omega))
      have hcsl : cs.length ≤ 60 := by rw [HCL.out]; omega
      have rc := rc.mono2 (ok' := fun _ => True) (fun _ _ => trivial)
      have rcw : RdI wr (fun k => k < wr.heap.size) A2 cs.length cs := rc.inWorld
      have r1w : RdB wr (fun k => k < wr.heap.size) A1 L us := (r1.below2 hbw hbe).mono fun k _ hl => hl
      have rDw : RdB wr (fun k => k < wr.heap.size) D1 q2 (ys.take q2) := (rD.below2 hbw hbe).mono fun k _ hl => hl
      obtain ⟨ms, hms⟩ : ∃ ms, ys.take q2 = ms := ⟨_, rfl⟩
      rw [hms] at rDw
      have hri' : Rising us.length cs 0 := by rw [HUL.out]; exact hri
      obtain ⟨X, Y, hres, hY, hYR, hXf, hXl, hrow, hends, Z, Y2, hres2⟩ := whole_law us ms cs R hR1 hri'
      rw [HUL.out] at hXl
      have HRES := Lib.hid hres
      have HRIN := Lib.hid (rising_in L cs 0 hri)
      have HRES2 := Lib.hid hres2
      have HY := Lib.hid hY
      have HXF := Lib.hid hXf
      have HROW := Lib.hid hrow
      have HEND := Lib.hid hends
      have hX2000 : X.length ≤ 2000 := by
        have : X.length ≤ X.flatten.length := by
          clear hres hres2 hY hXf hends HEND HROW HXF HY HRES HRES2 hXl
          induction X with
          | nil => simp
          | cons c X ih =>
            have h1 := (hrow c (by simp)).1
            have h2 := ih (fun d hd => hrow d (by simp [hd]))
            rw [List.flatten_cons, List.length_append, List.length_cons]
            omega
        omega
      clear hres hres2 hY hXf hrow hends hms hri hri' ho hn0 hgl
      go_wp2_with fail
      refine (hroom wr).mono ?_
      rintro e1 w' ⟨rfl, rfl⟩
      go_wp2_with fail
      refine (hch wr A1 L c us A2 cs.length c2 cs hLc (by omega) hcsl r1w rcw).mono ?_
      unfold RetCh
      rw [HRES.out]
      rintro e2 w2 ⟨v2, u2, rfl, hoX, hoY, hb⟩
      have hb2 := stepBelow hbe hb
      have r1v := r1w.below hb
      have rDv := rDw.below hb
      have rcv := rcw.below hb
      obtain ⟨AX, cX, rfl, hcX, rX⟩ := hoX.rdn X.length rfl
      obtain ⟨AY, cY, rfl, hcY, rY⟩ := hoY.rdn Y.length rfl
      have hsw2 := hb.size
      clear hoX hoY hb rcw r1w rDw rc hroom
      go_wp2_with (refine onesInsert _ rfl _ _ _ rfl w2.heap.size 0 0 (fun _ => False) rfl (Ones.made w2) (by unfold maxLen; omega) (by omega) rfl rfl ?_; intro w3 hM3 hg3)
      have hb23 : Below w2.heap.size w2 w3 := ((Below.refl _ _).alloc (Nat.le_refl _) _).grown hg3 (by simp) (fun k hk => by injection hk with hk; omega)
      go_loopw [18, 98] (fun a i wq => ∃ (k p cnt : Nat), k ≤ X.length ∧ i = .int .i64 (k : Int) ∧ a = .int .i64 (p : Int) ∧ reach X k = p ∧ Ones wq w2.heap.size cnt (fun z => ∃ j, j ≤ k ∧ reach X j = z) ∧ cnt ≤ k + 1 ∧ Below w2.heap.size w2 wq) (fun _ i _ => X.length - (intOf i).toNat)
      case atStart =>
        refine ⟨0, 0, 1, Nat.zero_le _, rfl, rfl, reach_zero X, ?_, by omega, hb23⟩
        obtain ⟨D0, hD1, hD2⟩ := hM3
        exact ⟨D0, hD1, fun z hz => hD2 z (.inr (by obtain ⟨j, hj, e⟩ := hz; obtain rfl : j = 0 := (by omega); rw [← e]; exact reach_zero X))⟩
      case round =>
        obtain ⟨k, p, cnt, hkX, rfl, rfl, hp, hM, hcnt, hbq⟩ := hrel
        by_cases hltX : k < X.length
        · obtain ⟨b5, o5, Aj, nj, cj, e5, _, _, hcell, hnc, rj⟩ := (rX.below hbq).at_ k hltX
          subst e5
          have hnj := rj.len
          have hrk := HROW.out (lrow X k) (by rw [lrow_eq X k hltX]; exact List.getElem_mem hltX)
          rw [hnj] at hrk
          have hsucc := reach_succ X k hltX
          rw [hp, hnj] at hsucc
          have hle := reach_le X (k + 1)
          have hn1 : 1 ≤ nj := hrk.1
          have hnR : nj ≤ R := hrk.2
          have hpL : p + nj ≤ L := by omega
          have hrow2 := row_at us X k p nj hltX HXF.out hp hnj
          have hmn : ∀ W : World, (Builtin.min_ #[3, 3] 3 #[.int .i64 ((p : Int) + (nj : Int)), .int .i64 (L : Int)]).run Try.prog W = .ok (.int .i64 ((p : Int) + (nj : Int))) W := by
            have := min2_run (p + nj) L (p + nj) (by omega)
            simpa using this
          obtain ⟨As, hcs, hcsr⟩ := cut_run A1 L c p (p + nj) (by omega) hpL hLc
          have hcs' := hcs .i64 .i64
          rw [Nat.add_sub_cancel_left, Int.natCast_add] at hcs'
          have rs := hcsr wr _ us (r1v.below hbq)
          rw [Nat.add_sub_cancel_left, hrow2] at rs
          have heq := equal_calls Aj As nj cj nj (c - p) (lrow X k) (lrow X k) wr _ _ rj rs
          rw [decide_eq_true (show lrow X k = lrow X k from rfl)] at heq
          have HP := Lib.hid hp
          have HSUC := Lib.hid hsucc
          clear hp hsucc hrow2 hcs hcsr hnj hrk hle rs rj
          go_wp2_with (first
            | (go_at_call 19; refine heq.mono ?_; rintro e6 w' ⟨rfl, rfl⟩)
            | (refine onesUpdate _ rfl _ _ _ rfl w2.heap.size cnt (p + nj) _ rfl hM (by unfold maxLen; omega) (by omega) rfl rfl ?_; intro w5 hM5 hg5))
          have hb5 := hbq.grown hg5 hbq.size (fun k hk => by injection hk with hk; omega)
          go_roundw
          case rel =>
            refine ⟨k + 1, p + nj, cnt + 1, by omega, by go_num, by go_num, by rw [HSUC.out], ?_, by omega, hb5⟩
            obtain ⟨D0, hD1, hD2⟩ := hM5
            refine ⟨D0, hD1, fun z hz => hD2 z ?_⟩
            obtain ⟨j, hj, ej⟩ := hz
            by_cases hjk : j ≤ k
            · exact .inl ⟨j, hjk, ej⟩
            · obtain rfl : j = k + 1 := by omega
              exact .inr (by rw [← ej, HSUC.out])
          case measure => simp [intOf]; omega
        · obtain rfl : X.length = k := by omega
          have hpX : p = X.flatten.length := by rw [← hp, reach_all]
          have hpL : p ≤ L := by omega
          obtain ⟨As, hcs, hcsr⟩ := cutFrom_run A1 L c p hpL hLc
          have hcs' := hcs .i64
          have rs := hcsr wr _ us (r1v.below hbq)
          have hYe : Y = us.drop p := by rw [hpX]; exact HY.out
          rw [← hYe] at rs
          have hYl : Y.length = L - p := rs.len
          have heq := equal_calls AY As Y.length cY (L - p) (c - p) Y Y wr _ _ (rY.below hbq) rs
          rw [decide_eq_true (show Y = Y from rfl)] at heq
          have HP := Lib.hid hp
          have HPX := Lib.hid hpX
          have HYL := Lib.hid hYl
          clear hp hpX hYe hYl hcs hcsr rs
          go_wp2_with (go_at_call 19; refine heq.mono ?_; rintro e6 w' ⟨rfl, rfl⟩)
          go_loop [151] (fun i => ∃ k : Nat, k ≤ cs.length ∧ i = .int .i64 (k : Int)) (fun i => cs.length - (intOf i).toNat)
          case atStart => exact ⟨0, Nat.zero_le _, rfl⟩
          case round =>
            obtain ⟨k2, hk2, rfl⟩ := hrel
            by_cases hltc : k2 < cs.length
            · obtain ⟨b6, o6, e6, hcell6⟩ := (rcv.below hbq).at2 k2 hltc
              subst e6
              have hmem := zat_mem cs k2 hltc
              obtain ⟨j, hj, ej⟩ := HEND.out (zat cs k2) hmem
              obtain ⟨hz0, hzL⟩ := HRIN.out (zat cs k2) hmem
              obtain ⟨z, hz⟩ : ∃ z : Nat, zat cs k2 = (z : Int) := ⟨(zat cs k2).toNat, by omega⟩
              rw [hz] at hcell6 ej hzL
              have ej2 : reach X j = z := by simpa using ej
              have EJ := Lib.hid ej2
              clear hz hz0 ej ej2 hmem
              go_wp2_with (refine onesLookup _ rfl _ _ rfl w2.heap.size cnt z _ rfl hM ⟨j, hj, EJ.out⟩ (by omega) rfl ?_)
              go_round
              case rel => exact ⟨_, _, _, ⟨k2 + 1, by omega, rfl⟩, rfl, rfl, by go_num⟩
              case measure => simp [intOf]; omega
            · obtain rfl : cs.length = k2 := by omega
              have rA := (r1v.below hbq)
              have rM := (rDv.below hbq)
              have hlA : ([] : List UInt8).length + L ≤ 140737488355328 := by simp; omega
              have hlU : us.length + q2 ≤ 140737488355328 := by rw [HUL.out]; omega
              have hE : OwnB (wr.drew.alloc (.cells #[] 5)) wr.heap.size (.slice (some ⟨wr.heap.size, 0, none⟩) 0 0) [] := OwnB.lit wr.drew wr.heap.size [] (Nat.le_refl _) (by simp)
              have hbE : Below wr.heap.size wr (wr.drew.alloc (.cells #[] 5)) := ((Below.refl _ _).drew).alloc (Nat.le_refl _) _
              have hzE : wr.heap.size ≤ (wr.drew.alloc (.cells #[] 5)).heap.size := by simp
              have rE := rA.below hbE
              have rE2 := rM.below hbE
              go_wp2_with fail
              go_region_law (first
                | (refine stepAppB wr.heap.size wr.heap.size (by rfl) _ _ (by rfl) (.slice (some ⟨wr.heap.size, 0, none⟩) 0 0) [] us A1 L c (by rfl) (by rfl) hE rE hbE hzE (Nat.le_refl _) hlA ?_; intro v4 w4 ho4 hb4 _ _; have ho4' : OwnB w4 wr.heap.size v4 us := ho4; have hz4 := hb4.size; have rb4 := rM.below hb4)
                | (refine stepAppB wr.heap.size wr.heap.size (by rfl) _ _ (by rfl) v4 us ms D1 q2 f (by rfl) (by rfl) ho4' rb4 hb4 hz4 (Nat.le_refl _) hlU ?_; intro v5 w5 ho5 hb5 _ _; have hsum : (us ++ ms).length = L + q2 := (by rw [List.length_append, HUL.out, rM.len]); obtain ⟨A5, d5, rfl, hd5, r5⟩ := ho5.rdn (L + q2) hsum; clear hsum)
                | (go_simp; go_at_call 12; (with_reducible refine (hch w5 A5 (L + q2) d5 (us ++ ms) A2 cs.length c2 cs hd5 (by omega) hcsl (r5.mono fun k _ hl => hl) (((rcv.below hbq).below hb5).inWorld)).mono ?_); unfold RetCh; rw [HRES2.out]; rintro e7 w7 ⟨v7, u7, rfl, hoM, _, hb7⟩))
              all_goals
                obtain ⟨mz, hmz⟩ : ∃ mz, (X ++ Z).length = mz := ⟨_, rfl⟩
                have hle : X.length ≤ mz := by rw [← hmz, List.length_append]; omega
                obtain ⟨AM, cM, rfl, hcM, rM7⟩ := hoM.rdn mz hmz
                have hb9 := stepBelow (stepBelow (stepBelow hb2 hbq) hb5) hb7
                have rX7 := ((rX.below hbq).below hb5).below hb7
                obtain ⟨AN, hcutM, hcrM⟩ := cutToBB_run AM mz cM X.length hle hcM
                clear hmz
                go_wp2_with fail
                refine (awake_calls w7).mono ?_
                rintro e8 w8 ⟨rfl, hb8⟩
                have rN := hcrM _ _ _ (rM7.below hb8)
                rw [List.take_left] at rN
                have hsame := bb_same_eq AN AX X.length cM cX X w8 _ _ rN (rX7.below hb8)
                go_wp2_with fail
                refine (weakD hsame).mono ?_
                rintro e10 w10 ⟨rfl, hb10⟩
                have hb11 := stepBelow (stepBelow hb9 hb8) hb10
                go_wp2_with fail
                go_ret
                exact ⟨rfl, hb11⟩
theorem padWhole_walk (w : World) (g s : Int) (A : Option Addr) (n c : Nat) (xs : List UInt8) (B : Option Addr) (m e : Nat) (zs : List Int) (D : Option Addr) (q f : Nat) (ys : List UInt8) (hg : -9223372036854775808 ≤ g ∧ g ≤ 9223372036854775807) (hs : -9223372036854775808 ≤ s ∧ s ≤ 9223372036854775807)
    (hr : RdB w (fun k => k < w.heap.size) A n xs) (hc : n ≤ c) (hz : RdI w (fun k => k < w.heap.size) B m zs) (he : m ≤ e) (hq : RdB w (fun k => k < w.heap.size) D q ys) (hf : q ≤ f) (_hn : n ≤ 1048576) (_hm : m ≤ 1048576) (_hq : q ≤ 1048576) :
    Calls Try.prog 7 #[.agg #[.int .i64 g, .int .i64 s, .slice A n c, .slice B m e, .slice D q f]] w fun e w' => e = .returned (.bool true) ∧ Below w.heap.size w w' := by
  by_cases h : okGS (sz1 g) (sz2 s)
  · obtain ⟨a, b, P, ha, hb, _, hP, h1, h2, h3, h4, h5, h6⟩ := okGS_nat h
    refine padWhole_good w g s hg hs A n c xs B m e zs D q f ys hr hc hz he hq hf a b ha hb (P - 4) (by omega) (by omega) (fun W => room_calls a b P W hP h1 h2 h3 h4 h5 h6) ?_
    intro W A n c us B k e cs hnc hn hk r qq
    exact chunks_calls A n c us B k e cs a b P W r hnc (by omega) qq hP h1 h2 h3 h4 h5 h6
  · obtain ⟨g', hg'⟩ : ∃ g', sz1 g = g' := ⟨_, rfl⟩
    obtain ⟨s', hs'⟩ : ∃ s', sz2 s = s' := ⟨_, rfl⟩
    rw [hg', hs'] at h
    refine padWhole_bad w g s hg hs A n c xs B m e zs D q f ys hr hc hz he hq hf g' s' hg' hs' (fun W => room_bad g' s' W h) ?_
    intro W A n c us B k e cs _ _ _ _ _
    exact (chunks_bad A n c B k e g' s' W h).mono fun e' w' hp => ⟨_, _, hp.1, OwnBB.nil _ _, OwnB.nil _ _, hp.2⟩
end Go.Proofs.Ytnadohbgnanpiaa
