/-
  The walk of PadParts.
-/
import Derived.Test.YtnadohbgnanpiaaPadP
namespace Go.Proofs.Ytnadohbgnanpiaa
open Go.RowKit

set_option maxHeartbeats 4000000 in
theorem padParts_good (w : World) (g s : Int) (hg : -9223372036854775808 ≤ g ∧ g ≤ 9223372036854775807) (hs : -9223372036854775808 ≤ s ∧ s ≤ 9223372036854775807) (A : Option Addr) (n c : Nat) (xs : List UInt8) (B : Option Addr) (m e : Nat) (ys : List UInt8)
    (hr : RdB w (fun k => k < w.heap.size) A n xs) (hc : n ≤ c) (hq : RdB w (fun k => k < w.heap.size) B m ys) (he : m ≤ e) (a b P : Nat) (ha : sz1 g = (a : Int)) (hb : sz2 s = (b : Int)) (hP : ((a : Int) * (b : Int)) = (P : Int)) (h1 : 1 ≤ a) (h2 : a ≤ 255) (h3 : 1 ≤ b) (h4 : b ≤ 65535) (h5 : 4 < P) (h6 : P ≤ 16711425) :
    Calls Try.prog 8 #[.int .i64 g, .int .i64 s, .agg #[.slice A n c, .slice B m e]] w fun e w' => e = .returned (.bool true) ∧ Below w.heap.size w w' := by
  obtain ⟨wS, hwS⟩ : ∃ wS, w.alloc (.cells #[.slice A n c, .slice B m e] 57) = wS := ⟨_, rfl⟩
  obtain ⟨hbS, c0, c1⟩ := boxTwo _ _ _ _ _ hwS
  have hrS := hr.below hbS
  have hqS := hq.below hbS
  have HWS := Lib.hid hwS
  have hsz := sizes_calls g s wS hg hs
  rw [ha, hb] at hsz
  have HP := Lib.hid hP
  obtain ⟨ka, hka⟩ : ∃ ka, ka = min n 1000 := ⟨_, rfl⟩
  have hmin1 : ∀ W : World, (Builtin.min_ #[3, 3] 3 #[.int .i64 (n : Int), .int .i64 1000]).run Try.prog W = .ok (.int .i64 (ka : Int)) W := min2_run n 1000 ka hka
  obtain ⟨kb, hkb⟩ : ∃ kb, kb = min m 1000 := ⟨_, rfl⟩
  have hmin2 : ∀ W : World, (Builtin.min_ #[3, 3] 3 #[.int .i64 (m : Int), .int .i64 1000]).run Try.prog W = .ok (.int .i64 (kb : Int)) W := min2_run m 1000 kb hkb
  have hkan : ka ≤ n := by omega
  have hka1 : ka ≤ 1000 := by omega
  have hkbm : kb ≤ m := by omega
  have hkb1 : kb ≤ 1000 := by omega
  obtain ⟨A1, hcut1, hcr1⟩ := cutTo_run A n c ka hkan hc
  obtain ⟨B1, hcut2, hcr2⟩ := cutTo_run B m e kb hkbm he
  have r1 := hcr1 _ _ _ hrS
  have r2 := hcr2 _ _ _ hqS
  have hcut1' := hcut1 .i64
  have hcut2' := hcut2 .i64
  have hkac : ka ≤ c := by omega
  have hkbe : kb ≤ e := by omega
  clear hP ha hb hka hkb hcut1 hcut2 hcr1 hcr2 hr hq hrS hqS hwS
  go_enter Try.func8, Try.ntmps8
  go_wp2_with fail
  rw [HWS.out]
  refine hsz.mono ?_
  rintro e' w' ⟨rfl, rfl⟩
  clear hsz
  go_wp2_with fail
  go_quiet (fail)
  have hb1 : Below w.heap.size w (wS.drewN nq) := belowDrewN hbS nq
  have r1' : RdB (wS.drewN nq) (fun k => k < w.heap.size) A1 ka (xs.take ka) := r1
  have r2' : RdB (wS.drewN nq) (fun k => k < w.heap.size) B1 kb (ys.take kb) := r2
  obtain ⟨w1, hw1⟩ : ∃ w1, wS.drewN nq = w1 := ⟨_, rfl⟩
  rw [hw1] at hb1 r1' r2' ⊢
  obtain ⟨us, hus⟩ : ∃ us, xs.take ka = us := ⟨_, rfl⟩
  obtain ⟨vs, hvs⟩ : ∃ vs, ys.take kb = vs := ⟨_, rfl⟩
  rw [hus] at r1'
  rw [hvs] at r2'
  have hul := r1'.len
  have hvl := r2'.len
  obtain ⟨X, Y, op, hX, hY, hZ, hXn, hYn⟩ := parts_cut us vs (P - 4) (by omega)
  have hXY : X.length + Y.length ≤ 1099511627776 := by omega
  rw [hul] at hX hZ
  clear hXn hYn
  have HX := Lib.hid hX
  have HY := Lib.hid hY
  have HZ := Lib.hid hZ
  have HUL := Lib.hid hul
  have HVL := Lib.hid hvl
  have hroom := fun W => room_calls a b P W HP.out h1 h2 h3 h4 h5 h6
  obtain ⟨R, hR⟩ : ∃ R, P - 4 = R := ⟨_, rfl⟩
  rw [hR] at hroom
  have HR := Lib.hid hR
  clear hw1 hus hvs hul hvl hX hY hZ hR r1 r2 c0 c1 hcut1' hcut2' hmin1 hmin2
  have p1 := intsLit w1 [(ka : Int)] 1 rfl (by omega) (by simp; omega) #[.int .i64 (ka : Int)] rfl
  have q1 : Below w1.heap.size w1 (w1.alloc (.cells #[.int .i64 (ka : Int)] 3)) := (Below.refl _ _).alloc (Nat.le_refl _) _
  have ra := (r1'.below q1).mono (ok' := fun k => k < (w1.alloc (.cells #[.int .i64 (ka : Int)] 3)).heap.size) fun k _ hl => hl
  have rb := r2'.below q1
  have ra2 := r1'.below q1
  have hb2 := stepBelow hb1 q1
  clear q1 r1' r2'
  go_wp2_with fail
  refine (chunks_calls A1 ka c us (some ⟨w1.heap.size, 0, none⟩) 1 1 [(ka : Int)] a b P _ ra hkac (by omega) p1 HP.out h1 h2 h3 h4 h5 h6).mono ?_
  unfold RetCh
  rw [HX.out]
  rintro e2 w2 ⟨v2, u2, rfl, ho2, _, hb⟩
  have hbX := hb
  have hb3 := stepBelow hb2 hb
  have ra3 := ra2.below hb
  have rb3 := rb.below hb
  have hb2s := hb2.size
  clear p1 ra ra2 rb hb hb2 hb1
  have rn : RdI w2 (fun k => k < w2.heap.size) none 0 [] := ⟨rfl, by omega, by simp, fun h => absurd h (by omega)⟩
  go_wp2_with fail
  refine (chunks_calls B1 kb e vs none 0 0 [] a b P w2 (rb3.mono fun k _ hl => hl) hkbe (by omega) rn HP.out h1 h2 h3 h4 h5 h6).mono ?_
  unfold RetCh
  rw [HY.out]
  rintro e3 w3 ⟨v3, u3, rfl, ho3, hu3, hb⟩
  have hb4 := stepBelow hb3 hb
  have s23 := hb.size
  have ra4 := ra3.below hb
  have rb4 := rb3.below hb
  have ho24 := ho2.below hb
  have ho2lt := ho2.lt
  have hb23 := hbX.size
  clear ra3 rb3 rn hb hb3 ho2
  have hE : OwnB (w3.alloc (.cells #[] 5)) w3.heap.size (.slice (some ⟨w3.heap.size, 0, none⟩) 0 0) [] := OwnB.lit w3 w3.heap.size [] (Nat.le_refl _) (by simp)
  have hbE : Below w3.heap.size w3 (w3.alloc (.cells #[] 5)) := (Below.refl _ _).alloc (Nat.le_refl _) _
  have hzE : w3.heap.size ≤ (w3.alloc (.cells #[] 5)).heap.size := by simp
  have rE := ra4.alloc (.cells #[] 5)
  have hlE : ([] : List UInt8).length + ka ≤ 140737488355328 := by simp; omega
  have hlU : us.length + kb ≤ 140737488355328 := by rw [HUL.out]; omega
  have hsum : (us ++ vs).length = ka + kb := by rw [List.length_append, HUL.out, HVL.out]
  have HS := Lib.hid hsum
  clear hsum
  go_wp2_with (first
    | (at_builtin; refine appB w3.heap.size w3.heap.size rfl _ _ rfl (.slice (some ⟨w3.heap.size, 0, none⟩) 0 0) [] us A1 ka c rfl rfl hE rE hbE hzE (Nat.le_refl _) hlE ?_; intro v4 w4 ho4 hbq _ _; have ho4' : OwnB w4 w3.heap.size v4 us := ho4; have hz4 := hbq.size; have rb5 := rb4.below hbq)
    | (at_builtin; refine appB w3.heap.size w3.heap.size rfl _ _ rfl v4 us vs B1 kb e rfl rfl ho4' rb5 hbq hz4 (Nat.le_refl _) hlU ?_; intro v5 w5 ho5 hb5 _ _; obtain ⟨A5, d5, rfl, hd5, r5⟩ := ho5.rdn (ka + kb) HS.out))
  have hb6 := belowThen hb4 hb4.size hb5
  have p2 := intsLit w5 [(ka : Int)] 1 rfl (by omega) (by simp; omega) #[.int .i64 (ka : Int)] rfl
  have q2 : Below w5.heap.size w5 (w5.alloc (.cells #[.int .i64 (ka : Int)] 3)) := (Below.refl _ _).alloc (Nat.le_refl _) _
  have ra := (r5.below q2).mono (ok' := fun k => k < (w5.alloc (.cells #[.int .i64 (ka : Int)] 3)).heap.size) fun k _ hl => hl
  have hlt2 : ∀ k, v2.ownBlock = some k → k < w2.heap.size := fun k hk => (ho2lt k hk).2
  have hbx := hb23
  have k24 := (ho24.below hb5).below q2
  have k3 := (ho3.below hb5).below q2
  have k3u := (hu3.below hb5).below q2
  have hb7 := stepBelow hb6 q2
  have s35 := hb5.size
  have s5a := q2.size
  clear hE hbE hzE rE hlE hlU ho4 hbq ho4' hz4 rb5 ra4 rb4 ho24 ho3 hu3 hb4 hb6 r5 ho5 q2 hb5
  go_wp2_with fail
  refine (chunks_calls A5 (ka + kb) d5 (us ++ vs) (some ⟨w5.heap.size, 0, none⟩) 1 1 [(ka : Int)] a b P _ ra hd5 (by omega) p2 HP.out h1 h2 h3 h4 h5 h6).mono ?_
  unfold RetCh
  rw [HZ.out]
  rintro e6 w6 ⟨v6, u6, rfl, ho6, hu6, hb⟩
  have hb8 := stepBelow hb7 hb
  have s56 := hb.size
  have k24 := k24.below hb
  have k3 := k3.below hb
  have k3u := k3u.below hb
  clear p2 ra hb hb7
  go_wp2_with fail
  refine (hroom w6).mono ?_
  rintro e7 w' ⟨rfl, rfl⟩
  clear hroom
  go_wp2_with fail
  refine (awake_calls w6).mono ?_
  rintro e8 w8 ⟨rfl, hb⟩
  have hb9 := stepBelow hb8 hb
  have k24 := k24.below hb
  have k3 := k3.below hb
  have k3u := k3u.below hb
  have k6 := ho6.below hb
  have k6u := hu6.below hb
  obtain ⟨A3, d3, rfl, hd3, q3⟩ := k3.rdn Y.length rfl
  obtain ⟨A6, d6, rfl, hd6, q6⟩ := k6.rdn (X ++ Y).length rfl
  obtain ⟨A7, d7, rfl, hd7, q7⟩ := k3u.rdn op.length rfl
  obtain ⟨A8, d8, rfl, hd8, q8⟩ := k6u.rdn op.length rfl
  have q3' := q3.mono (ok' := fun k => (w1.alloc (.cells #[.int .i64 (ka : Int)] 3)).heap.size ≤ k ∧ v2.ownBlock ≠ some k) fun k hk _ => ⟨Nat.le_trans hbx hk, fun e => by have := hlt2 k e; omega⟩
  have s68 := hb.size
  have hz8 : (w1.alloc (.cells #[.int .i64 (ka : Int)] 3)).heap.size ≤ w8.heap.size := by omega
  clear hb hb8 k3 k3u ho6 hu6 k6 k6u q3
  go_wp2_with (at_builtin; refine appRows (w0 := w8) (w1.alloc (.cells #[.int .i64 (ka : Int)] 3)).heap.size (w1.alloc (.cells #[.int .i64 (ka : Int)] 3)).heap.size rfl _ _ rfl v2 X Y A3 Y.length d3 rfl rfl k24 q3' (Below.refl _ _) hz8 (Nat.le_refl _) hXY ?_; intro v9 w9 ho9 _ hg9)
  have hb10 : Below w.heap.size w w9 := hb9.grown hg9 hb9.size (fun k hk => by have := (ho2lt k hk).1; omega)
  have z6 := q6.grown hg9 (fun k hk e => by have := hlt2 k e.symm; omega)
  have z7 := q7.grown hg9 (fun k hk e => by have h1 := hlt2 k e.symm; have h2 := hk.1; omega)
  have z8 := q8.grown hg9 (fun k hk e => by have h1 := hlt2 k e.symm; have h2 := hk.1; omega)
  obtain ⟨A9, d9, rfl, hd9, z9⟩ := ho9.rdn (X ++ Y).length rfl
  have hsame := bb_same_eq A9 A6 (X ++ Y).length d9 d6 (X ++ Y) w9 _ _ z9 z6
  have hxy : (X ++ Y).length = X.length + Y.length := List.length_append
  rw [hxy] at hsame ⊢
  refine (weakD hsame).mono ?_
  rintro e10 w10 ⟨rfl, hb⟩
  have hb11 := stepBelow hb10 hb
  have y7 := z7.below hb
  have y8 := z8.below hb
  have heq := equal_calls A7 A8 op.length d7 op.length d8 op op w10 _ _ y7 y8
  rw [decide_eq_true (show op = op from rfl)] at heq
  clear hb hsame z6 z7 z8 z9 hxy q6 q7 q8 q3' k24
  go_wp2_with fail
  refine heq.mono ?_
  rintro e11 w' ⟨rfl, rfl⟩
  go_wp2_with fail
  go_ret
  exact ⟨rfl, hb11⟩
set_option maxHeartbeats 4000000 in
theorem padParts_bad (w : World) (g s : Int) (hg : -9223372036854775808 ≤ g ∧ g ≤ 9223372036854775807) (hs : -9223372036854775808 ≤ s ∧ s ≤ 9223372036854775807) (A : Option Addr) (n c : Nat) (xs : List UInt8) (B : Option Addr) (m e : Nat) (ys : List UInt8)
    (hr : RdB w (fun k => k < w.heap.size) A n xs) (hc : n ≤ c) (hq : RdB w (fun k => k < w.heap.size) B m ys) (he : m ≤ e) (h : ¬ okGS (sz1 g) (sz2 s)) :
    Calls Try.prog 8 #[.int .i64 g, .int .i64 s, .agg #[.slice A n c, .slice B m e]] w fun e w' => e = .returned (.bool true) ∧ Below w.heap.size w w' := by
  obtain ⟨wS, hwS⟩ : ∃ wS, w.alloc (.cells #[.slice A n c, .slice B m e] 57) = wS := ⟨_, rfl⟩
  obtain ⟨hbS, c0, c1⟩ := boxTwo _ _ _ _ _ hwS
  have hrS := hr.below hbS
  have hqS := hq.below hbS
  have HWS := Lib.hid hwS
  have hsz := sizes_calls g s wS hg hs
  obtain ⟨g', hg'⟩ : ∃ g', sz1 g = g' := ⟨_, rfl⟩
  obtain ⟨s', hs'⟩ : ∃ s', sz2 s = s' := ⟨_, rfl⟩
  rw [hg', hs'] at hsz h
  have H := Lib.hid h
  obtain ⟨ka, hka⟩ : ∃ ka, ka = min n 1000 := ⟨_, rfl⟩
  have hmin1 : ∀ W : World, (Builtin.min_ #[3, 3] 3 #[.int .i64 (n : Int), .int .i64 1000]).run Try.prog W = .ok (.int .i64 (ka : Int)) W := min2_run n 1000 ka hka
  obtain ⟨kb, hkb⟩ : ∃ kb, kb = min m 1000 := ⟨_, rfl⟩
  have hmin2 : ∀ W : World, (Builtin.min_ #[3, 3] 3 #[.int .i64 (m : Int), .int .i64 1000]).run Try.prog W = .ok (.int .i64 (kb : Int)) W := min2_run m 1000 kb hkb
  have hkan : ka ≤ n := by omega
  have hka1 : ka ≤ 1000 := by omega
  have hkbm : kb ≤ m := by omega
  have hkb1 : kb ≤ 1000 := by omega
  obtain ⟨A1, hcut1, hcr1⟩ := cutTo_run A n c ka hkan hc
  obtain ⟨B1, hcut2, hcr2⟩ := cutTo_run B m e kb hkbm he
  have r1 := hcr1 _ _ _ hrS
  have r2 := hcr2 _ _ _ hqS
  have hcut1' := hcut1 .i64
  have hcut2' := hcut2 .i64
  have hkac : ka ≤ c := by omega
  clear h hg' hs' hka hkb hcut1 hcut2 hcr1 hcr2 hr hq hrS hqS hwS
  go_enter Try.func8, Try.ntmps8
  go_wp2_with fail
  rw [HWS.out]
  refine hsz.mono ?_
  rintro e' w' ⟨rfl, rfl⟩
  clear hsz
  go_wp2_with fail
  go_quiet (fail)
  have hb1 : Below w.heap.size w (wS.drewN nq) := belowDrewN hbS nq
  have r1' : RdB (wS.drewN nq) (fun k => k < w.heap.size) A1 ka (xs.take ka) := r1
  have r2' : RdB (wS.drewN nq) (fun k => k < w.heap.size) B1 kb (ys.take kb) := r2
  obtain ⟨w1, hw1⟩ : ∃ w1, wS.drewN nq = w1 := ⟨_, rfl⟩
  rw [hw1] at hb1 r1' r2' ⊢
  obtain ⟨us, hus⟩ : ∃ us, xs.take ka = us := ⟨_, rfl⟩
  obtain ⟨vs, hvs⟩ : ∃ vs, ys.take kb = vs := ⟨_, rfl⟩
  rw [hus] at r1'
  rw [hvs] at r2'
  have HUL := Lib.hid r1'.len
  have HVL := Lib.hid r2'.len
  have q1 : Below w1.heap.size w1 (w1.alloc (.cells #[.int .i64 (ka : Int)] 3)) := (Below.refl _ _).alloc (Nat.le_refl _) _
  have hb2 := stepBelow hb1 q1
  have ra := r1'.below q1
  have rb := r2'.below q1
  clear hw1 hus hvs r1 r2 c0 c1 hcut1' hcut2' hmin1 hmin2 q1 hb1 r1' r2'
  go_wp2_with fail
  refine (chunks_bad A1 ka c (some ⟨w1.heap.size, 0, none⟩) 1 1 g' s' _ H.out).mono ?_
  rintro e2 w2 ⟨rfl, hb⟩
  have hb3 := stepBelow hb2 hb
  have ra := ra.below hb
  have rb := rb.below hb
  clear hb hb2
  go_wp2_with fail
  refine (chunks_bad B1 kb e none 0 0 g' s' w2 H.out).mono ?_
  rintro e3 w3 ⟨rfl, hb⟩
  have hb4 := stepBelow hb3 hb
  have ra4 := ra.below hb
  have rb4 := rb.below hb
  clear hb hb3
  have hE : OwnB (w3.alloc (.cells #[] 5)) w3.heap.size (.slice (some ⟨w3.heap.size, 0, none⟩) 0 0) [] := OwnB.lit w3 w3.heap.size [] (Nat.le_refl _) (by simp)
  have hbE : Below w3.heap.size w3 (w3.alloc (.cells #[] 5)) := (Below.refl _ _).alloc (Nat.le_refl _) _
  have hzE : w3.heap.size ≤ (w3.alloc (.cells #[] 5)).heap.size := by simp
  have rE := ra4.alloc (.cells #[] 5)
  have hlE : ([] : List UInt8).length + ka ≤ 140737488355328 := by simp; omega
  have hlU : us.length + kb ≤ 140737488355328 := by rw [HUL.out]; omega
  go_wp2_with (first
    | (at_builtin; refine appB w3.heap.size w3.heap.size rfl _ _ rfl (.slice (some ⟨w3.heap.size, 0, none⟩) 0 0) [] us A1 ka c rfl rfl hE rE hbE hzE (Nat.le_refl _) hlE ?_; intro v4 w4 ho4 hbq _ _; have ho4' : OwnB w4 w3.heap.size v4 us := ho4; have hz4 := hbq.size; have rb5 := rb4.below hbq)
    | (at_builtin; refine appB w3.heap.size w3.heap.size rfl _ _ rfl v4 us vs B1 kb e rfl rfl ho4' rb5 hbq hz4 (Nat.le_refl _) hlU ?_; intro v5 w5 ho5 hb5 _ _; obtain ⟨A5, d5, rfl, hd5, r5⟩ := ho5.rdn (us ++ vs).length rfl))
  have hb6 := belowThen hb4 hb4.size hb5
  have q2 : Below w5.heap.size w5 (w5.alloc (.cells #[.int .i64 (ka : Int)] 3)) := (Below.refl _ _).alloc (Nat.le_refl _) _
  have hb7 := stepBelow hb6 q2
  have hxy : (us ++ vs).length = us.length + vs.length := List.length_append
  have hch := chunks_bad A5 (us ++ vs).length d5 (some ⟨w5.heap.size, 0, none⟩) 1 1 g' s' (w5.alloc (.cells #[.int .i64 (ka : Int)] 3)) H.out
  rw [hxy] at hch
  refine hch.mono ?_
  rintro e6 w6 ⟨rfl, hb⟩
  have hb8 := stepBelow hb7 hb
  clear hch hb hb7 hxy hE hbE hzE rE hlE hlU
  go_wp2_with fail
  refine (room_bad g' s' w6 H.out).mono ?_
  rintro e7 w' ⟨rfl, rfl⟩
  go_wp2_with fail
  refine (awake_calls w6).mono ?_
  rintro e8 w8 ⟨rfl, hb⟩
  go_wp2_with fail
  go_ret
  exact ⟨rfl, stepBelow hb8 hb⟩
theorem padParts_walk (w : World) (g s : Int) (A : Option Addr) (n c : Nat) (xs : List UInt8) (B : Option Addr) (m e : Nat) (ys : List UInt8) (hg1 : -9223372036854775808 ≤ g) (hg2 : g ≤ 9223372036854775807) (hs1 : -9223372036854775808 ≤ s) (hs2 : s ≤ 9223372036854775807)
    (hr : RdB w (fun k => k < w.heap.size) A n xs) (hc : n ≤ c) (hq : RdB w (fun k => k < w.heap.size) B m ys) (he : m ≤ e) (_hn : n ≤ 1048576) (_hm : m ≤ 1048576) :
    Calls Try.prog 8 #[.int .i64 g, .int .i64 s, .agg #[.slice A n c, .slice B m e]] w fun e w' => e = .returned (.bool true) ∧ Below w.heap.size w w' := by
  by_cases h : okGS (sz1 g) (sz2 s)
  · obtain ⟨a, b, P, ha, hb, _, hP, h1, h2, h3, h4, h5, h6⟩ := okGS_nat h
    exact padParts_good w g s ⟨hg1, hg2⟩ ⟨hs1, hs2⟩ A n c xs B m e ys hr hc hq he a b P ha hb hP h1 h2 h3 h4 h5 h6
  · exact padParts_bad w g s ⟨hg1, hg2⟩ ⟨hs1, hs2⟩ A n c xs B m e ys hr hc hq he h
end Go.Proofs.Ytnadohbgnanpiaa
