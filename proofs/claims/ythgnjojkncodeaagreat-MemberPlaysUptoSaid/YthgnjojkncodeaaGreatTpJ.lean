/-
  slices.Compact of edges: how many it leaves.
-/
import Derived.Test.YthgnjojkncodeaaGreatTpI
import Derived.Deep.RegionLaw
namespace Go.Proofs.YthgnjojkncodeaaGreat
open Go.RowKit
set_option linter.unusedVariables false

theorem setCells_chg (g : Nat) : ∀ (vs : List Value) (o : Nat) (w : World), Chg (fun k => k = g) w (w.setCells g o vs) := by
  intro vs
  induction vs with
  | nil => intro o w; exact Chg.refl _ _
  | cons v vs ih => intro o w; exact (Chg.set w ⟨g, o, none⟩ v).trans (ih _ _) fun _ _ h => h
theorem zeroCells_mem (z : Array Value) (n : Nat) : ∀ u ∈ (Builtin.zeroCells z n).toList, u ∈ z.toList := by
  intro u hu
  unfold Builtin.zeroCells at hu
  rw [Array.toList_map] at hu
  obtain ⟨i, hi, rfl⟩ := List.mem_map.1 hu
  have hi2 : i < n * z.size := by simpa using hi
  have hz : 0 < z.size := by
    rcases Nat.eq_zero_or_pos z.size with h | h
    · rw [h] at hi2; omega
    · exact h
  have hm := Nat.mod_lt i hz
  rw [getElem!_pos z _ hm]
  exact Array.getElem_mem_toList hm
theorem run_clear_any {P : Program} (w : World) (t e ty : TypeId) (z : Value) (ht : P.underlying t = some (.slice e)) (hv : ∀ w, (zeroValue e).run P w = .ok z w) (h1 : ∀ v ∈ z.cells.toList, v.oneCell' = true) (b o c m : Nat) (hm : 0 < m)
    (hc : ∀ j, j < m * z.cells.size → (w.cell? ⟨b, o + j, none⟩).isSome = true) (hf : ∀ j, j < m * z.cells.size → w.frozen? ⟨b, o + j, none⟩ = false) :
    ∃ vs, (Builtin.clear_ #[t] ty #[.slice (some ⟨b, o, none⟩) m c]).run P w = .ok (.tuple #[]) (w.setCells b o vs) := by
  have hlen : (Builtin.zeroCells z.cells m).toList.length = m * z.cells.size := by simp [Builtin.zeroCells]
  have hst := run_storeCells_cells (P := P) b o (Builtin.zeroCells z.cells m).toList 0 w (by rw [hlen]; simpa using hc) (by rw [hlen]; simpa using hf) fun v hv => h1 v (zeroCells_mem _ _ v hv)
  simp only [Nat.add_zero] at hst
  obtain ⟨m', rfl⟩ : ∃ m', m = m' + 1 := ⟨m - 1, by omega⟩
  exact ⟨_, by simp [Builtin.clear_, run_underlying ht, hv, hst]; rfl⟩
def noAdj (l : List Ed) : Bool := (List.range (l.length - 1)).all fun j => decide (edAt l (j + 1) ≠ edAt l j)
theorem noAdj_true {l : List Ed} (h : ∀ j, j + 1 < l.length → edAt l (j + 1) ≠ edAt l j) : noAdj l = true :=
  List.all_eq_true.2 fun j hj => decide_eq_true (h j (by have := List.mem_range.1 hj; omega))
theorem noAdj_false {l : List Ed} {j : Nat} (hj : j + 1 < l.length) (h : edAt l (j + 1) = edAt l j) : noAdj l = false := by
  rw [Bool.eq_false_iff]
  intro hs
  exact of_decide_eq_true (List.all_eq_true.1 hs j (List.mem_range.2 (by omega))) h
/-- What Compact leaves: how many elements. -/
def RetC (w : World) (v : Value) (n : Nat) (b : Bool) (e : Ending) (w' : World) : Prop := ∃ A m c, e = .returned (.slice A m c) ∧ ((m : Int) == (n : Int)) = b ∧ m ≤ n ∧ Chg (fun k => v.ownBlock = some k) w w'
/-- A row of as many edges, whatever they are. -/
def RowN (w : World) (S : Nat → Prop) (v : Value) (n : Nat) : Prop := ∃ l : List Ed, l.length = n ∧ Own elEd 77 w S v l
theorem RowN.cells {w : World} {S : Nat → Prop} {g n c : Nat} (h : RowN w S (.slice (some ⟨g, 0, none⟩) n c) n) (j : Nat) (hj : j < n * 2) : (w.cell? ⟨g, j, none⟩).isSome = true ∧ w.frozen? ⟨g, j, none⟩ = false := by
  obtain ⟨l, rfl, vss, h1, h2, h3⟩ := h
  have hfl := h1.flat
  have hjl : j < vss.flatten.length := by rw [hfl]; exact hj
  have h4 := World.ownsRow.cells h2 (g := g) rfl j _ (List.getElem?_eq_getElem hjl)
  rw [addPlain, Nat.zero_add] at h4
  refine ⟨by rw [h4]; rfl, ?_⟩
  rcases h2.2 with ⟨e, _⟩ | ⟨g', cap, cur, e, _, hg, _⟩
  · cases e
  · injection e with e
    injection e with e
    injection e with e _
    subst e
    simp [World.frozen?, hg]
set_option maxRecDepth 100000 in
set_option maxHeartbeats 4000000 in
theorem compactE_calls (w : World) (S : Nat → Prop) (v : Value) (l : List Ed) (ho : Own elEd 77 w S v l) (hn : l.length ≤ 1048576) :
    Calls Tryz.prog 59 #[v] w (RetC w v l.length (noAdj l)) := by
  obtain ⟨A, c, rfl, hc, hr⟩ := ho.rd (by omega)
  obtain ⟨n, hl⟩ : ∃ n, l.length = n := ⟨_, rfl⟩
  rw [hl] at hc hr ho hn ⊢
  obtain ⟨rb, hrb⟩ : ∃ rb, noAdj l = rb := ⟨_, rfl⟩
  rw [hrb]
  have HRB := Lib.hid hrb
  have HL := Lib.hid hl
  have HO := Lib.hid ho
  clear hrb hl ho
  by_cases hn2 : n < 2
  · obtain rfl : rb = true := by rw [← HRB.out]; exact noAdj_true fun j hj => by have := HL.out; omega
    have hlt : (n : Int) < 2 := by omega
    clear hr
    go_enter Tryz.func59, Tryz.ntmps59
    go_wp2
    try go_step3
    try go_wp2
    try rw [Exit.noGoto_ret]
    go_ret
    exact ⟨_, _, _, rfl, by simp, Nat.le_refl _, Chg.refl _ _⟩
  · have hlt : ¬ ((n : Int) < 2) := by omega
    have hform : ∃ g, A = some ⟨g, 0, none⟩ := by
      obtain ⟨g, cap, vs0, e0, _, _, _, _, _, _⟩ := HO.out.at_ 0 _ (edAt_get (by have := HL.out; omega))
      injection e0 with e0 e5 e6
      exact ⟨g, e0⟩
    obtain ⟨g, e0⟩ := hform
    subst e0
    go_enter Tryz.func59, Tryz.ntmps59
    go_wp2_with fail
    go_loopg [3] n (fun gg s3 wr => ∃ k q : Nat, 1 ≤ k ∧ k ≤ n ∧ n - k ≤ gg ∧ s3 = .int .i64 (k : Int) ∧ Hid (∀ j, j + 1 < k → edAt l (j + 1) ≠ edAt l j) ∧ wr = w.drewN q)
    case atStart => exact ⟨1, 0, by omega, by omega, by omega, rfl, Lib.hid (fun j hj => by omega), rfl⟩
    case round =>
      obtain ⟨k, q, hk1, hk, hgk, rfl, HN, rfl⟩ := hrel
      by_cases hkn : k < n
      · have hkni : (k : Int) < (n : Int) := by omega
        have hk0 : (0 : Int) ≤ (k : Int) := by omega
        obtain ⟨j, hj⟩ : ∃ j, k = j + 1 := ⟨k - 1, by omega⟩
        have hij : (k : Int) - 1 = (j : Int) := by omega
        have hiw : IntKind.i64.wrap ((k : Int) - 1) = (j : Int) := by rw [hij]; exact IntWalk.i64_in _ ⟨by omega, by omega⟩
        have hjw : IntKind.i64.wrap (j : Int) = (j : Int) := IntWalk.i64_in _ ⟨by omega, by omega⟩
        have hj0 : (0 : Int) ≤ (j : Int) := by omega
        have hjn : (j : Int) < (n : Int) := by omega
        obtain ⟨b, o, vs, e1, _, _, hV, hcl⟩ := hr.at_ k _ (edAt_get (by have := HL.out; omega))
        obtain ⟨rfl, _, _⟩ := ed_open hV
        obtain ⟨b', o', vs', e2, _, _, hV', hcl'⟩ := hr.at_ j _ (edAt_get (by have := HL.out; omega))
        obtain ⟨rfl, _, _⟩ := ed_open hV'
        injection e1 with e1
        injection e1 with e1 e4
        subst e1 e4
        injection e2 with e2
        injection e2 with e3 e4
        subst e3 e4
        obtain ⟨x, hx⟩ : ∃ x, edAt l k = x := ⟨_, rfl⟩
        obtain ⟨y, hy⟩ : ∃ y, edAt l j = y := ⟨_, rfl⟩
        rw [hx] at hcl
        rw [hy] at hcl'
        obtain ⟨x1, x2⟩ := x
        obtain ⟨y1, y2⟩ := y
        have k0 : w.cell? ⟨g, k * 2, none⟩ = some (.int .i64 x1) := by have := hcl 0 _ rfl; rw [Nat.zero_add] at this; exact this
        have k1 : w.cell? ⟨g, k * 2 + 1, none⟩ = some (.int .i64 x2) := by have := hcl 1 _ rfl; rw [Nat.zero_add] at this; exact this
        have k2 : w.cell? ⟨g, j * 2, none⟩ = some (.int .i64 y1) := by have := hcl' 0 _ rfl; rw [Nat.zero_add] at this; exact this
        have k3 : w.cell? ⟨g, j * 2 + 1, none⟩ = some (.int .i64 y2) := by have := hcl' 1 _ rfl; rw [Nat.zero_add] at this; exact this
        have HX := Lib.hid hx
        have HY := Lib.hid hy
        have HJ := Lib.hid hj
        clear hcl hcl' hV hV' hx hy hj
        by_cases heq : x1 = y1 ∧ x2 = y2
        · obtain ⟨h1, h2⟩ := heq
          have e1 : (x1 == y1) = true := by rw [beq_iff_eq]; exact h1
          have e2 : (x2 == y2) = true := by rw [beq_iff_eq]; exact h2
          obtain rfl : rb = false := by rw [← HRB.out]; exact noAdj_false (j := j) (by have := HL.out; have := HJ.out; omega) (by rw [← HJ.out, HX.out, HY.out, h1, h2])
          have hrd := hr.len
          clear h1 h2
          go_wp2_with fail
          go_quiet (fail)
          go_wp2_with fail
          clear e1 e2 k0 k1 k2 k3 hij hiw hjw hj0 hjn hrd
          have HR0 : Hid (RowN (w.drewN (q + nq)) S (.slice (some ⟨g, 0, none⟩) n c) n) := Lib.hid ⟨l, HL.out, HO.out.below (belowDrewN (Below.refl _ _) _)⟩
          clear hr
          go_loopg [3, 5] (n - k) (fun gg s3 s5 wi => ∃ k2 i : Nat, 1 ≤ k2 ∧ k2 ≤ n - k ∧ n - k - k2 ≤ gg ∧ s5 = .int .i64 (k2 : Int) ∧ s3 = .int .i64 (i : Int) ∧ 1 ≤ i ∧ i + 1 ≤ k + k2 ∧ Hid (RowN wi S (.slice (some ⟨g, 0, none⟩) n c) n) ∧ Hid (Chg (fun x => (Value.slice (some ⟨g, 0, none⟩) n c).ownBlock = some x) w wi))
          case atStart => exact ⟨1, k, by omega, by omega, by omega, rfl, rfl, hk1, by omega, HR0, Lib.hid ((Chg.refl _ _).drewN _)⟩
          case round =>
            clear HR0
            obtain ⟨k2, i, h21, h22, hg2, rfl, rfl, hi1, hik, HRN, HCH⟩ := hrel
            obtain ⟨l', hl', hown⟩ := HRN.out
            by_cases hk2 : k2 < n - k
            · have hk2i : (k2 : Int) < ((n - k : Nat) : Int) := by omega
              have hk20 : (0 : Int) ≤ (k2 : Int) := by omega
              obtain ⟨j2, hj2⟩ : ∃ j2, k2 = j2 + 1 := ⟨k2 - 1, by omega⟩
              have hij : (k2 : Int) - 1 = (j2 : Int) := by omega
              have hiw : IntKind.i64.wrap ((k2 : Int) - 1) = (j2 : Int) := by rw [hij]; exact IntWalk.i64_in _ ⟨by omega, by omega⟩
              have hjw : IntKind.i64.wrap (j2 : Int) = (j2 : Int) := IntWalk.i64_in _ ⟨by omega, by omega⟩
              have hj0 : (0 : Int) ≤ (j2 : Int) := by omega
              have hjn : (j2 : Int) < ((n - k : Nat) : Int) := by omega
              have hiin : (i : Int) < (n : Int) := by omega
              have hii0 : (0 : Int) ≤ (i : Int) := by omega
              obtain ⟨g1, cc1, vs1, e1, _, _, _, hV1, hcl1, hfr1⟩ := hown.at_ (k + k2) _ (edAt_get (by omega))
              obtain ⟨g2, cc2, vs2, e2, _, _, _, hV2, hcl2, _⟩ := hown.at_ (k + j2) _ (edAt_get (by omega))
              obtain ⟨g3, cc3, vs3, e3, _, _, _, hV3, hcl3, hfr3⟩ := hown.at_ i _ (edAt_get (by omega))
              obtain ⟨rfl, _, _⟩ := ed_open hV1
              obtain ⟨rfl, _, _⟩ := ed_open hV2
              obtain ⟨rfl, _, _⟩ := ed_open hV3
              injection e1 with e1 ea1 eb1
              clear ea1 eb1
              injection e1 with e1
              injection e1 with e1 ea1
              clear ea1
              injection e2 with e2 ea2 eb2
              clear ea2 eb2
              injection e2 with e2
              injection e2 with e2 ea2
              clear ea2
              injection e3 with e3 ea3 eb3
              clear ea3 eb3
              injection e3 with e3
              injection e3 with e3 ea3
              clear ea3
              subst e1 e2 e3
              obtain ⟨x, hx⟩ : ∃ x, edAt l' (k + k2) = x := ⟨_, rfl⟩
              obtain ⟨y, hy⟩ : ∃ y, edAt l' (k + j2) = y := ⟨_, rfl⟩
              obtain ⟨z, hz⟩ : ∃ z, edAt l' i = z := ⟨_, rfl⟩
              rw [hx] at hcl1 hV1
              rw [hy] at hcl2
              rw [hz] at hcl3
              obtain ⟨x1', x2'⟩ := x
              obtain ⟨y1', y2'⟩ := y
              obtain ⟨z1, z2⟩ := z
              obtain ⟨_, hin1, hin2⟩ := ed_open hV1
              simp only at hin1 hin2
              have k0 : wr.cell? ⟨g, k * 2 + k2 * 2, none⟩ = some (.int .i64 x1') := by have := hcl1 0 _ rfl; rw [← Nat.add_mul]; exact this
              have k1 : wr.cell? ⟨g, k * 2 + k2 * 2 + 1, none⟩ = some (.int .i64 x2') := by have := hcl1 1 _ rfl; rw [← Nat.add_mul]; exact this
              have k3 : wr.cell? ⟨g, k * 2 + j2 * 2, none⟩ = some (.int .i64 y1') := by have := hcl2 0 _ rfl; rw [← Nat.add_mul]; exact this
              have k4 : wr.cell? ⟨g, k * 2 + j2 * 2 + 1, none⟩ = some (.int .i64 y2') := by have := hcl2 1 _ rfl; rw [← Nat.add_mul]; exact this
              have k5 : wr.cell? ⟨g, i * 2, none⟩ = some (.int .i64 z1) := hcl3 0 _ rfl
              have k6 : wr.cell? ⟨g, i * 2 + 1, none⟩ = some (.int .i64 z2) := hcl3 1 _ rfl
              have q5 := hfr3 (i * 2)
              have q6 := hfr3 (i * 2 + 1)
              obtain ⟨b1, hb1⟩ : ∃ b1, (x1' == y1') = b1 := ⟨_, rfl⟩
              obtain ⟨b2, hb2⟩ : ∃ b2, (x2' == y2') = b2 := ⟨_, rfl⟩
              have hstore : ∀ q', RowN (((wr.drewN q').setCell ⟨g, i * 2, none⟩ (.int .i64 x1')).setCell ⟨g, i * 2 + 1, none⟩ (.int .i64 x2')) S (.slice (some ⟨g, 0, none⟩) n c) n := fun q' => by
                have hown := hown.below (belowDrewN (Below.refl _ _) q')
                have hzi : l'[i]? = some (z1, z2) := by rw [edAt_get (show i < l'.length by omega), hz]
                rw [← hl'] at hown
                have s1 := hown.store i 0 (.int .i64 x1') (z1, z2) (x1', z2) hzi (by decide) (fun vs hV => by
                  obtain ⟨rfl, _, h2⟩ := ed_open hV
                  exact ed_mk _ _ (x := (x1', z2)) hin1 h2)
                have hl2 : (l'.set i (x1', z2)).length = l'.length := by simp
                rw [← hl2] at s1
                have s2 := s1.store i 1 (.int .i64 x2') (x1', z2) (x1', x2') (by rw [List.getElem?_set_self (by omega)]) (by decide) (fun vs hV => by
                  obtain ⟨rfl, h1, _⟩ := ed_open hV
                  exact ed_mk _ _ (x := (x1', x2')) h1 hin2)
                refine ⟨(l'.set i (x1', z2)).set i (x1', x2'), by simp [hl'], ?_⟩
                rw [hl2, hl'] at s2
                exact s2
              have HST := Lib.hid hstore
              have HCH2 : Hid (∀ q', Chg (fun x => (Value.slice (some ⟨g, 0, none⟩) n c).ownBlock = some x) w (((wr.drewN q').setCell ⟨g, i * 2, none⟩ (.int .i64 x1')).setCell ⟨g, i * 2 + 1, none⟩ (.int .i64 x2'))) :=
                Lib.hid fun q' => (((HCH.out.drewN q').trans (Chg.set (wr.drewN q') ⟨g, i * 2, none⟩ _) fun x _ h => by rw [show x = g from h]; rfl).trans (Chg.set _ ⟨g, i * 2 + 1, none⟩ _) fun x _ h => by rw [show x = g from h]; rfl)
              have HJ2 := Lib.hid hj2
              clear hstore hcl1 hcl2 hcl3 hfr1 hfr3 hV1 hV2 hV3 hown hx hy hz hj2 hl'
              cases b1 with
              | false =>
                go_wp2_with fail
                go_quiet (fail)
                go_wp2_with fail
                go_roundg (n - k - (k2 + 1))
                case measure => omega
                case rel => exact ⟨k2 + 1, i + 1, by omega, by omega, by omega, by go_num, by go_num, by omega, by omega, Lib.hid (HST.out _), Lib.hid (HCH2.out _)⟩
              | true =>
                cases b2 with
                | false =>
                  go_wp2_with fail
                  go_quiet (fail)
                  go_wp2_with fail
                  go_roundg (n - k - (k2 + 1))
                  case measure => omega
                  case rel => exact ⟨k2 + 1, i + 1, by omega, by omega, by omega, by go_num, by go_num, by omega, by omega, Lib.hid (HST.out _), Lib.hid (HCH2.out _)⟩
                | true =>
                  go_wp2_with fail
                  go_quiet (fail)
                  go_wp2_with fail
                  go_roundg (n - k - (k2 + 1))
                  case measure => omega
                  case rel => exact ⟨k2 + 1, i, by omega, by omega, by omega, by go_num, rfl, hi1, by omega, Lib.hid (by obtain ⟨l2, h1, h2⟩ := HRN.out; exact ⟨l2, h1, h2.below (belowDrewN (Below.refl _ _) _)⟩), Lib.hid (HCH.out.drewN _)⟩
            · have hk2i : ¬ ((k2 : Int) < ((n - k : Nat) : Int)) := by omega
              have hcc := RowN.cells HRN.out
              obtain ⟨vz, hclr⟩ := run_clear_any (P := Tryz.prog) wr 74 77 0 (.agg #[.int .i64 0, .int .i64 0]) Tryz.underlying74 (fun W => by kernel_rfl) (by simp [Value.cells, Value.oneCell']) g (i * 2) (c - i) (n - i) (by omega)
                (fun j hj => (hcc (i * 2 + j) (by have : j < (n - i) * 2 := hj; omega)).1) (fun j hj => (hcc (i * 2 + j) (by have : j < (n - i) * 2 := hj; omega)).2)
              have hiin : (i : Int) < (n : Int) := by omega
              have hiin2 : (i : Int) ≤ (n : Int) := by omega
              have hii0 : (0 : Int) ≤ (i : Int) := by omega
              have hici : (i : Int) ≤ (c : Int) := by omega
              have HCZ : Hid (Chg (fun x => (Value.slice (some ⟨g, 0, none⟩) n c).ownBlock = some x) w (wr.setCells g (i * 2) vz)) := Lib.hid (HCH.out.trans (setCells_chg g vz (i * 2) wr) fun x _ h => by rw [show x = g from h]; rfl)
              clear hcc hown hl'
              go_wp2_with fail
              try rw [Exit.noGoto_ret]
              go_ret
              exact ⟨_, i, _, rfl, by rw [beq_eq_false_iff_ne]; omega, by omega, HCZ.out⟩
        · have hne : ¬ (x1 = y1 ∧ x2 = y2) := heq
          have HN2 : Hid (∀ j, j + 1 < k + 1 → edAt l (j + 1) ≠ edAt l j) := Lib.hid (fun j' hj' => by
            rcases Nat.lt_or_ge (j' + 1) k with h' | h'
            · exact HN.out j' h'
            · obtain rfl : j' = j := by have := HJ.out; omega
              rw [← HJ.out, HX.out, HY.out]
              intro e
              injection e with ea eb
              exact hne ⟨ea, eb⟩)
          obtain ⟨b1, hb1⟩ : ∃ b1, (x1 == y1) = b1 := ⟨_, rfl⟩
          obtain ⟨b2, hb2⟩ : ∃ b2, (x2 == y2) = b2 := ⟨_, rfl⟩
          have hbb : b1 = false ∨ b2 = false := by
            cases b1 with
            | false => exact .inl rfl
            | true =>
              cases b2 with
              | false => exact .inr rfl
              | true => exact absurd ⟨by simpa using hb1, by simpa using hb2⟩ hne
          clear heq hne
          rcases hbb with rfl | rfl
          all_goals
            go_wp2_with fail
            go_quiet (fail)
            go_wp2_with fail
            go_roundg (n - (k + 1))
            case measure => omega
            case rel => exact ⟨k + 1, _, by omega, by omega, by omega, by go_num, HN2, rfl⟩
      · have hkni : ¬ ((k : Int) < (n : Int)) := by omega
        obtain rfl : rb = true := by rw [← HRB.out]; exact noAdj_true fun j hj => HN.out j (by have := HL.out; omega)
        clear hr
        go_wp2_with fail
        try rw [Exit.noGoto_ret]
        go_ret
        exact ⟨_, _, _, rfl, by simp, Nat.le_refl _, (Chg.refl _ _).drewN _⟩
end Go.Proofs.YthgnjojkncodeaaGreat
