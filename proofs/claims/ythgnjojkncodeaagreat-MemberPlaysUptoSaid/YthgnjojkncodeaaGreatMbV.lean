/-
  The law's spoil: a topology's bools are turned, its edges' ends go up.
-/
import Derived.Test.YthgnjojkncodeaaGreatMbU
namespace Go.Proofs.YthgnjojkncodeaaGreat
open Go.RowKit
set_option linter.unusedVariables false
set_option linter.unusedSimpArgs false

/-- A topology that may be written, in its box: what its cells are, not what they hold. -/
structure Sp (w : World) (P : Nat) (ep : Int) (AU : Option Addr) (nU cU : Nat) (AH : Option Addr) (nH cH : Nat) (S : Nat → Prop) : Prop where
  box : w.heap[P]? = some (.cells #[.int .u64 ep, .slice AU nU cU, .slice AH nH cH] 38 (0, 0))
  nP : ¬ S P
  up : ∀ i, i < nU → ∃ b o x, AU = some ⟨b, o, none⟩ ∧ S b ∧ w.cell? ⟨b, o + i, none⟩ = some (.bool x) ∧ w.frozen? ⟨b, o + i, none⟩ = false
  hp : ∀ i, i < nH → ∃ b o C p q, AH = some ⟨b, o, none⟩ ∧ ¬ S b ∧ w.cell? ⟨b, o + i, none⟩ = some (.slice C p q) ∧ p ≤ 9223372036854775807 ∧
    ∀ k, k < p → ∃ b2 o2 x, C = some ⟨b2, o2, none⟩ ∧ S b2 ∧ w.cell? ⟨b2, o2 + k * 2 + 1, none⟩ = some (.int .i64 x) ∧ w.frozen? ⟨b2, o2 + k * 2 + 1, none⟩ = false
theorem csetS {w : World} {a : Addr} {u v : Value} (h : w.cell? a = some u) : (w.setCell a v).cell? a = some v := by
  first | exact World.cell?_setCell_same w a v h | exact World.cell?_setCell_same (w := w) (a := a) (v := v) h
theorem csetO {w : World} {a b : Addr} {v : Value} (h : a ≠ b) : (w.setCell a v).cell? b = w.cell? b := by
  first | exact World.cell?_setCell_other w a b v h | exact World.cell?_setCell_other w a v b h
section
variable {w w' : World} {P : Nat} {ep : Int} {AU AH : Option Addr} {nU cU nH cH : Nat} {S : Nat → Prop}
theorem Sp.drewN (h : Sp w P ep AU nU cU AH nH cH S) (n : Nat) : Sp (w.drewN n) P ep AU nU cU AH nH cH S := ⟨h.box, h.nP, h.up, h.hp⟩
theorem Sp.putB (h : Sp w P ep AU nU cU AH nH cH S) (a : Addr) (x y : Bool) (ha : S a.block) (hc : w.cell? a = some (.bool x)) : Sp (w.setCell a (.bool y)) P ep AU nU cU AH nH cH S := by
  refine ⟨(Below.heap_setCell w _ _ P fun e => h.nP (by have e : P = a.block := e; rw [e]; exact ha)).trans h.box, h.nP, fun i hi => ?_, fun i hi => ?_⟩
  · obtain ⟨b, o, x2, h1, h2, h3, h4⟩ := h.up i hi
    by_cases e : a = ⟨b, o + i, none⟩
    · exact ⟨b, o, y, h1, h2, by rw [← e]; exact csetS hc, by rw [World.frozen?_setCell]; exact h4⟩
    · exact ⟨b, o, x2, h1, h2, by rw [csetO e]; exact h3, by rw [World.frozen?_setCell]; exact h4⟩
  · obtain ⟨b, o, C, p, q, h1, h2, h3, h4, h5⟩ := h.hp i hi
    refine ⟨b, o, C, p, q, h1, h2, by rw [csetO (fun e => h2 (by rw [e] at ha; exact ha))]; exact h3, h4, fun k hk => ?_⟩
    obtain ⟨b2, o2, x2, k1, k2, k3, k4⟩ := h5 k hk
    refine ⟨b2, o2, x2, k1, k2, ?_, by rw [World.frozen?_setCell]; exact k4⟩
    rw [csetO]
    · exact k3
    · rintro rfl
      rw [k3] at hc
      cases hc
theorem Sp.putI (h : Sp w P ep AU nU cU AH nH cH S) (a : Addr) (x y : Int) (ha : S a.block) (hc : w.cell? a = some (.int .i64 x)) : Sp (w.setCell a (.int .i64 y)) P ep AU nU cU AH nH cH S := by
  refine ⟨(Below.heap_setCell w _ _ P fun e => h.nP (by have e : P = a.block := e; rw [e]; exact ha)).trans h.box, h.nP, fun i hi => ?_, fun i hi => ?_⟩
  · obtain ⟨b, o, x2, h1, h2, h3, h4⟩ := h.up i hi
    refine ⟨b, o, x2, h1, h2, ?_, by rw [World.frozen?_setCell]; exact h4⟩
    rw [csetO]
    · exact h3
    · rintro rfl
      rw [h3] at hc
      cases hc
  · obtain ⟨b, o, C, p, q, h1, h2, h3, h4, h5⟩ := h.hp i hi
    refine ⟨b, o, C, p, q, h1, h2, by rw [csetO (fun e => h2 (by rw [e] at ha; exact ha))]; exact h3, h4, fun k hk => ?_⟩
    obtain ⟨b2, o2, x2, k1, k2, k3, k4⟩ := h5 k hk
    by_cases e : a = ⟨b2, o2 + k * 2 + 1, none⟩
    · exact ⟨b2, o2, y, k1, k2, by rw [← e]; exact csetS hc, by rw [World.frozen?_setCell]; exact k4⟩
    · exact ⟨b2, o2, x2, k1, k2, by rw [csetO e]; exact k3, by rw [World.frozen?_setCell]; exact k4⟩
theorem Sp.c (h : Sp w P ep AU nU cU AH nH cH S) : w.cell? ⟨P, 1, none⟩ = some (.slice AU nU cU) ∧ w.cell? ⟨P, 2, none⟩ = some (.slice AH nH cH) ∧ P < w.heap.size := by
  have hb := h.box
  exact ⟨by simp [World.cell?, hb], by simp [World.cell?, hb], (Array.getElem?_eq_some_iff.1 hb).1⟩
end
/-- A topology in blocks of S0. -/
def TOwnS (S0 : Nat → Prop) (w : World) (v : Value) (ep : Int) (up : List Bool) (hops : List (List Ed)) : Prop :=
  ∃ vU vH, v = .agg #[.int .u64 ep, vU, vH] ∧ Own El.bool 4 w S0 vU up ∧ Own elOw 74 w (fun k => S0 k ∧ vU.ownBlock ≠ some k) vH hops
theorem TOwn.range2 {L : Nat} {w : World} {v : Value} {ep : Int} {up : List Bool} {hops : List (List Ed)} (h : TOwn L w v ep up hops) : TOwnS (fun k => L ≤ k ∧ k < w.heap.size) w v ep up hops := by
  obtain ⟨vU, vH, e, hU, hH⟩ := h
  exact ⟨vU, vH, e, hU.mono fun k hl hk => ⟨hk, hl⟩, hH.mono fun k hl hk => ⟨⟨hk.1, hl⟩, hk.2⟩⟩
theorem TOwnS.chg {S0 D : Nat → Prop} {w w' : World} {v : Value} {ep : Int} {up : List Bool} {hops : List (List Ed)} (h : TOwnS S0 w v ep up hops) (hc : Chg D w w') (hs : ∀ k, k < w.heap.size → S0 k → ¬ D k) : TOwnS S0 w' v ep up hops := by
  obtain ⟨vU, vH, e, hU, hH⟩ := h
  exact ⟨vU, vH, e, hU.chg hc hs, hH.chg hc fun k hl hk => hs k hl hk.1⟩
theorem TOwnS.below {S0 : Nat → Prop} {w w' : World} {v : Value} {ep : Int} {up : List Bool} {hops : List (List Ed)} (h : TOwnS S0 w v ep up hops) (hb : Below w.heap.size w w') : TOwnS S0 w' v ep up hops := h.chg (D := NoB) (Chg.ofBelow hb) fun _ _ _ h => h.elim
theorem TOwnS.agg {S0 : Nat → Prop} {w : World} {v : Value} {ep : Int} {up : List Bool} {hops : List (List Ed)} (h : TOwnS S0 w v ep up hops) : ∃ AU nU cU AH nH cH, v = .agg #[.int .u64 ep, .slice AU nU cU, .slice AH nH cH] := by
  obtain ⟨vU, vH, rfl, hU, hH⟩ := h
  obtain ⟨AU, nU, cU, rfl, _, _⟩ := hU.shape
  obtain ⟨AH, nH, cH, rfl, _, _⟩ := hH.shape
  exact ⟨_, _, _, _, _, _, rfl⟩
theorem TOwnS.tv {S0 : Nat → Prop} {w : World} {v : Value} {ep : Int} {up : List Bool} {hops : List (List Ed)} (h : TOwnS S0 w v ep up hops) (hf : Few hops) (h1 : up.length ≤ 1048576) (h2 : hops.length ≤ 1048576) : TopoV w S0 v ep up hops := by
  obtain ⟨vU, vH, rfl, hU, hH⟩ := h
  obtain ⟨AU, cU, rfl, hcU, hrU⟩ := hU.rd (by omega)
  obtain ⟨AH, cH, rfl, hcH, hrH⟩ := hH.rd (by omega)
  exact ⟨AU, _, cU, AH, _, cH, rfl, hcU, hcH, hrU, (rdOw hrH hf).mono fun k hk hl => hk.1⟩
theorem Sp.start {w : World} {S0 : Nat → Prop} {ep : Int} {up : List Bool} {hops : List (List Ed)} {AU : Option Addr} {nU cU : Nat} {AH : Option Addr} {nH cH : Nat} (h : TOwnS S0 w (.agg #[.int .u64 ep, .slice AU nU cU, .slice AH nH cH]) ep up hops) (hf : Few hops) :
    Sp (w.alloc (.cells #[.int .u64 ep, .slice AU nU cU, .slice AH nH cH] 38)) w.heap.size ep AU nU cU AH nH cH (fun k => S0 k ∧ k < w.heap.size ∧ (Value.slice AH nH cH).ownBlock ≠ some k) ∧ nU = up.length ∧ nH = hops.length := by
  obtain ⟨vU, vH, e, hU, hH⟩ := h
  injection e with e
  have e1 : Value.slice AU nU cU = vU := by have := congrArg (fun a : Array Value => a[1]?) e; simpa using this
  have e2 : Value.slice AH nH cH = vH := by have := congrArg (fun a : Array Value => a[2]?) e; simpa using this
  subst e1 e2
  have hb : Below w.heap.size w (w.alloc (.cells #[.int .u64 ep, .slice AU nU cU, .slice AH nH cH] 38)) := (Below.refl _ _).alloc (Nat.le_refl _) _
  obtain ⟨_, _, _, f1, f2, _⟩ := hU.shape
  injection f1 with _ f1 _
  obtain ⟨_, _, _, g1, g2, _⟩ := hH.shape
  injection g1 with _ g1 _
  refine ⟨⟨heap_alloc_new w _, fun hh => by omega, fun i hi => ?_, fun i hi => ?_⟩, by omega, by omega⟩
  · obtain ⟨x, hx⟩ : ∃ x, up[i]? = some x := ⟨_, List.getElem?_eq_getElem (by omega)⟩
    obtain ⟨g, cap, vs, hv, hL, hgl, _, rfl, hc, hfz⟩ := hU.at_ i x hx
    have hgl0 := (hU.lt g (by rw [hv]; rfl)).2
    injection hv with hv _ _
    subst hv
    refine ⟨g, 0, x, rfl, ⟨hL, hgl0, fun e => ?_⟩, cellBelow hb ?_, (hb.frozen (p := ⟨g, 0 + i, none⟩) hgl).trans (hfz _)⟩
    · have := (hH.lt g e).1.2
      exact this rfl
    · have := hc 0 _ rfl
      rw [Nat.zero_add]
      simpa [El.bool] using this
  · obtain ⟨es, hx⟩ : ∃ x, hops[i]? = some x := ⟨_, List.getElem?_eq_getElem (by omega)⟩
    obtain ⟨g, cap, vs, hv, hL, hgl, _, ⟨vC, rfl, hC⟩, hc, hfz⟩ := hH.at_ i es hx
    have hgl0 := (hH.lt g (by rw [hv]; rfl)).2
    have hgl1 : (Value.slice AH nH cH).ownBlock = some g := by rw [hv]; rfl
    injection hv with hv _ _
    subst hv
    obtain ⟨C, p, q, rfl, hp, hpq⟩ := hC.shape
    refine ⟨g, 0, C, p, q, rfl, fun hh => hh.2.2 hgl1, cellBelow hb ?_, by have := hf es (List.mem_of_getElem? hx); omega, fun k hk => ?_⟩
    · have := hc 0 _ rfl
      rw [Nat.zero_add]
      have ek : elOw.k = 1 := rfl
      rw [ek] at this
      simpa using this
    · obtain ⟨y, hy⟩ : ∃ y, es[k]? = some y := ⟨_, List.getElem?_eq_getElem (by omega)⟩
      obtain ⟨g2, cap2, vs2, hv2, hL2, hgl2, _, hV2, hc2, hfz2⟩ := hC.at_ k y hy
      obtain ⟨rfl, _, _⟩ := ed_open hV2
      injection hv2 with hv2 _ _
      subst hv2
      refine ⟨g2, 0, y.2, rfl, ⟨hL2.1.1, hgl2, fun e => hL2.2 (by rw [hgl1] at e; exact (Option.some.inj e).symm)⟩, cellBelow hb ?_, (hb.frozen (p := ⟨g2, 0 + k * 2 + 1, none⟩) hgl2).trans (hfz2 _)⟩
      rw [Nat.zero_add]
      exact hc2 1 _ rfl
set_option maxRecDepth 100000 in
set_option maxHeartbeats 4000000 in
theorem spoil_calls (w : World) (v : Value) (S0 : Nat → Prop) (ep : Int) (up : List Bool) (hops : List (List Ed)) (h : TOwnS S0 w v ep up hops) (hf : Few hops) (hn1 : up.length ≤ 1048576) (hn2 : hops.length ≤ 1048576) :
    Calls Tryz.prog 10 #[v] w fun e w' => e = .returned (.tuple #[]) ∧ Chg S0 w w' := by
  obtain ⟨vU, vH, rfl, hU, hH⟩ := h
  obtain ⟨AU, nU, cU, rfl, f2, _⟩ := hU.shape
  obtain ⟨AH, nH, cH, rfl, g2, _⟩ := hH.shape
  have hS := (Sp.start (ep := ep) (h := ⟨_, _, rfl, hU, hH⟩) hf).1
  have hnU : nU ≤ 1048576 := by omega
  have hnH : nH ≤ 1048576 := by omega
  obtain ⟨w1, hw1⟩ : ∃ w1, w.alloc (.cells #[.int .u64 ep, .slice AU nU cU, .slice AH nH cH] 38) = w1 := ⟨_, rfl⟩
  have b1 : Chg S0 w w1 := by rw [← hw1]; exact Chg.ofBelow ((Below.refl _ _).alloc (Nat.le_refl _) _)
  rw [hw1] at hS
  obtain ⟨P, hP⟩ : ∃ P, w.heap.size = P := ⟨_, rfl⟩
  obtain ⟨S, hSS⟩ : ∃ S : Nat → Prop, (fun k => S0 k ∧ k < w.heap.size ∧ (Value.slice AH nH cH).ownBlock ≠ some k) = S := ⟨_, rfl⟩
  have HSI : Hid (∀ k, S k → S0 k) := Lib.hid fun k hk => by rw [← hSS] at hk; exact hk.1
  rw [hSS] at hS
  rw [hP] at hS
  have HW1 := Lib.hid hw1
  have HB1 := Lib.hid b1
  have HP := Lib.hid hP
  have HS := Lib.hid hS
  clear hw1 b1 hP hS hSS hU hH f2 g2 hf hn1 hn2
  go_enter Tryz.func10, Tryz.ntmps10
  go_upto_region 1 with (fail)
  rw [HW1.out]
  try rw [HP.out]
  obtain ⟨c1, c2, c3⟩ := HS.out.c
  go_upto_region 2 with (fail)
  clear c1 c2 c3
  go_loopg [8] nU (fun gg s8 wr => ∃ i : Nat, i ≤ nU ∧ nU - i ≤ gg ∧ s8 = .int .i64 (i : Int) ∧ Hid (Sp wr P ep AU nU cU AH nH cH S) ∧ Hid (Chg S0 w wr))
  case atStart => exact ⟨0, by omega, by omega, rfl, HS, HB1⟩
  case round =>
    clear HS HB1 HW1
    obtain ⟨i, hi, hgi, rfl, HS, HC⟩ := hrel
    by_cases hil : i < nU
    · have hili : (i : Int) < (nU : Int) := by omega
      have hi0 : (0 : Int) ≤ (i : Int) := by omega
      obtain ⟨c1, c2, c3⟩ := HS.out.c
      obtain ⟨b, o, x, rfl, hSb, hx, hz⟩ := HS.out.up i hil
      have HPUT := Lib.hid (HS.out.putB ⟨b, o + i, none⟩ x (!x) hSb hx)
      have HCP := Lib.hid (HC.out.trans (Chg.set wr ⟨b, o + i, none⟩ (.bool (!x))) fun k _ e => by have e : k = b := e; rw [e]; exact HSI.out b hSb)
      go_upto_region 4 with (fail)
      go_region
      go_wp2_with fail
      go_roundg (nU - (i + 1))
      case measure => omega
      case rel => exact ⟨i + 1, by omega, by omega, by go_num, Lib.hid (HPUT.out.drewN _), Lib.hid (HCP.out.drewN _)⟩
    · have hili : ¬ ((i : Int) < (nU : Int)) := by omega
      obtain ⟨c1, c2, c3⟩ := HS.out.c
      go_wp2_with fail
      go_loopg [25] nH (fun gg s25 wr => ∃ i : Nat, i ≤ nH ∧ nH - i ≤ gg ∧ s25 = .int .i64 (i : Int) ∧ Hid (Sp wr P ep AU nU cU AH nH cH S) ∧ Hid (Chg S0 w wr))
      case atStart => exact ⟨0, by omega, by omega, rfl, HS, HC⟩
      case round =>
        clear HS HC c1 c2 c3
        obtain ⟨i2, hi2, hgi2, rfl, HS, HC⟩ := hrel
        by_cases hil2 : i2 < nH
        · have hili2 : (i2 : Int) < (nH : Int) := by omega
          have hi02 : (0 : Int) ≤ (i2 : Int) := by omega
          obtain ⟨c1, c2, c3⟩ := HS.out.c
          obtain ⟨b, o, C, p, q, rfl, hnb, hx, hp, _⟩ := HS.out.hp i2 hil2
          go_wp2_with fail
          go_loopg [34] p (fun gg s34 wr => ∃ k : Nat, k ≤ p ∧ p - k ≤ gg ∧ s34 = .int .i64 (k : Int) ∧ Hid (Sp wr P ep AU nU cU (some ⟨b, o, none⟩) nH cH S) ∧ Hid (Chg S0 w wr) ∧ wr.cell? ⟨b, o + i2, none⟩ = some (.slice C p q))
          case atStart => exact ⟨0, by omega, by omega, rfl, HS, HC, hx⟩
          case round =>
            clear HS HC c1 c2 c3 hx
            obtain ⟨k, hk, hgk, rfl, HS, HC, hx⟩ := hrel
            by_cases hkl : k < p
            · have hkli : (k : Int) < (p : Int) := by omega
              have hk0 : (0 : Int) ≤ (k : Int) := by omega
              obtain ⟨c1, c2, c3⟩ := HS.out.c
              obtain ⟨b', o', C', p', q', e1, _, hx', _, h5⟩ := HS.out.hp i2 hil2
              cases e1
              rw [hx] at hx'
              injection hx' with hx'
              injection hx' with e3 e4 e5
              subst e3 e4 e5
              obtain ⟨b2, o2, x, rfl, hSb, hx2, hz2⟩ := h5 k hkl
              obtain ⟨y, hy⟩ : ∃ y, IntKind.i64.wrap (x + 1) = y := ⟨_, rfl⟩
              have hne : b2 ≠ b := fun e => hnb (by rw [← e]; exact hSb)
              have hxn := (csetO (w := wr) (a := ⟨b2, o2 + k * 2 + 1, none⟩) (b := ⟨b, o + i2, none⟩) (v := .int .i64 y) (fun e => hne (congrArg Addr.block e))).trans hx
              have HXN := Lib.hid hxn
              have HPUT := Lib.hid (HS.out.putI ⟨b2, o2 + k * 2 + 1, none⟩ x y hSb hx2)
              have HCP := Lib.hid (HC.out.trans (Chg.set wr ⟨b2, o2 + k * 2 + 1, none⟩ (.int .i64 y)) fun k _ e => by have e : k = b2 := e; rw [e]; exact HSI.out b2 hSb)
              clear h5 hxn
              go_wp2_with fail
              go_roundg (p - (k + 1))
              case measure => omega
              case rel => exact ⟨k + 1, by omega, by omega, by go_num, HPUT, HCP, HXN.out⟩
            · have hkli : ¬ ((k : Int) < (p : Int)) := by omega
              go_wp2_with fail
              go_roundg (nH - (i2 + 1))
              case measure => omega
              case rel => exact ⟨i2 + 1, by omega, by omega, by go_num, HS, HC⟩
        · have hili2 : ¬ ((i2 : Int) < (nH : Int)) := by omega
          go_wp2_with fail
          exact bodyPost_end (v := .tuple #[]) (by simp [results, Tryz.results10, go_sem]) rfl ⟨rfl, HC.out⟩
end Go.Proofs.YthgnjojkncodeaaGreat
