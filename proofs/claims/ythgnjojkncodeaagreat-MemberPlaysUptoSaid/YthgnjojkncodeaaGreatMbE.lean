/-
  member.copied's walk; Topo, Epoch, Node.
-/
import Derived.Test.YthgnjojkncodeaaGreatMbD
namespace Go.Proofs.YthgnjojkncodeaaGreat
open Go.RowKit
set_option linter.unusedVariables false
set_option linter.unusedSimpArgs false

theorem CSt.facts {w wr : World} {i : Nat} {oH vU vH : Value} {ep : Int} {up : List Bool} {hops : List (List Ed)} (h : CSt w oH vU vH ep up hops i wr) :
    wr.cell? ⟨w.heap.size, 0, none⟩ = some (.int .u64 ep) ∧ wr.cell? ⟨w.heap.size, 1, none⟩ = some vU ∧ wr.cell? ⟨w.heap.size, 2, none⟩ = some oH ∧ wr.frozen? ⟨w.heap.size, 2, none⟩ = false ∧
    wr.cell? ⟨w.heap.size + 1, 0, none⟩ = some (.int .u64 0) ∧ wr.cell? ⟨w.heap.size + 1, 1, none⟩ = some (.slice none 0 0) ∧ wr.cell? ⟨w.heap.size + 1, 2, none⟩ = some (.slice none 0 0) ∧
    wr.frozen? ⟨w.heap.size + 1, 0, none⟩ = false ∧ wr.frozen? ⟨w.heap.size + 1, 1, none⟩ = false ∧ wr.frozen? ⟨w.heap.size + 1, 2, none⟩ = false := by
  have hb := h.box
  have h0 := h.b0
  refine ⟨?_, ?_, ?_, ?_, ?_, ?_, ?_, ?_, ?_, ?_⟩ <;> simp [World.cell?, World.frozen?, hb, h0]
set_option maxRecDepth 100000 in
set_option maxHeartbeats 4000000 in
theorem copied_calls (w : World) (v : Value) (ep : Int) (up : List Bool) (hops : List (List Ed)) (h : TopoV w (fun k => k < w.heap.size) v ep up hops) (hf : Few hops) (hn1 : up.length ≤ 1048576) (hn2 : hops.length ≤ 1048576) :
    Calls Tryz.prog 35 #[v] w (RetTO w ep up hops) := by
  obtain ⟨A, n, c, B, m, d, rfl, g1, g2, g3, g4⟩ := h
  have hl3 := g3.len
  have hl4 := g4.len
  obtain ⟨w2, hw2⟩ : ∃ w2, (w.alloc (.cells #[.int .u64 ep, .slice A n c, .slice B m d] 38)).alloc (.cells #[.int .u64 0, .slice none 0 0, .slice none 0 0] 38) = w2 := ⟨_, rfl⟩
  have b2 : Below w.heap.size w w2 := by rw [← hw2]; exact ((Below.refl _ _).alloc (Nat.le_refl _) _).alloc (by simp) _
  have hs2 : w2.heap.size = w.heap.size + 2 := by rw [← hw2]; simp
  have e0 : w2.heap[w.heap.size]? = some (.cells #[.int .u64 ep, .slice A n c, .slice B m d] 38 (0, 0)) := by
    rw [← hw2, Below.heap_alloc _ _ _ (by simp)]
    exact heap_alloc_new w _
  have e1 : w2.heap[w.heap.size + 1]? = some (.cells #[.int .u64 0, .slice none 0 0, .slice none 0 0] 38 (0, 0)) := by
    rw [← hw2]
    have := heap_alloc_new (w.alloc (.cells #[.int .u64 ep, .slice A n c, .slice B m d] 38)) (.cells #[.int .u64 0, .slice none 0 0, .slice none 0 0] 38)
    simpa using this
  have c1 : w2.cell? ⟨w.heap.size, 1, none⟩ = some (.slice A n c) := by simp [World.cell?, e0]
  have hcb := cloneB_calls w2 _ A n c up (g3.below b2) (fun k hk => by omega) (by omega)
  have HW2 := Lib.hid hw2
  have HB2 := Lib.hid b2
  have HS2 := Lib.hid hs2
  have E0 := Lib.hid e0
  have E1 := Lib.hid e1
  have G4 := Lib.hid g4
  have HF := Lib.hid hf
  have HL4 := Lib.hid hl4
  have HN2 := Lib.hid hn2
  clear hw2 b2 hs2 e0 e1 g4 hf hl4 hn2 g3 hl3 hn1
  go_enter Tryz.func35, Tryz.ntmps35
  go_upto_region 1 with (fail)
  rw [HW2.out]
  go_wp2_with fail
  refine hcb.mono ?_
  rintro e wu ⟨vU, usU, rfl, hqU, hoU, hgU, bU⟩
  obtain ⟨AU, cU, rfl, hcU⟩ := owns_shape2 hoU
  have hsU := bU.size
  have hs2 := HS2.out
  have eu0 : wu.heap[w.heap.size]? = some (.cells #[.int .u64 ep, .slice A n c, .slice B m d] 38 (0, 0)) := (bU.block _ (by omega)).trans E0.out
  have k1 : wu.cell? ⟨w.heap.size, 1, none⟩ = some (.slice A n c) := by simp [World.cell?, eu0]
  have z1 : wu.frozen? ⟨w.heap.size, 1, none⟩ = false := by simp [World.frozen?, eu0]
  obtain ⟨wx, hwx⟩ : ∃ wx, wu.setCell ⟨w.heap.size, 1, none⟩ (.slice AU up.length cU) = wx := ⟨_, rfl⟩
  have hcx : Chg (fun k => k = w.heap.size) wu wx := by rw [← hwx]; exact Chg.set wu ⟨w.heap.size, 1, none⟩ _
  have ex0 : wx.heap[w.heap.size]? = some (.cells #[.int .u64 ep, .slice AU up.length cU, .slice B m d] 38 (0, 0)) := by rw [← hwx]; simp [World.setCell, Array.getElem?_modify, eu0]
  have ex1 : wx.heap[w.heap.size + 1]? = some (.cells #[.int .u64 0, .slice none 0 0, .slice none 0 0] 38 (0, 0)) := (hcx.block _ (by omega) (by omega)).trans ((bU.block _ (by omega)).trans E1.out)
  have k2 : wx.cell? ⟨w.heap.size, 2, none⟩ = some (.slice B m d) := by simp [World.cell?, ex0]
  have hsx : wx.heap.size = wu.heap.size := by rw [← hwx]; simp [World.setCell]
  have hbx : Below w.heap.size w wx := hcx.below (belowThen HB2.out HB2.out.size bU) (by omega) fun k hk => by omega
  have hch := cloneH_calls wx _ B m d hops (G4.out.keep hbx.size fun k hk _ => hbx.block k hk) (fun k hk => by omega) (by have := HL4.out; have := HN2.out; omega)
  have HWX := Lib.hid hwx
  have HCX := Lib.hid hcx
  have EX0 := Lib.hid ex0
  have EX1 := Lib.hid ex1
  have HQU := Lib.hid hqU
  have HOU := Lib.hid hoU
  have HGU := Lib.hid hgU
  have BU := Lib.hid bU
  have HSX := Lib.hid hsx
  have HBX := Lib.hid hbx
  clear hcb hqU hoU hgU bU hsU hs2 eu0 hwx hcx ex0 ex1 hsx hbx c1
  go_upto_region 2 with (fail)
  rw [HWX.out]
  clear k1 z1
  go_wp2_with fail
  refine hch.mono ?_
  rintro e wh ⟨vH, usH, rfl, hqH, hoH, hgH, bH⟩
  obtain ⟨AH, cH, rfl, hcH⟩ := owns_shape2 hoH
  have HST := Lib.hid (CSt.start HS2.out HB2.out BU.out HCX.out bH HQU.out HOU.out HGU.out hqH hoH hgH EX0.out EX1.out)
  obtain ⟨N, hN⟩ : ∃ N, hops.length = N := ⟨_, rfl⟩
  rw [hN] at HST hcH
  have HN := Lib.hid hN
  have hN2 : N ≤ 1048576 := by rw [← hN]; exact HN2.out
  obtain ⟨u9, hU9⟩ : ∃ u9, up.length = u9 := ⟨_, rfl⟩
  rw [hU9] at HST
  rw [hN]
  try rw [hU9]
  clear hch hqH hoH hgH bH k2 hN hU9 HQU HOU HGU EX0 EX1
  go_wp2_with fail
  go_loopg [15] N (fun gg s15 wr => ∃ i : Nat, i ≤ N ∧ N - i ≤ gg ∧ s15 = .int .i64 (i : Int) ∧ Hid (CSt w (.slice B m d) (.slice AU u9 cU) (.slice AH N cH) ep up hops i wr))
  case atStart => exact ⟨0, by omega, by omega, rfl, HST⟩
  case round =>
    clear HST
    obtain ⟨i, hi, hgi, rfl, HS⟩ := hrel
    by_cases hil : i < N
    · have hili : (i : Int) < (N : Int) := by omega
      have hi0 : (0 : Int) ≤ (i : Int) := by omega
      obtain ⟨es, hes⟩ : ∃ es, hops[i]? = some es := ⟨_, List.getElem?_eq_getElem (by rw [HN.out]; exact hil)⟩
      obtain ⟨g, cap, C, p, q, e1, hgl, hcl, hfr, hpq, hrd, hgp⟩ := HS.out.at_ hes
      rw [HN.out] at e1
      injection e1 with e1 _ e2
      subst e1 e2
      have hsz := HS.out.bel.size
      have hcall := cloneE_calls wr _ C p q es hrd (fun k hk => by omega) (by have := hrd.len; have := HF.out es (List.mem_of_getElem? hes); omega)
      have HES := Lib.hid hes
      have HUL := Lib.hid HS.out.ru.lt
      clear hes hrd
      go_wp2_with fail
      refine hcall.mono ?_
      rintro e w5 ⟨vC, usC, rfl, hqC, hoC, hgC, bC⟩
      obtain ⟨AC, cC, rfl, hcC⟩ := owns_shape2 hoC
      have HS5 := Lib.hid (HS.out.below bC)
      have hcl5 : w5.cell? ⟨g, i, none⟩ = some (.slice C p q) := cellBelow bC hcl
      have hfr5 : w5.frozen? ⟨g, i, none⟩ = false := (bC.frozen (p := ⟨g, i, none⟩) hgl).trans hfr
      have HV : Hid (elOw.V w5 (fun k => w.heap.size + 1 < k ∧ (Value.slice AU u9 cU).ownBlock ≠ some k ∧ (Value.slice (some ⟨g, 0, none⟩) N cH).ownBlock ≠ some k) [.slice AC es.length cC] es) := Lib.hid (by
        have hO : Own elEd 77 w5 (fun k => w.heap.size + 1 < k ∧ (Value.slice AU u9 cU).ownBlock ≠ some k ∧ (Value.slice (some ⟨g, 0, none⟩) N cH).ownBlock ≠ some k) (.slice AC es.length cC) es :=
          Own.ofParts (ok := fun _ => False) (hqC.flatten_ flat_ed) hoC (fun k _ h => h.elim) fun q hq => by
            have h1 := hgC q hq
            have h2 := (Array.getElem?_eq_some_iff.1 HS.out.b0).1
            refine ⟨by omega, fun e => ?_, fun e => ?_⟩
            · have := (HUL.out q e).2; omega
            · have e := Option.some.inj e; have e : g = q := e; omega
        exact ⟨_, rfl, hO⟩)
      have HPUT := Lib.hid (CSt.put (g := g) (cap := cH) (vC := .slice AC es.length cC) (hops := hops) (by rw [HN.out]; exact HS5.out) HES.out (by rw [HN.out]; exact HV.out))
      rw [HN.out] at HPUT
      clear hcall hqC hoC hgC bC hcl hfr
      go_wp2_with fail
      go_roundg (N - (i + 1))
      case measure => omega
      case rel => exact ⟨i + 1, by omega, by omega, by go_num, HPUT⟩
    · have hili : ¬ ((i : Int) < (N : Int)) := by omega
      obtain ⟨p0, p1, p2, p3, z0, z1, z2, z3, z4, z5⟩ := HS.out.facts
      obtain ⟨w5, hw5⟩ : ∃ w5, (((wr.setCell ⟨w.heap.size, 2, none⟩ (.slice AH N cH)).setCell ⟨w.heap.size + 1, 0, none⟩ (.int .u64 ep)).setCell ⟨w.heap.size + 1, 1, none⟩ (.slice AU u9 cU)).setCell ⟨w.heap.size + 1, 2, none⟩ (.slice AH N cH) = w5 := ⟨_, rfl⟩
      have hc5 : Chg (fun k => k = w.heap.size ∨ k = w.heap.size + 1) wr w5 := by
        rw [← hw5]
        exact ((((Chg.set wr ⟨w.heap.size, 2, none⟩ _).mono (T := fun k => k = w.heap.size ∨ k = w.heap.size + 1) fun _ _ h => .inl h).trans (Chg.set _ ⟨w.heap.size + 1, 0, none⟩ _) fun _ _ h => .inr h).trans (Chg.set _ ⟨w.heap.size + 1, 1, none⟩ _) fun _ _ h => .inr h).trans (Chg.set _ ⟨w.heap.size + 1, 2, none⟩ _) fun _ _ h => .inr h
      have HD := Lib.hid (HS.out.done (by rw [HN.out]; omega) hc5)
      have hh : w5.heap[w.heap.size + 1]? = some (.cells #[.int .u64 ep, .slice AU u9 cU, .slice AH N cH] 38 (0, 0)) := by
        have hz := HS.out.b0
        have hne : ¬ w.heap.size = w.heap.size + 1 := by omega
        rw [← hw5]; simp [World.setCell, Array.getElem?_modify, hz, hne]
      have F0 : Hid (w5.cell? ⟨w.heap.size + 1, 0, none⟩ = some (.int .u64 ep)) := Lib.hid (by simp [World.cell?, hh])
      have F1 : Hid (w5.cell? ⟨w.heap.size + 1, 1, none⟩ = some (.slice AU u9 cU)) := Lib.hid (by simp [World.cell?, hh])
      have F2 : Hid (w5.cell? ⟨w.heap.size + 1, 2, none⟩ = some (.slice AH N cH)) := Lib.hid (by simp [World.cell?, hh])
      have HW5 := Lib.hid hw5
      clear hw5 hc5 hh
      go_wp2_with fail
      rw [HW5.out]
      have f0 := F0.out
      have f1 := F1.out
      have f2 := F2.out
      refine bodyPost_ret (v := .agg #[.int .u64 ep, .slice AU u9 cU, .slice AH N cH]) (by simp [results, Tryz.results35, go_sem, f0, f1, f2]) rfl ⟨_, rfl, HD.out.1, HD.out.2⟩
end Go.Proofs.YthgnjojkncodeaaGreat
