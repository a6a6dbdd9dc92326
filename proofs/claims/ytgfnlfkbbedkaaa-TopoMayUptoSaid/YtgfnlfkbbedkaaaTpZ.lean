/-
  topo.Copy's walk.
-/
import Derived.Test.YtgfnlfkbbedkaaaTpY
namespace Go.Proofs.Ytgfnlfkbbedkaaa
open Go.RowKit
set_option linter.unusedVariables false

theorem owns_shape {w : World} {T : TypeId} {b k n : Nat} {v : Value} {us : List Value} (h : w.ownsRow b T k v n us) : ∃ A n' c, v = .slice A n' c := by
  rcases h.2 with ⟨rfl, _⟩ | ⟨g, cap, cur, rfl, _⟩
  · exact ⟨_, _, _, rfl⟩
  · exact ⟨_, _, _, rfl⟩
/-- A box for a topology, still empty. -/
def ZBox (w : World) (P : Nat) : Prop := w.heap[P]? = some (.cells #[.int .u64 0, .slice none 0 0, .slice none 0 0] 27 (0, 0))
section
variable {w w' : World} {P : Nat}
theorem ZBox.lt (h : ZBox w P) : P < w.heap.size := (Array.getElem?_eq_some_iff.1 h).1
theorem ZBox.below (h : ZBox w P) (hb : Below w.heap.size w w') : ZBox w' P := (hb.block P h.lt).trans h
theorem ZBox.made (w : World) : ZBox (w.alloc (.cells #[.int .u64 0, .slice none 0 0, .slice none 0 0] 27)) w.heap.size := heap_alloc_new w _
theorem ZBox.facts (h : ZBox w P) : w.cell? ⟨P, 0, none⟩ = some (.int .u64 0) ∧ w.cell? ⟨P, 1, none⟩ = some (.slice none 0 0) ∧ w.cell? ⟨P, 2, none⟩ = some (.slice none 0 0) ∧ w.frozen? ⟨P, 0, none⟩ = false ∧ w.frozen? ⟨P, 1, none⟩ = false ∧ w.frozen? ⟨P, 2, none⟩ = false := by
  unfold ZBox at h
  exact ⟨by simp [World.cell?, h], by simp [World.cell?, h], by simp [World.cell?, h], by simp [World.frozen?, h], by simp [World.frozen?, h], by simp [World.frozen?, h]⟩
end
theorem owns_chg {w w' : World} {T : TypeId} {b k n : Nat} {v : Value} {us : List Value} {S : Nat → Prop} (h : w.ownsRow b T k v n us) (hc : Chg S w w') (hs : ∀ g, v.ownBlock = some g → ¬ S g) : w'.ownsRow b T k v n us := by
  refine ⟨h.1, ?_⟩
  rcases h.2 with h4 | ⟨g, cap, cur, rfl, hb, hg, r⟩
  · exact .inl h4
  · exact .inr ⟨g, cap, cur, rfl, hb, (hc.block g (Array.getElem?_eq_some_iff.1 hg).1 (hs g rfl)).trans hg, r⟩
theorem owns_shape2 {w : World} {T : TypeId} {b k n : Nat} {v : Value} {us : List Value} (h : w.ownsRow b T k v n us) : ∃ A c, v = .slice A n c ∧ n ≤ c := by
  rcases h.2 with ⟨rfl, rfl⟩ | ⟨g, cap, cur, rfl, _, _, hn, _⟩
  · exact ⟨_, _, rfl, Nat.le_refl _⟩
  · exact ⟨_, _, rfl, hn⟩
theorem CSt.start {w w2 wu wh wx : World} {PX : Nat} {vU vH : Value} {ep : Int} {up : List Bool} {hops : List (List Ed)} {usU usH : List (List Value)} {okU : Nat → Prop}
    (hs2 : w2.heap.size = w.heap.size + 2) (b2 : Below w.heap.size w w2) (BU : Below w2.heap.size w2 wu) (BUH : Below wu.heap.size wu wh) (BX : Below w2.heap.size w2 wx) (hcx : Chg (fun k => k = PX) wh wx) (hpx : w2.heap.size ≤ PX)
    (hqU : Cells El.bool wu okU usU up) (hoU : wu.ownsRow 0 4 El.bool.k vU up.length usU.flatten) (hgU : ∀ g, vU.ownBlock = some g → w2.heap.size ≤ g ∧ g ≠ PX)
    (hqH : Cells elEs wh (fun k => k < w.heap.size) usH hops) (hoH : wh.ownsRow 0 39 elEs.k vH hops.length usH.flatten) (hgH : ∀ g, vH.ownBlock = some g → wu.heap.size ≤ g ∧ g ≠ PX)
    (hbox : wx.heap[PX]? = some (.cells #[.int .u64 ep, vU, vH] 27 (0, 0)))
    (hb0 : wx.heap[w.heap.size + 1]? = some (.cells #[.int .u64 0, .slice none 0 0, .slice none 0 0] 27 (0, 0))) : CSt w PX vU vH ep up hops 0 wx := by
  have h1 := BU.size
  have h2 := BUH.size
  have hUx : Chg (fun k => k = PX) wu wx := (Chg.ofBelow (S := fun k => k = PX) BUH).trans hcx fun _ _ h => h
  refine ⟨belowThen b2 b2.size BX, by omega, hbox, hb0, ?_, ⟨usH, ?_, ?_, owns_chg hoH hcx fun g hg => (hgH g hg).2, hqH.length⟩, fun g hg => ⟨by have := (hgH g hg).1; omega, (hgH g hg).2, fun e => ?_⟩⟩
  · refine (Own.ofParts (S := fun k => vU.ownBlock = some k ∧ w.heap.size + 1 < k ∧ k ≠ PX) (ok := fun _ => False) (hqU.flatten_ flat_bool) hoU (fun k _ h => h.elim) fun g hg => ⟨hg, by have := (hgU g hg).1; omega, (hgU g hg).2⟩).chg hUx fun k _ hk e => hk.2.2 e
  · rw [List.take_zero, List.take_zero]; exact .nil
  · rw [List.drop_zero, List.drop_zero]
    exact hqH.keep hcx.size fun k hk hl => hcx.block k hl fun e => by have e : k = PX := e; omega
  · have hl := (hoU.lt g e).2
    have := (hgH g hg).1
    omega
theorem CSt.facts {w wr : World} {PX i : Nat} {vU vH : Value} {ep : Int} {up : List Bool} {hops : List (List Ed)} (h : CSt w PX vU vH ep up hops i wr) :
    wr.cell? ⟨PX, 0, none⟩ = some (.int .u64 ep) ∧ wr.cell? ⟨PX, 1, none⟩ = some vU ∧ wr.cell? ⟨PX, 2, none⟩ = some vH := by
  have hb := h.box
  exact ⟨by simp [World.cell?, hb], by simp [World.cell?, hb], by simp [World.cell?, hb]⟩
theorem CSt.done {w wr w5 : World} {PX N : Nat} {vU vH : Value} {ep : Int} {up : List Bool} {hops : List (List Ed)} (h : CSt w PX vU vH ep up hops N wr) (hN : hops.length ≤ N) (hc : Chg (fun k => k = w.heap.size + 1) wr w5) :
    TOwn w.heap.size w5 (.agg #[.int .u64 ep, vU, vH]) ep up hops ∧ Below w.heap.size w w5 := by
  obtain ⟨vss, h1, h2, h3, h4⟩ := h.rh
  rw [List.take_of_length_le (by omega), List.take_of_length_le hN] at h1
  refine ⟨⟨vU, vH, rfl, (h.ru.chg hc fun k _ hk e => by have e : k = w.heap.size + 1 := e; omega).mono fun k _ hk => by omega, ?_⟩, hc.below h.bel h.bel.size fun k hk => by omega⟩
  refine Own.ofParts (E := elOw) (ok := fun k => w.heap.size + 1 < k ∧ k ≠ PX ∧ vU.ownBlock ≠ some k ∧ vH.ownBlock ≠ some k) (h1.keep hc.size fun k hk hl => hc.block k hl fun e => by have e : k = w.heap.size + 1 := e; omega) (owns_chg h3 hc fun g hg e => by have := (h.bh g hg).1; have e : g = w.heap.size + 1 := e; omega)
    (fun k _ hk => ⟨⟨by omega, hk.2.2.1⟩, fun e => hk.2.2.2 e.symm⟩) fun g hg => ⟨by have := (h.bh g hg).1; omega, (h.bh g hg).2.2⟩
set_option maxRecDepth 100000 in
set_option maxHeartbeats 4000000 in
theorem copy_calls (w : World) (v : Value) (ep : Int) (up : List Bool) (hops : List (List Ed)) (h : TopoV w (fun k => k < w.heap.size) v ep up hops) (hf : Few hops) (hn1 : up.length ≤ 1048576) (hn2 : hops.length ≤ 1048576) :
    Calls Try.prog 17 #[v] w (RetTO w ep up hops) := by
  obtain ⟨A, n, c, B, m, d, rfl, g1, g2, g3, g4⟩ := h
  have hl3 := g3.len
  have hl4 := g4.len
  obtain ⟨w2, hw2⟩ : ∃ w2, (w.alloc (.cells #[.int .u64 ep, .slice A n c, .slice B m d] 27)).alloc (.cells #[.int .u64 0, .slice none 0 0, .slice none 0 0] 27) = w2 := ⟨_, rfl⟩
  have b2 : Below w.heap.size w w2 := by rw [← hw2]; exact ((Below.refl _ _).alloc (Nat.le_refl _) _).alloc (by simp) _
  have hs2 : w2.heap.size = w.heap.size + 2 := by rw [← hw2]; simp
  have hc : ∀ W, Below w2.heap.size w2 W → W.cell? ⟨w.heap.size, 0, none⟩ = some (.int .u64 ep) ∧ W.cell? ⟨w.heap.size, 1, none⟩ = some (.slice A n c) ∧ W.cell? ⟨w.heap.size, 2, none⟩ = some (.slice B m d) := by
    intro W hb
    have h1 : w2.heap[w.heap.size]? = some (.cells #[.int .u64 ep, .slice A n c, .slice B m d] 27 (0, 0)) := by
      rw [← hw2, Below.heap_alloc _ _ _ (by simp)]
      exact heap_alloc_new w _
    have h2 := (hb.block _ (by omega)).trans h1
    exact ⟨by simp [World.cell?, h2], by simp [World.cell?, h2], by simp [World.cell?, h2]⟩
  have hb0 : ∀ W, Below w2.heap.size w2 W → W.heap[w.heap.size + 1]? = some (.cells #[.int .u64 0, .slice none 0 0, .slice none 0 0] 27 (0, 0)) := by
    intro W hb
    refine (hb.block _ (by omega)).trans ?_
    rw [← hw2]
    have := heap_alloc_new (w.alloc (.cells #[.int .u64 ep, .slice A n c, .slice B m d] 27)) (.cells #[.int .u64 0, .slice none 0 0, .slice none 0 0] 27)
    simpa using this
  have hcb : ∀ W, Below w2.heap.size w2 W → Calls Try.prog 61 #[.slice A n c] W (RetOwn El.bool 4 W (fun k => k < w.heap.size) up) := fun W hb =>
    cloneB_calls W _ A n c up ((g3.below b2).below hb) (fun k hk => by have := hb.size; omega) (by omega)
  have hch : ∀ W, Below w2.heap.size w2 W → Calls Try.prog 62 #[.slice B m d] W (RetOwn elEs 39 W (fun k => k < w.heap.size) hops) := fun W hb =>
    cloneH_calls W _ B m d hops ((g4.below b2).below hb) (fun k hk => by have := hb.size; omega) (by omega)
  have hce : ∀ (W : World) (C : Option Addr) (p q : Nat) (es : List Ed), w.heap.size ≤ W.heap.size → Rd elEd W (fun k => k < w.heap.size) C p es → es.length ≤ 1048576 → Calls Try.prog 63 #[.slice C p q] W (RetOwn elEd 42 W (fun k => k < w.heap.size) es) := fun W C p q es hb hr hl =>
    cloneE_calls W _ C p q es hr (fun k hk => by omega) (by have := hr.len; omega)
  have HW2 := Lib.hid hw2
  have HC := Lib.hid hc
  have HB0 := Lib.hid hb0
  have HCB := Lib.hid hcb
  have HCH := Lib.hid hch
  have HCE := Lib.hid hce
  have HF := Lib.hid hf
  have HN2 := Lib.hid hn2
  have HS2 := Lib.hid hs2
  have HB2 := Lib.hid b2
  obtain ⟨c0, c1, c2⟩ := hc w2 (Below.refl _ _)
  clear hw2 hc hb0 hcb hch hce hf hn1 hn2 hs2 b2 g3 g4 hl3 hl4
  go_enter Try.func17, Try.ntmps17
  go_upto_region 1 with (fail)
  rw [HW2.out]
  go_cut [3] (fun s3 wx => ∃ (PX : Nat) (vU vH : Value), s3 = .pointer (some ⟨PX, 0, none⟩) ∧ Hid (CSt w PX vU vH ep up hops 0 wx))
  case first =>
    go_region_held3 (fun w' => w'.cell? ⟨w.heap.size, 0, none⟩ = some (.int .u64 ep) ∧ w'.cell? ⟨w.heap.size, 1, none⟩ = some (.slice A n c) ∧ w'.cell? ⟨w.heap.size, 2, none⟩ = some (.slice B m d))
      (first | exact ⟨c0, c1, c2⟩ | exact HC.out _ (Below.refl _ _).drew | exact HC.out _ ((Below.refl _ _).alloc (Nat.le_refl _) _).drew | exact HC.out _ BU.out | exact HC.out _ (BU.out.alloc BU.out.size _) | exact HC.out _ BH.out | exact HC.out _ (BH.out.alloc BH.out.size _) | exact HC.out _ (((BH.out.setCell (p := ⟨w2.heap.size, 0, none⟩) (Nat.le_refl _) _).setCell (p := ⟨w2.heap.size, 1, none⟩) (Nat.le_refl _) _).setCell (p := ⟨w2.heap.size, 2, none⟩) (Nat.le_refl _) _) | exact HC.out _ (((BH.out.setCell (p := ⟨wu.heap.size, 0, none⟩) BU.out.size _).setCell (p := ⟨wu.heap.size, 1, none⟩) BU.out.size _).setCell (p := ⟨wu.heap.size, 2, none⟩) BU.out.size _) | go_keep)
      (first
      | (go_at_call 61; first
        | ((with_reducible refine (HCB.out _ (Below.refl _ _).drew).mono ?_); rintro e wu ⟨vU, usU, rfl, hqU, hoU, hgU, bU⟩; obtain ⟨AU, nU, cU, rfl⟩ := owns_shape hoU; have HQU := Lib.hid hqU; have BU : Hid (Below w2.heap.size w2 wu) := Lib.hid (belowThen (Below.refl _ _).drew (Nat.le_refl _) bU); have HGU := Lib.hid hgU; have HOU := Lib.hid hoU; clear bU hgU hoU hqU)
        | ((with_reducible refine (HCB.out _ ((Below.refl _ _).alloc (Nat.le_refl _) _).drew).mono ?_); rintro e wu ⟨vU, usU, rfl, hqU, hoU, hgU, bU⟩; obtain ⟨AU, nU, cU, rfl⟩ := owns_shape hoU; have HQU := Lib.hid hqU; have BU : Hid (Below w2.heap.size w2 wu) := Lib.hid (belowThen ((Below.refl _ _).alloc (Nat.le_refl _) _).drew (by show _ ≤ (w2.alloc _).heap.size; simp) bU); have ZB := Lib.hid (ZBox.below (w := (w2.alloc (.cells #[.int .u64 0, .slice none 0 0, .slice none 0 0] 27)).drew) (ZBox.made w2) bU); have HGU := Lib.hid hgU; have HOU := Lib.hid hoU; clear bU hgU hoU hqU))
      | (go_at_call 62; first
        | ((with_reducible refine (HCH.out _ BU.out).mono ?_); rintro e wh ⟨vH, usH, rfl, hqH, hoH, hgH, bH⟩; obtain ⟨AH, nH, cH, rfl⟩ := owns_shape hoH; have HQH := Lib.hid hqH; have BH : Hid (Below w2.heap.size w2 wh) := Lib.hid (belowThen BU.out BU.out.size bH); (try (have ZH := Lib.hid (ZB.out.below bH); obtain ⟨z0, z1, z2, z3, z4, z5⟩ := ZH.out.facts)); have HGH := Lib.hid hgH; have HOH := Lib.hid hoH; have HBH := Lib.hid bH; clear bH hgH hoH hqH)
        | ((with_reducible refine (HCH.out _ (BU.out.alloc BU.out.size _)).mono ?_); rintro e wh ⟨vH, usH, rfl, hqH, hoH, hgH, bH⟩; obtain ⟨AH, nH, cH, rfl⟩ := owns_shape hoH; have HQH := Lib.hid hqH; have BH : Hid (Below w2.heap.size w2 wh) := Lib.hid (belowThen (BU.out.alloc BU.out.size _) (Nat.le_trans BU.out.size (by simp)) bH); have ZH := Lib.hid ((ZBox.made wu).below bH); obtain ⟨z0, z1, z2, z3, z4, z5⟩ := ZH.out.facts; have HGH := Lib.hid hgH; have HOH := Lib.hid hoH; have HBH := Lib.hid bH; clear bH hgH hoH hqH)))
    · go_wp2_with fail
      go_meet
      have hbx : Below w2.heap.size w2 (wh.alloc (.cells #[.int .u64 ep, .slice AU nU cU, .slice AH nH cH] 27)) := BH.out.alloc BH.out.size _
      refine ⟨_, _, _, rfl, Lib.hid (CSt.start HS2.out HB2.out BU.out HBH.out hbx (Chg.ofBelow ((Below.refl _ _).alloc (Nat.le_refl _) _)) BH.out.size HQU.out HOU.out (fun g hg => ?_) HQH.out HOH.out (fun g hg => ?_) (heap_alloc_new wh _) (HB0.out _ hbx))⟩
      · have h1 := HGU.out g hg; have h2 := (HOU.out.lt g hg).2; have h3 := HBH.out.size; have h4 : w2.drew.heap.size = w2.heap.size := rfl; exact ⟨by omega, by omega⟩
      · have h1 := HGH.out g hg; have h2 := (HOH.out.lt g hg).2; exact ⟨h1, by omega⟩
    · go_wp2_with fail
      go_meet
      have hbx : Below w2.heap.size w2 (((wh.setCell ⟨wu.heap.size, 0, none⟩ (.int .u64 ep)).setCell ⟨wu.heap.size, 1, none⟩ (.slice AU nU cU)).setCell ⟨wu.heap.size, 2, none⟩ (.slice AH nH cH)) := ((BH.out.setCell (p := ⟨wu.heap.size, 0, none⟩) BU.out.size _).setCell (p := ⟨wu.heap.size, 1, none⟩) BU.out.size _).setCell (p := ⟨wu.heap.size, 2, none⟩) BU.out.size _
      refine ⟨_, _, _, rfl, Lib.hid (CSt.start HS2.out HB2.out BU.out (belowThen ((Below.refl _ _).alloc (Nat.le_refl _) _) (by simp) HBH.out) hbx (((Chg.set wh ⟨wu.heap.size, 0, none⟩ _).trans (Chg.set _ ⟨wu.heap.size, 1, none⟩ _) fun _ _ h => h).trans (Chg.set _ ⟨wu.heap.size, 2, none⟩ _) fun _ _ h => h) BU.out.size HQU.out HOU.out (fun g hg => ?_) HQH.out HOH.out (fun g hg => ?_) (by have hz := ZH.out; unfold ZBox at hz; simp [World.setCell, Array.getElem?_modify, hz]) (HB0.out _ hbx))⟩
      · have h1 := HGU.out g hg; have h2 := (HOU.out.lt g hg).2; have h4 : w2.drew.heap.size = w2.heap.size := rfl; exact ⟨by omega, by omega⟩
      · have h1 := HGH.out g hg; have h2 := (HOH.out.lt g hg).2; simp at h1; exact ⟨by omega, by omega⟩
    · go_wp2_with fail
      go_meet
      have hbx : Below w2.heap.size w2 (((wh.setCell ⟨w2.heap.size, 0, none⟩ (.int .u64 ep)).setCell ⟨w2.heap.size, 1, none⟩ (.slice AU nU cU)).setCell ⟨w2.heap.size, 2, none⟩ (.slice AH nH cH)) := ((BH.out.setCell (p := ⟨w2.heap.size, 0, none⟩) (Nat.le_refl _) _).setCell (p := ⟨w2.heap.size, 1, none⟩) (Nat.le_refl _) _).setCell (p := ⟨w2.heap.size, 2, none⟩) (Nat.le_refl _) _
      refine ⟨_, _, _, rfl, Lib.hid (CSt.start HS2.out HB2.out BU.out HBH.out hbx (((Chg.set wh ⟨w2.heap.size, 0, none⟩ _).trans (Chg.set _ ⟨w2.heap.size, 1, none⟩ _) fun _ _ h => h).trans (Chg.set _ ⟨w2.heap.size, 2, none⟩ _) fun _ _ h => h) (Nat.le_refl _) HQU.out HOU.out (fun g hg => ?_) HQH.out HOH.out (fun g hg => ?_) (by have hz := ZH.out; unfold ZBox at hz; simp [World.setCell, Array.getElem?_modify, hz]) (HB0.out _ hbx))⟩
      · have h1 := HGU.out g hg; have h2 := (HOU.out.lt g hg).2
        have h4 : (w2.alloc (.cells #[.int .u64 0, .slice none 0 0, .slice none 0 0] 27)).drew.heap.size = w2.heap.size + 1 := by show (w2.alloc _).heap.size = _; simp
        exact ⟨by omega, by omega⟩
      · have h1 := HGH.out g hg; have h2 := (HOH.out.lt g hg).2; have h5 := ZB.out.lt; exact ⟨h1, by omega⟩
  case rest =>
    clear c0 c1 c2
    obtain ⟨PX, vU, vH, rfl, HS⟩ := hcut
    obtain ⟨vss0, _, _, ho0, _⟩ := HS.out.rh
    obtain ⟨AH, cH, rfl, hcH⟩ := owns_shape2 ho0
    obtain ⟨A9, n9, c9, hU9, hx9⟩ := HS.out.ru.shape
    subst hU9
    clear hx9
    obtain ⟨N, hN⟩ : ∃ N, hops.length = N := ⟨_, rfl⟩
    rw [hN] at HS hcH
    have HN := Lib.hid hN
    have hN2 : N ≤ 1048576 := by rw [← hN]; exact HN2.out
    obtain ⟨p0, p1, p2⟩ := HS.out.facts
    clear ho0 hN
    go_wp2_with fail
    go_loopg [17] N (fun gg s17 wr => ∃ i : Nat, i ≤ N ∧ N - i ≤ gg ∧ s17 = .int .i64 (i : Int) ∧ Hid (CSt w PX (.slice A9 n9 c9) (.slice AH N cH) ep up hops i wr))
    case atStart => exact ⟨0, by omega, by omega, rfl, HS⟩
    case round =>
      clear HS p0 p1 p2
      obtain ⟨i, hi, hgi, rfl, HS⟩ := hrel
      obtain ⟨p0, p1, p2⟩ := HS.out.facts
      by_cases hil : i < N
      · have hili : (i : Int) < (N : Int) := by omega
        have hi0 : (0 : Int) ≤ (i : Int) := by omega
        obtain ⟨es, hes⟩ : ∃ es, hops[i]? = some es := ⟨_, List.getElem?_eq_getElem (by rw [HN.out]; exact hil)⟩
        obtain ⟨g, cap, C, p, q, e1, hgl, hcl, hfr, hpq, hrd, hgp⟩ := HS.out.at_ hes
        rw [HN.out] at e1
        injection e1 with e1 _ e2
        subst e1 e2
        have hcall := HCE.out wr.drew C p q es HS.out.bel.size (hrd.keep (Nat.le_refl _) fun _ _ _ => rfl) (HF.out es (List.mem_of_getElem? hes))
        have HES := Lib.hid hes
        clear hes hrd
        have hesl := HF.out es (List.mem_of_getElem? HES.out)
        have hPXl : PX < wr.heap.size := (Array.getElem?_eq_some_iff.1 HS.out.box).1
        have hUl := HS.out.ru.lt
        have hpxx := HS.out.px
        have HUL := Lib.hid hUl
        clear hUl
        go_wp2_with fail
        go_region_law (first
          | (go_simp; go_at_call 63; (with_reducible refine hcall.mono ?_); rintro e w5 ⟨vC, usC, rfl, hqC, hoC, hgC, bC⟩; obtain ⟨AC, cC, rfl, hcC⟩ := owns_shape2 hoC; have B5 := Lib.hid (stepB1 bC); have HS5 := Lib.hid (HS.out.below B5.out); obtain ⟨s0, s1, s2⟩ := HS5.out.facts; have hcl5 := cellBelow B5.out hcl; have hfr5 := (B5.out.frozen (p := ⟨g, i, none⟩) hgl).trans hfr; have HQC := Lib.hid hqC; have HOC := Lib.hid hoC; have HGC := Lib.hid hgC; clear hqC hoC hgC bC))
        all_goals
          have HV : Hid (elOw.V w5 (fun k => w.heap.size + 1 < k ∧ k ≠ PX ∧ (Value.slice A9 n9 c9).ownBlock ≠ some k ∧ (Value.slice (some ⟨g, 0, none⟩) N cH).ownBlock ≠ some k) [.slice AC es.length cC] es) := Lib.hid (by
            have hO : Own elEd 42 w5 (fun k => w.heap.size + 1 < k ∧ k ≠ PX ∧ (Value.slice A9 n9 c9).ownBlock ≠ some k ∧ (Value.slice (some ⟨g, 0, none⟩) N cH).ownBlock ≠ some k) (.slice AC es.length cC) es :=
              Own.ofParts (ok := fun _ => False) (HQC.out.flatten_ flat_ed) HOC.out (fun k _ h => h.elim) fun q hq => by
                have h1 := HGC.out q hq
                have h2 : wr.drew.heap.size = wr.heap.size := rfl
                refine ⟨by omega, by omega, fun e => ?_, fun e => ?_⟩
                · have := (HUL.out q e).2; omega
                · have e := Option.some.inj e; have e : g = q := e; omega
            exact ⟨_, rfl, hO⟩)
          have HPUT := Lib.hid (CSt.put (g := g) (cap := cH) (vC := .slice AC es.length cC) (hops := hops) (by rw [HN.out]; exact HS5.out) HES.out (by rw [HN.out]; exact HV.out))
          rw [HN.out] at HPUT
          clear hcall HQC HOC HGC
          go_wp2_with fail
          go_roundg (N - (i + 1))
          case measure => omega
          case rel => exact ⟨i + 1, by omega, by omega, by go_num, HPUT⟩
      · have hili : ¬ ((i : Int) < (N : Int)) := by omega
        obtain ⟨P2, hP2⟩ : ∃ P2, w.heap.size + 1 = P2 := ⟨_, rfl⟩
        have hz := HS.out.b0
        have hbel := HS.out.bel.size
        have hz0 : ZBox wr (w.heap.size + 1) := hz
        obtain ⟨z0, z1, z2, z3, z4, z5⟩ := hz0.facts
        obtain ⟨w5, hw5⟩ : ∃ w5, ((wr.setCell ⟨w.heap.size + 1, 0, none⟩ (.int .u64 ep)).setCell ⟨w.heap.size + 1, 1, none⟩ (.slice A9 n9 c9)).setCell ⟨w.heap.size + 1, 2, none⟩ (.slice AH N cH) = w5 := ⟨_, rfl⟩
        have hc5 : Chg (fun k => k = w.heap.size + 1) wr w5 := by
          rw [← hw5]
          exact ((Chg.set wr ⟨w.heap.size + 1, 0, none⟩ _).trans (Chg.set _ ⟨w.heap.size + 1, 1, none⟩ _) fun _ _ h => h).trans (Chg.set _ ⟨w.heap.size + 1, 2, none⟩ _) fun _ _ h => h
        have HD := Lib.hid (HS.out.done (by rw [HN.out]; omega) hc5)
        have hh : w5.heap[w.heap.size + 1]? = some (.cells #[.int .u64 ep, .slice A9 n9 c9, .slice AH N cH] 27 (0, 0)) := by rw [← hw5]; simp [World.setCell, Array.getElem?_modify, hz]
        have F0 : Hid (w5.cell? ⟨w.heap.size + 1, 0, none⟩ = some (.int .u64 ep)) := Lib.hid (by simp [World.cell?, hh])
        have F1 : Hid (w5.cell? ⟨w.heap.size + 1, 1, none⟩ = some (.slice A9 n9 c9)) := Lib.hid (by simp [World.cell?, hh])
        have F2 : Hid (w5.cell? ⟨w.heap.size + 1, 2, none⟩ = some (.slice AH N cH)) := Lib.hid (by simp [World.cell?, hh])
        have HW5 := Lib.hid hw5
        clear hz hz0 hw5 hc5 hh hP2
        go_wp2_with fail
        rw [HW5.out]
        have f0 := F0.out
        have f1 := F1.out
        have f2 := F2.out
        refine bodyPost_ret (v := .agg #[.int .u64 ep, .slice A9 n9 c9, .slice AH N cH]) (by simp [results, Try.results17, go_sem, f0, f1, f2]) rfl ⟨_, rfl, HD.out.1, HD.out.2⟩
end Go.Proofs.Ytgfnlfkbbedkaaa
