/-
  member.Take, Topo, Epoch, Node.
-/
import Derived.Test.YthgnjojkncodeaaGreatMbF
namespace Go.Proofs.YthgnjojkncodeaaGreat
open Go.RowKit
set_option linter.unusedVariables false
set_option linter.unusedSimpArgs false

theorem rdOw {w : World} {ok : Nat → Prop} {A : Option Addr} {n : Nat} {hops : List (List Ed)} (h : Rd elOw w ok A n hops) (hf : Few hops) : Rd elEs w ok A n hops := by
  refine ⟨h.1, h.2.1, fun h0 => ?_⟩
  obtain ⟨b, o, e, h1, h2, h3⟩ := h.2.2 h0
  refine ⟨b, o, e, h1, h2, fun j x hx => ?_⟩
  obtain ⟨vs, ⟨v, rfl, hO⟩, hc⟩ := h3 j x hx
  obtain ⟨A', c', rfl, hc', hr'⟩ := hO.rd (by have := hf x (List.mem_of_getElem? hx); omega)
  exact ⟨_, ⟨A', _, c', rfl, hc', hr'⟩, hc⟩
theorem TOwn.tv {L : Nat} {w : World} {v : Value} {ep : Int} {up : List Bool} {hops : List (List Ed)} (h : TOwn L w v ep up hops) (hf : Few hops) (h1 : up.length ≤ 1048576) (h2 : hops.length ≤ 1048576) : TopoV w (fun k => L ≤ k ∧ k < w.heap.size) v ep up hops := by
  obtain ⟨vU, vH, rfl, hU, hH⟩ := h
  obtain ⟨AU, cU, rfl, hcU, hrU⟩ := hU.rd (by omega)
  obtain ⟨AH, cH, rfl, hcH, hrH⟩ := hH.rd (by omega)
  exact ⟨AU, _, cU, AH, _, cH, rfl, hcU, hcH, hrU.mono fun k hk hl => ⟨hk, hl⟩, (rdOw hrH hf).mono fun k hk hl => ⟨hk.1, hl⟩⟩
section
variable {w w' : World} {M : Nat} {ok S : Nat → Prop} {nodes win que node ep : Int} {flows : List Flw} {up : List Bool} {hops : List (List Ed)}
theorem MB.conf (h : MB w M ok nodes flows win que node ep up hops) : ∃ AF nF cF, (w.cell? ⟨M, 0, none⟩ = some (.int .i64 nodes) ∧ w.cell? ⟨M, 1, none⟩ = some (.slice AF nF cF) ∧ w.cell? ⟨M, 2, none⟩ = some (.int .i64 win) ∧ w.cell? ⟨M, 3, none⟩ = some (.int .i64 que)) ∧
    ConfV w (fun k => k < w.heap.size) (.agg #[.int .i64 nodes, .slice AF nF cF, .int .i64 win, .int .i64 que]) nodes flows win que := by
  obtain ⟨AF, nF, cF, AU, nU, cU, AH, nH, cH, hF, b1, b2, b3, r1, r2, r3⟩ := h.facts
  exact ⟨AF, nF, cF, ⟨hF.c0, hF.c1, hF.c2, hF.c3⟩, AF, nF, cF, rfl, b1, h.i.1, h.i.2.1, h.i.2.2.1, r1.mono fun k _ hk => hk⟩
theorem MB.topo (h : MB w M ok nodes flows win que node ep up hops) : ∃ AU nU cU AH nH cH, (w.cell? ⟨M, 5, none⟩ = some (.int .u64 ep) ∧ w.cell? ⟨M, 6, none⟩ = some (.slice AU nU cU) ∧ w.cell? ⟨M, 7, none⟩ = some (.slice AH nH cH)) ∧ w.cell? ⟨M, 8, none⟩ = some (.bool true) ∧
    TopoV w (fun k => k < w.heap.size) (.agg #[.int .u64 ep, .slice AU nU cU, .slice AH nH cH]) ep up hops := by
  obtain ⟨AF, nF, cF, AU, nU, cU, AH, nH, cH, hF, b1, b2, b3, r1, r2, r3⟩ := h.facts
  exact ⟨AU, nU, cU, AH, nH, cH, ⟨hF.c5, hF.c6, hF.c7⟩, hF.c8, AU, nU, cU, AH, nH, cH, rfl, b2, b3, r2.mono fun k _ hk => hk, r3.mono fun k _ hk => hk⟩
/-- A topology is taken. -/
theorem MB.take (h : MB w M ok nodes flows win que node ep up hops) {ep2 : Int} {up2 : List Bool} {hops2 : List (List Ed)} {AU AH : Option Addr} {nU cU nH cH L : Nat} (hL : M < L) (hf : Few hops2) (h1 : up2.length ≤ 1048576) (h2 : hops2.length ≤ 1048576)
    (hT : TopoV w (fun k => L ≤ k ∧ k < w.heap.size) (.agg #[.int .u64 ep2, .slice AU nU cU, .slice AH nH cH]) ep2 up2 hops2) :
    MB (((w.setCell ⟨M, 5, none⟩ (.int .u64 ep2)).setCell ⟨M, 6, none⟩ (.slice AU nU cU)).setCell ⟨M, 7, none⟩ (.slice AH nH cH)) M (fun k => ok k ∨ L ≤ k) nodes flows win que node ep2 up2 hops2 := by
  obtain ⟨AF, nF, cF, AU', nU', cU', AH', nH', cH', hb, b1, _, _, r1, _, _⟩ := h.b
  obtain ⟨_, _, _, _, _, _, e, g1, g2, g3, g4⟩ := hT
  injection e with e
  simp only [Array.mk.injEq, List.cons.injEq, Value.slice.injEq, and_true, true_and] at e
  obtain ⟨⟨rfl, rfl, rfl⟩, rfl, rfl, rfl⟩ := e
  have hc : Chg (fun k => k = M) w (((w.setCell ⟨M, 5, none⟩ (.int .u64 ep2)).setCell ⟨M, 6, none⟩ (.slice AU nU cU)).setCell ⟨M, 7, none⟩ (.slice AH nH cH)) :=
    ((Chg.set w ⟨M, 5, none⟩ _).trans (Chg.set _ ⟨M, 6, none⟩ _) fun _ _ h => h).trans (Chg.set _ ⟨M, 7, none⟩ _) fun _ _ h => h
  have hn := h.n
  refine ⟨⟨AF, nF, cF, AU, nU, cU, AH, nH, cH, ?_, b1, g1, g2, (r1.chg hc fun k _ ho e => hn (e ▸ ho)).mono fun k hk _ => .inl hk, (g3.chg hc fun k _ ho e => by have e : k = M := e; omega).mono fun k hk _ => .inr hk.1, (g4.chg hc fun k _ ho e => by have e : k = M := e; omega).mono fun k hk _ => .inr hk.1⟩,
    h.i, fun hh => hh.elim hn fun h3 => by omega, hf, h2, h1⟩
  simp [World.setCell, Array.getElem?_modify, hb]
end
/-- What Take does: nothing, or the topology is the member's. -/
def RetTake (w : World) (M : Nat) (ok : Nat → Prop) (nodes : Int) (flows : List Flw) (win que node ep ep2 : Int) (up2 : List Bool) (hops2 : List (List Ed)) (e : Ending) (w' : World) : Prop :=
  (mayOk nodes flows win que ep2 up2 hops2 = false ∧ e = .returned (.int .i64 1) ∧ Below w.heap.size w w') ∨
  (mayOk nodes flows win que ep2 up2 hops2 = true ∧ ep2 ≤ ep ∧ e = .returned (.int .i64 22) ∧ Below w.heap.size w w') ∨
  (mayOk nodes flows win que ep2 up2 hops2 = true ∧ ep < ep2 ∧ e = .returned (.int .i64 0) ∧ Chg (fun k => k = M) w w' ∧ MB w' M (fun k => ok k ∨ w.heap.size ≤ k) nodes flows win que node ep2 up2 hops2)
set_option maxRecDepth 100000 in
set_option maxHeartbeats 4000000 in
theorem mtake_calls (w : World) (M : Nat) (ok : Nat → Prop) (nodes : Int) (flows : List Flw) (win que node ep : Int) (up : List Bool) (hops : List (List Ed)) (h : MB w M ok nodes flows win que node ep up hops)
    (vt : Value) (ep2 : Int) (up2 : List Bool) (hops2 : List (List Ed)) (hT : TopoV w (fun k => k < w.heap.size) vt ep2 up2 hops2) (hf : Few hops2) (hu : up2.length ≤ 1048576) (hh : hops2.length ≤ 1048576) :
    Calls Tryz.prog 8 #[.pointer (some ⟨M, 0, none⟩), vt] w (RetTake w M ok nodes flows win que node ep ep2 up2 hops2) := by
  obtain ⟨A, n, c, B, m, d, rfl, g1, g2, g3, g4⟩ := hT
  obtain ⟨w1, hw1⟩ : ∃ w1, w.alloc (.cells #[.int .u64 ep2, .slice A n c, .slice B m d] 38) = w1 := ⟨_, rfl⟩
  have b1 : Below w.heap.size w w1 := by rw [← hw1]; exact (Below.refl _ _).alloc (Nat.le_refl _) _
  have hs1 : w1.heap.size = w.heap.size + 1 := by rw [← hw1]; simp
  have e1 : w1.heap[w.heap.size]? = some (.cells #[.int .u64 ep2, .slice A n c, .slice B m d] 38 (0, 0)) := by rw [← hw1]; exact heap_alloc_new w _
  have hM := h.lt
  have h1 := h.below b1
  have hT1 : TopoV w1 (fun k => k < w1.heap.size) (.agg #[.int .u64 ep2, .slice A n c, .slice B m d]) ep2 up2 hops2 := ⟨A, n, c, B, m, d, rfl, g1, g2, (g3.below b1).mono fun k hk _ => by omega, (g4.below b1).mono fun k hk _ => by omega⟩
  obtain ⟨AF, nF, cF, ⟨c0, c1, c2, c3⟩, hC⟩ := h1.conf
  obtain ⟨AU, nU, cU, AH, nH, cH, ⟨c5, c6, c7⟩, c8, _⟩ := h1.topo
  have his := is_calls w1 M h1.lt c8
  have hmay := may_calls w1.drew _ _ nodes flows win que ep2 up2 hops2 (show ConfV w1.drew _ _ nodes flows win que from by
      obtain ⟨a1, a2, a3, a4, a5, a6, a7, a8, a9⟩ := hC
      exact ⟨a1, a2, a3, a4, a5, a6, a7, a8, a9.below (Below.refl _ _).drew⟩) (hT1.below (Below.refl _ _).drew) hf
  have t0 : w1.cell? ⟨w.heap.size, 0, none⟩ = some (.int .u64 ep2) := by simp [World.cell?, e1]
  have t1 : w1.cell? ⟨w.heap.size, 1, none⟩ = some (.slice A n c) := by simp [World.cell?, e1]
  have t2 : w1.cell? ⟨w.heap.size, 2, none⟩ = some (.slice B m d) := by simp [World.cell?, e1]
  obtain ⟨r, hr⟩ : ∃ r, mayOk nodes flows win que ep2 up2 hops2 = r := ⟨_, rfl⟩
  rw [hr] at hmay
  have HR := Lib.hid hr
  have HW1 := Lib.hid hw1
  have HB1 := Lib.hid b1
  have HS1 := Lib.hid hs1
  have H1 := Lib.hid h1
  have HT1 := Lib.hid hT1
  have HF := Lib.hid hf
  have HU := Lib.hid hu
  have HH := Lib.hid hh
  have T012 := Lib.hid (And.intro t0 (And.intro t1 t2))
  have E1 := Lib.hid e1
  clear hr hw1 b1 hs1 h1 hT1 hf hu hh h hC g1 g2 g3 g4 e1
  go_enter Tryz.func8, Tryz.ntmps8
  go_upto_region 1 with (fail)
  rw [HW1.out]
  go_wp2_with fail
  refine his.mono ?_
  rintro e w2 ⟨rfl, rfl⟩
  clear his
  go_wp2_with fail
  go_region_held3 (fun w' => (w'.cell? ⟨M, 0, none⟩ = some (.int .i64 nodes) ∧ w'.cell? ⟨M, 1, none⟩ = some (.slice AF nF cF) ∧ w'.cell? ⟨M, 2, none⟩ = some (.int .i64 win) ∧ w'.cell? ⟨M, 3, none⟩ = some (.int .i64 que)) ∧
      w'.cell? ⟨w.heap.size, 0, none⟩ = some (.int .u64 ep2) ∧ w'.cell? ⟨w.heap.size, 1, none⟩ = some (.slice A n c) ∧ w'.cell? ⟨w.heap.size, 2, none⟩ = some (.slice B m d))
    (first | exact ⟨⟨c0, c1, c2, c3⟩, t0, t1, t2⟩ | exact ⟨⟨cellBelow B3.out c0, cellBelow B3.out c1, cellBelow B3.out c2, cellBelow B3.out c3⟩, cellBelow B3.out t0, cellBelow B3.out t1, cellBelow B3.out t2⟩ | go_keep)
    (first | (go_at_call 34; (with_reducible refine hmay.mono ?_); rintro e w3 ⟨rfl, b3⟩; have B3 := Lib.hid (stepB1 b3)))
  all_goals
    cases r with
    | false =>
      go_wp2_with fail
      go_ret
      exact .inl ⟨HR.out, rfl, belowThen HB1.out HB1.out.size B3.out⟩
    | true =>
      obtain ⟨u0, u1, u2⟩ := T012.out
      have d5 : w3.cell? ⟨M, 5, none⟩ = some (.int .u64 ep) := cellBelow B3.out c5
      have v0 : w3.cell? ⟨w.heap.size, 0, none⟩ = some (.int .u64 ep2) := cellBelow B3.out u0
      have v1 : w3.cell? ⟨w.heap.size, 1, none⟩ = some (.slice A n c) := cellBelow B3.out u1
      have v2 : w3.cell? ⟨w.heap.size, 2, none⟩ = some (.slice B m d) := cellBelow B3.out u2
      clear c0 c1 c2 c3 c5 c6 c7 c8 t0 t1 t2 u0 u1 u2 hmay
      by_cases hle : ep2 ≤ ep
      · have hd : decide (ep2 ≤ ep) = true := decide_eq_true hle
        go_wp2_with fail
        go_quiet (fail)
        go_wp2_with fail
        go_ret
        exact .inr (.inl ⟨HR.out, hle, rfl, belowDrewN (belowThen HB1.out HB1.out.size B3.out) _⟩)
      · have hd : decide (ep2 ≤ ep) = false := decide_eq_false hle
        have hM3 := H1.out.below B3.out
        have hcp := fun q => copied_calls (w3.drewN q) _ ep2 up2 hops2 (((HT1.out.below B3.out).below (belowDrewN (Below.refl w3.heap.size w3) q)).mono fun k hk hl => hl) HF.out HU.out HH.out
        have H3 := Lib.hid hM3
        have HCP := Lib.hid hcp
        clear hM3 hcp
        go_wp2_with fail
        go_quiet (fail)
        go_wp2_with fail
        refine (HCP.out _).mono ?_
        rintro e w5 ⟨v5, rfl, hO5, b5⟩
        have hB35 := belowThen (belowDrewN (Below.refl w3.heap.size w3) _) (Nat.le_refl _) b5
        have hM5 := H3.out.below hB35
        have hT5 := hO5.tv HF.out HU.out HH.out
        obtain ⟨AU5, nU5, cU5, AH5, nH5, cH5, rfl, _⟩ := id hT5
        obtain ⟨AF', nF', cF', AU', nU', cU', AH', nH', cH', hF5, _⟩ := hM5.facts
        have x5 := hF5.c5
        have x6 := hF5.c6
        have x7 := hF5.c7
        have y5 := hF5.fr 5
        have y6 := hF5.fr 6
        have y7 := hF5.fr 7
        have hML := H3.out.lt
        have HTK := Lib.hid (hM5.take (L := w3.heap.size) hML HF.out HU.out HH.out (hT5.mono fun k hk hl => ⟨hk.1, hl⟩))
        have H35 := Lib.hid hB35
        clear hB35 hM5 hT5 hO5 b5 hF5 d5 v0 v1 v2
        go_wp2_with fail
        go_ret
        refine .inr (.inr ⟨HR.out, by omega, rfl, ?_, HTK.out.mono (fun k hk _ => hk.imp_right fun h => ?_) ?_⟩)
        · have hb := belowThen (belowThen HB1.out HB1.out.size B3.out) (by have := HB1.out.size; have := B3.out.size; omega) H35.out
          exact (((Chg.ofBelow (S := fun k => k = M) hb).trans (Chg.set w5 ⟨M, 5, none⟩ _) fun _ _ h => h).trans (Chg.set _ ⟨M, 6, none⟩ _) fun _ _ h => h).trans (Chg.set _ ⟨M, 7, none⟩ _) fun _ _ h => h
        · have := HB1.out.size
          have := B3.out.size
          omega
        · exact fun hh => hh.elim H1.out.n fun h3 => by omega
theorem mepoch_calls (w : World) (M : Nat) (ok : Nat → Prop) (nodes : Int) (flows : List Flw) (win que node ep : Int) (up : List Bool) (hops : List (List Ed)) (h : MB w M ok nodes flows win que node ep up hops) :
    Calls Tryz.prog 19 #[.pointer (some ⟨M, 0, none⟩)] w fun e w' => e = .returned (.int .u64 ep) ∧ w = w' := by
  obtain ⟨AF, nF, cF, AU, nU, cU, AH, nH, cH, hF, b1, b2, b3, r1, r2, r3⟩ := h.facts
  have his := is_calls w M h.lt hF.c8
  have c5 := hF.c5
  clear hF h r1 r2 r3
  go_enter Tryz.func19, Tryz.ntmps19
  go_wp2_with (go_at_call 33; refine his.mono ?_; rintro e w1 ⟨rfl, rfl⟩)
  go_ret
  exact ⟨rfl, rfl⟩
theorem mnode_calls (w : World) (M : Nat) (ok : Nat → Prop) (nodes : Int) (flows : List Flw) (win que node ep : Int) (up : List Bool) (hops : List (List Ed)) (h : MB w M ok nodes flows win que node ep up hops) :
    Calls Tryz.prog 20 #[.pointer (some ⟨M, 0, none⟩)] w fun e w' => e = .returned (.int .i64 node) ∧ w = w' := by
  obtain ⟨AF, nF, cF, AU, nU, cU, AH, nH, cH, hF, b1, b2, b3, r1, r2, r3⟩ := h.facts
  have his := is_calls w M h.lt hF.c8
  have c4 := hF.c4
  clear hF h r1 r2 r3
  go_enter Tryz.func20, Tryz.ntmps20
  go_wp2_with (go_at_call 33; refine his.mono ?_; rintro e w1 ⟨rfl, rfl⟩)
  go_ret
  exact ⟨rfl, rfl⟩
set_option maxHeartbeats 1000000 in
theorem mtopo_calls (w : World) (M : Nat) (ok : Nat → Prop) (nodes : Int) (flows : List Flw) (win que node ep : Int) (up : List Bool) (hops : List (List Ed)) (h : MB w M ok nodes flows win que node ep up hops) :
    Calls Tryz.prog 18 #[.pointer (some ⟨M, 0, none⟩)] w (RetTO w ep up hops) := by
  obtain ⟨w1, hw1⟩ : ∃ w1, w.alloc (.cells #[.int .u64 0, .slice none 0 0, .slice none 0 0] 38) = w1 := ⟨_, rfl⟩
  have b1 : Below w.heap.size w w1 := by rw [← hw1]; exact (Below.refl _ _).alloc (Nat.le_refl _) _
  have hs1 : w1.heap.size = w.heap.size + 1 := by rw [← hw1]; simp
  have e1 : w1.heap[w.heap.size]? = some (.cells #[.int .u64 0, .slice none 0 0, .slice none 0 0] 38 (0, 0)) := by rw [← hw1]; exact heap_alloc_new w _
  have h1 := h.below b1
  obtain ⟨AU, nU, cU, AH, nH, cH, ⟨c5, c6, c7⟩, c8, hT⟩ := h1.topo
  have his := is_calls w1 M h1.lt c8
  have hcp := copied_calls w1 _ ep up hops hT h1.few h1.big.2 h1.big.1
  have HW1 := Lib.hid hw1
  have HB1 := Lib.hid b1
  have HS1 := Lib.hid hs1
  have E1 := Lib.hid e1
  have HM := Lib.hid h1
  clear hw1 b1 hs1 e1 h1 hT h
  go_enter Tryz.func18, Tryz.ntmps18
  go_upto_region 1 with (fail)
  rw [HW1.out]
  go_wp2_with fail
  refine his.mono ?_
  rintro e w2 ⟨rfl, rfl⟩
  clear his
  go_wp2_with fail
  refine hcp.mono ?_
  rintro e w3 ⟨v3, rfl, hO3, b3⟩
  obtain ⟨vU, vH, rfl, hU, hH⟩ := hO3
  obtain ⟨A3, _, d3, rfl, rfl, _⟩ := hU.shape
  obtain ⟨A4, _, d4, rfl, rfl, _⟩ := hH.shape
  have hs1 := HS1.out
  have e3 : w3.heap[w.heap.size]? = some (.cells #[.int .u64 0, .slice none 0 0, .slice none 0 0] 38 (0, 0)) := (b3.block _ (by omega)).trans E1.out
  have z0 : w3.cell? ⟨w.heap.size, 0, none⟩ = some (.int .u64 0) := by simp [World.cell?, e3]
  have z1 : w3.cell? ⟨w.heap.size, 1, none⟩ = some (.slice none 0 0) := by simp [World.cell?, e3]
  have z2 : w3.cell? ⟨w.heap.size, 2, none⟩ = some (.slice none 0 0) := by simp [World.cell?, e3]
  have z3 : w3.frozen? ⟨w.heap.size, 0, none⟩ = false := by simp [World.frozen?, e3]
  have z4 : w3.frozen? ⟨w.heap.size, 1, none⟩ = false := by simp [World.frozen?, e3]
  have z5 : w3.frozen? ⟨w.heap.size, 2, none⟩ = false := by simp [World.frozen?, e3]
  obtain ⟨w5, hw5⟩ : ∃ w5, ((w3.setCell ⟨w.heap.size, 0, none⟩ (.int .u64 ep)).setCell ⟨w.heap.size, 1, none⟩ (.slice A3 up.length d3)).setCell ⟨w.heap.size, 2, none⟩ (.slice A4 hops.length d4) = w5 := ⟨_, rfl⟩
  have hc5 : Chg (fun k => k = w.heap.size) w3 w5 := by
    rw [← hw5]
    exact ((Chg.set w3 ⟨w.heap.size, 0, none⟩ _).trans (Chg.set _ ⟨w.heap.size, 1, none⟩ _) fun _ _ h => h).trans (Chg.set _ ⟨w.heap.size, 2, none⟩ _) fun _ _ h => h
  have hh : w5.heap[w.heap.size]? = some (.cells #[.int .u64 ep, .slice A3 up.length d3, .slice A4 hops.length d4] 38 (0, 0)) := by rw [← hw5]; simp [World.setCell, Array.getElem?_modify, e3]
  have f0 : w5.cell? ⟨w.heap.size, 0, none⟩ = some (.int .u64 ep) := by simp [World.cell?, hh]
  have f1 : w5.cell? ⟨w.heap.size, 1, none⟩ = some (.slice A3 up.length d3) := by simp [World.cell?, hh]
  have f2 : w5.cell? ⟨w.heap.size, 2, none⟩ = some (.slice A4 hops.length d4) := by simp [World.cell?, hh]
  have HD : Hid (TOwn w.heap.size w5 (.agg #[.int .u64 ep, .slice A3 up.length d3, .slice A4 hops.length d4]) ep up hops ∧ Below w.heap.size w w5) := Lib.hid ⟨⟨_, _, rfl, (hU.chg hc5 fun k _ hk e => by omega).mono fun k _ hk => by omega, (hH.chg hc5 fun k _ hk e => by have := hk.1; omega).mono fun k _ hk => ⟨by have := hk.1; omega, hk.2⟩⟩,
    hc5.below (belowThen HB1.out HB1.out.size b3) (by have := b3.size; omega) fun k hk => by omega⟩
  have HW5 := Lib.hid hw5
  have F0 := Lib.hid f0
  have F1 := Lib.hid f1
  have F2 := Lib.hid f2
  clear hw5 hc5 hh hU hH b3 hcp e3 f0 f1 f2 hs1
  go_wp2_with fail
  rw [HW5.out]
  have f0 := F0.out
  have f1 := F1.out
  have f2 := F2.out
  refine bodyPost_ret (v := .agg #[.int .u64 ep, .slice A3 up.length d3, .slice A4 hops.length d4]) (by simp [results, Tryz.results18, go_sem, f0, f1, f2]) rfl ⟨_, rfl, HD.out.1, HD.out.2⟩
end Go.Proofs.YthgnjojkncodeaaGreat
