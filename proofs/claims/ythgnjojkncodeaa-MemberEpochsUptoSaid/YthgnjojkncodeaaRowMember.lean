/-
  Configurations and topologies that came in.
-/
import Derived.Test.YthgnjojkncodeaaNOpen
import Derived.Test.YthgnjojkncodeaaMbQ
namespace Go.Proofs.Ythgnjojkncodeaa
open Go.ChangeShapes Go.WideShapes Go.ChangeAt Go.RowKit
set_option maxRecDepth 100000

def El.u8 : El Nat where
  k := 1
  bulk := fun _ => 1
  V := fun _ _ vs x => vs = [.int .u8 (x : Int)] ∧ x < 256
  len := by rintro w ok vs x ⟨rfl, _⟩; rfl
  one := by rintro w ok vs x ⟨rfl, _⟩ u hu; simp at hu; subst hu; rfl
  keep := fun h _ _ => h
  mono := fun h _ => h
theorem Opens.u8 {t : TypeId} (h : Try.prog.underlying t = some (.int .u8)) : Opens El.u8 t := by
  intro H enc W base spare held fuel cs y hf
  obtain ⟨n, rfl, rfl, hw⟩ := DataW.trod_int h hf
  have hb : 0 ≤ n ∧ n ≤ 255 := by simpa [Lit.wf, IntKind.min, IntKind.max, IntKind.bits, IntKind.signed] using hw
  exact ⟨n.toNat, ⟨by congr 2; omega, by omega⟩, bulk_one _⟩
abbrev elConf : El (Int × List Flw × Int × Int) := El.prod El.int (El.prod (El.slice elFl) (El.prod El.int El.int))
abbrev elBoth : El ((Int × List Flw × Int × Int) × (Nat × List Bool × List (List Ed)) × Nat × Nat) := El.prod elConf (El.prod elTo (El.prod El.u8 El.u8))
theorem opensInt : Opens El.int 3 := Opens.int Try.underlying3
theorem opensInts : Opens (El.slice El.int) 40 := Opens.slice Try.underlying40 (by kernel_rfl) (by decide) opensInt
theorem opensFl : Opens elFl 72 := Opens.struct Try.underlying72 (by kernel_rfl) (OpensF.cons rfl (by kernel_rfl) opensInt (OpensF.cons rfl (by kernel_rfl) opensInt (OpensF.cons rfl (by kernel_rfl) opensInt (OpensF.last rfl (by kernel_rfl) opensInts))))
theorem opensFls : Opens (El.slice elFl) 22 := Opens.slice Try.underlying22 (by kernel_rfl) (by decide) opensFl
theorem opensConf : Opens elConf 24 := Opens.struct Try.underlying24 (by kernel_rfl) (OpensF.cons rfl (by kernel_rfl) opensInt (OpensF.cons rfl (by kernel_rfl) opensFls (OpensF.cons rfl (by kernel_rfl) opensInt (OpensF.last rfl (by kernel_rfl) opensInt))))
theorem opensEd : Opens elEd 60 := Opens.struct Try.underlying60 (by kernel_rfl) (OpensF.cons rfl (by kernel_rfl) opensInt (OpensF.last rfl (by kernel_rfl) opensInt))
theorem opensEs : Opens (El.slice elEs) 27 := Opens.slice Try.underlying27 (by kernel_rfl) (by decide) (Opens.slice Try.underlying57 (by kernel_rfl) (by decide) opensEd)
theorem opensBools : Opens (El.slice El.bool) 26 := Opens.slice Try.underlying26 (by kernel_rfl) (by decide) (Opens.bool Try.underlying4)
theorem opensTo : Opens elTo 29 := Opens.struct Try.underlying29 (by kernel_rfl) (OpensF.cons rfl (by kernel_rfl) (Opens.u64 Try.underlying25) (OpensF.cons rfl (by kernel_rfl) opensBools (OpensF.last rfl (by kernel_rfl) opensEs)))
theorem opensBoth : Opens elBoth 31 := Opens.struct Try.underlying31 (by kernel_rfl)
  (OpensF.cons rfl (by kernel_rfl) opensConf (OpensF.cons rfl (by kernel_rfl) opensTo (OpensF.cons rfl (by kernel_rfl) (Opens.u8 Try.underlying5) (OpensF.last rfl (by kernel_rfl) (Opens.u8 Try.underlying5)))))
abbrev elRank : El (Nat × Int) := El.prod El.u64 El.int
abbrev elRowF : El (List Nat × List Nat) := El.prod (El.slice El.u8) (El.slice El.u8)
abbrev elFrame : El (Int × Int × Int × Nat × Nat × Int × Nat × Nat × Nat × (List Nat × List Nat) × List (Nat × Int) × (Nat × List Bool × List (List Ed))) :=
  El.prod El.int (El.prod El.int (El.prod El.int (El.prod El.u64 (El.prod El.u64 (El.prod El.int (El.prod El.u64 (El.prod El.u64 (El.prod El.u64 (El.prod elRowF (El.prod (El.slice elRank) elTo))))))))))
theorem opensBy : Opens (El.slice El.u8) 44 := Opens.slice Try.underlying44 (by kernel_rfl) (by decide) (Opens.u8 Try.underlying5)
theorem opensRowF : Opens elRowF 46 := Opens.struct Try.underlying46 (by kernel_rfl) (OpensF.cons rfl (by kernel_rfl) opensBy (OpensF.last rfl (by kernel_rfl) opensBy))
theorem opensRank : Opens elRank 151 := Opens.struct Try.underlying151 (by kernel_rfl) (OpensF.cons rfl (by kernel_rfl) (Opens.u64 Try.underlying25) (OpensF.last rfl (by kernel_rfl) opensInt))
theorem opensRanks : Opens (El.slice elRank) 47 := Opens.slice Try.underlying47 (by kernel_rfl) (by decide) opensRank
theorem opensU : Opens El.u64 25 := Opens.u64 Try.underlying25
theorem opensFrame : Opens elFrame 49 := Opens.struct Try.underlying49 (by kernel_rfl)
  (OpensF.cons rfl (by kernel_rfl) opensInt (OpensF.cons rfl (by kernel_rfl) opensInt (OpensF.cons rfl (by kernel_rfl) opensInt (OpensF.cons rfl (by kernel_rfl) opensU (OpensF.cons rfl (by kernel_rfl) opensU (OpensF.cons rfl (by kernel_rfl) opensInt
  (OpensF.cons rfl (by kernel_rfl) opensU (OpensF.cons rfl (by kernel_rfl) opensU (OpensF.cons rfl (by kernel_rfl) opensU (OpensF.cons rfl (by kernel_rfl) opensRowF (OpensF.cons rfl (by kernel_rfl) opensRanks (OpensF.last rfl (by kernel_rfl) opensTo))))))))))))
abbrev elEpo : El ((Int × List Flw × Int × Int) × Nat × List (Nat × List Bool × List (List Ed)) × (Int × Int × Int × Nat × Nat × Int × Nat × Nat × Nat × (List Nat × List Nat) × List (Nat × Int) × (Nat × List Bool × List (List Ed)))) :=
  El.prod elConf (El.prod El.u8 (El.prod (El.slice elTo) elFrame))
theorem opensEpo : Opens elEpo 54 := Opens.struct Try.underlying54 (by kernel_rfl)
  (OpensF.cons rfl (by kernel_rfl) opensConf (OpensF.cons rfl (by kernel_rfl) (Opens.u8 Try.underlying5) (OpensF.cons rfl (by kernel_rfl) (Opens.slice Try.underlying52 (by kernel_rfl) (by decide) opensTo) (OpensF.last rfl (by kernel_rfl) opensFrame))))
theorem sum_ge {α : Type} (f : α → Nat) (hf : ∀ x, 1 ≤ f x) : ∀ l : List α, l.length ≤ (l.map f).sum
  | [] => Nat.le_refl _
  | x :: l => by have := sum_ge f hf l; have := hf x; simp only [List.length_cons, List.map_cons, List.sum_cons]; omega
theorem sum_mem {α : Type} (f : α → Nat) : ∀ (l : List α) (x : α), x ∈ l → f x ≤ (l.map f).sum
  | [], _, h => by cases h
  | y :: l, x, h => by
    simp only [List.map_cons, List.sum_cons]
    rcases List.mem_cons.1 h with rfl | h
    · omega
    · have := sum_mem f l x h; omega
/-- What a topology's bulk bounds. -/
theorem to_few {t : Nat × List Bool × List (List Ed)} {n : Nat} (h : elTo.bulk t ≤ n) (hn : n ≤ 1048576) : Few t.2.2 ∧ t.2.1.length ≤ 1048576 ∧ t.2.2.length ≤ 1048576 := by
  obtain ⟨ep, up, hops⟩ := t
  have h1 : elTo.bulk (ep, up, hops) = 1 + ((El.slice El.bool).bulk up + (El.slice elEs).bulk hops) := rfl
  have h2 : (El.slice El.bool).bulk up = (up.map El.bool.bulk).sum + 1 := rfl
  have h3 : (El.slice elEs).bulk hops = (hops.map elEs.bulk).sum + 1 := rfl
  have h4 := sum_ge El.bool.bulk (fun _ => Nat.le_refl 1) up
  have h5 := sum_ge elEs.bulk (fun l => by show 1 ≤ (l.map elEd.bulk).sum + 1; omega) hops
  refine ⟨fun l hl => ?_, by show up.length ≤ _; omega, by show hops.length ≤ _; omega⟩
  have h6 := sum_mem elEs.bulk hops l hl
  have h7 : elEs.bulk l = (l.map elEd.bulk).sum + 1 := rfl
  have h8 := sum_ge elEd.bulk (fun _ => by show 1 ≤ 1 + 1; omega) l
  omega
theorem openBoth {H : Type} {enc : TypeId × Value → H} {W : World} {b0 base : Nat} {spare : Nat → Bool} {held : Bool} {v : Value} {d : DataW H} {p : List MemPlace}
    (hv : Value.okWide Try.prog W .any b0 31 v) (h : DataW.Trod enc Try.prog W base spare held 31 v d p) (hb : Rows.uptoBulk d ≤ 1048576) :
    ∃ (nodes : Int) (AF : Option Addr) (nF cF : Nat) (flows : List Flw) (win que : Int) (ep : Nat) (AU : Option Addr) (nU cU : Nat) (up : List Bool) (AH : Option Addr) (nH cH : Nat) (hops : List (List Ed)) (a b : Nat),
      v = .agg #[.int .i64 nodes, .slice AF nF cF, .int .i64 win, .int .i64 que, .int .u64 (ep : Int), .slice AU nU cU, .slice AH nH cH, .int .u8 (a : Int), .int .u8 (b : Int)] ∧ (inI nodes ∧ inI win ∧ inI que) ∧ nF ≤ cF ∧ Rd elFl W (fun k => k < W.heap.size) AF nF flows ∧
      nU ≤ cU ∧ Rd El.bool W (fun k => k < W.heap.size) AU nU up ∧ nH ≤ cH ∧ Rd elEs W (fun k => k < W.heap.size) AH nH hops ∧ Few hops ∧ up.length ≤ 1048576 ∧ hops.length ≤ 1048576 ∧ a ≤ 255 ∧ b ≤ 255 := by
  obtain ⟨vs, ⟨⟨nodes, flows, win, que⟩, ⟨ep, up, hops⟩, a, b⟩, rfl, hV, hbk⟩ := argStruct Try.underlying31 opensBoth hv h
  obtain ⟨_, _, e1, ⟨_, _, rfl, ⟨rfl, h1⟩, _, _, rfl, ⟨AF, nF, cF, rfl, hF, rF⟩, _, _, rfl, ⟨rfl, h2⟩, rfl, h3⟩, _, _, rfl, ⟨_, _, rfl, ⟨rfl, h4⟩, _, _, rfl, ⟨AU, nU, cU, rfl, hU, rU⟩, AH, nH, cH, rfl, hH, rH⟩, _, _, rfl, ⟨rfl, h5⟩, rfl, h6⟩ := hV
  have hk : elTo.bulk (ep, up, hops) ≤ 1048576 := by
    have : elBoth.bulk ((nodes, flows, win, que), (ep, up, hops), a, b) = elConf.bulk (nodes, flows, win, que) + (elTo.bulk (ep, up, hops) + (1 + 1)) := rfl
    omega
  obtain ⟨k1, k2, k3⟩ := to_few hk (Nat.le_refl _)
  refine ⟨nodes, AF, nF, cF, flows, win, que, ep, AU, nU, cU, up, AH, nH, cH, hops, a, b, ?_, ⟨h1, h2, h3⟩, hF, rF, hU, rU, hH, rH, k1, k2, k3, Nat.le_of_lt_succ h5, Nat.le_of_lt_succ h6⟩
  congr 1
  apply Array.ext'
  rw [e1]
  rfl
set_option maxRecDepth 100000 in
theorem openEpo {H : Type} {enc : TypeId × Value → H} {W : World} {b0 base : Nat} {spare : Nat → Bool} {held : Bool} {v : Value} {d : DataW H} {p : List MemPlace}
    (hv : Value.okWide Try.prog W .any b0 54 v) (h : DataW.Trod enc Try.prog W base spare held 54 v d p) (hb : Rows.uptoBulk d ≤ 1048576) :
    ∃ (nodes : Int) (AF : Option Addr) (nF cF : Nat) (flows : List Flw) (win que : Int) (a : Nat) (AL : Option Addr) (nL cL : Nat) (ls : List (Nat × List Bool × List (List Ed))) (r : FrR) (kind frm dst fep flow : Int),
      v = .agg (#[.int .i64 nodes, .slice AF nF cF, .int .i64 win, .int .i64 que, .int .u8 (a : Int), .slice AL nL cL] ++ frCells r kind frm dst fep flow) ∧ (inI nodes ∧ inI win ∧ inI que) ∧ nF ≤ cF ∧ Rd elFl W (fun k => k < W.heap.size) AF nF flows ∧ a ≤ 255 ∧
      nL ≤ cL ∧ Rd elTo W (fun k => k < W.heap.size) AL nL ls ∧ (∀ t ∈ ls, Few t.2.2 ∧ t.2.1.length ≤ 1048576 ∧ t.2.2.length ≤ 1048576) ∧ inI flow := by
  obtain ⟨vs, ⟨⟨nodes, flows, win, que⟩, a, ls, ⟨kind, frm, dst, fep, life, flow, gen, seq, fo, ⟨co, pay⟩, ranks, ⟨te, up, hops⟩⟩⟩, rfl, hV, hbk⟩ := argStruct Try.underlying54 opensEpo hv h
  obtain ⟨_, _, e1, ⟨_, _, rfl, ⟨rfl, h1⟩, _, _, rfl, ⟨AF, nF, cF, rfl, hF, rF⟩, _, _, rfl, ⟨rfl, h2⟩, rfl, h3⟩, _, _, rfl, ⟨rfl, h4⟩, _, _, rfl, ⟨AL, nL, cL, rfl, hL, rL⟩,
    _, _, rfl, ⟨rfl, f1⟩, _, _, rfl, ⟨rfl, f2⟩, _, _, rfl, ⟨rfl, f3⟩, _, _, rfl, ⟨rfl, f4⟩, _, _, rfl, ⟨rfl, f5⟩, _, _, rfl, ⟨rfl, f6⟩, _, _, rfl, ⟨rfl, f7⟩, _, _, rfl, ⟨rfl, f8⟩, _, _, rfl, ⟨rfl, f9⟩,
    _, _, rfl, ⟨_, _, rfl, ⟨A1, n1, c1, rfl, _, _⟩, A2, n2, c2, rfl, _, _⟩, _, _, rfl, ⟨A3, n3, c3, rfl, _, _⟩, _, _, rfl, ⟨rfl, g1⟩, _, _, rfl, ⟨A4, n4, c4, rfl, _, _⟩, A5, n5, c5, rfl, _, _⟩ := hV
  have hl : ∀ t ∈ ls, Few t.2.2 ∧ t.2.1.length ≤ 1048576 ∧ t.2.2.length ≤ 1048576 := fun t ht => by
    have k1 := sum_mem elTo.bulk ls t ht
    have k2 : (El.slice elTo).bulk ls = (ls.map elTo.bulk).sum + 1 := rfl
    have k3 : elEpo.bulk ((nodes, flows, win, que), a, ls, (kind, frm, dst, fep, life, flow, gen, seq, fo, (co, pay), ranks, (te, up, hops))) = elConf.bulk (nodes, flows, win, que) + (1 + ((El.slice elTo).bulk ls + elFrame.bulk (kind, frm, dst, fep, life, flow, gen, seq, fo, (co, pay), ranks, (te, up, hops)))) := rfl
    exact to_few (n := 1048576) (by omega) (Nat.le_refl _)
  refine ⟨nodes, AF, nF, cF, flows, win, que, a, AL, nL, cL, ls, ⟨life, gen, seq, fo, te, A1, n1, c1, A2, n2, c2, A3, n3, c3, A4, n4, c4, A5, n5, c5⟩, kind, frm, dst, fep, flow, ?_, ⟨h1, h2, h3⟩, hF, rF, Nat.le_of_lt_succ h4, hL, rL, hl, f6⟩
  congr 1
  apply Array.ext'
  rw [e1]
  rfl
end Go.Proofs.Ythgnjojkncodeaa
