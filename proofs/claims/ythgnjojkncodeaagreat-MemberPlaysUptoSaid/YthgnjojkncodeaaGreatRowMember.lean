/-
  Configurations and topologies that came in.
-/
import Derived.Test.YthgnjojkncodeaaGreatNOpen
import Derived.Test.YthgnjojkncodeaaGreatMpA
namespace Go.Proofs.YthgnjojkncodeaaGreat
open Go.ChangeShapes Go.WideShapes Go.ChangeAt Go.RowKit
set_option maxRecDepth 100000

theorem Opens.u8 {t : TypeId} (h : Tryz.prog.underlying t = some (.int .u8)) : Opens El.u8 t := by
  intro H enc W base spare held fuel cs y hf
  obtain ⟨n, rfl, rfl, hw⟩ := DataW.trod_int h hf
  have hb : 0 ≤ n ∧ n ≤ 255 := by simpa [Lit.wf, IntKind.min, IntKind.max, IntKind.bits, IntKind.signed] using hw
  exact ⟨n.toNat, ⟨by congr 2; omega, by omega⟩, bulk_one _⟩
abbrev elConf : El (Int × List Flw × Int × Int) := El.prod El.int (El.prod (El.slice elFl) (El.prod El.int El.int))
theorem opensInt : Opens El.int 3 := Opens.int Tryz.underlying3
theorem opensInts : Opens (El.slice El.int) 54 := Opens.slice Tryz.underlying54 (by kernel_rfl) (by decide) opensInt
theorem opensFl : Opens elFl 70 := Opens.struct Tryz.underlying70 (by kernel_rfl) (OpensF.cons rfl (by kernel_rfl) opensInt (OpensF.cons rfl (by kernel_rfl) opensInt (OpensF.cons rfl (by kernel_rfl) opensInt (OpensF.last rfl (by kernel_rfl) opensInts))))
theorem opensFls : Opens (El.slice elFl) 22 := Opens.slice Tryz.underlying22 (by kernel_rfl) (by decide) opensFl
theorem opensConf : Opens elConf 24 := Opens.struct Tryz.underlying24 (by kernel_rfl) (OpensF.cons rfl (by kernel_rfl) opensInt (OpensF.cons rfl (by kernel_rfl) opensFls (OpensF.cons rfl (by kernel_rfl) opensInt (OpensF.last rfl (by kernel_rfl) opensInt))))
theorem opensEd : Opens elEd 77 := Opens.struct Tryz.underlying77 (by kernel_rfl) (OpensF.cons rfl (by kernel_rfl) opensInt (OpensF.last rfl (by kernel_rfl) opensInt))
theorem opensEs : Opens (El.slice elEs) 36 := Opens.slice Tryz.underlying36 (by kernel_rfl) (by decide) (Opens.slice Tryz.underlying74 (by kernel_rfl) (by decide) opensEd)
theorem opensBools : Opens (El.slice El.bool) 35 := Opens.slice Tryz.underlying35 (by kernel_rfl) (by decide) (Opens.bool Tryz.underlying4)
theorem opensTo : Opens elTo 38 := Opens.struct Tryz.underlying38 (by kernel_rfl) (OpensF.cons rfl (by kernel_rfl) (Opens.u64 Tryz.underlying34) (OpensF.cons rfl (by kernel_rfl) opensBools (OpensF.last rfl (by kernel_rfl) opensEs)))
theorem opensBy : Opens (El.slice El.u8) 39 := Opens.slice Tryz.underlying39 (by kernel_rfl) (by decide) (Opens.u8 Tryz.underlying5)
theorem opensRowF : Opens elRowF 41 := Opens.struct Tryz.underlying41 (by kernel_rfl) (OpensF.cons rfl (by kernel_rfl) opensBy (OpensF.last rfl (by kernel_rfl) opensBy))
theorem opensRank : Opens elRank 151 := Opens.struct Tryz.underlying151 (by kernel_rfl) (OpensF.cons rfl (by kernel_rfl) (Opens.u64 Tryz.underlying34) (OpensF.last rfl (by kernel_rfl) opensInt))
theorem opensRanks : Opens (El.slice elRank) 42 := Opens.slice Tryz.underlying42 (by kernel_rfl) (by decide) opensRank
theorem opensU : Opens El.u64 34 := Opens.u64 Tryz.underlying34
theorem opensFrame : Opens elFrame 44 := Opens.struct Tryz.underlying44 (by kernel_rfl)
  (OpensF.cons rfl (by kernel_rfl) opensInt (OpensF.cons rfl (by kernel_rfl) opensInt (OpensF.cons rfl (by kernel_rfl) opensInt (OpensF.cons rfl (by kernel_rfl) opensU (OpensF.cons rfl (by kernel_rfl) opensU (OpensF.cons rfl (by kernel_rfl) opensInt
  (OpensF.cons rfl (by kernel_rfl) opensU (OpensF.cons rfl (by kernel_rfl) opensU (OpensF.cons rfl (by kernel_rfl) opensU (OpensF.cons rfl (by kernel_rfl) opensRowF (OpensF.cons rfl (by kernel_rfl) opensRanks (OpensF.last rfl (by kernel_rfl) opensTo))))))))))))
theorem opensAct : Opens elAct 46 := Opens.struct Tryz.underlying46 (by kernel_rfl) (OpensF.cons rfl (by kernel_rfl) opensInt (OpensF.cons rfl (by kernel_rfl) opensInt (OpensF.cons rfl (by kernel_rfl) opensTo (OpensF.last rfl (by kernel_rfl) opensFrame))))
theorem opensActs : Opens (El.slice elAct) 25 := Opens.slice Tryz.underlying25 (by kernel_rfl) (by decide) opensAct
theorem sum_ge {α : Type} (f : α → Nat) (hf : ∀ x, 1 ≤ f x) : ∀ l : List α, l.length ≤ (l.map f).sum
  | [] => Nat.le_refl _
  | x :: l => by have := sum_ge f hf l; have := hf x; simp only [List.length_cons, List.map_cons, List.sum_cons]; omega
theorem sum_mem {α : Type} (f : α → Nat) : ∀ (l : List α) (x : α), x ∈ l → f x ≤ (l.map f).sum
  | [], _, h => by cases h
  | y :: l, x, h => by
    simp only [List.map_cons, List.sum_cons]
    rcases List.mem_cons.1 h with rfl | h
    · omega
    · have := sum_mem f l x h; omega
/-- What a topology's bulk bounds. -/
theorem to_few {t : Nat × List Bool × List (List Ed)} {n : Nat} (h : elTo.bulk t ≤ n) (hn : n ≤ 1048576) : Few t.2.2 ∧ t.2.1.length ≤ 1048576 ∧ t.2.2.length ≤ 1048576 := by
  obtain ⟨ep, up, hops⟩ := t
  have h1 : elTo.bulk (ep, up, hops) = 1 + ((El.slice El.bool).bulk up + (El.slice elEs).bulk hops) := rfl
  have h2 : (El.slice El.bool).bulk up = (up.map El.bool.bulk).sum + 1 := rfl
  have h3 : (El.slice elEs).bulk hops = (hops.map elEs.bulk).sum + 1 := rfl
  have h4 := sum_ge El.bool.bulk (fun _ => Nat.le_refl 1) up
  have h5 := sum_ge elEs.bulk (fun l => by show 1 ≤ (l.map elEd.bulk).sum + 1; omega) hops
  refine ⟨fun l hl => ?_, by show up.length ≤ _; omega, by show hops.length ≤ _; omega⟩
  have h6 := sum_mem elEs.bulk hops l hl
  have h7 : elEs.bulk l = (l.map elEd.bulk).sum + 1 := rfl
  have h8 := sum_ge elEd.bulk (fun _ => by show 1 ≤ 1 + 1; omega) l
  omega
theorem openConfP {H : Type} {enc : TypeId × Value → H} {W : World} {b0 base : Nat} {spare : Nat → Bool} {held : Bool} {v : Value} {d : DataW H} {p : List MemPlace}
    (hv : Value.okWide Tryz.prog W .any b0 24 v) (h : DataW.Trod enc Tryz.prog W base spare held 24 v d p) :
    ∃ (nodes : Int) (AF : Option Addr) (nF cF : Nat) (flows : List Flw) (win que : Int), v = .agg #[.int .i64 nodes, .slice AF nF cF, .int .i64 win, .int .i64 que] ∧ (inI nodes ∧ inI win ∧ inI que) ∧ nF ≤ cF ∧ Rd elFl W (fun k => k < W.heap.size) AF nF flows := by
  obtain ⟨vs, ⟨nodes, flows, win, que⟩, rfl, hV, hbk⟩ := argStruct Tryz.underlying24 opensConf hv h
  obtain ⟨_, _, e1, ⟨rfl, h1⟩, _, _, rfl, ⟨AF, nF, cF, rfl, hF, rF⟩, _, _, rfl, ⟨rfl, h2⟩, rfl, h3⟩ := hV
  refine ⟨nodes, AF, nF, cF, flows, win, que, ?_, ⟨h1, h2, h3⟩, hF, rF⟩
  congr 1
  apply Array.ext'
  rw [e1]
  rfl
theorem openActs {H : Type} {enc : TypeId × Value → H} {W : World} {b0 base : Nat} {spare : Nat → Bool} {held : Bool} {v : Value} {d : DataW H} {p : List MemPlace}
    (hv : Value.okWide Tryz.prog W .any b0 25 v) (h : DataW.Trod enc Tryz.prog W base spare held 25 v d p) (hb : Rows.uptoBulk d ≤ 1048576) :
    ∃ (AL : Option Addr) (nL cL : Nat) (acts : List AA), v = .slice AL nL cL ∧ nL ≤ cL ∧ Rd elAct W (fun k => k < W.heap.size) AL nL acts ∧ (∀ a ∈ acts, Few a.2.2.1.2.2 ∧ a.2.2.1.2.1.length ≤ 1048576 ∧ a.2.2.1.2.2.length ≤ 1048576) := by
  obtain ⟨A, n, c, ls, e, hc, hr, hbk⟩ := argSlice Tryz.underlying25 opensActs hv h
  refine ⟨A, n, c, ls, e, hc, hr, fun a ha => ?_⟩
  obtain ⟨what, flow, t, f⟩ := a
  have k1 := sum_mem elAct.bulk ls _ ha
  have k2 : (El.slice elAct).bulk ls = (ls.map elAct.bulk).sum + 1 := rfl
  have k3 : elAct.bulk (what, flow, t, f) = 1 + (1 + (elTo.bulk t + elFrame.bulk f)) := rfl
  rw [k3] at k1
  rw [k2] at hbk
  have k4 : elTo.bulk t ≤ 1048576 := by omega
  exact to_few k4 (Nat.le_refl _)
end Go.Proofs.YthgnjojkncodeaaGreat
