/-
  The struct Whole that came in.
-/
import Derived.Test.YtnadohbgnanpiaaOpen
import Derived.Test.YtnadohbgnanpiaaRowPad
namespace Go.Proofs.Ytnadohbgnanpiaa
open Go.ChangeShapes Go.WideShapes Go.ChangeAt Go.RowKit

theorem rdInts {w : World} {ok : Nat → Prop} {A : Option Addr} {n : Nat} {zs : List Int} (h : Rd El.int w ok A n zs) : RdI w ok A n zs := by
  refine ⟨h.1, h.2.1, fun z hz => ?_, fun h0 => ?_⟩
  · obtain ⟨j, hj⟩ := List.mem_iff_getElem?.1 hz
    obtain ⟨b, o, vs, _, _, _, hv, _⟩ := h.at_ j z hj
    exact hv.2
  · obtain ⟨b, o, e, hob, hb, hc⟩ := h.2.2 h0
    refine ⟨⟨b, o, none⟩, e, hob, hb, rfl, fun j hj => ?_⟩
    have hl := h.1
    obtain ⟨vs, ⟨rfl, _⟩, hcc⟩ := hc j zs[j] (List.getElem?_eq_getElem (by omega))
    have := hcc 0 _ rfl
    rw [addPlain, List.getElem?_eq_getElem (by omega)]
    simpa [El.int] using this
abbrev elStream : El (List UInt8 × List Int) := El.prod El.bytes (El.slice El.int)
abbrev elWhole : El (Int × Int × (List UInt8 × List Int) × List UInt8) := El.prod El.int (El.prod El.int (El.prod elStream El.bytes))
theorem opensInts : Opens (El.slice El.int) 33 := Opens.slice Try.underlying33 (by kernel_rfl) (by decide) (Opens.int Try.underlying3)
theorem opensBytes : Opens El.bytes 28 := Opens.bytes Try.underlying28 Try.underlying5 (by kernel_rfl)
theorem opensInt : Opens El.int 3 := Opens.int Try.underlying3
theorem opensStream : Opens elStream 47 :=
  Opens.struct Try.underlying47 (by kernel_rfl) (OpensF.cons rfl (by kernel_rfl) opensBytes (OpensF.last rfl (by kernel_rfl) opensInts))
theorem opensWhole : Opens elWhole 52 :=
  Opens.struct Try.underlying52 (by kernel_rfl) (OpensF.cons rfl (by kernel_rfl) opensInt (OpensF.cons rfl (by kernel_rfl) opensInt (OpensF.cons rfl (by kernel_rfl) opensStream (OpensF.last rfl (by kernel_rfl) opensBytes))))
theorem sum_ones {α : Type} (l : List α) : (l.map fun _ => 1).sum = l.length := by induction l with | nil => rfl | cons _ _ ih => simp [ih]; omega
theorem openWhole {H : Type} {enc : TypeId × Value → H} {W : World} {b0 base : Nat} {spare : Nat → Bool} {held : Bool} {v : Value} {d : DataW H} {p : List MemPlace}
    (hv : Value.okWide Try.prog W .any b0 52 v) (h : DataW.Trod enc Try.prog W base spare held 52 v d p) :
    ∃ g s A n c xs B m e zs D q f ys, v = .agg #[.int .i64 g, .int .i64 s, .slice A n c, .slice B m e, .slice D q f] ∧ (-9223372036854775808 ≤ g ∧ g ≤ 9223372036854775807) ∧ (-9223372036854775808 ≤ s ∧ s ≤ 9223372036854775807) ∧ n ≤ c ∧ RdB W (fun k => k < W.heap.size) A n xs ∧
      m ≤ e ∧ RdI W (fun k => k < W.heap.size) B m zs ∧ q ≤ f ∧ RdB W (fun k => k < W.heap.size) D q ys ∧ n + m + q ≤ Rows.uptoBulk d := by
  obtain ⟨vs, ⟨g, s, ⟨xs, zs⟩, ys⟩, rfl, hV, hb⟩ := argStruct Try.underlying52 opensWhole hv h
  obtain ⟨_, _, e1, ⟨rfl, hg⟩, _, _, rfl, ⟨rfl, hs⟩, _, _, rfl, ⟨_, _, rfl, ⟨A, n, c, rfl, hc, hr⟩, B, m, e, rfl, he, hz⟩, D, q, f, rfl, hf, hq⟩ := hV
  refine ⟨g, s, A, n, c, xs, B, m, e, zs, D, q, f, ys, ?_, hg, hs, hc, hr, he, rdInts hz, hf, hq, ?_⟩
  · congr 1
    apply Array.ext'
    rw [e1]
    rfl
  · have h1 := hr.len
    have h2 := hz.len
    have h3 := hq.len
    simp only [El.prod, El.bytes, El.slice, El.int, sum_ones] at hb
    simp only at h1 h2 h3
    omega
end Go.Proofs.Ytnadohbgnanpiaa
