/-
  Words that came in.
-/
import Derived.Test.YtmkmbnfmmibifaaRowNet
import Derived.Test.YtmkmbnfmmibifaaNetO
namespace Go.Proofs.Ytmkmbnfmmibifaa
open Go.ChangeShapes Go.WideShapes Go.ChangeAt Go.RowKit

theorem Opens.u16 {t : TypeId} (h : Try.prog.underlying t = some (.int .u16)) : Opens El.u16 t := by
  intro H enc W base spare held fuel cs y hf
  obtain ⟨n, rfl, rfl, hw⟩ := DataW.trod_int h hf
  have hb : 0 ≤ n ∧ n ≤ 65535 := by simpa [Lit.wf, IntKind.min, IntKind.max, IntKind.bits, IntKind.signed] using hw
  exact ⟨n.toNat, ⟨by congr 2; omega, by omega⟩, bulk_one _⟩
theorem opensWords : Opens (El.slice El.u16) 61 := Opens.slice Try.underlying61 (by kernel_rfl) (by decide) (Opens.u16 Try.underlying62)
theorem openWords {H : Type} {enc : TypeId × Value → H} {W : World} {b0 base : Nat} {spare : Nat → Bool} {held : Bool} {v : Value} {d : DataW H} {p : List MemPlace}
    (hv : Value.okWide Try.prog W .any b0 61 v) (h : DataW.Trod enc Try.prog W base spare held 61 v d p) :
    ∃ A n c ls, v = .slice A n c ∧ n ≤ c ∧ Rd El.u16 W (fun k => k < W.heap.size) A n ls := by
  obtain ⟨A, n, c, ls, e, hc, hr, _⟩ := argSlice Try.underlying61 opensWords hv h
  exact ⟨A, n, c, ls, e, hc, hr⟩
end Go.Proofs.Ytmkmbnfmmibifaa
