/-
  Rows of pairs of bytes that came in.
-/
import Derived.Test.YtgfnlfkbbedkaaaNOpen
import Derived.Test.YtgfnlfkbbedkaaaTpB
namespace Go.Proofs.Ytgfnlfkbbedkaaa
open Go.ChangeShapes Go.WideShapes Go.ChangeAt Go.RowKit
set_option maxRecDepth 100000

theorem Opens.u8 {t : TypeId} (h : Try.prog.underlying t = some (.int .u8)) : Opens El.u8 t := by
  intro H enc W base spare held fuel cs y hf
  obtain ⟨n, rfl, rfl, hw⟩ := DataW.trod_int h hf
  have hb : 0 ≤ n ∧ n ≤ 255 := by simpa [Lit.wf, IntKind.min, IntKind.max, IntKind.bits, IntKind.signed] using hw
  exact ⟨n.toNat, ⟨by congr 2; omega, by omega⟩, bulk_one _⟩
theorem Opens.arr2 {α : Type} {E : El α} {t e : TypeId} (ht : Try.prog.underlying t = some (.array 2 e)) (hc : Try.prog.cellsOf t = 2) (hce : Try.prog.cellsOf e = 1) (h : Opens E e) : Opens (El.prod E E) t := by
  intro H enc W base spare held fuel cs y hf
  obtain ⟨xs, m, _, rfl, hl, hlen, hx⟩ := DataW.trod_array ht hf
  rw [hc] at hl
  match xs, hlen with
  | [x0, x1], _ =>
    have h0 := hx 0 (by omega)
    have h1 := hx 1 (by omega)
    rw [hce] at h0 h1
    obtain ⟨a, ha, hba⟩ := h H enc W base spare held m _ x0 (by simpa using h0)
    obtain ⟨b, hb, hbb⟩ := h H enc W base spare held m _ x1 (by simpa using h1)
    refine ⟨(a, b), ⟨_, _, ?_, ha, hb⟩, ?_⟩
    · match cs, hl with
      | [u, v], _ => rfl
    · simp only [Rows.uptoBulk, List.map_cons, List.map_nil, Rows.uptoBulkAll]
      show E.bulk a + E.bulk b ≤ _
      omega
theorem opensU2 : Opens elU2 56 := Opens.arr2 Try.underlying56 (by kernel_rfl) (by kernel_rfl) (Opens.u8 Try.underlying5)
theorem opensU2s : Opens (El.slice elU2) 22 := Opens.slice Try.underlying22 (by kernel_rfl) (by decide) opensU2
theorem openU2s {H : Type} {enc : TypeId × Value → H} {W : World} {b0 base : Nat} {spare : Nat → Bool} {held : Bool} {v : Value} {d : DataW H} {p : List MemPlace}
    (hv : Value.okWide Try.prog W .any b0 22 v) (h : DataW.Trod enc Try.prog W base spare held 22 v d p) :
    ∃ A n c ls, v = .slice A n c ∧ n ≤ c ∧ Rd elU2 W (fun k => k < W.heap.size) A n ls := by
  obtain ⟨A, n, c, ls, e, hc, hr, _⟩ := argSlice Try.underlying22 opensU2s hv h
  exact ⟨A, n, c, ls, e, hc, hr⟩
end Go.Proofs.Ytgfnlfkbbedkaaa
