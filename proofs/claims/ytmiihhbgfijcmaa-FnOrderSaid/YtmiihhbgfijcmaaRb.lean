/- A slice of bytes among the arguments, opened. -/
import Derived.Test.YtmiihhbgfijcmaaRw
import Derived.Test.YtmiihhbgfijcmaaDr
namespace Go.Proofs.Ytmiihhbgfijcmaa.K
open Go Go.RowKit Go.ChangeShapes Go.WideShapes Go.Deep
set_option linter.unusedVariables false
set_option maxRecDepth 100000
section
variable {H : Type} {enc : TypeId × Value → H} {W : World}
theorem open_bytes {v : Value} {d : DataW H} {p : List MemPlace} (hv' : Value.okWide Try.prog W .any 0 52 v) (h : DataW.Trod enc Try.prog W 0 (fun _ => true) true 52 v d p) : ∃ bs : List UInt8, FRow (hv W) v bs.length 1 (rowB bs) := by
  obtain ⟨A, n, c, rfl⟩ := okWide_slice Try.underlying52 hv'
  obtain ⟨fuel, hf⟩ := h
  obtain ⟨bs, h1, _⟩ := open_rows (H := H) (enc := enc) (W := W) bc bc_len (by decide) (fun _ => True) 0 (c := .slice A n c) Try.underlying52 (by kernel_rfl) (fun n cs' y hcl ht' => by
    obtain ⟨z, rfl, _, hw⟩ := DataW.trod_int Try.underlying5 ht'
    refine ⟨UInt8.ofNat z.toNat, ?_, trivial⟩
    have hb : 0 ≤ z ∧ z ≤ 255 := by
      simp only [Lit.wf, Bool.and_eq_true, decide_eq_true_eq] at hw
      exact hw
    simp only [bc, byteV, List.cons.injEq, and_true, Value.int.injEq, true_and]
    rw [UInt8.toNat_ofNat']
    omega) hf
  exact ⟨bs, h1⟩
end
end Go.Proofs.Ytmiihhbgfijcmaa.K
