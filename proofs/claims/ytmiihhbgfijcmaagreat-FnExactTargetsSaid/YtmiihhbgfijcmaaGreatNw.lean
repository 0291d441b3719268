/- Numbers: the reference's and the program's functions, walked. -/
import Derived.Test.YtmiihhbgfijcmaaGreatNp
import Derived.Test.YtmiihhbgfijcmaaGreatKh
namespace Go.Proofs.YtmiihhbgfijcmaaGreat.K
open Go Go.RowKit
set_option linter.unusedVariables false
set_option linter.unusedSimpArgs false
set_option maxRecDepth 20000
def Nr.at : Nr → List At × ByteArray
  | .ok z => ([⟨3, z, ⟨#[]⟩, 0⟩], ⟨#[]⟩)
  | .no w => ([], w)
/-- What a function tells that hands back a number and whether it is one. -/
def PNum (F : Fz) (w0 : World) (z : Int) (e : Ending) (w : World) : Prop := ∃ r ok, e = .returned (.tuple #[.int .i64 r, .bool ok]) ∧ Ext F w0 F w ∧ (ok = true ↔ inR z) ∧ (ok = true → r = z)
def PNR (F : Fz) (w0 : World) (r : Nr) : Ending → World → Prop := PSW F w0 r.at
theorem wrapN (x : Int) (hx : inR x) : rng (-x) = (if x = -9223372036854775808 then .no wRange else .ok (IntKind.i64.wrap (-x))) := by
  have hx' := hx
  unfold inR at hx'
  unfold rng
  by_cases h : x = -9223372036854775808
  · rw [if_pos h, if_neg (by unfold inR; omega)]; rfl
  · rw [if_neg h, if_pos (by unfold inR; omega), wrap_in (by omega)]
end Go.Proofs.YtmiihhbgfijcmaaGreat.K


