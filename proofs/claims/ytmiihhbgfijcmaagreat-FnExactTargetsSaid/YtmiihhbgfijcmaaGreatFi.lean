/- fits and give: whether an inner value is within the bounds; walked. -/
import Derived.Test.YtmiihhbgfijcmaaGreatFm
import Derived.Test.YtmiihhbgfijcmaaGreatDp
import Derived.Test.YtmiihhbgfijcmaaGreatNp
namespace Go.Proofs.YtmiihhbgfijcmaaGreat.K
open Go Go.RowKit
set_option linter.unusedVariables false
set_option linter.unusedSimpArgs false
set_option maxRecDepth 20000
mutual
def okV : V → Int → Prop
  | .none, d => d ≤ 12
  | .bool _, d => d ≤ 12
  | .int _, d => d ≤ 12
  | .text s, d => d ≤ 12 ∧ s.size ≤ 1000
  | .list l, d => d ≤ 12 ∧ l.length ≤ 200 ∧ okVs l (d + 1)
  | .record ns vs, d => d ≤ 12 ∧ ns.length ≤ 200 ∧ (∀ n ∈ ns, d + 1 ≤ 12 ∧ n.size ≤ 1000) ∧ okVs vs (d + 1)
def okVs : List V → Int → Prop
  | [], _ => True
  | v :: vs, d => okV v d ∧ okVs vs d
end
theorem okV_d {v : V} {d : Int} (h : okV v d) : d ≤ 12 := by cases v <;> simp only [okV] at h <;> first | exact h | exact h.1
theorem okVs_iff : ∀ (l : List V) (d : Int), okVs l d ↔ ∀ (i : Nat) v, l[i]? = some v → okV v d
  | [], d => by simp [okVs]
  | v :: vs, d => by
    rw [okVs, okVs_iff vs]
    constructor
    · rintro ⟨h1, h2⟩ i k hk
      cases i with
      | zero => simp at hk; exact hk ▸ h1
      | succ i => exact h2 i k (by simpa using hk)
    · intro h
      exact ⟨h 0 v rfl, fun i k hk => h (i + 1) k (by simpa using hk)⟩
def fitF (bn bw : Nat) : Value := .func (.func 111) #[] #[pt bn, pt bw]
theorem packVs_take {l : List V} {i : Nat} {x : V} (hx : l[i]? = some x) : packVs (l.take (i + 1)) = packVs (l.take i) ++ packV x := by
  obtain ⟨hlt, e⟩ := List.getElem?_eq_some_iff.1 hx
  rw [List.take_succ_eq_append_getElem hlt, packVs_app, e]; simp [packVs]
theorem packR_take {ns : List ByteArray} {l : List V} {i : Nat} {s : ByteArray} {x : V} (hl : ns.length = l.length) (hs : ns[i]? = some s) (hx : l[i]? = some x) : (packR (ns.take (i + 1)) (l.take (i + 1))).length = (packR (ns.take i) (l.take i)).length + 1 + (packV x).length := by
  obtain ⟨h1, e1⟩ := List.getElem?_eq_some_iff.1 hs
  obtain ⟨h2, e2⟩ := List.getElem?_eq_some_iff.1 hx
  rw [List.take_succ_eq_append_getElem h1, List.take_succ_eq_append_getElem h2, packR_app _ _ _ _ (by simp; omega), e1, e2]
  simp; omega
def fitsV (v : V) : Prop := okV v 0 ∧ (packV v).length ≤ 1000
open Classical in
noncomputable def giveV (v : V) : V × ByteArray := if fitsV v then (v, ⟨#[]⟩) else (.none, wLarge)
end Go.Proofs.YtmiihhbgfijcmaaGreat.K


