/- fromMap: a map's keys sorted, and its elements in their order; walked. -/
import Derived.Test.YtmiihhbgfijcmaaGreatMp
namespace Go.Proofs.YtmiihhbgfijcmaaGreat.K
open Go Go.RowKit
set_option linter.unusedVariables false
set_option linter.unusedSimpArgs false
set_option maxRecDepth 20000
def lookM {α : Type} : List (ByteArray × α) → ByteArray → α → α
  | [], k, z => z
  | (m, x) :: r, k, z => if m = k then x else lookM r k z
theorem lookM_at {α : Type} : ∀ (M : List (ByteArray × α)) (k : ByteArray) (z x : α) (j : Nat), (keysM M).Nodup → M[j]? = some (k, x) → lookM M k z = x
  | [], k, z, x, j, _, h => by simp at h
  | (m, y) :: r, k, z, x, 0, _, h => by
    simp at h
    rw [lookM, if_pos h.1, h.2]
  | (m, y) :: r, k, z, x, j + 1, hn, h => by
    have h' : r[j]? = some (k, x) := by simpa using h
    have hn' : m ∉ keysM r ∧ (keysM r).Nodup := by simpa [keysM] using hn
    have hmk : m ≠ k := fun e => hn'.1 (by rw [e]; exact List.mem_map.2 ⟨(k, x), List.mem_of_getElem? h', rfl⟩)
    rw [lookM, if_neg hmk, lookM_at r k z x j hn'.2 h']
def keyAt (M : SMap) (q : Nat) : ByteArray := ((M[q]?).map (·.1)).getD ⟨#[]⟩
theorem keyAt_some {M : SMap} {q : Nat} {p : ByteArray × Value} (h : M[q]? = some p) : keyAt M q = p.1 := by simp [keyAt, h]
theorem keyAt_all (M : SMap) : (List.range M.length).map (keyAt M) = keysM M := by
  apply List.ext_getElem?
  intro i
  simp only [List.getElem?_map, keysM]
  by_cases hi : i < M.length
  · rw [List.getElem?_range hi, List.getElem?_eq_getElem hi]
    simp [keyAt, hi]
  · rw [List.getElem?_eq_none (by simp; omega), List.getElem?_eq_none (by omega)]; rfl
theorem seen_len {n : Nat} {seen : List Nat} (hn : seen.Nodup) (hlt : ∀ q ∈ seen, q < n) : seen.length ≤ n := by
  have hp : seen.Perm ((List.range n).filter fun q => seen.contains q) := (List.perm_ext_iff_of_nodup hn (List.nodup_range.filter _)).2 fun q => by
    simp only [List.mem_filter, List.mem_range, List.contains_iff_mem]
    exact ⟨fun h => ⟨hlt q h, h⟩, fun h => h.2⟩
  rw [hp.length_eq]
  exact Nat.le_trans (List.length_filter_le _ _) (by simp)
theorem pair_one {u v : Value} (hu : u.oneCell' = true) (hv : v.oneCell' = true) : ∀ x ∈ [u, v], x.oneCell' = true := by simp [hu, hv]
theorem seen_all {M : SMap} {seen : List Nat} (hn : seen.Nodup) (hlt : ∀ q ∈ seen, q < M.length) (hall : ∀ q, q < M.length → q ∈ seen) : sortB (seen.map (keyAt M)) = sortB (keysM M) ∧ seen.length = M.length := by
  have hp : seen.Perm (List.range M.length) := (List.perm_ext_iff_of_nodup hn List.nodup_range).2 fun q => ⟨fun h => List.mem_range.2 (hlt q h), fun h => hall q (List.mem_range.1 h)⟩
  refine ⟨?_, by simpa using hp.length_eq⟩
  rw [← keyAt_all]
  exact sortB_of_perm (hp.map _)
def PFm (F : Fz) (w0 : World) (M : SMap) (e : Ending) (w : World) : Prop :=
  ∃ F' a c, e = .returned (.agg #[a, c]) ∧ Ext F w0 F' w ∧ FRow F' a M.length 1 ((sortB (keysM M)).map Value.string) ∧ FRow F' c M.length 1 ((sortB (keysM M)).map fun k => lookM M k .nilIface)
def fmI (w0 : World) (F : Fz) (b b2 b3 r : Nat) (M : SMap) (m : Nat) (R : Regs) (w : World) : Prop :=
  ∃ (seen : List Nat) (na : Value), m + seen.length = M.length ∧ seen.Nodup ∧ (∀ q ∈ seen, q < M.length) ∧ Hp w0 F F [.box b2 [.slice none 0 0, .slice none 0 0] 92, .box b3 [na, .slice none 0 0] 92, .obj r (mIter b M.length seen), .own na 9 1 (seen.map (keyAt M)).length ((seen.map (keyAt M)).map Value.string)] w ∧
    R 0 = .map (some b) ∧ R 2 = pt b2 ∧ R 3 = pt b3 ∧ R 9 = pt r
def fmJ (w0 : World) (F : Fz) (b b2 b3 : Nat) (ro : Ch) (na : Value) (M : SMap) (m : Nat) (R : Regs) (w : World) : Prop :=
  ∃ (i : Nat) (va : Value), m + i = M.length ∧ Hp w0 F F [.box b2 [.slice none 0 0, .slice none 0 0] 92, .box b3 [na, va] 92, ro, .own na 9 1 M.length ((sortB (keysM M)).map Value.string), .own va 57 1 i (((sortB (keysM M)).take i).map fun k => lookM M k .nilIface)] w ∧
    R 0 = .map (some b) ∧ R 2 = pt b2 ∧ R 3 = pt b3 ∧ R 24 = na ∧ R 25 = .int .i64 (M.length : Int) ∧ R 26 = .int .i64 (i : Int)
end Go.Proofs.YtmiihhbgfijcmaaGreat.K


