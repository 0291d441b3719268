/- Numbers: what the reference and the program make of sums, differences and products; plain. -/
import Derived.Test.YtmiihhbgfijcmaaGreatKh
namespace Go.Proofs.YtmiihhbgfijcmaaGreat.K
open Go Go.RowKit
set_option linter.unusedVariables false
def inR (z : Int) : Prop := -9223372036854775808 ≤ z ∧ z ≤ 9223372036854775807
instance (z : Int) : Decidable (inR z) := by unfold inR; exact inferInstance
theorem wrapC (z : Int) : ∃ k : Int, IntKind.i64.wrap z = z + k * 18446744073709551616 ∧ inR (IntKind.i64.wrap z) := by
  rw [IntKind.wrap_i64]
  unfold inR
  refine ⟨-((z + 9223372036854775808) / 18446744073709551616), ?_, ?_⟩ <;> omega
theorem wrapU (z : Int) : IntKind.u64.wrap z = z % 18446744073709551616 := by simp [IntKind.wrap, IntKind.bits, IntKind.signed]
theorem wrap_min : IntKind.i64.wrap 9223372036854775808 = -9223372036854775808 := by decide
/-- The reference's test of a product. -/
theorem times_ok {x y z q : Int} (hx : inR x) (hy : inR y) (hx0 : x ≠ 0) (hy0 : y ≠ 0) (hz : z = IntKind.i64.wrap (x * y)) (hq : q = IntKind.i64.wrap (z.tdiv y)) :
    (q = x ∧ ¬ (x = -1 ∧ y = -9223372036854775808) ∧ ¬ (y = -1 ∧ x = -9223372036854775808)) ↔ inR (x * y) := by
  obtain ⟨k, hk, hzr⟩ := wrapC (x * y)
  rw [← hz] at hk hzr
  constructor
  · rintro ⟨h1, h2, h3⟩
    have hd := Int.mul_tdiv_add_tmod z y
    have hm := Int.natAbs_tmod z y
    have hq1 : (z.tdiv y).natAbs = z.natAbs / y.natAbs := Int.natAbs_tdiv z y
    have hlt : z.natAbs % y.natAbs < y.natAbs := Nat.mod_lt _ (by omega)
    have hle : z.natAbs / y.natAbs ≤ z.natAbs := Nat.div_le_self _ _
    unfold inR at hx hy hzr
    by_cases hw : z.tdiv y = 9223372036854775808
    · rw [hw, wrap_min] at hq
      have h5 : z.natAbs / y.natAbs = 9223372036854775808 := by rw [← hq1, hw]; rfl
      have h6 : y.natAbs = 1 := by
        rcases Nat.lt_or_ge y.natAbs 2 with h | h
        · omega
        · have := Nat.div_le_div_left (a := z.natAbs) h (by omega)
          omega
      rw [h6, Nat.div_one] at h5
      have h7 : z = -9223372036854775808 := by omega
      have h8 : y = 1 ∨ y = -1 := by omega
      rcases h8 with h8 | h8
      · rw [h8, Int.tdiv_one] at hw; omega
      · exact absurd ⟨h8, by rw [← h1, hq]⟩ h3
    · rw [wrap_in (by omega)] at hq
      rw [← hq, h1, Int.mul_comm] at hd
      have : k = 0 := by omega
      unfold inR; omega
  · intro h
    have hzz : z = x * y := by rw [hz]; exact wrap_in h
    have hqq : z.tdiv y = x := by rw [hzz]; exact Int.mul_tdiv_cancel _ hy0
    refine ⟨by rw [hq, hqq]; exact wrap_in hx, ?_, ?_⟩
    · rintro ⟨rfl, rfl⟩; unfold inR at h; omega
    · rintro ⟨rfl, rfl⟩; unfold inR at h; omega

/-- The program's test of a product, by absolute values. -/
theorem mul_abs (a b : Int) (ha : inR a) (hb : inR b) : a.natAbs ≤ 9223372036854775808 ∧ b.natAbs ≤ 9223372036854775808 ∧ (((decide (a < 0)) != (decide (b < 0))) = true → a * b = -((a.natAbs * b.natAbs : Nat) : Int)) ∧ (((decide (a < 0)) != (decide (b < 0))) = false → a * b = ((a.natAbs * b.natAbs : Nat) : Int)) := by
  unfold inR at ha hb
  refine ⟨by omega, by omega, ?_, ?_⟩
  · intro h
    by_cases h1 : a < 0 <;> by_cases h2 : b < 0 <;> simp [h1, h2] at h
    · rw [Int.natCast_mul, Int.ofNat_natAbs_of_nonpos (by omega), Int.natAbs_of_nonneg (by omega), Int.neg_mul, Int.neg_neg]
    · rw [Int.natCast_mul, Int.natAbs_of_nonneg (by omega), Int.ofNat_natAbs_of_nonpos (by omega), Int.mul_neg, Int.neg_neg]
  · intro h
    by_cases h1 : a < 0 <;> by_cases h2 : b < 0 <;> simp [h1, h2] at h
    · rw [Int.natCast_mul, Int.ofNat_natAbs_of_nonpos (by omega), Int.ofNat_natAbs_of_nonpos (by omega), Int.neg_mul_neg]
    · rw [Int.natCast_mul, Int.natAbs_of_nonneg (by omega), Int.natAbs_of_nonneg (by omega)]
def wDivide : ByteArray := ⟨#[100, 105, 118, 105, 100, 101]⟩
def wLarge : ByteArray := ⟨#[108, 97, 114, 103, 101]⟩
/-- A number, or why there is none. -/
inductive Nr where
  | ok (z : Int)
  | no (w : ByteArray)
def rng (z : Int) : Nr := if inR z then .ok z else .no ⟨#[114, 97, 110, 103, 101]⟩
def qD (x y : Int) : Int := if x.tmod y ≠ 0 ∧ ((x.tmod y < 0) ≠ (y < 0)) then x.tdiv y - 1 else x.tdiv y
def rD (x y : Int) : Int := if x.tmod y ≠ 0 ∧ ((x.tmod y < 0) ≠ (y < 0)) then x.tmod y + y else x.tmod y
def numR (op x y : Int) : Nr :=
  if op = 10 then rng (x + y) else if op = 11 then rng (x - y) else if op = 12 then rng (x * y)
  else if y = 0 then .no wDivide else if y = -1 then (if op = 14 then .ok 0 else rng (-x))
  else if op = 13 then .ok (qD x y) else .ok (rD x y)
theorem quot_in {x y : Int} (hx : inR x) (hy : inR y) (h0 : y ≠ 0) (h1 : y ≠ -1) : inR (x.tdiv y) ∧ inR (x.tmod y) ∧ (x.tmod y ≠ 0 → inR (x.tdiv y - 1)) ∧ (((x.tmod y < 0) ≠ (y < 0)) → inR (x.tmod y + y)) := by
  have hq1 : (x.tdiv y).natAbs = x.natAbs / y.natAbs := Int.natAbs_tdiv x y
  have hm := Int.natAbs_tmod x y
  have hlt : x.natAbs % y.natAbs < y.natAbs := Nat.mod_lt _ (by omega)
  have hle : x.natAbs / y.natAbs ≤ x.natAbs := Nat.div_le_self _ _
  unfold inR at *
  by_cases hy1 : y = 1
  · subst hy1
    rw [Int.tdiv_one]
    have : x.tmod 1 = 0 := by simp
    rw [this]
    refine ⟨by omega, by omega, by simp, by omega⟩
  · have h2 : x.natAbs / y.natAbs ≤ x.natAbs / 2 := Nat.div_le_div_left (by omega) (by omega)
    refine ⟨by omega, by omega, by omega, ?_⟩
    intro hne
    by_cases h3 : x.tmod y < 0 <;> by_cases h4 : y < 0 <;> simp [h3, h4] at hne <;> omega
end Go.Proofs.YtmiihhbgfijcmaaGreat.K

