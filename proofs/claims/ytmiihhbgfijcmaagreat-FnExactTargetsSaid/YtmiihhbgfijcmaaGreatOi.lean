/- Put together from Os, Oi. -/
import Derived.Test.YtmiihhbgfijcmaaGreatOr
import Derived.Test.YtmiihhbgfijcmaaGreatVw
import Derived.Test.YtmiihhbgfijcmaaGreatKg
/- The reference's order of values, walked. -/
namespace Go.Proofs.YtmiihhbgfijcmaaGreat.K
open Go Go.RowKit
set_option linter.unusedVariables false
set_option linter.unusedSimpArgs false
set_option maxRecDepth 20000
def PI (F : Fz) (w0 : World) (r : Int) (e : Ending) (w : World) : Prop := e = .returned (.int .i64 r) ∧ Ext F w0 F w
theorem PI.mk {F w0 r w} {F' : Fz} (hE : Ext F w0 F' w) : PI F w0 r (.returned (.int .i64 r)) w := ⟨rfl, hE.forget⟩
theorem PI.of {F w0 r r' w} {F' : Fz} (hE : Ext F w0 F' w) (h : r' = r) : PI F w0 r (.returned (.int .i64 r')) w := ⟨by rw [h], hE.forget⟩
def ol (w0 : World) (F F' : Fz) (a b p q : Value) (b2 b3 b5 b6 : Nat) (x y : At) (ks ls : List T) (m : Nat) (R : Regs) (w : World) : Prop :=
  ∃ i, m + i = ks.length ∧ Hp w0 F F' [.box b2 [a] 45, .box b3 [b] 45, .box b5 x.cells 78, .box b6 y.cells 78] w ∧ R 7 = p ∧ R 9 = q ∧ R 11 = .int .i64 (i : Int) ∧ i ≤ ls.length ∧
    ∀ (j : Nat) x y, j < i → ks[j]? = some x → ls[j]? = some y → ordT x y = 0
def oc (w0 : World) (F F' : Fz) (a b : Value) (b2 b3 b5 b6 : Nat) (x y : At) (R : Regs) (w : World) : Prop :=
  Hp w0 F F' [.box b2 [a] 45, .box b3 [b] 45, .box b5 x.cells 78, .box b6 y.cells 78] w ∧ R 2 = .pointer (some ⟨b2, 0, none⟩) ∧ R 3 = .pointer (some ⟨b3, 0, none⟩) ∧ x.k = y.k ∧ ¬ (x.k = 2 ∨ x.k = 3) ∧ x.k ≠ 4
end Go.Proofs.YtmiihhbgfijcmaaGreat.K



/- The program's order of values, walked; the law FnExactOrder. -/
namespace Go.Proofs.YtmiihhbgfijcmaaGreat.K
open Go Go.RowKit
set_option linter.unusedVariables false
set_option linter.unusedSimpArgs false
set_option maxRecDepth 20000
theorem Inner.inv1 {a : At} {ks : List T} {k : List It} {v : V} (h : Inner a ks k v) (e : a.k = 1) : ks = [] ∧ v = .none := by cases h <;> first | exact ⟨by assumption, rfl⟩ | (exfalso; omega)
theorem Inner.inv2 {a : At} {ks : List T} {k : List It} {v : V} (h : Inner a ks k v) (e : a.k = 2) : ks = [] ∧ (a.n = 0 ∨ a.n = 1) ∧ v = .bool (decide (a.n = 1)) := by cases h <;> first | exact ⟨by assumption, by assumption, rfl⟩ | (exfalso; omega)
theorem Inner.inv3 {a : At} {ks : List T} {k : List It} {v : V} (h : Inner a ks k v) (e : a.k = 3) : ks = [] ∧ v = .int a.n := by cases h <;> first | exact ⟨by assumption, rfl⟩ | (exfalso; omega)
theorem Inner.inv4 {a : At} {ks : List T} {k : List It} {v : V} (h : Inner a ks k v) (e : a.k = 4) : ks = [] ∧ a.t.size ≤ 1000 ∧ v = .text a.t := by cases h <;> first | exact ⟨by assumption, by assumption, rfl⟩ | (exfalso; omega)
theorem Inner.inv5 {a : At} {ks : List T} {k : List It} {v : V} (h : Inner a ks k v) (e : a.k = 5) : ks.length ≤ 200 ∧ v = .list (k.map It.v) := by cases h <;> first | exact ⟨by assumption, rfl⟩ | (exfalso; omega)
theorem Inner.inv6 {a : At} {ks : List T} {k : List It} {v : V} (h : Inner a ks k v) (e : a.k = 6) : ∃ ns vs q, ks.length = 2 * q ∧ q ≤ 200 ∧ ns.length = q ∧ vs.length = q ∧ turnV ns vs = k.map It.v ∧ RecOk ks ∧ v = .record ns vs := by
  cases h <;> first | exact ⟨_, _, _, by assumption, by assumption, by assumption, by assumption, by assumption, by assumption, rfl⟩ | (exfalso; omega)
def tuI (w0 : World) (F : Fz) (na va : Value) (ns : List ByteArray) (vs : List V) (b1 : Nat) (m : Nat) (R : Regs) (w : World) : Prop :=
  ∃ (i : Nat) (lv : Value) (us' : List Value), m + i = ns.length ∧ Hp w0 F F [.box b1 [na, va] 92, .own lv 57 1 (2 * i) us'] w ∧ R 1 = .pointer (some ⟨b1, 0, none⟩) ∧ R 3 = lv ∧ R 7 = na ∧ R 8 = .int .i64 (ns.length : Int) ∧ R 9 = .int .i64 (i : Int) ∧
    Reps F (turnV (ns.take i) (vs.take i)) us'
def cfI (w0 : World) (F : Fz) (s1 s2 : Value) (ks ls : List T) (m : Nat) (R : Regs) (w : World) : Prop :=
  ∃ (i : Nat), m + i = ks.length ∧ i ≤ ls.length ∧ Hp w0 F F [] w ∧ R 0 = s1 ∧ R 1 = s2 ∧ R 2 = .func (.func 45) #[] #[] ∧ R 11 = s1 ∧ R 12 = .int .i64 (ks.length : Int) ∧ R 13 = .int .i64 (i : Int) ∧
    ∀ (j : Nat) x y, j < i → ks[j]? = some x → ls[j]? = some y → ordT x y = 0
theorem kids_get {ks : List T} {k : List It} (he : evalTs ks = some k) {F : Fz} {us : List Value} (hr : Reps F (k.map It.v) us) {i : Nat} {t : T} {c : Value} (ht : ks[i]? = some t) (hc : us[i]? = some c) : ∃ it, evalT t = some it ∧ Rep F it.v c := by
  obtain ⟨x, hx, hex⟩ := evalTs_get he i t ht
  obtain ⟨u, hu, hru⟩ := hr.get (i := i) (x := x.v) (by rw [List.getElem?_map, hx]; rfl)
  rw [hc] at hu
  cases hu
  exact ⟨x, hex, hru⟩
end Go.Proofs.YtmiihhbgfijcmaaGreat.K



